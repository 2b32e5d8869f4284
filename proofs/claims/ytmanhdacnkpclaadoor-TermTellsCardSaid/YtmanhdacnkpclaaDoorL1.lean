/- TermPut, TermTurns, TermTells: walked. -/
import Derived.Test.YtmanhdacnkpclaaDoorT4
import Derived.Test.YtmanhdacnkpclaaDoorT5
import Derived.Test.YtmanhdacnkpclaaDoorQ2
import Derived.Test.YtmanhdacnkpclaaDoorRt
import Derived.Test.YtmanhdacnkpclaaDoorBb
import Derived.Test.YtmanhdacnkpclaaDoorNh
namespace Go.Proofs.YtmanhdacnkpclaaDoor
set_option linter.all false
open Go.RowKit

set_option maxHeartbeats 16000000 in
set_option maxRecDepth 100000 in
theorem alive1 : FnD Tryd.prog 45 [] (.one (bA true)) := by
  have p1 := pparse [0, 1, 2] [99, 40, 97, 44, 98, 40, 88, 48, 41, 41]
  rw [show parseTm [0, 1, 2] [99, 40, 97, 44, 98, 40, 88, 48, 41, 41] = (⟨false, 2, [⟨false, 0, []⟩, ⟨false, 1, [⟨true, 0, []⟩]⟩]⟩, 0) by kernel_rfl] at p1
  have p2 := pread [0, 1, 2] (by kernel_rfl) [98, 40, 97, 41, 61, 97]
  rw [show readTm [0, 1, 2] [98, 40, 97, 41, 61, 97] = (⟨false, 1, [⟨false, 0, []⟩]⟩, [61, 97], 0) by kernel_rfl] at p2
  simp only [outX] at p2
  have a1 := pat [1, 0] ⟨false, 2, [⟨false, 0, []⟩, ⟨false, 1, [⟨true, 0, []⟩]⟩]⟩
  rw [show at_ ⟨false, 2, [⟨false, 0, []⟩, ⟨false, 1, [⟨true, 0, []⟩]⟩]⟩ [1, 0] = (⟨true, 0, []⟩, true) by kernel_rfl] at a1
  have t1 := ptext (s := [0, 1, 2]) (by decide) ⟨false, 1, [⟨false, 0, []⟩]⟩ (by decide) (by decide)
  rw [show text ⟨false, 1, [⟨false, 0, []⟩]⟩ = [98, 40, 97, 41] by kernel_rfl] at t1
  have z1 := psize ⟨false, 2, [⟨false, 0, []⟩, ⟨false, 1, [⟨true, 0, []⟩]⟩]⟩
  rw [show wrap64 ((Tm.mk false 2 [⟨false, 0, []⟩, ⟨false, 1, [⟨true, 0, []⟩]⟩]).size : Int) = 4 by kernel_rfl] at z1
  have c1 := pplaces ⟨false, 2, [⟨false, 0, []⟩, ⟨false, 1, [⟨true, 0, []⟩]⟩]⟩ (by decide)
  rw [show places ⟨false, 2, [⟨false, 0, []⟩, ⟨false, 1, [⟨true, 0, []⟩]⟩]⟩ = [[], [0], [1]] by kernel_rfl] at c1
  have u1 := pput ⟨false, 1, [⟨false, 0, []⟩]⟩ [0] ⟨false, 2, [⟨false, 0, []⟩, ⟨false, 1, [⟨true, 0, []⟩]⟩]⟩ (by decide)
  rw [show put ⟨false, 2, [⟨false, 0, []⟩, ⟨false, 1, [⟨true, 0, []⟩]⟩]⟩ [0] ⟨false, 1, [⟨false, 0, []⟩]⟩ = ⟨false, 2, [⟨false, 1, [⟨false, 0, []⟩]⟩, ⟨false, 1, [⟨true, 0, []⟩]⟩]⟩ by kernel_rfl] at u1
  have t2 := ptext (s := [0, 1, 2]) (by decide) ⟨false, 2, [⟨false, 1, [⟨false, 0, []⟩]⟩, ⟨false, 1, [⟨true, 0, []⟩]⟩]⟩ (by decide) (by decide)
  rw [show text ⟨false, 2, [⟨false, 1, [⟨false, 0, []⟩]⟩, ⟨false, 1, [⟨true, 0, []⟩]⟩]⟩ = [99, 40, 98, 40, 97, 41, 44, 98, 40, 88, 48, 41, 41] by kernel_rfl] at t2
  have v1 := FnD.nil (pvars ⟨false, 2, [⟨false, 0, []⟩, ⟨false, 1, [⟨true, 0, []⟩]⟩]⟩ [] (by decide)) 0 rfl
  rw [show vars [] ⟨false, 2, [⟨false, 0, []⟩, ⟨false, 1, [⟨true, 0, []⟩]⟩]⟩ = [0] by kernel_rfl] at v1
  have s1 := psame ⟨false, 2, [⟨false, 0, []⟩, ⟨false, 1, [⟨true, 0, []⟩]⟩]⟩ ⟨false, 2, [⟨false, 0, []⟩, ⟨false, 1, [⟨true, 0, []⟩]⟩]⟩
  rw [(Tm.same_iff _ _).2 rfl] at s1
  have w1 := pwrong [0, 1, 2] ⟨false, 2, [⟨false, 0, []⟩, ⟨false, 1, [⟨true, 0, []⟩]⟩]⟩
  rw [show wrong [0, 1, 2] ⟨false, 2, [⟨false, 0, []⟩, ⟨false, 1, [⟨true, 0, []⟩]⟩]⟩ = 0 by kernel_rfl] at w1
  have w2 := FnD.nil (pwrongSig []) 0 rfl
  rw [show wrongSig [] = 5 by kernel_rfl] at w2
  have e3 : ([[], [0], [1]] : List (List Int)).length = 3 := rfl
  have e1 : ([0] : List Int).length = 1 := rfl
  have q1 : (([61, 97] : List UInt8) == [61, 97]) = true := by decide
  have q2 : (([98, 40, 97, 41] : List UInt8) == [98, 40, 97, 41]) = true := by decide
  have q3 : (([99, 40, 98, 40, 97, 41, 44, 98, 40, 88, 48, 41, 41] : List UInt8) == [99, 40, 98, 40, 97, 41, 44, 98, 40, 88, 48, 41, 41]) = true := by decide
  refine Fn.of Tryd.func45 rfl Tryd.ntmps45 rfl (Nat.le_of_ble_eq_true rfl) ?_
  (refine wlk ?_)
  (refine SqA.b1 (op_bsT (T := TB) (f := Int.d) [0, 1, 2] rfl rfl rfl rfl rfl rfl rfl rfl rfl rfl rfl) rfl rfl ?_)
  (refine wlk ?_)
  (refine SqA.b1 (op_call none rfl rfl rfl (by kernel_rfl) (FnD.use (p1)) rfl rfl rfl rfl rfl rfl) rfl rfl ?_)
  (refine wlk ?_)
  (refine SqA.b1 (op_call none rfl rfl rfl (by kernel_rfl) (FnD.use (p2)) rfl rfl rfl rfl rfl rfl) rfl rfl ?_)
  (refine wlk ?_)
  (refine SqA.b1 (op_bsT (T := TB) (f := Int.d) [1, 0] rfl rfl rfl rfl rfl rfl rfl rfl rfl rfl rfl) rfl rfl ?_)
  (refine wlk ?_)
  (refine SqA.b1 (op_call none rfl rfl rfl (by kernel_rfl) (FnD.use (a1)) rfl rfl rfl rfl rfl rfl) rfl rfl ?_)
  (refine wlk ?_)
  (refine SqA.b1 (op_call none rfl rfl rfl (by kernel_rfl) (FnD.use (t1)) rfl rfl rfl rfl rfl rfl) rfl rfl ?_)
  (refine wlk ?_)
  (refine SqA.b1 (op_call none rfl rfl rfl (by kernel_rfl) (FnD.use (z1)) rfl rfl rfl rfl rfl rfl) rfl rfl ?_)
  (refine wlk ?_)
  (refine SqA.b1 (op_call none rfl rfl rfl (by kernel_rfl) (FnD.use (c1)) rfl rfl rfl rfl rfl rfl) rfl rfl ?_)
  (refine wlk ?_)
  (refine SqA.b1 (op_bsT (T := TB) (f := Int.d) [0] rfl rfl rfl rfl rfl rfl rfl rfl rfl rfl rfl) rfl rfl ?_)
  (refine wlk ?_)
  (refine SqA.b1 (op_call none rfl rfl rfl (by kernel_rfl) (FnD.use (u1)) rfl rfl rfl rfl rfl rfl) rfl rfl ?_)
  (refine wlk ?_)
  (refine SqA.b1 (op_call none rfl rfl rfl (by kernel_rfl) (FnD.use (t2)) rfl rfl rfl rfl rfl rfl) rfl rfl ?_)
  (refine wlk ?_)
  (refine SqA.b1 (op_call none rfl rfl rfl (by kernel_rfl) (FnD.use (v1)) rfl rfl rfl rfl rfl rfl) rfl rfl ?_)
  (refine wlk ?_)
  (refine SqA.b1 (op_call none rfl rfl rfl (by kernel_rfl) (FnD.use (s1)) rfl rfl rfl rfl rfl rfl) rfl rfl ?_)
  (refine wlk ?_)
  (refine SqA.b1 (op_call none rfl rfl rfl (by kernel_rfl) (FnD.use (w1)) rfl rfl rfl rfl rfl rfl) rfl rfl ?_)
  (refine wlk ?_)
  (refine SqA.b1 (op_call none rfl rfl rfl (by kernel_rfl) (FnD.use (w2)) rfl rfl rfl rfl rfl rfl) rfl rfl ?_)
  (refine wlk ?_)
  (first | (refine finR (.tmp rfl .nil) rfl rfl ?_) | (refine finN (.tmp rfl .nil) rfl rfl ?_))
  rfl

set_option maxHeartbeats 16000000 in
set_option maxRecDepth 100000 in
theorem termPut_fn (s : List Int) (t u : Tm) (i : Int) : FnD Tryd.prog 7 [lA Int.d s, tA t, tA u, iA i] (.one (bA true)) := by
  refine Fn.of Tryd.func7 rfl Tryd.ntmps7 rfl (Nat.le_of_ble_eq_true rfl) ?_
  have hcs := rwrongSig s
  by_cases hs : wrongSig s = 0
  rotate_left
  · (refine wlk ?_)
    (refine SqA.b1 (op_call none rfl rfl rfl (by kernel_rfl) (FnD.use (alive1)) rfl rfl rfl rfl rfl rfl) rfl rfl ?_)
    (refine wlk ?_)
    (refine SqA.b1 (op_call none rfl rfl rfl (by kernel_rfl) (FnD.use (hcs)) rfl rfl rfl rfl rfl rfl) rfl rfl ?_)
    (refine wlk ?_)
    (first | (refine finR (.tmp rfl .nil) rfl rfl ?_) | (refine finN (.tmp rfl .nil) rfl rfl ?_))
    rfl
  rw [hs] at hcs
  have hwt := rwrong s t
  have hwu := rwrong s u
  by_cases ht : wrong s t = 0
  rotate_left
  · (refine wlk ?_)
    (refine SqA.b1 (op_call none rfl rfl rfl (by kernel_rfl) (FnD.use (alive1)) rfl rfl rfl rfl rfl rfl) rfl rfl ?_)
    (refine wlk ?_)
    (refine SqA.b1 (op_call none rfl rfl rfl (by kernel_rfl) (FnD.use (hcs)) rfl rfl rfl rfl rfl rfl) rfl rfl ?_)
    (refine wlk ?_)
    (refine SqA.b1 (op_call none rfl rfl rfl (by kernel_rfl) (FnD.use (hwt)) rfl rfl rfl rfl rfl rfl) rfl rfl ?_)
    (refine wlk ?_)
    (first | (refine finR (.tmp rfl .nil) rfl rfl ?_) | (refine finN (.tmp rfl .nil) rfl rfl ?_))
    rfl
  rw [ht] at hwt
  by_cases hu : wrong s u = 0
  rotate_left
  · (refine wlk ?_)
    (refine SqA.b1 (op_call none rfl rfl rfl (by kernel_rfl) (FnD.use (alive1)) rfl rfl rfl rfl rfl rfl) rfl rfl ?_)
    (refine wlk ?_)
    (refine SqA.b1 (op_call none rfl rfl rfl (by kernel_rfl) (FnD.use (hcs)) rfl rfl rfl rfl rfl rfl) rfl rfl ?_)
    (refine wlk ?_)
    (refine SqA.b1 (op_call none rfl rfl rfl (by kernel_rfl) (FnD.use (hwt)) rfl rfl rfl rfl rfl rfl) rfl rfl ?_)
    (refine wlk ?_)
    (refine SqA.b1 (op_call none rfl rfl rfl (by kernel_rfl) (FnD.use (hwu)) rfl rfl rfl rfl rfl rfl) rfl rfl ?_)
    (refine wlk ?_)
    (first | (refine finR (.tmp rfl .nil) rfl rfl ?_) | (refine finN (.tmp rfl .nil) rfl rfl ?_))
    rfl
  rw [hu] at hwu
  by_cases hi : i < 0
  · (refine wlk ?_)
    (refine SqA.b1 (op_call none rfl rfl rfl (by kernel_rfl) (FnD.use (alive1)) rfl rfl rfl rfl rfl rfl) rfl rfl ?_)
    (refine wlk ?_)
    (refine SqA.b1 (op_call none rfl rfl rfl (by kernel_rfl) (FnD.use (hcs)) rfl rfl rfl rfl rfl rfl) rfl rfl ?_)
    (refine wlk ?_)
    (refine SqA.b1 (op_call none rfl rfl rfl (by kernel_rfl) (FnD.use (hwt)) rfl rfl rfl rfl rfl rfl) rfl rfl ?_)
    (refine wlk ?_)
    (refine SqA.b1 (op_call none rfl rfl rfl (by kernel_rfl) (FnD.use (hwu)) rfl rfl rfl rfl rfl rfl) rfl rfl ?_)
    (refine wlk ?_)
    (first | (refine finR (.tmp rfl .nil) rfl rfl ?_) | (refine finN (.tmp rfl .nil) rfl rfl ?_))
    rfl
  obtain ⟨k, rfl⟩ := Int.eq_ofNat_of_zero_le (show 0 ≤ i by omega)
  have htz := (tok_of hs ht).size
  have huz := (tok_of hs hu).size
  have hpl := pplaces t (by omega)
  have hplen := places_len t
  by_cases hkl : k < (places t).length
  rotate_left
  · (refine wlk ?_)
    (refine SqA.b1 (op_call none rfl rfl rfl (by kernel_rfl) (FnD.use (alive1)) rfl rfl rfl rfl rfl rfl) rfl rfl ?_)
    (refine wlk ?_)
    (refine SqA.b1 (op_call none rfl rfl rfl (by kernel_rfl) (FnD.use (hcs)) rfl rfl rfl rfl rfl rfl) rfl rfl ?_)
    (refine wlk ?_)
    (refine SqA.b1 (op_call none rfl rfl rfl (by kernel_rfl) (FnD.use (hwt)) rfl rfl rfl rfl rfl rfl) rfl rfl ?_)
    (refine wlk ?_)
    (refine SqA.b1 (op_call none rfl rfl rfl (by kernel_rfl) (FnD.use (hwu)) rfl rfl rfl rfl rfl rfl) rfl rfl ?_)
    (refine wlk ?_)
    (refine SqA.b1 (op_call none rfl rfl rfl (by kernel_rfl) (FnD.use (hpl)) rfl rfl rfl rfl rfl rfl) rfl rfl ?_)
    (refine wlk ?_)
    (first | (refine finR (.tmp rfl .nil) rfl rfl ?_) | (refine finN (.tmp rfl .nil) rfl rfl ?_))
    rfl
  obtain ⟨p, hp⟩ := get_of_lt hkl
  have hpm := List.mem_of_getElem? hp
  have g1 := pat p t
  have g2 := pput u p t (by omega)
  have g3 := pat p (put t p u)
  rw [at_put p t u hpm] at g3
  have hv := at_var p t hpm
  have hsp := size_put p t u hpm
  have hback := put_back p t u hpm
  have haz : (at_ t p).1.size ≤ 24 := by omega
  rcases hq : at_ t p with ⟨⟨qv, qn, ql⟩, qb⟩
  rw [hq] at g1 hv hsp hback haz
  dsimp only at g1 hv hsp hback haz
  obtain ⟨rfl, rfl⟩ := hv
  have hpz : (put t p u).size ≤ 24 := by omega
  have g4 := psame u u
  rw [(Tm.same_iff _ _).2 rfl] at g4
  have g5 := pput ⟨false, qn, ql⟩ p (put t p u) (by omega)
  rw [hback] at g5
  have g6 := psame t t
  rw [(Tm.same_iff _ _).2 rfl] at g6
  have z1 := psize (put t p u)
  have z2 := psize t
  have z3 := psize ⟨false, qn, ql⟩
  have z4 := psize u
  rw [w64 (n := (put t p u).size) (by omega)] at z1
  rw [w64 (n := t.size) (by omega)] at z2
  rw [w64 (n := (Tm.mk false qn ql).size) (by omega)] at z3
  rw [w64 (n := u.size) (by omega)] at z4
  generalize put t p u = t' at *
  generalize hqz : (Tm.mk false qn ql).size = qz at *
  (refine wlk ?_)
  (refine SqA.b1 (op_call none rfl rfl rfl (by kernel_rfl) (FnD.use (alive1)) rfl rfl rfl rfl rfl rfl) rfl rfl ?_)
  (refine wlk ?_)
  (refine SqA.b1 (op_call none rfl rfl rfl (by kernel_rfl) (FnD.use (hcs)) rfl rfl rfl rfl rfl rfl) rfl rfl ?_)
  (refine wlk ?_)
  (refine SqA.b1 (op_call none rfl rfl rfl (by kernel_rfl) (FnD.use (hwt)) rfl rfl rfl rfl rfl rfl) rfl rfl ?_)
  (refine wlk ?_)
  (refine SqA.b1 (op_call none rfl rfl rfl (by kernel_rfl) (FnD.use (hwu)) rfl rfl rfl rfl rfl rfl) rfl rfl ?_)
  (refine wlk ?_)
  (refine SqA.b1 (op_call none rfl rfl rfl (by kernel_rfl) (FnD.use (hpl)) rfl rfl rfl rfl rfl rfl) rfl rfl ?_)
  (refine wlk ?_)
  (refine SqA.b1 (op_call none rfl rfl rfl (by kernel_rfl) (FnD.use (g1)) rfl rfl rfl rfl rfl rfl) rfl rfl ?_)
  (refine wlk ?_)
  (refine SqA.b1 (op_call none rfl rfl rfl (by kernel_rfl) (FnD.use (g2)) rfl rfl rfl rfl rfl rfl) rfl rfl ?_)
  (refine wlk ?_)
  (refine SqA.b1 (op_call none rfl rfl rfl (by kernel_rfl) (FnD.use (g3)) rfl rfl rfl rfl rfl rfl) rfl rfl ?_)
  (refine wlk ?_)
  (refine SqA.b1 (op_call none rfl rfl rfl (by kernel_rfl) (FnD.use (g4)) rfl rfl rfl rfl rfl rfl) rfl rfl ?_)
  (refine wlk ?_)
  (refine SqA.b1 (op_call none rfl rfl rfl (by kernel_rfl) (FnD.use (g5)) rfl rfl rfl rfl rfl rfl) rfl rfl ?_)
  (refine wlk ?_)
  (refine SqA.b1 (op_call none rfl rfl rfl (by kernel_rfl) (FnD.use (g6)) rfl rfl rfl rfl rfl rfl) rfl rfl ?_)
  (refine wlk ?_)
  (refine SqA.b1 (op_call none rfl rfl rfl (by kernel_rfl) (FnD.use (z1)) rfl rfl rfl rfl rfl rfl) rfl rfl ?_)
  (refine wlk ?_)
  (refine SqA.b1 (op_call none rfl rfl rfl (by kernel_rfl) (FnD.use (z2)) rfl rfl rfl rfl rfl rfl) rfl rfl ?_)
  (refine wlk ?_)
  (refine SqA.b1 (op_call none rfl rfl rfl (by kernel_rfl) (FnD.use (z3)) rfl rfl rfl rfl rfl rfl) rfl rfl ?_)
  (refine wlk ?_)
  (refine SqA.b1 (op_call none rfl rfl rfl (by kernel_rfl) (FnD.use (z4)) rfl rfl rfl rfl rfl rfl) rfl rfl ?_)
  (refine wlk ?_)
  (first | (refine finR (.tmp rfl .nil) rfl rfl ?_) | (refine finN (.tmp rfl .nil) rfl rfl ?_))
  rfl
end Go.Proofs.YtmanhdacnkpclaaDoor
