/- ClauseNorm: walked. -/
import Derived.Test.YtmanhdacnkpclaaDoordcCE
import Derived.Test.YtmanhdacnkpclaaDoordcHh
namespace Go.Proofs.YtmanhdacnkpclaaDoor
set_option linter.all false
open Go.RowKit

set_option maxHeartbeats 40000000 in
set_option maxRecDepth 100000 in
theorem clauseNorm_fn (s : List Int) (c : List Lt) (m : Md) : FnD Tryd.prog 14 [lA Int.d s, lA Lt.d c, mdA m] (.one (bA true)) := by
  refine Fn.of Tryd.func14 rfl Tryd.ntmps14 rfl (Nat.le_of_ble_eq_true rfl) ?_
  have hcs := rwrongSig s
  by_cases hs : wrongSig s = 0
  rotate_left
  · generalize wrongSig s = e at *
    (refine wlk ?_)
    (refine SqA.b1 (op_call none rfl rfl rfl (by kernel_rfl) (FnD.use (alive4)) rfl rfl rfl rfl rfl rfl) rfl rfl ?_)
    (refine wlk ?_)
    (refine SqA.b1 (op_call none rfl rfl rfl (by kernel_rfl) (FnD.use (hcs)) rfl rfl rfl rfl rfl rfl) rfl rfl ?_)
    (refine wlk ?_)
    (first | (refine finR (.tmp rfl .nil) rfl rfl ?_) | (refine finN (.tmp rfl .nil) rfl rfl ?_))
    rfl
  have hcc := rwrongCl s c
  by_cases hc : wrongCl s c = 0
  rotate_left
  · rw [hs] at hcs
    generalize wrongCl s c = e at *
    (refine wlk ?_)
    (refine SqA.b1 (op_call none rfl rfl rfl (by kernel_rfl) (FnD.use (alive4)) rfl rfl rfl rfl rfl rfl) rfl rfl ?_)
    (refine wlk ?_)
    (refine SqA.b1 (op_call none rfl rfl rfl (by kernel_rfl) (FnD.use (hcs)) rfl rfl rfl rfl rfl rfl) rfl rfl ?_)
    (refine wlk ?_)
    (refine SqA.b1 (op_call none rfl rfl rfl (by kernel_rfl) (FnD.use (hcc)) rfl rfl rfl rfl rfl rfl) rfl rfl ?_)
    (refine wlk ?_)
    (first | (refine finR (.tmp rfl .nil) rfl rfl ?_) | (refine finN (.tmp rfl .nil) rfl rfl ?_))
    rfl
  have hcm := rwrongModel s hs m
  by_cases hm : wrongModel s m = 0
  rotate_left
  · rw [hs] at hcs
    rw [hc] at hcc
    generalize wrongModel s m = e at *
    (refine wlk ?_)
    (refine SqA.b1 (op_call none rfl rfl rfl (by kernel_rfl) (FnD.use (alive4)) rfl rfl rfl rfl rfl rfl) rfl rfl ?_)
    (refine wlk ?_)
    (refine SqA.b1 (op_call none rfl rfl rfl (by kernel_rfl) (FnD.use (hcs)) rfl rfl rfl rfl rfl rfl) rfl rfl ?_)
    (refine wlk ?_)
    (refine SqA.b1 (op_call none rfl rfl rfl (by kernel_rfl) (FnD.use (hcc)) rfl rfl rfl rfl rfl rfl) rfl rfl ?_)
    (refine wlk ?_)
    (refine SqA.b1 (op_call none rfl rfl rfl (by kernel_rfl) (FnD.use (hcm)) rfl rfl rfl rfl rfl rfl) rfl rfl ?_)
    (refine wlk ?_)
    (first | (refine finR (.tmp rfl .nil) rfl rfl ?_) | (refine finN (.tmp rfl .nil) rfl rfl ?_))
    rfl
  have hmo := MOk.of hm
  have hk := cok_of hs hc
  rw [hs] at hcs
  rw [hc] at hcc
  rw [hm] at hcm
  have hn := pnorm c hk.wf.ar.okv (cok_few hk) (cok_sz4 hk) (by have := hk.len; omega)
  have hcode := norm_code c
  have hfit := norm_fits hk.wf hk.len hk.size
  have hh := rholds hmo hs c hk.wf (cok_sz4 hk)
  rcases hnm : norm c with ⟨d, e⟩
  rw [hnm] at hn hcode hfit
  dsimp only at hn hcode hfit
  rcases hcode with rfl | ⟨rfl, rfl⟩ | ⟨rfl, rfl⟩
  · have ho := norm_ok hk.wf.ar.okv (cok_few hk) hnm
    have hd : COk s d := ⟨ho.len, ho.wf s hk.wf.ar, ho.size⟩
    have hn2 := pnorm d hd.wf.ar.okv (cok_few hd) (cok_sz4 hd) (by have := hd.len; omega)
    rw [ho.again] at hn2
    have hsm := rsameClause d d
    rw [clSame_iff.2 rfl] at hsm
    have hwd := rwrongCl s d
    rw [hd.wrong] at hwd
    have hh2 := rholds hmo hs d hd.wf (cok_sz4 hd)
    have heq : holds m d = holds m c := by
      rw [Bool.eq_iff_iff, holds_iffF hmo hd.wf, holds_iffF hmo hk.wf]
      exact (ho.valid s m hmo).symm
    rw [heq] at hh2
    generalize holds m c = b at hh hh2
    have hbb : (b == b) = true := by simp
    (refine wlk ?_)
    (refine SqA.b1 (op_call none rfl rfl rfl (by kernel_rfl) (FnD.use (alive4)) rfl rfl rfl rfl rfl rfl) rfl rfl ?_)
    (refine wlk ?_)
    (refine SqA.b1 (op_call none rfl rfl rfl (by kernel_rfl) (FnD.use (hcs)) rfl rfl rfl rfl rfl rfl) rfl rfl ?_)
    (refine wlk ?_)
    (refine SqA.b1 (op_call none rfl rfl rfl (by kernel_rfl) (FnD.use (hcc)) rfl rfl rfl rfl rfl rfl) rfl rfl ?_)
    (refine wlk ?_)
    (refine SqA.b1 (op_call none rfl rfl rfl (by kernel_rfl) (FnD.use (hcm)) rfl rfl rfl rfl rfl rfl) rfl rfl ?_)
    (refine wlk ?_)
    (refine SqA.b1 (op_call none rfl rfl rfl (by kernel_rfl) (FnD.use (hn)) rfl rfl rfl rfl rfl rfl) rfl rfl ?_)
    (refine wlk ?_)
    (refine SqA.b1 (op_call none rfl rfl rfl (by kernel_rfl) (FnD.use (hn2)) rfl rfl rfl rfl rfl rfl) rfl rfl ?_)
    (refine wlk ?_)
    (refine SqA.b1 (op_call none rfl rfl rfl (by kernel_rfl) (FnD.use (hsm)) rfl rfl rfl rfl rfl rfl) rfl rfl ?_)
    (refine wlk ?_)
    (refine SqA.b1 (op_call none rfl rfl rfl (by kernel_rfl) (FnD.use (hwd)) rfl rfl rfl rfl rfl rfl) rfl rfl ?_)
    (refine wlk ?_)
    (refine SqA.b1 (op_call none rfl rfl rfl (by kernel_rfl) (FnD.use (hh)) rfl rfl rfl rfl rfl rfl) rfl rfl ?_)
    (refine wlk ?_)
    (refine SqA.b1 (op_call none rfl rfl rfl (by kernel_rfl) (FnD.use (hh2)) rfl rfl rfl rfl rfl rfl) rfl rfl ?_)
    (refine wlk ?_)
    (first | (refine finR (.tmp rfl .nil) rfl rfl ?_) | (refine finN (.tmp rfl .nil) rfl rfl ?_))
    rfl
  · exact absurd rfl hfit
  · rw [(holds_iffF hmo hk.wf).2 (norm_none hk.wf.ar.okv (cok_few hk) hnm hmo)] at hh
    (refine wlk ?_)
    (refine SqA.b1 (op_call none rfl rfl rfl (by kernel_rfl) (FnD.use (alive4)) rfl rfl rfl rfl rfl rfl) rfl rfl ?_)
    (refine wlk ?_)
    (refine SqA.b1 (op_call none rfl rfl rfl (by kernel_rfl) (FnD.use (hcs)) rfl rfl rfl rfl rfl rfl) rfl rfl ?_)
    (refine wlk ?_)
    (refine SqA.b1 (op_call none rfl rfl rfl (by kernel_rfl) (FnD.use (hcc)) rfl rfl rfl rfl rfl rfl) rfl rfl ?_)
    (refine wlk ?_)
    (refine SqA.b1 (op_call none rfl rfl rfl (by kernel_rfl) (FnD.use (hcm)) rfl rfl rfl rfl rfl rfl) rfl rfl ?_)
    (refine wlk ?_)
    (refine SqA.b1 (op_call none rfl rfl rfl (by kernel_rfl) (FnD.use (hn)) rfl rfl rfl rfl rfl rfl) rfl rfl ?_)
    (refine wlk ?_)
    (refine SqA.b1 (op_call none rfl rfl rfl (by kernel_rfl) (FnD.use (hh)) rfl rfl rfl rfl rfl rfl) rfl rfl ?_)
    (refine wlk ?_)
    (first | (refine finR (.tmp rfl .nil) rfl rfl ?_) | (refine finN (.tmp rfl .nil) rfl rfl ?_))
    rfl
end Go.Proofs.YtmanhdacnkpclaaDoor
