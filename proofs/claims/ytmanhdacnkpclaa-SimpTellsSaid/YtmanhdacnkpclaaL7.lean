/- SimpTells: walked. -/
import Derived.Test.YtmanhdacnkpclaaQ5
import Derived.Test.YtmanhdacnkpclaaQ3
import Derived.Test.YtmanhdacnkpclaaCn
namespace Go.Proofs.Ytmanhdacnkpclaa
set_option linter.all false
open Go.RowKit

theorem us_sz {S : List Int} {us : List (List Lt)} (h : ∀ c ∈ us, COk S c) (hu : us.all unit = true) : UsSz S us :=
  ⟨⟨fun u h2 => List.all_eq_true.1 hu u h2, fun u h2 => (h u h2).wf⟩, fun u h2 => (h u h2).size⟩
theorem bne_self' (b : Bool) : (b != b) = false := by cases b <;> rfl
set_option maxHeartbeats 16000000 in
set_option maxRecDepth 100000 in
theorem simpTells_fn (s : List Int) (c d : List Lt) (us : List (List Lt)) (hbl : us.length ≤ 5864062014634) : FnD Try.prog 13 [lA Int.d s, lA Lt.d c, lA Lt.d d, lA Cl.d us] (.one (bA true)) := by
  refine Fn.of Try.func13 rfl Try.ntmps13 rfl (Nat.le_of_ble_eq_true rfl) ?_
  have hl1 : [c, d] ++ us = [c, d] ++ us := rfl
  have hr := rright s ([c, d] ++ us)
  cases hb : rightC s ([c, d] ++ us)
  · rw [hb] at hr
    (refine wlk ?_)
    (refine SqA.b1 (op_bsOT (T := TB) (f := Cl.d) [c, d] rfl rfl rfl rfl rfl rfl rfl rfl rfl rfl rfl rfl) rfl rfl ?_)
    (refine wlk ?_)
    (refine SqA.b2 (Op1.frzIn (t := 20) rfl (op_call none rfl rfl rfl (by kernel_rfl) (FnD.use (hr)) rfl rfl rfl rfl rfl rfl)) rfl rfl ?_)
    (refine wlk ?_)
    (first | (refine finR (.tmp rfl .nil) rfl rfl ?_) | (refine finN (.tmp rfl .nil) rfl rfl ?_))
    rfl
  rw [hb] at hr
  obtain ⟨hs, h8, hall⟩ := right_of hb
  have hc : COk s c := hall c (by simp)
  have hd : COk s d := hall d (by simp)
  have hcl := hc.len
  have hdl := hd.len
  have u1 := punit c
  have u2 := runit c
  have c1 := pCovers c d hc.size (by omega)
  have c2 := rCovers c d hc.size hcl hdl
  have hun := runits us
  generalize unit c = bu at *
  generalize covers c d = bc at *
  have hx1 := bne_self' bu
  have hx2 := bne_self' bc
  cases hu : us.all unit
  · rw [hu] at hun
    (refine wlk ?_)
    (refine SqA.b1 (op_bsOT (T := TB) (f := Cl.d) [c, d] rfl rfl rfl rfl rfl rfl rfl rfl rfl rfl rfl rfl) rfl rfl ?_)
    (refine wlk ?_)
    (refine SqA.b2 (Op1.frzIn (t := 20) rfl (op_call none rfl rfl rfl (by kernel_rfl) (FnD.use (hr)) rfl rfl rfl rfl rfl rfl)) rfl rfl ?_)
    (refine wlk ?_)
    (refine SqA.b1 (op_call none rfl rfl rfl (by kernel_rfl) (FnD.use (u1)) rfl rfl rfl rfl rfl rfl) rfl rfl ?_)
    (refine wlk ?_)
    (refine SqA.b1 (op_call none rfl rfl rfl (by kernel_rfl) (FnD.use (u2)) rfl rfl rfl rfl rfl rfl) rfl rfl ?_)
    (refine wlk ?_)
    (refine SqA.b1 (op_call none rfl rfl rfl (by kernel_rfl) (FnD.use (c1)) rfl rfl rfl rfl rfl rfl) rfl rfl ?_)
    (refine wlk ?_)
    (refine SqA.b1 (op_call none rfl rfl rfl (by kernel_rfl) (FnD.use (c2)) rfl rfl rfl rfl rfl rfl) rfl rfl ?_)
    (refine wlk ?_)
    (refine SqA.b1 (op_call none rfl rfl rfl (by kernel_rfl) (FnD.use (hun)) rfl rfl rfl rfl rfl rfl) rfl rfl ?_)
    (refine wlk ?_)
    (first | (refine finR (.tmp rfl .nil) rfl rfl ?_) | (refine finN (.tmp rfl .nil) rfl rfl ?_))
    rfl
  rw [hu] at hun
  have hz : UsSz s us := us_sz (fun c h => hall c (by simp [h])) hu
  have w1 := pRewrite hz c hc
  have w2 := rRewrite hz c hc
  have w3 := rsameClause (rewr us c).1 (rewr us c).1
  rw [clSame_iff.2 rfl] at w3
  generalize rewr us c = rw_ at *
  obtain ⟨ra, rb⟩ := rw_
  dsimp only at w1 w2 w3
  (refine wlk ?_)
  (refine SqA.b1 (op_bsOT (T := TB) (f := Cl.d) [c, d] rfl rfl rfl rfl rfl rfl rfl rfl rfl rfl rfl rfl) rfl rfl ?_)
  (refine wlk ?_)
  (refine SqA.b2 (Op1.frzIn (t := 20) rfl (op_call none rfl rfl rfl (by kernel_rfl) (FnD.use (hr)) rfl rfl rfl rfl rfl rfl)) rfl rfl ?_)
  (refine wlk ?_)
  (refine SqA.b1 (op_call none rfl rfl rfl (by kernel_rfl) (FnD.use (u1)) rfl rfl rfl rfl rfl rfl) rfl rfl ?_)
  (refine wlk ?_)
  (refine SqA.b1 (op_call none rfl rfl rfl (by kernel_rfl) (FnD.use (u2)) rfl rfl rfl rfl rfl rfl) rfl rfl ?_)
  (refine wlk ?_)
  (refine SqA.b1 (op_call none rfl rfl rfl (by kernel_rfl) (FnD.use (c1)) rfl rfl rfl rfl rfl rfl) rfl rfl ?_)
  (refine wlk ?_)
  (refine SqA.b1 (op_call none rfl rfl rfl (by kernel_rfl) (FnD.use (c2)) rfl rfl rfl rfl rfl rfl) rfl rfl ?_)
  (refine wlk ?_)
  (refine SqA.b1 (op_call none rfl rfl rfl (by kernel_rfl) (FnD.use (hun)) rfl rfl rfl rfl rfl rfl) rfl rfl ?_)
  (refine wlk ?_)
  refine dwp_loop (fun k : Nat => [(.t 1, some (.one (lA Lt.d c))), (.t 3, some (.one (lA Cl.d us))), (.t 40, some (.one (lA Lt.d c))), (.t 41, some (.one (iA c.length))), (.t 42, some (.one (iA k)))])
    (fun k => k ≤ c.length) (fun k => c.length - k) 0 (by omega) fgs ?_
  intro k hk
  by_cases hkl : k < c.length
  · obtain ⟨⟨ng, xl, xr⟩, hx⟩ := get_of_lt hkl
    have hxw := hc.wf _ (List.mem_of_getElem? hx)
    have hxz := hc.size _ (List.mem_of_getElem? hx)
    dsimp only at hxw hxz
    have d1 := pDown hz xl (Tm.wf_ar _ hxw.1) hxz.1
    have d2 := rDown hz xl (Tm.wf_ar _ hxw.1) hxz.1
    have d3 := rsame (dn us xl) (dn us xl)
    rw [(Tm.same_iff _ _).2 rfl] at d3
    (refine wlk ?_)
    (refine SqA.b1 (op_call none rfl rfl rfl (by kernel_rfl) (FnD.use (d1)) rfl rfl rfl rfl rfl rfl) rfl rfl ?_)
    (refine wlk ?_)
    (refine SqA.b1 (op_call none rfl rfl rfl (by kernel_rfl) (FnD.use (d2)) rfl rfl rfl rfl rfl rfl) rfl rfl ?_)
    (refine wlk ?_)
    (refine SqA.b1 (op_call none rfl rfl rfl (by kernel_rfl) (FnD.use (d3)) rfl rfl rfl rfl rfl rfl) rfl rfl ?_)
    (refine wlk ?_)
    exact ⟨k + 1, by omega, fgs, by omega⟩
  · (refine wlk ?_)
    (refine SqA.b1 (op_call none rfl rfl rfl (by kernel_rfl) (FnD.use (w1)) rfl rfl rfl rfl rfl rfl) rfl rfl ?_)
    (refine wlk ?_)
    (refine SqA.b1 (op_call none rfl rfl rfl (by kernel_rfl) (FnD.use (w2)) rfl rfl rfl rfl rfl rfl) rfl rfl ?_)
    (refine wlk ?_)
    (refine SqA.b1 (op_call none rfl rfl rfl (by kernel_rfl) (FnD.use (w3)) rfl rfl rfl rfl rfl rfl) rfl rfl ?_)
    (refine wlk ?_)
    (first | (refine finR (.tmp rfl .nil) rfl rfl ?_) | (refine finN (.tmp rfl .nil) rfl rfl ?_))
    rfl
end Go.Proofs.Ytmanhdacnkpclaa
