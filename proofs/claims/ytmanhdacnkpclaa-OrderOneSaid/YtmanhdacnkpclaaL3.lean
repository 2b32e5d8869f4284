/- OrderOne, OrderStays: walked. -/
import Derived.Test.YtmanhdacnkpclaaD3
import Derived.Test.YtmanhdacnkpclaaRt
import Derived.Test.YtmanhdacnkpclaaPa1
namespace Go.Proofs.Ytmanhdacnkpclaa
set_option linter.all false
open Go.RowKit

set_option maxRecDepth 100000 in
theorem read3 (l : List UInt8) : FnD Try.prog 85 [sA l] (.one (tA (parseTm [0, 1, 2] l).1)) := by
  refine Fn.of Try.func85 rfl Try.ntmps85 rfl (Nat.le_of_ble_eq_true rfl) ?_
  (refine wlk ?_)
  (refine SqA.b1 (op_bsT (T := TB) (f := Int.d) [0, 1, 2] rfl rfl rfl rfl rfl rfl rfl rfl rfl rfl rfl) rfl rfl ?_)
  (refine wlk ?_)
  (refine SqA.b1 (op_call none rfl rfl rfl (by kernel_rfl) (FnD.use (rparse [0, 1, 2] l)) rfl rfl rfl rfl rfl rfl) rfl rfl ?_)
  (refine wlk ?_)
  (first | (refine finR (.cellN rfl rfl (rw_of rfl) rfl rfl .nil) rfl rfl ?_) | (refine finN (.cellN rfl rfl (rw_of rfl) rfl rfl .nil) rfl rfl ?_))
  rfl
theorem read3_at {l : List UInt8} {t : Tm} (h : parseTm [0, 1, 2] l = (t, 0)) : FnD Try.prog 85 [sA l] (.one (tA t)) := by
  have := read3 l
  rw [h] at this; exact this

set_option maxRecDepth 100000 in
theorem right3 (s : List Int) (l : List Tm) (hl : l.length ≤ 1000000000) : FnD Try.prog 16 [lA Int.d s, lA Tm.d l] (.one (bA (rgtB s l))) := by
  refine Fn.of Try.func16 rfl Try.ntmps16 rfl (Nat.le_of_ble_eq_true rfl) ?_
  have e0 : decide (wrongSig s = 0) = rgtB s (l.take 0) := by simp [rgtB]
  (refine wlk ?_)
  (refine SqA.b1 (op_call none rfl rfl rfl (by kernel_rfl) (FnD.use (rwrongSig s)) rfl rfl rfl rfl rfl rfl) rfl rfl ?_)
  (refine wlk ?_)
  refine dwp_loop (fun k : Nat => [(.t 0, some (.one (lA Int.d s))), (.t 5, some (.one (bA (rgtB s (l.take k))))), (.t 11, some (.one (lA Tm.d l))), (.t 12, some (.one (iA l.length))), (.t 13, some (.one (iA k)))])
    (fun k => k ≤ l.length) (fun k => l.length - k) 0 (by omega) ?_ ?_
  · rw [← e0]; exact fgs
  intro k hk
  by_cases hkl : k < l.length
  · obtain ⟨x, hx⟩ := get_of_lt hkl
    have hsn := rgtB_snoc (s := s) hx
    cases hb : rgtB s (l.take k)
    · rw [hb] at hsn
      simp only [Bool.false_and] at hsn
      (refine wlk ?_)
      refine ⟨k + 1, by omega, ?_, by omega⟩
      rw [hsn]
      exact fgs
    · rw [hb] at hsn
      simp only [Bool.true_and] at hsn
      (refine wlk ?_)
      (refine SqA.b1 (op_call none rfl rfl rfl (by kernel_rfl) (FnD.use (rwrong s x)) rfl rfl rfl rfl rfl rfl) rfl rfl ?_)
      (refine wlk ?_)
      refine ⟨k + 1, by omega, ?_, by omega⟩
      rw [hsn]
      exact fgs
  · have : k = l.length := by omega
    subst this
    rw [List.take_length]
    (refine wlk ?_)
    (first | (refine finR (.tmp rfl .nil) rfl rfl ?_) | (refine finN (.tmp rfl .nil) rfl rfl ?_))
    rfl

theorem cmp_at {t u : Tm} {r : Int} (h : compare t u = r) (h1 : t.size ≤ 4398046511104) (h2 : u.size ≤ 4398046511104) (h3 : t.okv = true) (h4 : u.okv = true) : FnD Try.prog 17 [tA t, tA u] (.one (iA r)) := by
  have := pcompare t u h1 h2 h3 h4
  rw [h] at this; exact this
set_option maxHeartbeats 4000000 in
set_option maxRecDepth 100000 in
theorem alive3 : FnD Try.prog 19 [] (.one (bA true)) := by
  have rbx : FnD Try.prog 85 [sA [98, 40, 88, 48, 41]] (.one (tA ⟨false, 1, [⟨true, 0, []⟩]⟩)) := read3_at (by kernel_rfl)
  have rx : FnD Try.prog 85 [sA [88, 48]] (.one (tA ⟨true, 0, []⟩)) := read3_at (by kernel_rfl)
  have rx1 : FnD Try.prog 85 [sA [88, 49]] (.one (tA ⟨true, 1, []⟩)) := read3_at (by kernel_rfl)
  have ra : FnD Try.prog 85 [sA [97]] (.one (tA ⟨false, 0, []⟩)) := read3_at (by kernel_rfl)
  have rba : FnD Try.prog 85 [sA [98, 40, 97, 41]] (.one (tA ⟨false, 1, [⟨false, 0, []⟩]⟩)) := read3_at (by kernel_rfl)
  have c1 := cmp_at (t := ⟨false, 1, [⟨true, 0, []⟩]⟩) (u := ⟨true, 0, []⟩) (r := 3) (by kernel_rfl) (by decide) (by decide) (by decide) (by decide)
  have c2 := cmp_at (t := ⟨true, 0, []⟩) (u := ⟨true, 1, []⟩) (r := 0) (by kernel_rfl) (by decide) (by decide) (by decide) (by decide)
  have c3 := cmp_at (t := ⟨false, 0, []⟩) (u := ⟨false, 1, [⟨false, 0, []⟩]⟩) (r := 1) (by kernel_rfl) (by decide) (by decide) (by decide) (by decide)
  have c4 := cmp_at (t := ⟨false, 0, []⟩) (u := ⟨false, 0, []⟩) (r := 2) (by kernel_rfl) (by decide) (by decide) (by decide) (by decide)
  refine Fn.of Try.func19 rfl Try.ntmps19 rfl (Nat.le_of_ble_eq_true rfl) ?_
  (refine wlk ?_)
  (refine SqA.b1 (op_call none rfl rfl rfl (by kernel_rfl) (FnD.use (rbx)) rfl rfl rfl rfl rfl rfl) rfl rfl ?_)
  (refine wlk ?_)
  (refine SqA.b1 (op_call none rfl rfl rfl (by kernel_rfl) (FnD.use (rx)) rfl rfl rfl rfl rfl rfl) rfl rfl ?_)
  (refine wlk ?_)
  (refine SqA.b1 (op_call none rfl rfl rfl (by kernel_rfl) (FnD.use (c1)) rfl rfl rfl rfl rfl rfl) rfl rfl ?_)
  (refine wlk ?_)
  (refine SqA.b1 (op_call none rfl rfl rfl (by kernel_rfl) (FnD.use (rx)) rfl rfl rfl rfl rfl rfl) rfl rfl ?_)
  (refine wlk ?_)
  (refine SqA.b1 (op_call none rfl rfl rfl (by kernel_rfl) (FnD.use (rx1)) rfl rfl rfl rfl rfl rfl) rfl rfl ?_)
  (refine wlk ?_)
  (refine SqA.b1 (op_call none rfl rfl rfl (by kernel_rfl) (FnD.use (c2)) rfl rfl rfl rfl rfl rfl) rfl rfl ?_)
  (refine wlk ?_)
  (refine SqA.b1 (op_call none rfl rfl rfl (by kernel_rfl) (FnD.use (ra)) rfl rfl rfl rfl rfl rfl) rfl rfl ?_)
  (refine wlk ?_)
  (refine SqA.b1 (op_call none rfl rfl rfl (by kernel_rfl) (FnD.use (rba)) rfl rfl rfl rfl rfl rfl) rfl rfl ?_)
  (refine wlk ?_)
  (refine SqA.b1 (op_call none rfl rfl rfl (by kernel_rfl) (FnD.use (c3)) rfl rfl rfl rfl rfl rfl) rfl rfl ?_)
  (refine wlk ?_)
  (refine SqA.b1 (op_call none rfl rfl rfl (by kernel_rfl) (FnD.use (ra)) rfl rfl rfl rfl rfl rfl) rfl rfl ?_)
  (refine wlk ?_)
  (refine SqA.b1 (op_call none rfl rfl rfl (by kernel_rfl) (FnD.use (ra)) rfl rfl rfl rfl rfl rfl) rfl rfl ?_)
  (refine wlk ?_)
  (refine SqA.b1 (op_call none rfl rfl rfl (by kernel_rfl) (FnD.use (c4)) rfl rfl rfl rfl rfl rfl) rfl rfl ?_)
  (refine wlk ?_)
  (first | (refine finR (.tmp rfl .nil) rfl rfl ?_) | (refine finN (.tmp rfl .nil) rfl rfl ?_))
  rfl

theorem TOk.cmp {s : List Int} {t u : Tm} (ht : TOk s t) (hu : TOk s u) {r : Int} (h : compare t u = r) : FnD Try.prog 17 [tA t, tA u] (.one (iA r)) := cmp_at h (by have := ht.size; omega) (by have := hu.size; omega) ht.okv hu.okv
end Go.Proofs.Ytmanhdacnkpclaa
