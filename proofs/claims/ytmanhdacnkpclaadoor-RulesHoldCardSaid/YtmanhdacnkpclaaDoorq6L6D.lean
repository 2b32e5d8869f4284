/- RulesHold, RulesKept: walked. -/
import Derived.Test.YtmanhdacnkpclaaDoorq6J7
import Derived.Test.YtmanhdacnkpclaaDoorq6JA
import Derived.Test.YtmanhdacnkpclaaDoorq6T2
import Derived.Test.YtmanhdacnkpclaaDoorq6D6
import Derived.Test.YtmanhdacnkpclaaDoorq6N2
namespace Go.Proofs.YtmanhdacnkpclaaDoor
set_option linter.all false
open Go.RowKit

theorem cok_sz {s : List Int} {c : List Lt} (h : COk s c) : clSz c := fun l hl => by have := h.size l hl; omega
theorem cparse_at {s : List Int} {l : List UInt8} {c : List Lt} (h : clauseParse s l = (c, 0)) (hl : l.length ≤ 1000) : FnD Tryd.prog 117 [lA Int.d s, sA l] (.tup [lA Lt.d c, iA 0]) := by
  have := rclauseParse s l (by omega)
  rw [h] at this; exact this
set_option maxRecDepth 100000 in
theorem read6_at {l : List UInt8} {c : List Lt} (h : clauseParse [0, 1, 2] l = (c, 0)) (hl : l.length ≤ 1000) : FnD Tryd.prog 93 [sA l] (.one (lA Lt.d c)) := by
  have p := cparse_at h hl
  refine Fn.of Tryd.func93 rfl Tryd.ntmps93 rfl (Nat.le_of_ble_eq_true rfl) ?_
  (refine wlk ?_)
  (refine SqA.b1 (op_bsT (T := TB) (f := Int.d) [0, 1, 2] rfl rfl rfl rfl rfl rfl rfl rfl rfl rfl rfl) rfl rfl ?_)
  (refine wlk ?_)
  (refine SqA.b1 (op_call none rfl rfl rfl (by kernel_rfl) (FnD.use (p)) rfl rfl rfl rfl rfl rfl) rfl rfl ?_)
  (refine wlk ?_)
  (first | (refine finR (.tmp rfl .nil) rfl rfl ?_) | (refine finN (.tmp rfl .nil) rfl rfl ?_))
  rfl
abbrev k61 : List Lt := [⟨true, ⟨true, 0, []⟩, ⟨false, 0, []⟩⟩, ⟨false, ⟨false, 1, [⟨true, 0, []⟩]⟩, ⟨false, 0, []⟩⟩]
abbrev k62 : List Lt := [⟨false, ⟨true, 0, []⟩, ⟨false, 0, []⟩⟩, ⟨false, ⟨false, 1, [⟨true, 1, []⟩]⟩, ⟨false, 0, []⟩⟩]
abbrev k63 : List Lt := [⟨false, ⟨false, 1, [⟨false, 0, []⟩]⟩, ⟨false, 0, []⟩⟩]
abbrev k64 : List Lt := [⟨false, ⟨false, 2, [⟨false, 1, [⟨true, 0, []⟩]⟩, ⟨true, 0, []⟩]⟩, ⟨false, 0, []⟩⟩]
abbrev k65 : List Lt := [⟨false, ⟨false, 2, [⟨false, 0, []⟩, ⟨false, 0, []⟩]⟩, ⟨false, 0, []⟩⟩]
theorem cok_k61 : COk [0, 1, 2] k61 := cok_of (by kernel_rfl) (by kernel_rfl)
theorem cok_k62 : COk [0, 1, 2] k62 := cok_of (by kernel_rfl) (by kernel_rfl)
theorem cok_k63 : COk [0, 1, 2] k63 := cok_of (by kernel_rfl) (by kernel_rfl)
theorem cok_k64 : COk [0, 1, 2] k64 := cok_of (by kernel_rfl) (by kernel_rfl)
theorem cok_k65 : COk [0, 1, 2] k65 := cok_of (by kernel_rfl) (by kernel_rfl)
theorem res61 : resolve k61 = ([k63], false) := by kernel_rfl
theorem fac62 : (factor k62).2 = false ∧ Nat.blt 0 (factor k62).1.length = true := ⟨by kernel_rfl, by kernel_rfl⟩
theorem sup6364 : sup k63 k64 = ([k65], false) := by kernel_rfl
set_option maxHeartbeats 16000000 in
set_option maxRecDepth 100000 in
theorem alive6 : FnD Tryd.prog 57 [] (.one (bA true)) := by
  have p1 := read6_at (l := [88, 48, 33, 61, 97, 32, 124, 32, 98, 40, 88, 48, 41, 61, 97]) (c := k61) (by kernel_rfl) (by decide)
  have p2 := read6_at (l := [88, 48, 61, 97, 32, 124, 32, 98, 40, 88, 49, 41, 61, 97]) (c := k62) (by kernel_rfl) (by decide)
  have p3 := read6_at (l := [98, 40, 97, 41, 61, 97]) (c := k63) (by kernel_rfl) (by decide)
  have p4 := read6_at (l := [99, 40, 98, 40, 88, 48, 41, 44, 88, 48, 41, 61, 97]) (c := k64) (by kernel_rfl) (by decide)
  have a1 := presolve cok_k61.cg
  rw [res61] at a1
  have a2 := pfactor cok_k62.cg
  obtain ⟨f1, f2⟩ := fac62
  have f3 := factor_len cok_k62.len
  generalize factor k62 = mf at *
  obtain ⟨mf, lf⟩ := mf
  dsimp only at a2 f1 f2 f3
  subst f1
  have f2 : 0 < mf.length := Nat.lt_of_succ_le (Nat.le_of_ble_eq_true f2)
  have a3 := psup cok_k63.cg cok_k64
  rw [sup6364] at a3
  dsimp only at a1 a3
  have t1 := rclauseText (s := [0, 1, 2]) (by decide) k63 cok_k63.wf cok_k63.size (by decide)
  rw [show clText k63 = [98, 40, 97, 41, 61, 97] by kernel_rfl] at t1
  have t2 := rclauseText (s := [0, 1, 2]) (by decide) k65 cok_k65.wf cok_k65.size (by decide)
  rw [show clText k65 = [99, 40, 97, 44, 97, 41, 61, 97] by kernel_rfl] at t2
  have g0 : [k63][0]? = some k63 := rfl
  have g1 : [k65][0]? = some k65 := rfl
  have q1 : (([99, 40, 97, 44, 97, 41, 61, 97] : List UInt8) == [99, 40, 97, 44, 97, 41, 61, 97]) = true := by decide
  have q2 : (([98, 40, 97, 41, 61, 97] : List UInt8) == [98, 40, 97, 41, 61, 97]) = true := by decide
  refine Fn.of Tryd.func57 rfl Tryd.ntmps57 rfl (Nat.le_of_ble_eq_true rfl) ?_
  (refine wlk ?_)
  (refine SqA.b1 (op_call none rfl rfl rfl (by kernel_rfl) (FnD.use (p1)) rfl rfl rfl rfl rfl rfl) rfl rfl ?_)
  (refine wlk ?_)
  (refine SqA.b1 (op_call none rfl rfl rfl (by kernel_rfl) (FnD.use (a1)) rfl rfl rfl rfl rfl rfl) rfl rfl ?_)
  (refine wlk ?_)
  (refine SqA.b1 (op_call none rfl rfl rfl (by kernel_rfl) (FnD.use (p2)) rfl rfl rfl rfl rfl rfl) rfl rfl ?_)
  (refine wlk ?_)
  (refine SqA.b1 (op_call none rfl rfl rfl (by kernel_rfl) (FnD.use (a2)) rfl rfl rfl rfl rfl rfl) rfl rfl ?_)
  (refine wlk ?_)
  (refine SqA.b1 (op_call none rfl rfl rfl (by kernel_rfl) (FnD.use (p3)) rfl rfl rfl rfl rfl rfl) rfl rfl ?_)
  (refine wlk ?_)
  (refine SqA.b1 (op_call none rfl rfl rfl (by kernel_rfl) (FnD.use (p4)) rfl rfl rfl rfl rfl rfl) rfl rfl ?_)
  (refine wlk ?_)
  (refine SqA.b1 (op_call none rfl rfl rfl (by kernel_rfl) (FnD.use (a3)) rfl rfl rfl rfl rfl rfl) rfl rfl ?_)
  (refine wlk ?_)
  (refine SqA.b1 (op_call none rfl rfl rfl (by kernel_rfl) (FnD.use (t1)) rfl rfl rfl rfl rfl rfl) rfl rfl ?_)
  (refine wlk ?_)
  (refine SqA.b1 (op_call none rfl rfl rfl (by kernel_rfl) (FnD.use (t2)) rfl rfl rfl rfl rfl rfl) rfl rfl ?_)
  (refine wlk ?_)
  (first | (refine finR (.tmp rfl .nil) rfl rfl ?_) | (refine finN (.tmp rfl .nil) rfl rfl ?_))
  rfl
theorem all_holds {S : List Int} {m : Md} (hm : MOk S m) {us : List (List Lt)} (hk : ∀ n ∈ us, Kept S n) (hv : ∀ n ∈ us, validF m n) : us.all (holds m) = true :=
  List.all_eq_true.2 fun n hn => (holds_iffF hm (hk n hn).wf).2 (hv n hn)
theorem kept_sz {S : List Int} {us : List (List Lt)} (hk : ∀ n ∈ us, Kept S n) : ∀ u ∈ us, clWf S u ∧ clSz u := fun u hu => ⟨(hk u hu).wf, cok_sz (hk u hu).cok⟩
set_option maxHeartbeats 16000000 in
set_option maxRecDepth 100000 in
theorem rulesHold_fn (s : List Int) (c d : List Lt) (m : Md) : FnD Tryd.prog 11 [lA Int.d s, lA Lt.d c, lA Lt.d d, mdA m] (.one (bA true)) := by
  refine Fn.of Tryd.func11 rfl Tryd.ntmps11 rfl (Nat.le_of_ble_eq_true rfl) ?_
  have hr := rright s [c, d]
  cases hb : rightC s [c, d]
  · rw [hb] at hr
    (refine wlk ?_)
    (refine SqA.b1 (op_call none rfl rfl rfl (by kernel_rfl) (FnD.use (alive6)) rfl rfl rfl rfl rfl rfl) rfl rfl ?_)
    (refine wlk ?_)
    (refine SqA.b1 (op_bsT (T := TB) (f := Cl.d) [c, d] rfl rfl rfl rfl rfl rfl rfl rfl rfl rfl rfl) rfl rfl ?_)
    (refine wlk ?_)
    (refine SqA.b1 (op_call none rfl rfl rfl (by kernel_rfl) (FnD.use (hr)) rfl rfl rfl rfl rfl rfl) rfl rfl ?_)
    (refine wlk ?_)
    (first | (refine finR (.tmp rfl .nil) rfl rfl ?_) | (refine finN (.tmp rfl .nil) rfl rfl ?_))
    rfl
  rw [hb] at hr
  obtain ⟨hs, h8, hall⟩ := right_of hb
  have hc : COk s c := hall c (by simp)
  have hd : COk s d := hall d (by simp)
  have m2 := rwrongModel s hs m
  by_cases hm : wrongModel s m = 0
  rotate_left
  · generalize wrongModel s m = e at *
    (refine wlk ?_)
    (refine SqA.b1 (op_call none rfl rfl rfl (by kernel_rfl) (FnD.use (alive6)) rfl rfl rfl rfl rfl rfl) rfl rfl ?_)
    (refine wlk ?_)
    (refine SqA.b1 (op_bsT (T := TB) (f := Cl.d) [c, d] rfl rfl rfl rfl rfl rfl rfl rfl rfl rfl rfl) rfl rfl ?_)
    (refine wlk ?_)
    (refine SqA.b1 (op_call none rfl rfl rfl (by kernel_rfl) (FnD.use (hr)) rfl rfl rfl rfl rfl rfl) rfl rfl ?_)
    (refine wlk ?_)
    (refine SqA.b1 (op_call none rfl rfl rfl (by kernel_rfl) (FnD.use (m2)) rfl rfl rfl rfl rfl rfl) rfl rfl ?_)
    (refine wlk ?_)
    (first | (refine finR (.tmp rfl .nil) rfl rfl ?_) | (refine finN (.tmp rfl .nil) rfl rfl ?_))
    rfl
  rw [hm] at m2
  have hmo := MOk.of hm
  have h1 := rholds hmo hs c hc.wf (cok_sz hc)
  have h2 := rholds hmo hs d hd.wf (cok_sz hd)
  cases hhc : holds m c
  · rw [hhc] at h1
    (refine wlk ?_)
    (refine SqA.b1 (op_call none rfl rfl rfl (by kernel_rfl) (FnD.use (alive6)) rfl rfl rfl rfl rfl rfl) rfl rfl ?_)
    (refine wlk ?_)
    (refine SqA.b1 (op_bsT (T := TB) (f := Cl.d) [c, d] rfl rfl rfl rfl rfl rfl rfl rfl rfl rfl rfl) rfl rfl ?_)
    (refine wlk ?_)
    (refine SqA.b1 (op_call none rfl rfl rfl (by kernel_rfl) (FnD.use (hr)) rfl rfl rfl rfl rfl rfl) rfl rfl ?_)
    (refine wlk ?_)
    (refine SqA.b1 (op_call none rfl rfl rfl (by kernel_rfl) (FnD.use (m2)) rfl rfl rfl rfl rfl rfl) rfl rfl ?_)
    (refine wlk ?_)
    (refine SqA.b1 (op_call none rfl rfl rfl (by kernel_rfl) (FnD.use (h1)) rfl rfl rfl rfl rfl rfl) rfl rfl ?_)
    (refine wlk ?_)
    (first | (refine finR (.tmp rfl .nil) rfl rfl ?_) | (refine finN (.tmp rfl .nil) rfl rfl ?_))
    rfl
  rw [hhc] at h1
  have vc := (holds_iffF hmo hc.wf).1 hhc
  have a1 := presolve hc.cg
  have a2 := pfactor hc.cg
  have k1 := resolve_kept hc.wf.good
  have k2 := factor_kept hc.wf.good
  have b1 := all_holds hmo k1.1 (resolve_valid hmo hc.wf.good vc)
  have b2 := all_holds hmo k2.1 (factor_valid hmo hc.wf.good vc)
  have l1 := resolve_len c c.length
  have l2 := factor_len hc.len
  have l1' : (resolve c).1.length ≤ c.length := l1
  have hcl := hc.len
  have r1 := rmodels hmo hs (resolve c).1 (kept_sz k1.1) (by omega)
  have r2 := rmodels hmo hs (factor c).1 (kept_sz k2.1) (by omega)
  rw [b1] at r1
  rw [b2] at r2
  cases hhd : holds m d
  · rw [hhd] at h2
    (refine wlk ?_)
    (refine SqA.b1 (op_call none rfl rfl rfl (by kernel_rfl) (FnD.use (alive6)) rfl rfl rfl rfl rfl rfl) rfl rfl ?_)
    (refine wlk ?_)
    (refine SqA.b1 (op_bsT (T := TB) (f := Cl.d) [c, d] rfl rfl rfl rfl rfl rfl rfl rfl rfl rfl rfl) rfl rfl ?_)
    (refine wlk ?_)
    (refine SqA.b1 (op_call none rfl rfl rfl (by kernel_rfl) (FnD.use (hr)) rfl rfl rfl rfl rfl rfl) rfl rfl ?_)
    (refine wlk ?_)
    (refine SqA.b1 (op_call none rfl rfl rfl (by kernel_rfl) (FnD.use (m2)) rfl rfl rfl rfl rfl rfl) rfl rfl ?_)
    (refine wlk ?_)
    (refine SqA.b1 (op_call none rfl rfl rfl (by kernel_rfl) (FnD.use (h1)) rfl rfl rfl rfl rfl rfl) rfl rfl ?_)
    (refine wlk ?_)
    (refine SqA.b1 (op_call none rfl rfl rfl (by kernel_rfl) (FnD.use (a1)) rfl rfl rfl rfl rfl rfl) rfl rfl ?_)
    (refine wlk ?_)
    (refine SqA.b1 (op_call none rfl rfl rfl (by kernel_rfl) (FnD.use (a2)) rfl rfl rfl rfl rfl rfl) rfl rfl ?_)
    (refine wlk ?_)
    (refine SqA.b1 (op_call none rfl rfl rfl (by kernel_rfl) (FnD.use (r1)) rfl rfl rfl rfl rfl rfl) rfl rfl ?_)
    (refine wlk ?_)
    (refine SqA.b1 (op_call none rfl rfl rfl (by kernel_rfl) (FnD.use (r2)) rfl rfl rfl rfl rfl rfl) rfl rfl ?_)
    (refine wlk ?_)
    (refine SqA.b1 (op_call none rfl rfl rfl (by kernel_rfl) (FnD.use (h2)) rfl rfl rfl rfl rfl rfl) rfl rfl ?_)
    (refine wlk ?_)
    (refine SqA.b1 (op_call none rfl rfl rfl (by kernel_rfl) (FnD.use (r1)) rfl rfl rfl rfl rfl rfl) rfl rfl ?_)
    (refine wlk ?_)
    (refine SqA.b1 (op_call none rfl rfl rfl (by kernel_rfl) (FnD.use (r2)) rfl rfl rfl rfl rfl rfl) rfl rfl ?_)
    (refine wlk ?_)
    (first | (refine finR (.tmp rfl .nil) rfl rfl ?_) | (refine finN (.tmp rfl .nil) rfl rfl ?_))
    rfl
  rw [hhd] at h2
  have vd := (holds_iffF hmo hd.wf).1 hhd
  have a3 := psup hc.cg hd
  have a4 := psup hd.cg hc
  have k3 := sup_kept hc.wf hd.wf
  have k4 := sup_kept hd.wf hc.wf
  have b3 := all_holds hmo k3.1 (sup_valid hmo hc.wf hd.wf vc vd)
  have b4 := all_holds hmo k4.1 (sup_valid hmo hd.wf hc.wf vd vc)
  have l3 := sup_len hc.len hd
  have l4 := sup_len hd.len hc
  have r3 := rmodels hmo hs (sup c d).1 (kept_sz k3.1) l3
  have r4 := rmodels hmo hs (sup d c).1 (kept_sz k4.1) l4
  rw [b3] at r3
  rw [b4] at r4
  (refine wlk ?_)
  (refine SqA.b1 (op_call none rfl rfl rfl (by kernel_rfl) (FnD.use (alive6)) rfl rfl rfl rfl rfl rfl) rfl rfl ?_)
  (refine wlk ?_)
  (refine SqA.b1 (op_bsT (T := TB) (f := Cl.d) [c, d] rfl rfl rfl rfl rfl rfl rfl rfl rfl rfl rfl) rfl rfl ?_)
  (refine wlk ?_)
  (refine SqA.b1 (op_call none rfl rfl rfl (by kernel_rfl) (FnD.use (hr)) rfl rfl rfl rfl rfl rfl) rfl rfl ?_)
  (refine wlk ?_)
  (refine SqA.b1 (op_call none rfl rfl rfl (by kernel_rfl) (FnD.use (m2)) rfl rfl rfl rfl rfl rfl) rfl rfl ?_)
  (refine wlk ?_)
  (refine SqA.b1 (op_call none rfl rfl rfl (by kernel_rfl) (FnD.use (h1)) rfl rfl rfl rfl rfl rfl) rfl rfl ?_)
  (refine wlk ?_)
  (refine SqA.b1 (op_call none rfl rfl rfl (by kernel_rfl) (FnD.use (a1)) rfl rfl rfl rfl rfl rfl) rfl rfl ?_)
  (refine wlk ?_)
  (refine SqA.b1 (op_call none rfl rfl rfl (by kernel_rfl) (FnD.use (a2)) rfl rfl rfl rfl rfl rfl) rfl rfl ?_)
  (refine wlk ?_)
  (refine SqA.b1 (op_call none rfl rfl rfl (by kernel_rfl) (FnD.use (r1)) rfl rfl rfl rfl rfl rfl) rfl rfl ?_)
  (refine wlk ?_)
  (refine SqA.b1 (op_call none rfl rfl rfl (by kernel_rfl) (FnD.use (r2)) rfl rfl rfl rfl rfl rfl) rfl rfl ?_)
  (refine wlk ?_)
  (refine SqA.b1 (op_call none rfl rfl rfl (by kernel_rfl) (FnD.use (h2)) rfl rfl rfl rfl rfl rfl) rfl rfl ?_)
  (refine wlk ?_)
  (refine SqA.b1 (op_call none rfl rfl rfl (by kernel_rfl) (FnD.use (a3)) rfl rfl rfl rfl rfl rfl) rfl rfl ?_)
  (refine wlk ?_)
  (refine SqA.b1 (op_call none rfl rfl rfl (by kernel_rfl) (FnD.use (a4)) rfl rfl rfl rfl rfl rfl) rfl rfl ?_)
  (refine wlk ?_)
  (refine SqA.b1 (op_call none rfl rfl rfl (by kernel_rfl) (FnD.use (r3)) rfl rfl rfl rfl rfl rfl) rfl rfl ?_)
  (refine wlk ?_)
  (refine SqA.b1 (op_call none rfl rfl rfl (by kernel_rfl) (FnD.use (r4)) rfl rfl rfl rfl rfl rfl) rfl rfl ?_)
  (refine wlk ?_)
  (first | (refine finR (.tmp rfl .nil) rfl rfl ?_) | (refine finN (.tmp rfl .nil) rfl rfl ?_))
  rfl
end Go.Proofs.YtmanhdacnkpclaaDoor
