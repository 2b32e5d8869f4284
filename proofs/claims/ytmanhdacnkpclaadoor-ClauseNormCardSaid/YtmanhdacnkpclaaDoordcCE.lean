/- The clauses' law: its closed fact. -/
import Derived.Test.YtmanhdacnkpclaaDoordcCB
import Derived.Test.YtmanhdacnkpclaaDoordcPW
import Derived.Test.YtmanhdacnkpclaaDoordcN1
import Derived.Test.YtmanhdacnkpclaaDoordcRt
namespace Go.Proofs.YtmanhdacnkpclaaDoor
set_option linter.all false
open Go.RowKit

theorem cok_few {S : List Int} {c : List Lt} (h : COk S c) : clFew c := fun l hl => ⟨few_tok (h.wf l hl).1, few_tok (h.wf l hl).2⟩
theorem cok_sz4 {s : List Int} {c : List Lt} (h : COk s c) : clSz c := fun l hl => by have := h.size l hl; omega
theorem cok_lit {s : List Int} {c : List Lt} (hs : wrongSig s = 0) (h : wrongCl s c = 0) : ∀ l ∈ c, LitOk s l := fun l hl => by
  have hk := cok_of hs h
  have hw : wrong s l.left = 0 ∧ wrong s l.right = 0 := by
    unfold wrongCl at h
    split at h
    · cases h
    · exact wrongLits_all h l hl
  exact ⟨⟨(hk.wf l hl).1, (hk.size l hl).1, hw.1⟩, (hk.wf l hl).2, (hk.size l hl).2, hw.2⟩
theorem clText_len {c : List Lt} (hz : ∀ x ∈ c, x.left.size ≤ 12 ∧ x.right.size ≤ 12) (hl : c.length ≤ 4) : (clText c).length ≤ 1000 := by
  cases c with
  | nil => decide
  | cons x c =>
    have h := barJ_len ((x :: c).map litText) (n := 98) fun y hy => by
      obtain ⟨z, hz', rfl⟩ := List.mem_map.1 hy
      exact litText_len (hz z hz')
    rw [List.length_map] at h
    rw [clText_bar]
    simp only [List.map_cons] at h
    omega
set_option maxRecDepth 100000 in
theorem read4_at {l : List UInt8} {c : List Lt} (h : clauseParse [0, 1, 2] l = (c, 0)) (hl : l.length ≤ 1000) : FnD Tryd.prog 102 [sA l] (.one (lA Lt.d c)) := by
  have p := rclauseParse [0, 1, 2] l (by omega)
  rw [h] at p
  refine Fn.of Tryd.func102 rfl Tryd.ntmps102 rfl (Nat.le_of_ble_eq_true rfl) ?_
  (refine wlk ?_)
  (refine SqA.b1 (op_bsT (T := TB) (f := Int.d) [0, 1, 2] rfl rfl rfl rfl rfl rfl rfl rfl rfl rfl rfl) rfl rfl ?_)
  (refine wlk ?_)
  (refine SqA.b1 (op_call none rfl rfl rfl (by kernel_rfl) (FnD.use (p)) rfl rfl rfl rfl rfl rfl) rfl rfl ?_)
  (refine wlk ?_)
  (first | (refine finR (.tmp rfl .nil) rfl rfl ?_) | (refine finN (.tmp rfl .nil) rfl rfl ?_))
  rfl
abbrev a4 : Tm := ⟨false, 0, []⟩
abbrev c41 : List Lt := [⟨false, ⟨true, 3, []⟩, ⟨false, 1, [⟨true, 3, []⟩]⟩⟩, ⟨false, ⟨false, 1, [⟨true, 3, []⟩]⟩, ⟨true, 3, []⟩⟩, ⟨true, a4, a4⟩]
abbrev d41 : List Lt := [⟨false, ⟨false, 1, [⟨true, 0, []⟩]⟩, ⟨true, 0, []⟩⟩]
abbrev c42 : List Lt := [⟨false, a4, ⟨false, 1, [a4]⟩⟩, ⟨true, a4, ⟨false, 1, [a4]⟩⟩]
abbrev l43 : Lt := ⟨false, ⟨false, 1, [⟨true, 0, []⟩]⟩, ⟨true, 0, []⟩⟩
abbrev c43 : List Lt := [l43, ⟨true, a4, ⟨false, 1, [a4]⟩⟩]
abbrev d43 : List Lt := [⟨false, ⟨false, 1, [a4]⟩, a4⟩, ⟨true, a4, ⟨false, 1, [a4]⟩⟩]
abbrev l44 : Lt := ⟨false, ⟨false, 1, [⟨true, 2, []⟩]⟩, ⟨true, 2, []⟩⟩
abbrev d44 : List Lt := [l44, ⟨true, a4, ⟨false, 1, [a4]⟩⟩]
theorem cok_c41 : COk [0, 1, 2] c41 := cok_of (by kernel_rfl) (by kernel_rfl)
theorem cok_d41 : COk [0, 1] d41 := cok_of (by kernel_rfl) (by kernel_rfl)
theorem cok_c42 : COk [0, 1, 2] c42 := cok_of (by kernel_rfl) (by kernel_rfl)
theorem cok_c43 : COk [0, 1] c43 := cok_of (by kernel_rfl) (by kernel_rfl)
theorem cok_d43 : COk [0, 1] d43 := cok_of (by kernel_rfl) (by kernel_rfl)
set_option maxHeartbeats 16000000 in
set_option maxRecDepth 100000 in
theorem alive4 : FnD Tryd.prog 63 [] (.one (bA true)) := by
  have p1 := read4_at (l := [88, 51, 61, 98, 40, 88, 51, 41, 32, 124, 32, 98, 40, 88, 51, 41, 61, 88, 51, 32, 124, 32, 97, 33, 61, 97]) (c := c41) (by kernel_rfl) (by decide)
  have p2 := read4_at (l := [97, 61, 98, 40, 97, 41, 32, 124, 32, 97, 33, 61, 98, 40, 97, 41]) (c := c42) (by kernel_rfl) (by decide)
  have n1 := pnorm c41 cok_c41.wf.ar.okv (cok_few cok_c41) (cok_sz4 cok_c41) (by decide)
  rw [show norm c41 = (d41, 0) by kernel_rfl] at n1
  have n2 := pnorm c42 cok_c42.wf.ar.okv (cok_few cok_c42) (cok_sz4 cok_c42) (by decide)
  rw [show norm c42 = ([], 6) by kernel_rfl] at n2
  have p3 := pclParse [0, 1] [98, 40, 88, 48, 41, 61, 88, 48, 32, 124, 32, 97, 33, 61, 98, 40, 97, 41] (by decide)
  rw [show clauseParse [0, 1] [98, 40, 88, 48, 41, 61, 88, 48, 32, 124, 32, 97, 33, 61, 98, 40, 97, 41] = (c43, 0) by kernel_rfl] at p3
  dsimp only at n1 n2 p3
  have t1 := pclText (s := [0, 1]) (by decide) d41 cok_d41.wf cok_d41.size (by decide)
  rw [show clText d41 = [98, 40, 88, 48, 41, 61, 88, 48] by kernel_rfl] at t1
  have t2 := pclText (s := [0, 1]) (by decide) c43 cok_c43.wf cok_c43.size (by decide)
  rw [show clText c43 = [98, 40, 88, 48, 41, 61, 88, 48, 32, 124, 32, 97, 33, 61, 98, 40, 97, 41] by kernel_rfl] at t2
  have t3 := pclText (s := [0, 1]) (by decide) d43 cok_d43.wf cok_d43.size (by decide)
  rw [show clText d43 = [98, 40, 97, 41, 61, 97, 32, 124, 32, 97, 33, 61, 98, 40, 97, 41] by kernel_rfl] at t3
  have v1 := pclVars c43 cok_c43.wf.ar.okv (cok_few cok_c43) (cok_sz4 cok_c43)
  rw [show clVars [] c43 = [0] by kernel_rfl] at v1
  have s1 := psameClause c43 c43
  rw [clSame_iff.2 rfl] at s1
  have s2 := psameLit l43 l43
  rw [Lt.same_iff.2 rfl] at s2
  have w1 := pwrongCl [0, 1] c43
  rw [show wrongCl [0, 1] c43 = 0 by kernel_rfl] at w1
  have a1 := papplyC [((0, a4) : Pr)] c43 (by decide) (cok_sz4 cok_c43)
  rw [show each (app [((0, a4) : Pr)]) c43 = d43 by kernel_rfl] at a1
  have r1 := prenameC 2 (by decide) (by decide) c43 (by decide) (cok_sz4 cok_c43) cok_c43.wf.ar.okv
  rw [show each (ren 2) c43 = d44 by kernel_rfl] at r1
  have g1 : d44[0]? = some l44 := rfl
  have g0 : c43[0]? = some l43 := rfl
  have q1 : (([98, 40, 88, 48, 41, 61, 88, 48] : List UInt8) == [98, 40, 88, 48, 41, 61, 88, 48]) = true := by decide
  have q2 : (([98, 40, 88, 48, 41, 61, 88, 48, 32, 124, 32, 97, 33, 61, 98, 40, 97, 41] : List UInt8) == [98, 40, 88, 48, 41, 61, 88, 48, 32, 124, 32, 97, 33, 61, 98, 40, 97, 41]) = true := by decide
  have q3 : (([98, 40, 97, 41, 61, 97, 32, 124, 32, 97, 33, 61, 98, 40, 97, 41] : List UInt8) == [98, 40, 97, 41, 61, 97, 32, 124, 32, 97, 33, 61, 98, 40, 97, 41]) = true := by decide
  have z1 : ((c43.length : Nat) : Int) = 2 := rfl
  have z2 : ((([0] : List Int).length : Nat) : Int) = 1 := rfl
  refine Fn.of Tryd.func63 rfl Tryd.ntmps63 rfl (Nat.le_of_ble_eq_true rfl) ?_
  (refine wlk ?_)
  (refine SqA.b1 (op_call none rfl rfl rfl (by kernel_rfl) (FnD.use (p1)) rfl rfl rfl rfl rfl rfl) rfl rfl ?_)
  (refine wlk ?_)
  (refine SqA.b1 (op_call none rfl rfl rfl (by kernel_rfl) (FnD.use (n1)) rfl rfl rfl rfl rfl rfl) rfl rfl ?_)
  (refine wlk ?_)
  (refine SqA.b1 (op_call none rfl rfl rfl (by kernel_rfl) (FnD.use (p2)) rfl rfl rfl rfl rfl rfl) rfl rfl ?_)
  (refine wlk ?_)
  (refine SqA.b1 (op_call none rfl rfl rfl (by kernel_rfl) (FnD.use (n2)) rfl rfl rfl rfl rfl rfl) rfl rfl ?_)
  (refine wlk ?_)
  (refine SqA.b1 (op_bsT (T := TB) (f := Int.d) [0, 1] rfl rfl rfl rfl rfl rfl rfl rfl rfl rfl rfl) rfl rfl ?_)
  (refine wlk ?_)
  (refine SqA.b1 (op_call none rfl rfl rfl (by kernel_rfl) (FnD.use (p3)) rfl rfl rfl rfl rfl rfl) rfl rfl ?_)
  (refine wlk ?_)
  dsimp only [List.append]
  (refine wlk ?_)
  (refine SqA.b1 (op_call none rfl rfl rfl (by kernel_rfl) (FnD.use (t1)) rfl rfl rfl rfl rfl rfl) rfl rfl ?_)
  (refine wlk ?_)
  (refine SqA.b1 (op_call none rfl rfl rfl (by kernel_rfl) (FnD.use (t2)) rfl rfl rfl rfl rfl rfl) rfl rfl ?_)
  (refine wlk ?_)
  (refine SqA.b1 (op_call none rfl rfl rfl (by kernel_rfl) (FnD.use (v1)) rfl rfl rfl rfl rfl rfl) rfl rfl ?_)
  (refine wlk ?_)
  (refine SqA.b1 (op_call none rfl rfl rfl (by kernel_rfl) (FnD.use (s1)) rfl rfl rfl rfl rfl rfl) rfl rfl ?_)
  (refine wlk ?_)
  (refine SqA.b1 (op_call none rfl rfl rfl (by kernel_rfl) (FnD.use (s2)) rfl rfl rfl rfl rfl rfl) rfl rfl ?_)
  (refine wlk ?_)
  (refine SqA.b1 (op_bsT (T := TB) (f := Int.d) [0, 1] rfl rfl rfl rfl rfl rfl rfl rfl rfl rfl rfl) rfl rfl ?_)
  (refine wlk ?_)
  (refine SqA.b1 (op_call none rfl rfl rfl (by kernel_rfl) (FnD.use (w1)) rfl rfl rfl rfl rfl rfl) rfl rfl ?_)
  (refine wlk ?_)
  (refine SqA.b2 (Op1.reN (t := 75) rfl (op_bsT (T := TB) (f := Pr.d) [((0, a4) : Pr)] rfl rfl rfl rfl rfl rfl rfl rfl rfl rfl rfl)) rfl rfl ?_)
  (refine wlk ?_)
  (refine SqA.b1 (op_call none rfl rfl rfl (by kernel_rfl) (FnD.use (a1)) rfl rfl rfl rfl rfl rfl) rfl rfl ?_)
  (refine wlk ?_)
  (refine SqA.b1 (op_call none rfl rfl rfl (by kernel_rfl) (FnD.use (t3)) rfl rfl rfl rfl rfl rfl) rfl rfl ?_)
  (refine wlk ?_)
  (refine SqA.b1 (op_call none rfl rfl rfl (by kernel_rfl) (FnD.use (r1)) rfl rfl rfl rfl rfl rfl) rfl rfl ?_)
  clear g0
  (refine wlk ?_)
  (first | (refine finR (.tmp rfl .nil) rfl rfl ?_) | (refine finN (.tmp rfl .nil) rfl rfl ?_))
  rfl
end Go.Proofs.YtmanhdacnkpclaaDoor
