/- SimpSame, SimpEnd, SimpCovers: walked. -/
import Derived.Test.YtmanhdacnkpclaaDoorQ5
import Derived.Test.YtmanhdacnkpclaaDoorQ3
import Derived.Test.YtmanhdacnkpclaaDoorCn
import Derived.Test.YtmanhdacnkpclaaDoorT2
import Derived.Test.YtmanhdacnkpclaaDoorD6
namespace Go.Proofs.YtmanhdacnkpclaaDoor
set_option linter.all false
open Go.RowKit

theorem us_sz {S : List Int} {us : List (List Lt)} (h : ∀ c ∈ us, COk S c) (hu : us.all unit = true) : UsSz S us :=
  ⟨⟨fun u h2 => List.all_eq_true.1 hu u h2, fun u h2 => (h u h2).wf⟩, fun u h2 => (h u h2).size⟩
theorem cok_sz {s : List Int} {c : List Lt} (h : COk s c) : clSz c := fun l hl => by have := h.size l hl; omega
theorem cparse_at {s : List Int} {l : List UInt8} {c : List Lt} (h : clauseParse s l = (c, 0)) (hl : l.length ≤ 1000) : FnD Tryd.prog 117 [lA Int.d s, sA l] (.tup [lA Lt.d c, iA 0]) := by
  have := rclauseParse s l (by omega)
  rw [h] at this; exact this
set_option maxRecDepth 100000 in
theorem read7_at {l : List UInt8} {c : List Lt} (h : clauseParse [0, 1, 2] l = (c, 0)) (hl : l.length ≤ 1000) : FnD Tryd.prog 83 [sA l] (.one (lA Lt.d c)) := by
  have p := cparse_at h hl
  refine Fn.of Tryd.func83 rfl Tryd.ntmps83 rfl (Nat.le_of_ble_eq_true rfl) ?_
  (refine wlk ?_)
  (refine SqA.b1 (op_bsT (T := TB) (f := Int.d) [0, 1, 2] rfl rfl rfl rfl rfl rfl rfl rfl rfl rfl rfl) rfl rfl ?_)
  (refine wlk ?_)
  (refine SqA.b1 (op_call none rfl rfl rfl (by kernel_rfl) (FnD.use (p)) rfl rfl rfl rfl rfl rfl) rfl rfl ?_)
  (refine wlk ?_)
  (first | (refine finR (.tmp rfl .nil) rfl rfl ?_) | (refine finN (.tmp rfl .nil) rfl rfl ?_))
  rfl
abbrev u71 : List Lt := [⟨false, ⟨false, 1, [⟨true, 0, []⟩]⟩, ⟨true, 0, []⟩⟩]
abbrev c71 : List Lt := [⟨false, ⟨false, 2, [⟨false, 1, [⟨false, 1, [⟨false, 0, []⟩]⟩]⟩, ⟨false, 0, []⟩]⟩, ⟨false, 1, [⟨false, 0, []⟩]⟩⟩]
abbrev d71 : List Lt := [⟨false, ⟨false, 2, [⟨false, 0, []⟩, ⟨false, 0, []⟩]⟩, ⟨false, 0, []⟩⟩]
abbrev c72 : List Lt := [⟨false, ⟨false, 1, [⟨false, 1, [⟨false, 0, []⟩]⟩]⟩, ⟨false, 0, []⟩⟩]
abbrev c73 : List Lt := [⟨false, ⟨true, 0, []⟩, ⟨false, 0, []⟩⟩]
abbrev c74 : List Lt := [⟨false, ⟨false, 1, [⟨false, 0, []⟩]⟩, ⟨false, 0, []⟩⟩, ⟨true, ⟨false, 0, []⟩, ⟨false, 2, [⟨false, 0, []⟩, ⟨false, 0, []⟩]⟩⟩]
abbrev c75 : List Lt := [⟨false, ⟨false, 1, [⟨false, 0, []⟩]⟩, ⟨false, 0, []⟩⟩]
abbrev c76 : List Lt := [⟨false, ⟨false, 1, [⟨true, 0, []⟩]⟩, ⟨false, 0, []⟩⟩]
theorem cok_u71 : COk [0, 1, 2] u71 := cok_of (by kernel_rfl) (by kernel_rfl)
theorem cok_c71 : COk [0, 1, 2] c71 := cok_of (by kernel_rfl) (by kernel_rfl)
theorem cok_d71 : COk [0, 1, 2] d71 := cok_of (by kernel_rfl) (by kernel_rfl)
theorem us71 : UsSz [0, 1, 2] [u71] := us_sz (fun c h => by rw [List.mem_singleton.1 h]; exact cok_u71) (by kernel_rfl)
theorem dn71a : dn [u71] ⟨false, 2, [⟨false, 1, [⟨false, 1, [⟨false, 0, []⟩]⟩]⟩, ⟨false, 0, []⟩]⟩ = ⟨false, 2, [⟨false, 0, []⟩, ⟨false, 0, []⟩]⟩ := dn_of (downF_downs (f := 10) (by kernel_rfl))
theorem dn71b : dn [u71] ⟨false, 1, [⟨false, 0, []⟩]⟩ = ⟨false, 0, []⟩ := dn_of (downF_downs (f := 10) (by kernel_rfl))
theorem dn71c : dn [u71] ⟨false, 1, [⟨false, 1, [⟨false, 0, []⟩]⟩]⟩ = ⟨false, 0, []⟩ := dn_of (downF_downs (f := 10) (by kernel_rfl))
theorem rewr71 : rewr [u71] c71 = (d71, 0) := by
  unfold rewr
  simp only [each, c71, List.map_cons, List.map_nil, dn71a, dn71b]
  kernel_rfl
set_option maxHeartbeats 16000000 in
set_option maxRecDepth 100000 in
theorem alive7 : FnD Tryd.prog 46 [] (.one (bA true)) := by
  have p1 := read7_at (l := [98, 40, 88, 48, 41, 61, 88, 48]) (c := u71) (by kernel_rfl) (by decide)
  have p2 := read7_at (l := [99, 40, 98, 40, 98, 40, 97, 41, 41, 44, 97, 41, 61, 98, 40, 97, 41]) (c := c71) (by kernel_rfl) (by decide)
  have p3 := read7_at (l := [98, 40, 98, 40, 97, 41, 41, 61, 97]) (c := c72) (by kernel_rfl) (by decide)
  have p4 := read7_at (l := [88, 48, 61, 97]) (c := c73) (by kernel_rfl) (by decide)
  have p5 := read7_at (l := [98, 40, 97, 41, 61, 97, 32, 124, 32, 97, 33, 61, 99, 40, 97, 44, 97, 41]) (c := c74) (by kernel_rfl) (by decide)
  have p6 := read7_at (l := [98, 40, 97, 41, 61, 97]) (c := c75) (by kernel_rfl) (by decide)
  have p7 := read7_at (l := [98, 40, 88, 48, 41, 61, 97]) (c := c76) (by kernel_rfl) (by decide)
  have w1 := pRewrite us71 c71 cok_c71
  rw [rewr71] at w1
  have t1 := rclauseText (s := [0, 1, 2]) (by decide) d71 cok_d71.wf cok_d71.size (by decide)
  rw [show clText d71 = [99, 40, 97, 44, 97, 41, 61, 97] by kernel_rfl] at t1
  have n1 := punit u71
  rw [show unit u71 = true by kernel_rfl] at n1
  have d1 := pDown us71 ⟨false, 1, [⟨false, 1, [⟨false, 0, []⟩]⟩]⟩ (by kernel_rfl) (by decide)
  rw [dn71c] at d1
  have t2 := rtext (s := [0, 1, 2]) (by decide) ⟨false, 0, []⟩ (by decide) (by decide)
  rw [show text ⟨false, 0, []⟩ = [97] by kernel_rfl] at t2
  have v1 := pCovers c73 c74 (by decide) (by decide)
  rw [show covers c73 c74 = true by kernel_rfl] at v1
  have v2 := pCovers c75 c76 (by decide) (by decide)
  rw [show covers c75 c76 = false by kernel_rfl] at v2
  have g0 : [u71][0]? = some u71 := rfl
  have g1 : c72[0]? = some ⟨false, ⟨false, 1, [⟨false, 1, [⟨false, 0, []⟩]⟩]⟩, ⟨false, 0, []⟩⟩ := rfl
  have q1 : (([99, 40, 97, 44, 97, 41, 61, 97] : List UInt8) == [99, 40, 97, 44, 97, 41, 61, 97]) = true := by decide
  have q2 : (([97] : List UInt8) == [97]) = true := by decide
  refine Fn.of Tryd.func46 rfl Tryd.ntmps46 rfl (Nat.le_of_ble_eq_true rfl) ?_
  (refine wlk ?_)
  (refine SqA.b1 (op_call none rfl rfl rfl (by kernel_rfl) (FnD.use (p1)) rfl rfl rfl rfl rfl rfl) rfl rfl ?_)
  (refine wlk ?_)
  (refine SqA.b1 (op_bsT (T := TB) (f := Cl.d) [u71] rfl rfl rfl rfl rfl rfl rfl rfl rfl rfl rfl) rfl rfl ?_)
  (refine wlk ?_)
  (refine SqA.b1 (op_call none rfl rfl rfl (by kernel_rfl) (FnD.use (p2)) rfl rfl rfl rfl rfl rfl) rfl rfl ?_)
  (refine wlk ?_)
  (refine SqA.b1 (op_call none rfl rfl rfl (by kernel_rfl) (FnD.use (w1)) rfl rfl rfl rfl rfl rfl) rfl rfl ?_)
  (refine wlk ?_)
  (refine SqA.b1 (op_call none rfl rfl rfl (by kernel_rfl) (FnD.use (t1)) rfl rfl rfl rfl rfl rfl) rfl rfl ?_)
  (refine wlk ?_)
  (refine SqA.b1 (op_call none rfl rfl rfl (by kernel_rfl) (FnD.use (n1)) rfl rfl rfl rfl rfl rfl) rfl rfl ?_)
  (refine wlk ?_)
  (refine SqA.b1 (op_call none rfl rfl rfl (by kernel_rfl) (FnD.use (p3)) rfl rfl rfl rfl rfl rfl) rfl rfl ?_)
  (refine wlk ?_)
  (refine SqA.b1 (op_call none rfl rfl rfl (by kernel_rfl) (FnD.use (d1)) rfl rfl rfl rfl rfl rfl) rfl rfl ?_)
  (refine wlk ?_)
  (refine SqA.b1 (op_call none rfl rfl rfl (by kernel_rfl) (FnD.use (t2)) rfl rfl rfl rfl rfl rfl) rfl rfl ?_)
  (refine wlk ?_)
  (refine SqA.b1 (op_call none rfl rfl rfl (by kernel_rfl) (FnD.use (p4)) rfl rfl rfl rfl rfl rfl) rfl rfl ?_)
  (refine wlk ?_)
  (refine SqA.b1 (op_call none rfl rfl rfl (by kernel_rfl) (FnD.use (p5)) rfl rfl rfl rfl rfl rfl) rfl rfl ?_)
  (refine wlk ?_)
  (refine SqA.b1 (op_call none rfl rfl rfl (by kernel_rfl) (FnD.use (v1)) rfl rfl rfl rfl rfl rfl) rfl rfl ?_)
  (refine wlk ?_)
  (refine SqA.b1 (op_call none rfl rfl rfl (by kernel_rfl) (FnD.use (p6)) rfl rfl rfl rfl rfl rfl) rfl rfl ?_)
  (refine wlk ?_)
  (refine SqA.b1 (op_call none rfl rfl rfl (by kernel_rfl) (FnD.use (p7)) rfl rfl rfl rfl rfl rfl) rfl rfl ?_)
  (refine wlk ?_)
  (refine SqA.b1 (op_call none rfl rfl rfl (by kernel_rfl) (FnD.use (v2)) rfl rfl rfl rfl rfl rfl) rfl rfl ?_)
  (refine wlk ?_)
  (first | (refine finR (.tmp rfl .nil) rfl rfl ?_) | (refine finN (.tmp rfl .nil) rfl rfl ?_))
  rfl
set_option maxHeartbeats 16000000 in
set_option maxRecDepth 100000 in
theorem simpEnd_fn (s : List Int) (c : List Lt) (us : List (List Lt)) (hbl : us.length ≤ 5864062014634) : FnD Tryd.prog 9 [lA Int.d s, lA Lt.d c, lA Cl.d us] (.one (bA true)) := by
  refine Fn.of Tryd.func9 rfl Tryd.ntmps9 rfl (Nat.le_of_ble_eq_true rfl) ?_
  have hl1 : [c] ++ us = [c] ++ us := rfl
  have hr := rright s ([c] ++ us)
  cases hb : rightC s ([c] ++ us)
  · rw [hb] at hr
    (refine wlk ?_)
    (refine SqA.b1 (op_call none rfl rfl rfl (by kernel_rfl) (FnD.use (alive7)) rfl rfl rfl rfl rfl rfl) rfl rfl ?_)
    (refine wlk ?_)
    (refine SqA.b1 (op_bsOT (T := TB) (f := Cl.d) [c] rfl rfl rfl rfl rfl rfl rfl rfl rfl rfl rfl rfl) rfl rfl ?_)
    (refine wlk ?_)
    (refine SqA.b2 (Op1.frzIn (t := 16) rfl (op_call none rfl rfl rfl (by kernel_rfl) (FnD.use (hr)) rfl rfl rfl rfl rfl rfl)) rfl rfl ?_)
    (refine wlk ?_)
    (first | (refine finR (.tmp rfl .nil) rfl rfl ?_) | (refine finN (.tmp rfl .nil) rfl rfl ?_))
    rfl
  rw [hb] at hr
  obtain ⟨hs, h8, hall⟩ := right_of hb
  have hc : COk s c := hall c (by simp)
  have hun := runits us
  cases hu : us.all unit
  · rw [hu] at hun
    (refine wlk ?_)
    (refine SqA.b1 (op_call none rfl rfl rfl (by kernel_rfl) (FnD.use (alive7)) rfl rfl rfl rfl rfl rfl) rfl rfl ?_)
    (refine wlk ?_)
    (refine SqA.b1 (op_bsOT (T := TB) (f := Cl.d) [c] rfl rfl rfl rfl rfl rfl rfl rfl rfl rfl rfl rfl) rfl rfl ?_)
    (refine wlk ?_)
    (refine SqA.b2 (Op1.frzIn (t := 16) rfl (op_call none rfl rfl rfl (by kernel_rfl) (FnD.use (hr)) rfl rfl rfl rfl rfl rfl)) rfl rfl ?_)
    (refine wlk ?_)
    (refine SqA.b1 (op_call none rfl rfl rfl (by kernel_rfl) (FnD.use (hun)) rfl rfl rfl rfl rfl rfl) rfl rfl ?_)
    (refine wlk ?_)
    (first | (refine finR (.tmp rfl .nil) rfl rfl ?_) | (refine finN (.tmp rfl .nil) rfl rfl ?_))
    rfl
  rw [hu] at hun
  have hz : UsSz s us := us_sz (fun c h => hall c (by simp [h])) hu
  have w1 := pRewrite hz c hc
  have hcode := norm_code (each (dn us) c)
  cases hrw : rewr us c with
  | mk d e =>
    have hrw' : norm (each (dn us) c) = (d, e) := hrw
    rw [hrw'] at hcode
    rw [hrw] at w1
    dsimp only at hcode w1
    rcases hcode with rfl | ⟨rfl, rfl⟩ | ⟨rfl, rfl⟩
    · have hd := (rewr_kept hz.ok hc.wf hrw).cok
      have w2 := pRewrite hz d hd
      rw [rewr_end hz.ok hc.wf hrw] at w2
      have w3 := rsameClause d d
      rw [clSame_iff.2 rfl] at w3
      (refine wlk ?_)
      (refine SqA.b1 (op_call none rfl rfl rfl (by kernel_rfl) (FnD.use (alive7)) rfl rfl rfl rfl rfl rfl) rfl rfl ?_)
      (refine wlk ?_)
      (refine SqA.b1 (op_bsOT (T := TB) (f := Cl.d) [c] rfl rfl rfl rfl rfl rfl rfl rfl rfl rfl rfl rfl) rfl rfl ?_)
      (refine wlk ?_)
      (refine SqA.b2 (Op1.frzIn (t := 16) rfl (op_call none rfl rfl rfl (by kernel_rfl) (FnD.use (hr)) rfl rfl rfl rfl rfl rfl)) rfl rfl ?_)
      (refine wlk ?_)
      (refine SqA.b1 (op_call none rfl rfl rfl (by kernel_rfl) (FnD.use (hun)) rfl rfl rfl rfl rfl rfl) rfl rfl ?_)
      (refine wlk ?_)
      (refine SqA.b1 (op_call none rfl rfl rfl (by kernel_rfl) (FnD.use (w1)) rfl rfl rfl rfl rfl rfl) rfl rfl ?_)
      (refine wlk ?_)
      (refine SqA.b1 (op_call none rfl rfl rfl (by kernel_rfl) (FnD.use (w2)) rfl rfl rfl rfl rfl rfl) rfl rfl ?_)
      (refine wlk ?_)
      (refine SqA.b1 (op_call none rfl rfl rfl (by kernel_rfl) (FnD.use (w3)) rfl rfl rfl rfl rfl rfl) rfl rfl ?_)
      (refine wlk ?_)
      (first | (refine finR (.tmp rfl .nil) rfl rfl ?_) | (refine finN (.tmp rfl .nil) rfl rfl ?_))
      rfl
    · (refine wlk ?_)
      (refine SqA.b1 (op_call none rfl rfl rfl (by kernel_rfl) (FnD.use (alive7)) rfl rfl rfl rfl rfl rfl) rfl rfl ?_)
      (refine wlk ?_)
      (refine SqA.b1 (op_bsOT (T := TB) (f := Cl.d) [c] rfl rfl rfl rfl rfl rfl rfl rfl rfl rfl rfl rfl) rfl rfl ?_)
      (refine wlk ?_)
      (refine SqA.b2 (Op1.frzIn (t := 16) rfl (op_call none rfl rfl rfl (by kernel_rfl) (FnD.use (hr)) rfl rfl rfl rfl rfl rfl)) rfl rfl ?_)
      (refine wlk ?_)
      (refine SqA.b1 (op_call none rfl rfl rfl (by kernel_rfl) (FnD.use (hun)) rfl rfl rfl rfl rfl rfl) rfl rfl ?_)
      (refine wlk ?_)
      (refine SqA.b1 (op_call none rfl rfl rfl (by kernel_rfl) (FnD.use (w1)) rfl rfl rfl rfl rfl rfl) rfl rfl ?_)
      (refine wlk ?_)
      (first | (refine finR (.tmp rfl .nil) rfl rfl ?_) | (refine finN (.tmp rfl .nil) rfl rfl ?_))
      rfl
    · (refine wlk ?_)
      (refine SqA.b1 (op_call none rfl rfl rfl (by kernel_rfl) (FnD.use (alive7)) rfl rfl rfl rfl rfl rfl) rfl rfl ?_)
      (refine wlk ?_)
      (refine SqA.b1 (op_bsOT (T := TB) (f := Cl.d) [c] rfl rfl rfl rfl rfl rfl rfl rfl rfl rfl rfl rfl) rfl rfl ?_)
      (refine wlk ?_)
      (refine SqA.b2 (Op1.frzIn (t := 16) rfl (op_call none rfl rfl rfl (by kernel_rfl) (FnD.use (hr)) rfl rfl rfl rfl rfl rfl)) rfl rfl ?_)
      (refine wlk ?_)
      (refine SqA.b1 (op_call none rfl rfl rfl (by kernel_rfl) (FnD.use (hun)) rfl rfl rfl rfl rfl rfl) rfl rfl ?_)
      (refine wlk ?_)
      (refine SqA.b1 (op_call none rfl rfl rfl (by kernel_rfl) (FnD.use (w1)) rfl rfl rfl rfl rfl rfl) rfl rfl ?_)
      (refine wlk ?_)
      (first | (refine finR (.tmp rfl .nil) rfl rfl ?_) | (refine finN (.tmp rfl .nil) rfl rfl ?_))
      rfl
set_option maxHeartbeats 16000000 in
set_option maxRecDepth 100000 in
theorem simpCovers_fn (s : List Int) (c d f : List Lt) (m : Md) : FnD Tryd.prog 10 [lA Int.d s, lA Lt.d c, lA Lt.d d, lA Lt.d f, mdA m] (.one (bA true)) := by
  refine Fn.of Tryd.func10 rfl Tryd.ntmps10 rfl (Nat.le_of_ble_eq_true rfl) ?_
  have hr := rright s [c, d, f]
  cases hb : rightC s [c, d, f]
  · rw [hb] at hr
    (refine wlk ?_)
    (refine SqA.b1 (op_call none rfl rfl rfl (by kernel_rfl) (FnD.use (alive7)) rfl rfl rfl rfl rfl rfl) rfl rfl ?_)
    (refine wlk ?_)
    (refine SqA.b1 (op_bsT (T := TB) (f := Cl.d) [c, d, f] rfl rfl rfl rfl rfl rfl rfl rfl rfl rfl rfl) rfl rfl ?_)
    (refine wlk ?_)
    (refine SqA.b1 (op_call none rfl rfl rfl (by kernel_rfl) (FnD.use (hr)) rfl rfl rfl rfl rfl rfl) rfl rfl ?_)
    (refine wlk ?_)
    (refine SqA.b1 (op_bsT (T := TB) (f := Cl.d) [c, d, f] rfl rfl rfl rfl rfl rfl rfl rfl rfl rfl rfl) rfl rfl ?_)
    (refine wlk ?_)
    (refine SqA.b1 (op_call none rfl rfl rfl (by kernel_rfl) (FnD.use (hr)) rfl rfl rfl rfl rfl rfl) rfl rfl ?_)
    (refine wlk ?_)
    (first | (refine finR (.tmp rfl .nil) rfl rfl ?_) | (refine finN (.tmp rfl .nil) rfl rfl ?_))
    rfl
  rw [hb] at hr
  obtain ⟨hs, _, hall⟩ := right_of hb
  have m2 := rwrongModel s hs m
  by_cases hm : wrongModel s m = 0
  rotate_left
  · generalize wrongModel s m = e at *
    (refine wlk ?_)
    (refine SqA.b1 (op_call none rfl rfl rfl (by kernel_rfl) (FnD.use (alive7)) rfl rfl rfl rfl rfl rfl) rfl rfl ?_)
    (refine wlk ?_)
    (refine SqA.b1 (op_bsT (T := TB) (f := Cl.d) [c, d, f] rfl rfl rfl rfl rfl rfl rfl rfl rfl rfl rfl) rfl rfl ?_)
    (refine wlk ?_)
    (refine SqA.b1 (op_call none rfl rfl rfl (by kernel_rfl) (FnD.use (hr)) rfl rfl rfl rfl rfl rfl) rfl rfl ?_)
    (refine wlk ?_)
    (refine SqA.b1 (op_call none rfl rfl rfl (by kernel_rfl) (FnD.use (m2)) rfl rfl rfl rfl rfl rfl) rfl rfl ?_)
    (refine wlk ?_)
    (refine SqA.b1 (op_bsT (T := TB) (f := Cl.d) [c, d, f] rfl rfl rfl rfl rfl rfl rfl rfl rfl rfl rfl) rfl rfl ?_)
    (refine wlk ?_)
    (refine SqA.b1 (op_call none rfl rfl rfl (by kernel_rfl) (FnD.use (hr)) rfl rfl rfl rfl rfl rfl) rfl rfl ?_)
    (refine wlk ?_)
    (refine SqA.b1 (op_call none rfl rfl rfl (by kernel_rfl) (FnD.use (m2)) rfl rfl rfl rfl rfl rfl) rfl rfl ?_)
    (refine wlk ?_)
    (first | (refine finR (.tmp rfl .nil) rfl rfl ?_) | (refine finN (.tmp rfl .nil) rfl rfl ?_))
    rfl
  rw [hm] at m2
  have hmo := MOk.of hm
  have hc : COk s c := hall c (by simp)
  have hd : COk s d := hall d (by simp)
  have hf : COk s f := hall f (by simp)
  have hcl := hc.len
  have hdl := hd.len
  have v1 := pCovers c c hc.size (by omega)
  rw [covers_refl hc.wf.okv] at v1
  have v2 := pCovers c d hc.size (by omega)
  have v3 := pCovers d f hd.size (by omega)
  have v4 := pCovers c f hc.size (by omega)
  have h1 := rholds hmo hs c hc.wf (cok_sz hc)
  have h2 := rholds hmo hs d hd.wf (cok_sz hd)
  cases h12 : covers c d
  · rw [h12] at v2
    (refine wlk ?_)
    (refine SqA.b1 (op_call none rfl rfl rfl (by kernel_rfl) (FnD.use (alive7)) rfl rfl rfl rfl rfl rfl) rfl rfl ?_)
    (refine wlk ?_)
    (refine SqA.b1 (op_bsT (T := TB) (f := Cl.d) [c, d, f] rfl rfl rfl rfl rfl rfl rfl rfl rfl rfl rfl) rfl rfl ?_)
    (refine wlk ?_)
    (refine SqA.b1 (op_call none rfl rfl rfl (by kernel_rfl) (FnD.use (hr)) rfl rfl rfl rfl rfl rfl) rfl rfl ?_)
    (refine wlk ?_)
    (refine SqA.b1 (op_call none rfl rfl rfl (by kernel_rfl) (FnD.use (m2)) rfl rfl rfl rfl rfl rfl) rfl rfl ?_)
    (refine wlk ?_)
    (refine SqA.b1 (op_call none rfl rfl rfl (by kernel_rfl) (FnD.use (v1)) rfl rfl rfl rfl rfl rfl) rfl rfl ?_)
    (refine wlk ?_)
    (refine SqA.b1 (op_call none rfl rfl rfl (by kernel_rfl) (FnD.use (v2)) rfl rfl rfl rfl rfl rfl) rfl rfl ?_)
    (refine wlk ?_)
    (first | (refine finR (.tmp rfl .nil) rfl rfl ?_) | (refine finN (.tmp rfl .nil) rfl rfl ?_))
    rfl
  rw [h12] at v2
  have hval : holds m c = true → holds m d = true := fun h => (holds_iffF hmo hd.wf).2 (covers_valid hmo hc.wf.okv (fun x hx => ⟨Tm.wf_ar _ (hd.wf x hx).1, Tm.wf_ar _ (hd.wf x hx).2⟩) h12 ((holds_iffF hmo hc.wf).1 h))
  have htr : covers d f = true → covers c f = true := fun h => covers_trans hc.wf.okv hd.wf.okv h12 h
  cases e1 : holds m c
  · rw [e1] at h1
    cases e3 : covers d f
    · rw [e3] at v3
      (refine wlk ?_)
      (refine SqA.b1 (op_call none rfl rfl rfl (by kernel_rfl) (FnD.use (alive7)) rfl rfl rfl rfl rfl rfl) rfl rfl ?_)
      (refine wlk ?_)
      (refine SqA.b1 (op_bsT (T := TB) (f := Cl.d) [c, d, f] rfl rfl rfl rfl rfl rfl rfl rfl rfl rfl rfl) rfl rfl ?_)
      (refine wlk ?_)
      (refine SqA.b1 (op_call none rfl rfl rfl (by kernel_rfl) (FnD.use (hr)) rfl rfl rfl rfl rfl rfl) rfl rfl ?_)
      (refine wlk ?_)
      (refine SqA.b1 (op_call none rfl rfl rfl (by kernel_rfl) (FnD.use (m2)) rfl rfl rfl rfl rfl rfl) rfl rfl ?_)
      (refine wlk ?_)
      (refine SqA.b1 (op_call none rfl rfl rfl (by kernel_rfl) (FnD.use (v1)) rfl rfl rfl rfl rfl rfl) rfl rfl ?_)
      (refine wlk ?_)
      (refine SqA.b1 (op_call none rfl rfl rfl (by kernel_rfl) (FnD.use (v2)) rfl rfl rfl rfl rfl rfl) rfl rfl ?_)
      (refine wlk ?_)
      (refine SqA.b1 (op_call none rfl rfl rfl (by kernel_rfl) (FnD.use (h1)) rfl rfl rfl rfl rfl rfl) rfl rfl ?_)
      (refine wlk ?_)
      (refine SqA.b1 (op_call none rfl rfl rfl (by kernel_rfl) (FnD.use (v3)) rfl rfl rfl rfl rfl rfl) rfl rfl ?_)
      (refine wlk ?_)
      (first | (refine finR (.tmp rfl .nil) rfl rfl ?_) | (refine finN (.tmp rfl .nil) rfl rfl ?_))
      rfl
    · rw [e3] at v3
      rw [htr e3] at v4
      (refine wlk ?_)
      (refine SqA.b1 (op_call none rfl rfl rfl (by kernel_rfl) (FnD.use (alive7)) rfl rfl rfl rfl rfl rfl) rfl rfl ?_)
      (refine wlk ?_)
      (refine SqA.b1 (op_bsT (T := TB) (f := Cl.d) [c, d, f] rfl rfl rfl rfl rfl rfl rfl rfl rfl rfl rfl) rfl rfl ?_)
      (refine wlk ?_)
      (refine SqA.b1 (op_call none rfl rfl rfl (by kernel_rfl) (FnD.use (hr)) rfl rfl rfl rfl rfl rfl) rfl rfl ?_)
      (refine wlk ?_)
      (refine SqA.b1 (op_call none rfl rfl rfl (by kernel_rfl) (FnD.use (m2)) rfl rfl rfl rfl rfl rfl) rfl rfl ?_)
      (refine wlk ?_)
      (refine SqA.b1 (op_call none rfl rfl rfl (by kernel_rfl) (FnD.use (v1)) rfl rfl rfl rfl rfl rfl) rfl rfl ?_)
      (refine wlk ?_)
      (refine SqA.b1 (op_call none rfl rfl rfl (by kernel_rfl) (FnD.use (v2)) rfl rfl rfl rfl rfl rfl) rfl rfl ?_)
      (refine wlk ?_)
      (refine SqA.b1 (op_call none rfl rfl rfl (by kernel_rfl) (FnD.use (h1)) rfl rfl rfl rfl rfl rfl) rfl rfl ?_)
      (refine wlk ?_)
      (refine SqA.b1 (op_call none rfl rfl rfl (by kernel_rfl) (FnD.use (v3)) rfl rfl rfl rfl rfl rfl) rfl rfl ?_)
      (refine wlk ?_)
      (refine SqA.b1 (op_call none rfl rfl rfl (by kernel_rfl) (FnD.use (v4)) rfl rfl rfl rfl rfl rfl) rfl rfl ?_)
      (refine wlk ?_)
      (first | (refine finR (.tmp rfl .nil) rfl rfl ?_) | (refine finN (.tmp rfl .nil) rfl rfl ?_))
      rfl
  · rw [e1] at h1
    rw [hval e1] at h2
    cases e3 : covers d f
    · rw [e3] at v3
      (refine wlk ?_)
      (refine SqA.b1 (op_call none rfl rfl rfl (by kernel_rfl) (FnD.use (alive7)) rfl rfl rfl rfl rfl rfl) rfl rfl ?_)
      (refine wlk ?_)
      (refine SqA.b1 (op_bsT (T := TB) (f := Cl.d) [c, d, f] rfl rfl rfl rfl rfl rfl rfl rfl rfl rfl rfl) rfl rfl ?_)
      (refine wlk ?_)
      (refine SqA.b1 (op_call none rfl rfl rfl (by kernel_rfl) (FnD.use (hr)) rfl rfl rfl rfl rfl rfl) rfl rfl ?_)
      (refine wlk ?_)
      (refine SqA.b1 (op_call none rfl rfl rfl (by kernel_rfl) (FnD.use (m2)) rfl rfl rfl rfl rfl rfl) rfl rfl ?_)
      (refine wlk ?_)
      (refine SqA.b1 (op_call none rfl rfl rfl (by kernel_rfl) (FnD.use (v1)) rfl rfl rfl rfl rfl rfl) rfl rfl ?_)
      (refine wlk ?_)
      (refine SqA.b1 (op_call none rfl rfl rfl (by kernel_rfl) (FnD.use (v2)) rfl rfl rfl rfl rfl rfl) rfl rfl ?_)
      (refine wlk ?_)
      (refine SqA.b1 (op_call none rfl rfl rfl (by kernel_rfl) (FnD.use (h1)) rfl rfl rfl rfl rfl rfl) rfl rfl ?_)
      (refine wlk ?_)
      (refine SqA.b1 (op_call none rfl rfl rfl (by kernel_rfl) (FnD.use (h2)) rfl rfl rfl rfl rfl rfl) rfl rfl ?_)
      (refine wlk ?_)
      (refine SqA.b1 (op_call none rfl rfl rfl (by kernel_rfl) (FnD.use (v3)) rfl rfl rfl rfl rfl rfl) rfl rfl ?_)
      (refine wlk ?_)
      (first | (refine finR (.tmp rfl .nil) rfl rfl ?_) | (refine finN (.tmp rfl .nil) rfl rfl ?_))
      rfl
    · rw [e3] at v3
      rw [htr e3] at v4
      (refine wlk ?_)
      (refine SqA.b1 (op_call none rfl rfl rfl (by kernel_rfl) (FnD.use (alive7)) rfl rfl rfl rfl rfl rfl) rfl rfl ?_)
      (refine wlk ?_)
      (refine SqA.b1 (op_bsT (T := TB) (f := Cl.d) [c, d, f] rfl rfl rfl rfl rfl rfl rfl rfl rfl rfl rfl) rfl rfl ?_)
      (refine wlk ?_)
      (refine SqA.b1 (op_call none rfl rfl rfl (by kernel_rfl) (FnD.use (hr)) rfl rfl rfl rfl rfl rfl) rfl rfl ?_)
      (refine wlk ?_)
      (refine SqA.b1 (op_call none rfl rfl rfl (by kernel_rfl) (FnD.use (m2)) rfl rfl rfl rfl rfl rfl) rfl rfl ?_)
      (refine wlk ?_)
      (refine SqA.b1 (op_call none rfl rfl rfl (by kernel_rfl) (FnD.use (v1)) rfl rfl rfl rfl rfl rfl) rfl rfl ?_)
      (refine wlk ?_)
      (refine SqA.b1 (op_call none rfl rfl rfl (by kernel_rfl) (FnD.use (v2)) rfl rfl rfl rfl rfl rfl) rfl rfl ?_)
      (refine wlk ?_)
      (refine SqA.b1 (op_call none rfl rfl rfl (by kernel_rfl) (FnD.use (h1)) rfl rfl rfl rfl rfl rfl) rfl rfl ?_)
      (refine wlk ?_)
      (refine SqA.b1 (op_call none rfl rfl rfl (by kernel_rfl) (FnD.use (h2)) rfl rfl rfl rfl rfl rfl) rfl rfl ?_)
      (refine wlk ?_)
      (refine SqA.b1 (op_call none rfl rfl rfl (by kernel_rfl) (FnD.use (v3)) rfl rfl rfl rfl rfl rfl) rfl rfl ?_)
      (refine wlk ?_)
      (refine SqA.b1 (op_call none rfl rfl rfl (by kernel_rfl) (FnD.use (v4)) rfl rfl rfl rfl rfl rfl) rfl rfl ?_)
      (refine wlk ?_)
      (first | (refine finR (.tmp rfl .nil) rfl rfl ?_) | (refine finN (.tmp rfl .nil) rfl rfl ?_))
      rfl
set_option maxHeartbeats 16000000 in
set_option maxRecDepth 100000 in
theorem simpSame_fn (s : List Int) (c : List Lt) (us : List (List Lt)) (m : Md) (hbl : us.length ≤ 5864062014634) : FnD Tryd.prog 8 [lA Int.d s, lA Lt.d c, lA Cl.d us, mdA m] (.one (bA true)) := by
  refine Fn.of Tryd.func8 rfl Tryd.ntmps8 rfl (Nat.le_of_ble_eq_true rfl) ?_
  have hl1 : [c] ++ us = [c] ++ us := rfl
  have hr := rright s ([c] ++ us)
  cases hb : rightC s ([c] ++ us)
  · rw [hb] at hr
    (refine wlk ?_)
    (refine SqA.b1 (op_call none rfl rfl rfl (by kernel_rfl) (FnD.use (alive7)) rfl rfl rfl rfl rfl rfl) rfl rfl ?_)
    (refine wlk ?_)
    (refine SqA.b1 (op_bsOT (T := TB) (f := Cl.d) [c] rfl rfl rfl rfl rfl rfl rfl rfl rfl rfl rfl rfl) rfl rfl ?_)
    (refine wlk ?_)
    (refine SqA.b2 (Op1.frzIn (t := 20) rfl (op_call none rfl rfl rfl (by kernel_rfl) (FnD.use (hr)) rfl rfl rfl rfl rfl rfl)) rfl rfl ?_)
    (refine wlk ?_)
    (first | (refine finR (.tmp rfl .nil) rfl rfl ?_) | (refine finN (.tmp rfl .nil) rfl rfl ?_))
    rfl
  rw [hb] at hr
  obtain ⟨hs, h8, hall⟩ := right_of hb
  have hc : COk s c := hall c (by simp)
  have hcl := hc.len
  have hun := runits us
  cases hu : us.all unit
  · rw [hu] at hun
    (refine wlk ?_)
    (refine SqA.b1 (op_call none rfl rfl rfl (by kernel_rfl) (FnD.use (alive7)) rfl rfl rfl rfl rfl rfl) rfl rfl ?_)
    (refine wlk ?_)
    (refine SqA.b1 (op_bsOT (T := TB) (f := Cl.d) [c] rfl rfl rfl rfl rfl rfl rfl rfl rfl rfl rfl rfl) rfl rfl ?_)
    (refine wlk ?_)
    (refine SqA.b2 (Op1.frzIn (t := 20) rfl (op_call none rfl rfl rfl (by kernel_rfl) (FnD.use (hr)) rfl rfl rfl rfl rfl rfl)) rfl rfl ?_)
    (refine wlk ?_)
    (refine SqA.b1 (op_call none rfl rfl rfl (by kernel_rfl) (FnD.use (hun)) rfl rfl rfl rfl rfl rfl) rfl rfl ?_)
    (refine wlk ?_)
    (first | (refine finR (.tmp rfl .nil) rfl rfl ?_) | (refine finN (.tmp rfl .nil) rfl rfl ?_))
    rfl
  rw [hu] at hun
  have hz : UsSz s us := us_sz (fun c h => hall c (by simp [h])) hu
  have m2 := rwrongModel s hs m
  by_cases hm : wrongModel s m = 0
  rotate_left
  · generalize wrongModel s m = e at *
    (refine wlk ?_)
    (refine SqA.b1 (op_call none rfl rfl rfl (by kernel_rfl) (FnD.use (alive7)) rfl rfl rfl rfl rfl rfl) rfl rfl ?_)
    (refine wlk ?_)
    (refine SqA.b1 (op_bsOT (T := TB) (f := Cl.d) [c] rfl rfl rfl rfl rfl rfl rfl rfl rfl rfl rfl rfl) rfl rfl ?_)
    (refine wlk ?_)
    (refine SqA.b2 (Op1.frzIn (t := 20) rfl (op_call none rfl rfl rfl (by kernel_rfl) (FnD.use (hr)) rfl rfl rfl rfl rfl rfl)) rfl rfl ?_)
    (refine wlk ?_)
    (refine SqA.b1 (op_call none rfl rfl rfl (by kernel_rfl) (FnD.use (hun)) rfl rfl rfl rfl rfl rfl) rfl rfl ?_)
    (refine wlk ?_)
    (refine SqA.b1 (op_call none rfl rfl rfl (by kernel_rfl) (FnD.use (m2)) rfl rfl rfl rfl rfl rfl) rfl rfl ?_)
    (refine wlk ?_)
    (first | (refine finR (.tmp rfl .nil) rfl rfl ?_) | (refine finN (.tmp rfl .nil) rfl rfl ?_))
    rfl
  rw [hm] at m2
  have hmo := MOk.of hm
  (refine wlk ?_)
  (refine SqA.b1 (op_call none rfl rfl rfl (by kernel_rfl) (FnD.use (alive7)) rfl rfl rfl rfl rfl rfl) rfl rfl ?_)
  (refine wlk ?_)
  (refine SqA.b1 (op_bsOT (T := TB) (f := Cl.d) [c] rfl rfl rfl rfl rfl rfl rfl rfl rfl rfl rfl rfl) rfl rfl ?_)
  (refine wlk ?_)
  (refine SqA.b2 (Op1.frzIn (t := 20) rfl (op_call none rfl rfl rfl (by kernel_rfl) (FnD.use (hr)) rfl rfl rfl rfl rfl rfl)) rfl rfl ?_)
  (refine wlk ?_)
  (refine SqA.b1 (op_call none rfl rfl rfl (by kernel_rfl) (FnD.use (hun)) rfl rfl rfl rfl rfl rfl) rfl rfl ?_)
  (refine wlk ?_)
  (refine SqA.b1 (op_call none rfl rfl rfl (by kernel_rfl) (FnD.use (m2)) rfl rfl rfl rfl rfl rfl) rfl rfl ?_)
  (refine wlk ?_)
  refine dwp_loop (fun k : Nat => [(.t 1, some (.one (lA Lt.d c))), (.t 2, some (.one (lA Cl.d us))), (.t 7, some (.one (.c (.ptr 7 0)))), (.b 7, some (.box (mdA m).cells)), (.t 34, some (.one (lA Lt.d c))), (.t 35, some (.one (iA c.length))), (.t 36, some (.one (iA k)))])
    (fun k => k ≤ c.length) (fun k => c.length - k) 0 (by omega) fgs ?_
  intro k hk
  by_cases hkl : k < c.length
  · obtain ⟨⟨ng, xl, xr⟩, hx⟩ := get_of_lt hkl
    have hxw := hc.wf _ (List.mem_of_getElem? hx)
    have hxz := hc.size _ (List.mem_of_getElem? hx)
    dsimp only at hxw hxz
    have hd := dn_downs hz.ok (Tm.wf_ar _ hxw.1)
    have hsz := (dn_wf hz.ok hxw.1).2
    have d1 := pDown hz xl (Tm.wf_ar _ hxw.1) hxz.1
    have d3 := rsame (dn us xl) xl
    have z1 := rsize (dn us xl)
    have z2 := rsize xl
    rw [w64 (n := (dn us xl).size) (by omega)] at z1
    rw [w64 (n := xl.size) (by omega)] at z2
    have ha := rabove xl (dn us xl) (by omega) (by omega)
    rcases (hd.keep hz.ok (Tm.wf_ar _ hxw.1)).2 with he | hab
    · rw [(Tm.same_iff _ _).2 he] at d3
      (refine wlk ?_)
      (refine SqA.b1 (op_call none rfl rfl rfl (by kernel_rfl) (FnD.use (d1)) rfl rfl rfl rfl rfl rfl) rfl rfl ?_)
      (refine wlk ?_)
      (refine SqA.b1 (op_call none rfl rfl rfl (by kernel_rfl) (FnD.use (d3)) rfl rfl rfl rfl rfl rfl) rfl rfl ?_)
      (refine wlk ?_)
      (refine SqA.b1 (op_call none rfl rfl rfl (by kernel_rfl) (FnD.use (z1)) rfl rfl rfl rfl rfl rfl) rfl rfl ?_)
      (refine wlk ?_)
      (refine SqA.b1 (op_call none rfl rfl rfl (by kernel_rfl) (FnD.use (z2)) rfl rfl rfl rfl rfl rfl) rfl rfl ?_)
      (refine wlk ?_)
      exact ⟨k + 1, by omega, fgs, by omega⟩
    · rw [hab] at ha
      cases hsm : (dn us xl).same xl
      · rw [hsm] at d3
        (refine wlk ?_)
        (refine SqA.b1 (op_call none rfl rfl rfl (by kernel_rfl) (FnD.use (d1)) rfl rfl rfl rfl rfl rfl) rfl rfl ?_)
        (refine wlk ?_)
        (refine SqA.b1 (op_call none rfl rfl rfl (by kernel_rfl) (FnD.use (d3)) rfl rfl rfl rfl rfl rfl) rfl rfl ?_)
        (refine wlk ?_)
        (refine SqA.b1 (op_call none rfl rfl rfl (by kernel_rfl) (FnD.use (ha)) rfl rfl rfl rfl rfl rfl) rfl rfl ?_)
        (refine wlk ?_)
        (refine SqA.b1 (op_call none rfl rfl rfl (by kernel_rfl) (FnD.use (z1)) rfl rfl rfl rfl rfl rfl) rfl rfl ?_)
        (refine wlk ?_)
        (refine SqA.b1 (op_call none rfl rfl rfl (by kernel_rfl) (FnD.use (z2)) rfl rfl rfl rfl rfl rfl) rfl rfl ?_)
        (refine wlk ?_)
        exact ⟨k + 1, by omega, fgs, by omega⟩
      · rw [hsm] at d3
        (refine wlk ?_)
        (refine SqA.b1 (op_call none rfl rfl rfl (by kernel_rfl) (FnD.use (d1)) rfl rfl rfl rfl rfl rfl) rfl rfl ?_)
        (refine wlk ?_)
        (refine SqA.b1 (op_call none rfl rfl rfl (by kernel_rfl) (FnD.use (d3)) rfl rfl rfl rfl rfl rfl) rfl rfl ?_)
        (refine wlk ?_)
        (refine SqA.b1 (op_call none rfl rfl rfl (by kernel_rfl) (FnD.use (z1)) rfl rfl rfl rfl rfl rfl) rfl rfl ?_)
        (refine wlk ?_)
        (refine SqA.b1 (op_call none rfl rfl rfl (by kernel_rfl) (FnD.use (z2)) rfl rfl rfl rfl rfl rfl) rfl rfl ?_)
        (refine wlk ?_)
        exact ⟨k + 1, by omega, fgs, by omega⟩
  · have : k = c.length := by omega
    subst this
    have hmd := rmodels hmo hs us (fun u hu => ⟨hz.ok.wf u hu, cok_sz (hall u (by simp [hu]))⟩) (by simp at h8; omega)
    cases hall2 : us.all (holds m)
    · rw [hall2] at hmd
      (refine wlk ?_)
      (refine SqA.b1 (op_call none rfl rfl rfl (by kernel_rfl) (FnD.use (hmd)) rfl rfl rfl rfl rfl rfl) rfl rfl ?_)
      (refine wlk ?_)
      (first | (refine finR (.tmp rfl .nil) rfl rfl ?_) | (refine finN (.tmp rfl .nil) rfl rfl ?_))
      rfl
    rw [hall2] at hmd
    have hv : ∀ u ∈ us, validF m u := fun u hu => (holds_iffF hmo (hz.ok.wf u hu)).1 (List.all_eq_true.1 hall2 u hu)
    have w1 := pRewrite hz c hc
    have hcode := norm_code (each (dn us) c)
    have hfit := rewr_fits hz.ok hc.wf hc.len hc.size
    have h1 := rholds hmo hs c hc.wf (cok_sz hc)
    cases hrw : rewr us c with
    | mk d e =>
      have hrw' : norm (each (dn us) c) = (d, e) := hrw
      rw [hrw'] at hcode
      rw [hrw] at w1 hfit
      dsimp only at hcode w1 hfit
      rcases hcode with rfl | ⟨rfl, rfl⟩ | ⟨rfl, rfl⟩
      · have hd := (rewr_kept hz.ok hc.wf hrw).cok
        have h2 := rholds hmo hs d hd.wf (cok_sz hd)
        have heq : holds m d = holds m c := by
          rw [Bool.eq_iff_iff, holds_iffF hmo hd.wf, holds_iffF hmo hc.wf]
          exact (rewr_valid hz.ok hmo hv hc.wf hrw).symm
        rw [heq] at h2
        cases hh : holds m c
        · rw [hh] at h1 h2
          (refine wlk ?_)
          (refine SqA.b1 (op_call none rfl rfl rfl (by kernel_rfl) (FnD.use (hmd)) rfl rfl rfl rfl rfl rfl) rfl rfl ?_)
          (refine wlk ?_)
          (refine SqA.b1 (op_call none rfl rfl rfl (by kernel_rfl) (FnD.use (w1)) rfl rfl rfl rfl rfl rfl) rfl rfl ?_)
          (refine wlk ?_)
          (refine SqA.b1 (op_call none rfl rfl rfl (by kernel_rfl) (FnD.use (h1)) rfl rfl rfl rfl rfl rfl) rfl rfl ?_)
          (refine wlk ?_)
          (refine SqA.b1 (op_call none rfl rfl rfl (by kernel_rfl) (FnD.use (h2)) rfl rfl rfl rfl rfl rfl) rfl rfl ?_)
          (refine wlk ?_)
          (first | (refine finR (.tmp rfl .nil) rfl rfl ?_) | (refine finN (.tmp rfl .nil) rfl rfl ?_))
          rfl
        · rw [hh] at h1 h2
          (refine wlk ?_)
          (refine SqA.b1 (op_call none rfl rfl rfl (by kernel_rfl) (FnD.use (hmd)) rfl rfl rfl rfl rfl rfl) rfl rfl ?_)
          (refine wlk ?_)
          (refine SqA.b1 (op_call none rfl rfl rfl (by kernel_rfl) (FnD.use (w1)) rfl rfl rfl rfl rfl rfl) rfl rfl ?_)
          (refine wlk ?_)
          (refine SqA.b1 (op_call none rfl rfl rfl (by kernel_rfl) (FnD.use (h1)) rfl rfl rfl rfl rfl rfl) rfl rfl ?_)
          (refine wlk ?_)
          (refine SqA.b1 (op_call none rfl rfl rfl (by kernel_rfl) (FnD.use (h2)) rfl rfl rfl rfl rfl rfl) rfl rfl ?_)
          (refine wlk ?_)
          (first | (refine finR (.tmp rfl .nil) rfl rfl ?_) | (refine finN (.tmp rfl .nil) rfl rfl ?_))
          rfl
      · exact absurd rfl hfit
      · rw [(holds_iffF hmo hc.wf).2 (rewr_none hz.ok hmo hv hc.wf hrw)] at h1
        (refine wlk ?_)
        (refine SqA.b1 (op_call none rfl rfl rfl (by kernel_rfl) (FnD.use (hmd)) rfl rfl rfl rfl rfl rfl) rfl rfl ?_)
        (refine wlk ?_)
        (refine SqA.b1 (op_call none rfl rfl rfl (by kernel_rfl) (FnD.use (w1)) rfl rfl rfl rfl rfl rfl) rfl rfl ?_)
        (refine wlk ?_)
        (refine SqA.b1 (op_call none rfl rfl rfl (by kernel_rfl) (FnD.use (h1)) rfl rfl rfl rfl rfl rfl) rfl rfl ?_)
        (refine wlk ?_)
        (first | (refine finR (.tmp rfl .nil) rfl rfl ?_) | (refine finN (.tmp rfl .nil) rfl rfl ?_))
        rfl
end Go.Proofs.YtmanhdacnkpclaaDoor
