/- ModelTells, ModelEither, ModelBound: walked. -/
import Derived.Test.YtmanhdacnkpclaaH4
import Derived.Test.YtmanhdacnkpclaaCn
import Derived.Test.YtmanhdacnkpclaaD6
import Derived.Test.YtmanhdacnkpclaaBb
namespace Go.Proofs.Ytmanhdacnkpclaa
set_option linter.all false
open Go.RowKit

theorem FnD.nilS {P : Program} {f : FuncId} {args : List A1} {x : X} {cs : List CV} (h : FnD P f args x) (i : Nat) (hi : args[i]? = some (.agg (cs.map CV.nilArr))) : FnD P f (args.set i (.agg cs)) x := fun who w vs h1 h2 h3 h4 h5 h6 => by
  refine h who w vs h1 h2 h3 (by simpa using h4) (fun j A v hA hv => ?_) h6
  rcases Classical.em (i = j) with rfl | hne
  · rw [hi] at hA; injection hA with hA; subst hA
    have hlt : i < args.length := (List.getElem?_eq_some_iff.1 hi).1
    obtain ⟨us, e, hl, hc⟩ := h5 i _ v (by rw [List.getElem?_set_self hlt]) hv
    refine ⟨us, e, by simpa using hl, fun q c u hq hu => ?_⟩
    rw [List.getElem?_map, Option.map_eq_some_iff] at hq
    obtain ⟨c0, hc0, rfl⟩ := hq
    exact ⟨(hc q c0 u hc0 hu).1.nilArr, (hc q c0 u hc0 hu).2⟩
  · exact h5 j A v (by rw [List.getElem?_set_ne hne]; exact hA) hv
theorem cok_sz {s : List Int} {c : List Lt} (h : COk s c) : clSz c := fun l hl => by have := h.size l hl; omega
theorem cparse_at {s : List Int} {l : List UInt8} {c : List Lt} (h : clauseParse s l = (c, 0)) (hl : l.length ≤ 1000) : FnD Try.prog 93 [lA Int.d s, sA l] (.tup [lA Lt.d c, iA 0]) := by
  have := rclauseParse s l (by omega)
  rw [h] at this; exact this
abbrev cl51 : List Lt := [⟨false, ⟨false, 1, [⟨false, 1, [⟨true, 0, []⟩]⟩]⟩, ⟨true, 0, []⟩⟩]
abbrev cl52 : List Lt := [⟨false, ⟨false, 1, [⟨true, 0, []⟩]⟩, ⟨false, 0, []⟩⟩]
abbrev md5 : Md := ⟨2, [[1], [1, 0]]⟩
theorem cok51 : COk [0, 1] cl51 := cok_of (by kernel_rfl) (by kernel_rfl)
theorem cok52 : COk [0, 1] cl52 := cok_of (by kernel_rfl) (by kernel_rfl)
set_option maxHeartbeats 16000000 in
set_option maxRecDepth 100000 in
theorem alive5 : FnD Try.prog 50 [] (.one (bA true)) := by
  have hm : MOk [0, 1] md5 := .of (by kernel_rfl)
  have hs : wrongSig [0, 1] = 0 := by kernel_rfl
  have he0 : EOk md5 [0, 0, 0, 0, 0] := ⟨rfl, by decide⟩
  have he1 : EOk md5 [1, 0, 0, 0, 0] := ⟨rfl, by decide⟩
  have p1 := cparse_at (s := [0, 1]) (l := [98, 40, 98, 40, 88, 48, 41, 41, 61, 88, 48]) (c := cl51) (by kernel_rfl) (by decide)
  have p2 := cparse_at (s := [0, 1]) (l := [98, 40, 88, 48, 41, 61, 97]) (c := cl52) (by kernel_rfl) (by decide)
  have w1 := pwrongModel [0, 1] hs md5
  rw [show wrongModel [0, 1] md5 = 0 by kernel_rfl] at w1
  have w2 : FnD Try.prog 42 [lA Int.d [0, 1], .agg [.val (.int .i64 0), .val (.slice none 0 0)]] (.one (iA 5)) := by
    have := pwrongModel [0, 1] hs ⟨0, []⟩
    rw [show wrongModel [0, 1] ⟨0, []⟩ = 5 by kernel_rfl] at this
    exact FnD.nilS (cs := [.val (.int .i64 0), .val (.slice none 0 0)]) this 1 rfl
  have v1 := pvalue hm he0 hs ⟨false, 1, [⟨false, 1, [⟨true, 0, []⟩]⟩]⟩ (by kernel_rfl)
  rw [show value md5 [0, 0, 0, 0, 0] ⟨false, 1, [⟨false, 1, [⟨true, 0, []⟩]⟩]⟩ = 0 by kernel_rfl] at v1
  have s1 := psome hm he0 hs cl52 cok52.wf
  rw [show some_ md5 [0, 0, 0, 0, 0] cl52 = true by kernel_rfl] at s1
  have s2 := psome hm he1 hs cl52 cok52.wf
  rw [show some_ md5 [1, 0, 0, 0, 0] cl52 = false by kernel_rfl] at s2
  have h1 := pholds hm hs cl51 cok51.wf (cok_sz cok51)
  rw [show holds md5 cl51 = true by kernel_rfl] at h1
  have h2 := pholds hm hs cl52 cok52.wf (cok_sz cok52)
  rw [show holds md5 cl52 = false by kernel_rfl] at h2
  have g0 : cl51[0]? = some ⟨false, ⟨false, 1, [⟨false, 1, [⟨true, 0, []⟩]⟩]⟩, ⟨true, 0, []⟩⟩ := rfl
  refine Fn.of Try.func50 rfl Try.ntmps50 rfl (Nat.le_of_ble_eq_true rfl) ?_
  (refine wlk ?_)
  (refine SqA.b1 (op_bsT (T := TB) (f := Int.d) [0, 1] rfl rfl rfl rfl rfl rfl rfl rfl rfl rfl rfl) rfl rfl ?_)
  (refine wlk ?_)
  (refine SqA.b1 (op_bsT (T := TB) (f := Int.d) [1] rfl rfl rfl rfl rfl rfl rfl rfl rfl rfl rfl) rfl rfl ?_)
  (refine wlk ?_)
  (refine SqA.b1 (op_bsT (T := TB) (f := Int.d) [1, 0] rfl rfl rfl rfl rfl rfl rfl rfl rfl rfl rfl) rfl rfl ?_)
  (refine wlk ?_)
  (refine SqA.b1 (op_bsT (T := TB) (f := Is.d) [[1], [1, 0]] rfl rfl rfl rfl rfl rfl rfl rfl rfl rfl rfl) rfl rfl ?_)
  (refine wlk ?_)
  (refine SqA.b1 (op_call none rfl rfl rfl (by kernel_rfl) (FnD.use (p1)) rfl rfl rfl rfl rfl rfl) rfl rfl ?_)
  (refine wlk ?_)
  (refine SqA.b1 (op_call none rfl rfl rfl (by kernel_rfl) (FnD.use (p2)) rfl rfl rfl rfl rfl rfl) rfl rfl ?_)
  (refine wlk ?_)
  (refine SqA.b1 (op_call none rfl rfl rfl (by kernel_rfl) (FnD.use (w1)) rfl rfl rfl rfl rfl rfl) rfl rfl ?_)
  (refine wlk ?_)
  (refine SqA.b1 (op_call none rfl rfl rfl (by kernel_rfl) (FnD.use (w2)) rfl rfl rfl rfl rfl rfl) rfl rfl ?_)
  (refine wlk ?_)
  (refine SqA.b1 (op_bsT (T := TB) (f := Int.d) [0, 0, 0, 0, 0] rfl rfl rfl rfl rfl rfl rfl rfl rfl rfl rfl) rfl rfl ?_)
  (refine wlk ?_)
  (refine SqA.b1 (op_call none rfl rfl rfl (by kernel_rfl) (FnD.use (v1)) rfl rfl rfl rfl rfl rfl) rfl rfl ?_)
  (refine wlk ?_)
  (refine SqA.b1 (op_bsT (T := TB) (f := Int.d) [0, 0, 0, 0, 0] rfl rfl rfl rfl rfl rfl rfl rfl rfl rfl rfl) rfl rfl ?_)
  (refine wlk ?_)
  (refine SqA.b1 (op_call none rfl rfl rfl (by kernel_rfl) (FnD.use (s1)) rfl rfl rfl rfl rfl rfl) rfl rfl ?_)
  (refine wlk ?_)
  (refine SqA.b1 (op_bsT (T := TB) (f := Int.d) [1, 0, 0, 0, 0] rfl rfl rfl rfl rfl rfl rfl rfl rfl rfl rfl) rfl rfl ?_)
  (refine wlk ?_)
  (refine SqA.b1 (op_call none rfl rfl rfl (by kernel_rfl) (FnD.use (s2)) rfl rfl rfl rfl rfl rfl) rfl rfl ?_)
  (refine wlk ?_)
  (refine SqA.b1 (op_call none rfl rfl rfl (by kernel_rfl) (FnD.use (h1)) rfl rfl rfl rfl rfl rfl) rfl rfl ?_)
  (refine wlk ?_)
  (refine SqA.b1 (op_call none rfl rfl rfl (by kernel_rfl) (FnD.use (h2)) rfl rfl rfl rfl rfl rfl) rfl rfl ?_)
  (refine wlk ?_)
  (first | (refine finR (.tmp rfl .nil) rfl rfl ?_) | (refine finN (.tmp rfl .nil) rfl rfl ?_))
  rfl

set_option maxHeartbeats 16000000 in
set_option maxRecDepth 100000 in
theorem modelTells_fn (s : List Int) (m : Md) (c : List Lt) (env : List Int) : FnD Try.prog 8 [lA Int.d s, mdA m, lA Lt.d c, lA Int.d env] (.one (bA true)) := by
  refine Fn.of Try.func8 rfl Try.ntmps8 rfl (Nat.le_of_ble_eq_true rfl) ?_
  have hcs := rwrongSig s
  by_cases hs : wrongSig s = 0
  rotate_left
  · (refine wlk ?_)
    (refine SqA.b1 (op_call none rfl rfl rfl (by kernel_rfl) (FnD.use (hcs)) rfl rfl rfl rfl rfl rfl) rfl rfl ?_)
    (refine wlk ?_)
    (first | (refine finR (.tmp rfl .nil) rfl rfl ?_) | (refine finN (.tmp rfl .nil) rfl rfl ?_))
    rfl
  have m1 := pwrongModel s hs m
  have m2 := rwrongModel s hs m
  have hcw := rwrongCl s c
  rw [hs] at hcs
  by_cases hm : wrongModel s m = 0
  rotate_left
  · generalize wrongModel s m = e at *
    (refine wlk ?_)
    (refine SqA.b1 (op_call none rfl rfl rfl (by kernel_rfl) (FnD.use (hcs)) rfl rfl rfl rfl rfl rfl) rfl rfl ?_)
    (refine wlk ?_)
    (refine SqA.b1 (op_call none rfl rfl rfl (by kernel_rfl) (FnD.use (m1)) rfl rfl rfl rfl rfl rfl) rfl rfl ?_)
    (refine wlk ?_)
    (refine SqA.b1 (op_call none rfl rfl rfl (by kernel_rfl) (FnD.use (m2)) rfl rfl rfl rfl rfl rfl) rfl rfl ?_)
    (refine wlk ?_)
    (refine SqA.b1 (op_call none rfl rfl rfl (by kernel_rfl) (FnD.use (m2)) rfl rfl rfl rfl rfl rfl) rfl rfl ?_)
    (refine wlk ?_)
    (first | (refine finR (.tmp rfl .nil) rfl rfl ?_) | (refine finN (.tmp rfl .nil) rfl rfl ?_))
    rfl
  rw [hm] at m1 m2
  have hmo := MOk.of hm
  by_cases hw : wrongCl s c = 0
  rotate_left
  · (refine wlk ?_)
    (refine SqA.b1 (op_call none rfl rfl rfl (by kernel_rfl) (FnD.use (hcs)) rfl rfl rfl rfl rfl rfl) rfl rfl ?_)
    (refine wlk ?_)
    (refine SqA.b1 (op_call none rfl rfl rfl (by kernel_rfl) (FnD.use (m1)) rfl rfl rfl rfl rfl rfl) rfl rfl ?_)
    (refine wlk ?_)
    (refine SqA.b1 (op_call none rfl rfl rfl (by kernel_rfl) (FnD.use (m2)) rfl rfl rfl rfl rfl rfl) rfl rfl ?_)
    (refine wlk ?_)
    (refine SqA.b1 (op_call none rfl rfl rfl (by kernel_rfl) (FnD.use (m2)) rfl rfl rfl rfl rfl rfl) rfl rfl ?_)
    (refine wlk ?_)
    (refine SqA.b1 (op_call none rfl rfl rfl (by kernel_rfl) (FnD.use (hcw)) rfl rfl rfl rfl rfl rfl) rfl rfl ?_)
    (refine wlk ?_)
    (first | (refine finR (.tmp rfl .nil) rfl rfl ?_) | (refine finN (.tmp rfl .nil) rfl rfl ?_))
    rfl
  rw [hw] at hcw
  have hco := cok_of hs hw
  by_cases h5 : env.length = 5
  rotate_left
  · (refine wlk ?_)
    (refine SqA.b1 (op_call none rfl rfl rfl (by kernel_rfl) (FnD.use (hcs)) rfl rfl rfl rfl rfl rfl) rfl rfl ?_)
    (refine wlk ?_)
    (refine SqA.b1 (op_call none rfl rfl rfl (by kernel_rfl) (FnD.use (m1)) rfl rfl rfl rfl rfl rfl) rfl rfl ?_)
    (refine wlk ?_)
    (refine SqA.b1 (op_call none rfl rfl rfl (by kernel_rfl) (FnD.use (m2)) rfl rfl rfl rfl rfl rfl) rfl rfl ?_)
    (refine wlk ?_)
    (refine SqA.b1 (op_call none rfl rfl rfl (by kernel_rfl) (FnD.use (m2)) rfl rfl rfl rfl rfl rfl) rfl rfl ?_)
    (refine wlk ?_)
    (refine SqA.b1 (op_call none rfl rfl rfl (by kernel_rfl) (FnD.use (hcw)) rfl rfl rfl rfl rfl rfl) rfl rfl ?_)
    (refine wlk ?_)
    (first | (refine finR (.tmp rfl .nil) rfl rfl ?_) | (refine finN (.tmp rfl .nil) rfl rfl ?_))
    rfl
  (refine wlk ?_)
  (refine SqA.b1 (op_call none rfl rfl rfl (by kernel_rfl) (FnD.use (hcs)) rfl rfl rfl rfl rfl rfl) rfl rfl ?_)
  (refine wlk ?_)
  (refine SqA.b1 (op_call none rfl rfl rfl (by kernel_rfl) (FnD.use (m1)) rfl rfl rfl rfl rfl rfl) rfl rfl ?_)
  (refine wlk ?_)
  (refine SqA.b1 (op_call none rfl rfl rfl (by kernel_rfl) (FnD.use (m2)) rfl rfl rfl rfl rfl rfl) rfl rfl ?_)
  (refine wlk ?_)
  (refine SqA.b1 (op_call none rfl rfl rfl (by kernel_rfl) (FnD.use (m2)) rfl rfl rfl rfl rfl rfl) rfl rfl ?_)
  (refine wlk ?_)
  (refine SqA.b1 (op_call none rfl rfl rfl (by kernel_rfl) (FnD.use (hcw)) rfl rfl rfl rfl rfl rfl) rfl rfl ?_)
  (refine wlk ?_)
  refine dwp_loop (fun k : Nat => [(.t 2, some (.one (lA Lt.d c))), (.t 3, some (.one (lA Int.d env))), (.t 5, some (.one (.c (.ptr 5 0)))), (.b 5, some (.box (mdA m).cells)), (.t 38, some (.one (lA Int.d env))), (.t 39, some (.one (iA env.length))), (.t 40, some (.one (iA k)))])
    (fun k => k ≤ env.length ∧ ∀ j x, j < k → env[j]? = some x → 0 ≤ x ∧ x < m.size) (fun k => env.length - k) 0 ⟨by omega, fun j x h => absurd h (by omega)⟩ fgs ?_
  rintro k ⟨hk, hno⟩
  by_cases hkl : k < env.length
  · obtain ⟨x, hx⟩ := get_of_lt hkl
    by_cases h0 : x < 0
    · (refine wlk ?_)
      (first | (refine finR (.tmp rfl .nil) rfl rfl ?_) | (refine finN (.tmp rfl .nil) rfl rfl ?_))
      rfl
    by_cases h1 : m.size ≤ x
    · (refine wlk ?_)
      (first | (refine finR (.tmp rfl .nil) rfl rfl ?_) | (refine finN (.tmp rfl .nil) rfl rfl ?_))
      rfl
    (refine wlk ?_)
    exact ⟨k + 1, ⟨by omega, upto_succ hno hx (by omega)⟩, fgs, by omega⟩
  · have : k = env.length := by omega
    subst this
    have he : EOk m env := ⟨h5, any_upto hno⟩
    have c1 := psome hmo he hs c hco.wf
    have c2 := rsome hmo he hs c hco.wf
    have c3 := pholds hmo hs c hco.wf (cok_sz hco)
    have c4 := rholds hmo hs c hco.wf (cok_sz hco)
    have hc4 := hco.len
    generalize some_ m env c = b1 at *
    generalize holds m c = b2 at *
    (refine wlk ?_)
    refine dwp_loop (fun k : Nat => [(.t 2, some (.one (lA Lt.d c))), (.t 3, some (.one (lA Int.d env))), (.t 5, some (.one (.c (.ptr 5 0)))), (.b 5, some (.box (mdA m).cells)), (.t 53, some (.one (lA Lt.d c))), (.t 54, some (.one (iA c.length))), (.t 55, some (.one (iA k)))])
      (fun k => k ≤ c.length) (fun k => c.length - k) 0 (by omega) fgs ?_
    intro k hk
    by_cases hkl : k < c.length
    · obtain ⟨⟨ng, xl, xr⟩, hx⟩ := get_of_lt hkl
      have hxw := hco.wf _ (List.mem_of_getElem? hx)
      dsimp only at hxw
      have d1 := pvalue hmo he hs xl hxw.1
      have d2 := rvalue hmo he hs xl hxw.1
      (refine wlk ?_)
      (refine SqA.b1 (op_call none rfl rfl rfl (by kernel_rfl) (FnD.use (d1)) rfl rfl rfl rfl rfl rfl) rfl rfl ?_)
      (refine wlk ?_)
      (refine SqA.b1 (op_call none rfl rfl rfl (by kernel_rfl) (FnD.use (d2)) rfl rfl rfl rfl rfl rfl) rfl rfl ?_)
      (refine wlk ?_)
      exact ⟨k + 1, by omega, fgs, by omega⟩
    · cases b1 <;> cases b2 <;> ((refine wlk ?_); (refine SqA.b1 (op_call none rfl rfl rfl (by kernel_rfl) (FnD.use (c1)) rfl rfl rfl rfl rfl rfl) rfl rfl ?_); (refine wlk ?_); (refine SqA.b1 (op_call none rfl rfl rfl (by kernel_rfl) (FnD.use (c2)) rfl rfl rfl rfl rfl rfl) rfl rfl ?_); (refine wlk ?_); (refine SqA.b1 (op_call none rfl rfl rfl (by kernel_rfl) (FnD.use (c3)) rfl rfl rfl rfl rfl rfl) rfl rfl ?_); (refine wlk ?_); (refine SqA.b1 (op_call none rfl rfl rfl (by kernel_rfl) (FnD.use (c4)) rfl rfl rfl rfl rfl rfl) rfl rfl ?_); (refine wlk ?_); (first | (refine finR (.tmp rfl .nil) rfl rfl ?_) | (refine finN (.tmp rfl .nil) rfl rfl ?_)); rfl)

theorem one_ok {s : List Int} {l : Lt} (h : COk s [l]) : COk s [⟨!l.neg, l.left, l.right⟩] ∧ COk s [l, ⟨!l.neg, l.left, l.right⟩] := by
  have h1 := h.wf l (by simp)
  have h2 := h.size l (by simp)
  refine ⟨⟨by simp, fun x hx => ?_, fun x hx => ?_⟩, ⟨by simp, fun x hx => ?_, fun x hx => ?_⟩⟩
  · rw [List.mem_singleton.1 hx]; exact h1
  · rw [List.mem_singleton.1 hx]; exact h2
  · rcases List.mem_cons.1 hx with rfl | hx
    · exact h1
    · rw [List.mem_singleton.1 hx]; exact h1
  · rcases List.mem_cons.1 hx with rfl | hx
    · exact h2
    · rw [List.mem_singleton.1 hx]; exact h2
set_option maxHeartbeats 16000000 in
set_option maxRecDepth 100000 in
theorem modelEither_fn (s : List Int) (m : Md) (l : Lt) : FnD Try.prog 9 [lA Int.d s, mdA m, ltA l] (.one (bA true)) := by
  refine Fn.of Try.func9 rfl Try.ntmps9 rfl (Nat.le_of_ble_eq_true rfl) ?_
  have hcs := rwrongSig s
  by_cases hs : wrongSig s = 0
  rotate_left
  · (refine wlk ?_)
    (refine SqA.b1 (op_call none rfl rfl rfl (by kernel_rfl) (FnD.use (alive5)) rfl rfl rfl rfl rfl rfl) rfl rfl ?_)
    (refine wlk ?_)
    (refine SqA.b1 (op_call none rfl rfl rfl (by kernel_rfl) (FnD.use (hcs)) rfl rfl rfl rfl rfl rfl) rfl rfl ?_)
    (refine wlk ?_)
    (first | (refine finR (.tmp rfl .nil) rfl rfl ?_) | (refine finN (.tmp rfl .nil) rfl rfl ?_))
    rfl
  have m2 := rwrongModel s hs m
  have hcw := rwrongCl s [l]
  rw [hs] at hcs
  by_cases hm : wrongModel s m = 0
  rotate_left
  · (refine wlk ?_)
    (refine SqA.b1 (op_call none rfl rfl rfl (by kernel_rfl) (FnD.use (alive5)) rfl rfl rfl rfl rfl rfl) rfl rfl ?_)
    (refine wlk ?_)
    (refine SqA.b1 (op_call none rfl rfl rfl (by kernel_rfl) (FnD.use (hcs)) rfl rfl rfl rfl rfl rfl) rfl rfl ?_)
    (refine wlk ?_)
    (refine SqA.b1 (op_call none rfl rfl rfl (by kernel_rfl) (FnD.use (m2)) rfl rfl rfl rfl rfl rfl) rfl rfl ?_)
    (refine wlk ?_)
    (first | (refine finR (.tmp rfl .nil) rfl rfl ?_) | (refine finN (.tmp rfl .nil) rfl rfl ?_))
    rfl
  rw [hm] at m2
  have hmo := MOk.of hm
  by_cases hw : wrongCl s [l] = 0
  rotate_left
  · (refine wlk ?_)
    (refine SqA.b1 (op_call none rfl rfl rfl (by kernel_rfl) (FnD.use (alive5)) rfl rfl rfl rfl rfl rfl) rfl rfl ?_)
    (refine wlk ?_)
    (refine SqA.b1 (op_call none rfl rfl rfl (by kernel_rfl) (FnD.use (hcs)) rfl rfl rfl rfl rfl rfl) rfl rfl ?_)
    (refine wlk ?_)
    (refine SqA.b1 (op_call none rfl rfl rfl (by kernel_rfl) (FnD.use (m2)) rfl rfl rfl rfl rfl rfl) rfl rfl ?_)
    (refine wlk ?_)
    (refine SqA.b1 (op_bsT (T := TB) (f := Lt.d) [l] rfl rfl rfl rfl rfl rfl rfl rfl rfl rfl rfl) rfl rfl ?_)
    (refine wlk ?_)
    (refine SqA.b1 (op_call none rfl rfl rfl (by kernel_rfl) (FnD.use (hcw)) rfl rfl rfl rfl rfl rfl) rfl rfl ?_)
    (refine wlk ?_)
    (first | (refine finR (.tmp rfl .nil) rfl rfl ?_) | (refine finN (.tmp rfl .nil) rfl rfl ?_))
    rfl
  rw [hw] at hcw
  have hco := cok_of hs hw
  obtain ⟨k1, k2⟩ := one_ok hco
  have a1 := pholds hmo hs [l] hco.wf (cok_sz hco)
  have a2 := pholds hmo hs _ k1.wf (cok_sz k1)
  have a3 := pholds hmo hs _ k2.wf (cok_sz k2)
  have a4 := FnD.nil (pholds hmo hs [] (fun x hx => by cases hx) (fun x hx => by cases hx)) 1 rfl
  rw [holds_or hmo hco.wf] at a3
  rw [holds_nil hmo] at a4
  have hand := holds_and hmo hco.wf
  cases hb : holds m [l]
  · rw [hb] at a1
    (refine wlk ?_)
    (refine SqA.b1 (op_call none rfl rfl rfl (by kernel_rfl) (FnD.use (alive5)) rfl rfl rfl rfl rfl rfl) rfl rfl ?_)
    (refine wlk ?_)
    (refine SqA.b1 (op_call none rfl rfl rfl (by kernel_rfl) (FnD.use (hcs)) rfl rfl rfl rfl rfl rfl) rfl rfl ?_)
    (refine wlk ?_)
    (refine SqA.b1 (op_call none rfl rfl rfl (by kernel_rfl) (FnD.use (m2)) rfl rfl rfl rfl rfl rfl) rfl rfl ?_)
    (refine wlk ?_)
    (refine SqA.b1 (op_bsT (T := TB) (f := Lt.d) [l] rfl rfl rfl rfl rfl rfl rfl rfl rfl rfl rfl) rfl rfl ?_)
    (refine wlk ?_)
    (refine SqA.b1 (op_call none rfl rfl rfl (by kernel_rfl) (FnD.use (hcw)) rfl rfl rfl rfl rfl rfl) rfl rfl ?_)
    (refine wlk ?_)
    (refine SqA.b1 (op_bsT (T := TB) (f := Lt.d) [l] rfl rfl rfl rfl rfl rfl rfl rfl rfl rfl rfl) rfl rfl ?_)
    (refine wlk ?_)
    (refine SqA.b1 (op_call none rfl rfl rfl (by kernel_rfl) (FnD.use (a1)) rfl rfl rfl rfl rfl rfl) rfl rfl ?_)
    (refine wlk ?_)
    (refine SqA.b1 (op_bsT (T := TB) (f := Lt.d) [l, (⟨!l.neg, l.left, l.right⟩ : Lt)] rfl rfl rfl rfl rfl rfl rfl rfl rfl rfl rfl) rfl rfl ?_)
    (refine wlk ?_)
    (refine SqA.b1 (op_call none rfl rfl rfl (by kernel_rfl) (FnD.use (a3)) rfl rfl rfl rfl rfl rfl) rfl rfl ?_)
    (refine wlk ?_)
    (refine SqA.b1 (op_call none rfl rfl rfl (by kernel_rfl) (FnD.use (a4)) rfl rfl rfl rfl rfl rfl) rfl rfl ?_)
    (refine wlk ?_)
    (first | (refine finR (.tmp rfl .nil) rfl rfl ?_) | (refine finN (.tmp rfl .nil) rfl rfl ?_))
    rfl
  · rw [hb] at a1
    rw [hand hb] at a2
    (refine wlk ?_)
    (refine SqA.b1 (op_call none rfl rfl rfl (by kernel_rfl) (FnD.use (alive5)) rfl rfl rfl rfl rfl rfl) rfl rfl ?_)
    (refine wlk ?_)
    (refine SqA.b1 (op_call none rfl rfl rfl (by kernel_rfl) (FnD.use (hcs)) rfl rfl rfl rfl rfl rfl) rfl rfl ?_)
    (refine wlk ?_)
    (refine SqA.b1 (op_call none rfl rfl rfl (by kernel_rfl) (FnD.use (m2)) rfl rfl rfl rfl rfl rfl) rfl rfl ?_)
    (refine wlk ?_)
    (refine SqA.b1 (op_bsT (T := TB) (f := Lt.d) [l] rfl rfl rfl rfl rfl rfl rfl rfl rfl rfl rfl) rfl rfl ?_)
    (refine wlk ?_)
    (refine SqA.b1 (op_call none rfl rfl rfl (by kernel_rfl) (FnD.use (hcw)) rfl rfl rfl rfl rfl rfl) rfl rfl ?_)
    (refine wlk ?_)
    (refine SqA.b1 (op_bsT (T := TB) (f := Lt.d) [l] rfl rfl rfl rfl rfl rfl rfl rfl rfl rfl rfl) rfl rfl ?_)
    (refine wlk ?_)
    (refine SqA.b1 (op_call none rfl rfl rfl (by kernel_rfl) (FnD.use (a1)) rfl rfl rfl rfl rfl rfl) rfl rfl ?_)
    (refine wlk ?_)
    (refine SqA.b1 (op_bsT (T := TB) (f := Lt.d) [(⟨!l.neg, l.left, l.right⟩ : Lt)] rfl rfl rfl rfl rfl rfl rfl rfl rfl rfl rfl) rfl rfl ?_)
    (refine wlk ?_)
    (refine SqA.b1 (op_call none rfl rfl rfl (by kernel_rfl) (FnD.use (a2)) rfl rfl rfl rfl rfl rfl) rfl rfl ?_)
    (refine wlk ?_)
    (refine SqA.b1 (op_bsT (T := TB) (f := Lt.d) [l, (⟨!l.neg, l.left, l.right⟩ : Lt)] rfl rfl rfl rfl rfl rfl rfl rfl rfl rfl rfl) rfl rfl ?_)
    (refine wlk ?_)
    (refine SqA.b1 (op_call none rfl rfl rfl (by kernel_rfl) (FnD.use (a3)) rfl rfl rfl rfl rfl rfl) rfl rfl ?_)
    (refine wlk ?_)
    (refine SqA.b1 (op_call none rfl rfl rfl (by kernel_rfl) (FnD.use (a4)) rfl rfl rfl rfl rfl rfl) rfl rfl ?_)
    (refine wlk ?_)
    (first | (refine finR (.tmp rfl .nil) rfl rfl ?_) | (refine finN (.tmp rfl .nil) rfl rfl ?_))
    rfl

theorem app_small {by_ : List Pr} (hb : ∀ p ∈ by_, p.2.size ≤ 12) {t : Tm} (ht : t.okv = true) (hz : t.size ≤ 12) : (app by_ t).size ≤ 144 := by
  have h := size_app_le (s := by_) (M := 12) (by omega) t ht fun n _ => by
    unfold appV
    rw [app_var]
    cases hf : findS by_ n with
    | none => simp [Tm.size, Tm.sizes]
    | some u =>
      obtain ⟨p, hp, _, rfl⟩ := findS_mem hf
      exact hb p hp
  omega
set_option maxRecDepth 100000 in
theorem mbound1 (by_ : List Pr) (hl : by_.length ≤ 4000000000000) (t : Tm) (hz : t.size ≤ 2000000000000) : FnD Try.prog 52 [tA t, .c (.fp [.arr (by_.map Pr.d)])] (.one (tA (app by_ t))) := by
  refine Fn.of Try.func52 rfl Try.ntmps52 rfl (Nat.le_of_ble_eq_true rfl) ?_
  (refine wlk ?_)
  (refine SqA.b1 (op_call none rfl rfl rfl (by kernel_rfl) (FnD.use (ap by_ hl t hz)) rfl rfl rfl rfl rfl rfl) rfl rfl ?_)
  (refine wlk ?_)
  (first | (refine finR (.cellN rfl rfl (rw_of rfl) rfl rfl .nil) rfl rfl ?_) | (refine finN (.cellN rfl rfl (rw_of rfl) rfl rfl .nil) rfl rfl ?_))
  rfl
set_option maxHeartbeats 16000000 in
set_option maxRecDepth 100000 in
theorem modelBound_fn (s : List Int) (m : Md) (c : List Lt) (by_ : List Pr) (l : Lt) (hbl : by_.length ≤ 4000000000000) : FnD Try.prog 10 [lA Int.d s, mdA m, lA Lt.d c, lA Pr.d by_, ltA l] (.one (bA true)) := by
  refine Fn.of Try.func10 rfl Try.ntmps10 rfl (Nat.le_of_ble_eq_true rfl) ?_
  have hcs := rwrongSig s
  by_cases hs : wrongSig s = 0
  rotate_left
  · (refine wlk ?_)
    (refine SqA.b1 (op_call none rfl rfl rfl (by kernel_rfl) (FnD.use (alive5)) rfl rfl rfl rfl rfl rfl) rfl rfl ?_)
    (refine wlk ?_)
    (refine SqA.b1 (op_call none rfl rfl rfl (by kernel_rfl) (FnD.use (hcs)) rfl rfl rfl rfl rfl rfl) rfl rfl ?_)
    (refine wlk ?_)
    (first | (refine finR (.tmp rfl .nil) rfl rfl ?_) | (refine finN (.tmp rfl .nil) rfl rfl ?_))
    rfl
  have m2 := rwrongModel s hs m
  have hcw := rwrongCl s c
  have hlw := rwrongCl s [l]
  rw [hs] at hcs
  by_cases hm : wrongModel s m = 0
  rotate_left
  · (refine wlk ?_)
    (refine SqA.b1 (op_call none rfl rfl rfl (by kernel_rfl) (FnD.use (alive5)) rfl rfl rfl rfl rfl rfl) rfl rfl ?_)
    (refine wlk ?_)
    (refine SqA.b1 (op_call none rfl rfl rfl (by kernel_rfl) (FnD.use (hcs)) rfl rfl rfl rfl rfl rfl) rfl rfl ?_)
    (refine wlk ?_)
    (refine SqA.b1 (op_call none rfl rfl rfl (by kernel_rfl) (FnD.use (m2)) rfl rfl rfl rfl rfl rfl) rfl rfl ?_)
    (refine wlk ?_)
    (first | (refine finR (.tmp rfl .nil) rfl rfl ?_) | (refine finN (.tmp rfl .nil) rfl rfl ?_))
    rfl
  rw [hm] at m2
  have hmo := MOk.of hm
  by_cases hw : wrongCl s c = 0
  rotate_left
  · (refine wlk ?_)
    (refine SqA.b1 (op_call none rfl rfl rfl (by kernel_rfl) (FnD.use (alive5)) rfl rfl rfl rfl rfl rfl) rfl rfl ?_)
    (refine wlk ?_)
    (refine SqA.b1 (op_call none rfl rfl rfl (by kernel_rfl) (FnD.use (hcs)) rfl rfl rfl rfl rfl rfl) rfl rfl ?_)
    (refine wlk ?_)
    (refine SqA.b1 (op_call none rfl rfl rfl (by kernel_rfl) (FnD.use (m2)) rfl rfl rfl rfl rfl rfl) rfl rfl ?_)
    (refine wlk ?_)
    (refine SqA.b1 (op_call none rfl rfl rfl (by kernel_rfl) (FnD.use (hcw)) rfl rfl rfl rfl rfl rfl) rfl rfl ?_)
    (refine wlk ?_)
    (first | (refine finR (.tmp rfl .nil) rfl rfl ?_) | (refine finN (.tmp rfl .nil) rfl rfl ?_))
    rfl
  rw [hw] at hcw
  have hco := cok_of hs hw
  by_cases hwl : wrongCl s [l] = 0
  rotate_left
  · (refine wlk ?_)
    (refine SqA.b1 (op_call none rfl rfl rfl (by kernel_rfl) (FnD.use (alive5)) rfl rfl rfl rfl rfl rfl) rfl rfl ?_)
    (refine wlk ?_)
    (refine SqA.b1 (op_call none rfl rfl rfl (by kernel_rfl) (FnD.use (hcs)) rfl rfl rfl rfl rfl rfl) rfl rfl ?_)
    (refine wlk ?_)
    (refine SqA.b1 (op_call none rfl rfl rfl (by kernel_rfl) (FnD.use (m2)) rfl rfl rfl rfl rfl rfl) rfl rfl ?_)
    (refine wlk ?_)
    (refine SqA.b1 (op_call none rfl rfl rfl (by kernel_rfl) (FnD.use (hcw)) rfl rfl rfl rfl rfl rfl) rfl rfl ?_)
    (refine wlk ?_)
    (refine SqA.b1 (op_bsT (T := TB) (f := Lt.d) [l] rfl rfl rfl rfl rfl rfl rfl rfl rfl rfl rfl) rfl rfl ?_)
    (refine wlk ?_)
    (refine SqA.b1 (op_call none rfl rfl rfl (by kernel_rfl) (FnD.use (hlw)) rfl rfl rfl rfl rfl rfl) rfl rfl ?_)
    (refine wlk ?_)
    (first | (refine finR (.tmp rfl .nil) rfl rfl ?_) | (refine finN (.tmp rfl .nil) rfl rfl ?_))
    rfl
  rw [hwl] at hlw
  have hlo := cok_of hs hwl
  have hc4 := hco.len
  (refine wlk ?_)
  (refine SqA.b1 (op_call none rfl rfl rfl (by kernel_rfl) (FnD.use (alive5)) rfl rfl rfl rfl rfl rfl) rfl rfl ?_)
  (refine wlk ?_)
  (refine SqA.b1 (op_call none rfl rfl rfl (by kernel_rfl) (FnD.use (hcs)) rfl rfl rfl rfl rfl rfl) rfl rfl ?_)
  (refine wlk ?_)
  (refine SqA.b1 (op_call none rfl rfl rfl (by kernel_rfl) (FnD.use (m2)) rfl rfl rfl rfl rfl rfl) rfl rfl ?_)
  (refine wlk ?_)
  (refine SqA.b1 (op_call none rfl rfl rfl (by kernel_rfl) (FnD.use (hcw)) rfl rfl rfl rfl rfl rfl) rfl rfl ?_)
  (refine wlk ?_)
  (refine SqA.b1 (op_bsT (T := TB) (f := Lt.d) [l] rfl rfl rfl rfl rfl rfl rfl rfl rfl rfl rfl) rfl rfl ?_)
  (refine wlk ?_)
  (refine SqA.b1 (op_call none rfl rfl rfl (by kernel_rfl) (FnD.use (hlw)) rfl rfl rfl rfl rfl rfl) rfl rfl ?_)
  (refine wlk ?_)
  refine dwp_loop (fun k : Nat => [(.t 0, some (.one (lA Int.d s))), (.t 2, some (.one (lA Lt.d c))), (.t 6, some (.one (.c (.ptr 6 0)))), (.b 6, some (.box (mdA m).cells)), (.t 8, some (.one (.c (.ptr 8 0)))), (.b 8, some (.box [.arr (by_.map Pr.d)])),
      (.t 9, some (.one (.c (.ptr 9 0)))), (.b 9, some (.box (ltA l).cells)), (.t 38, some (.one (lA Pr.d by_))), (.t 39, some (.one (iA by_.length))), (.t 40, some (.one (iA k)))])
    (fun k => k ≤ by_.length ∧ ∀ (j : Nat) (x : Pr), j < k → by_[j]? = some x → wrong s x.2 = 0) (fun k => by_.length - k) 0 ⟨by omega, fun j x h => absurd h (by omega)⟩ fgs ?_
  rintro k ⟨hk, hno⟩
  by_cases hkl : k < by_.length
  · obtain ⟨x, hx⟩ := get_of_lt hkl
    have hwx := rwrong s x.2
    by_cases h0 : wrong s x.2 = 0
    · (refine wlk ?_)
      (refine SqA.b1 (op_call none rfl rfl rfl (by kernel_rfl) (FnD.use (hwx)) rfl rfl rfl rfl rfl rfl) rfl rfl ?_)
      (refine wlk ?_)
      exact ⟨k + 1, ⟨by omega, upto_succ hno hx h0⟩, fgs, by omega⟩
    · (refine wlk ?_)
      (refine SqA.b1 (op_call none rfl rfl rfl (by kernel_rfl) (FnD.use (hwx)) rfl rfl rfl rfl rfl rfl) rfl rfl ?_)
      (refine wlk ?_)
      (first | (refine finR (.tmp rfl .nil) rfl rfl ?_) | (refine finN (.tmp rfl .nil) rfl rfl ?_))
      rfl
  · have : k = by_.length := by omega
    subst this
    have hall : ∀ p ∈ by_, wrong s p.2 = 0 := any_upto hno
    have hsub : subWf s by_ := fun p hp => (tok_of hs (hall p hp)).wf
    have hsz : ∀ p ∈ by_, p.2.size ≤ 12 := fun p hp => (tok_of hs (hall p hp)).size
    have hew := each_wf hsub hco.wf
    have hez : clSz (each (app by_) c) := fun x hx => by
      simp only [each, List.mem_map] at hx
      obtain ⟨y, hy, rfl⟩ := hx
      have h1 := hco.size y hy
      have h2 := hco.wf.okv y hy
      have h3 := app_small hsz h2.1 h1.1
      have h4 := app_small hsz h2.2 h1.2
      dsimp only
      omega
    have hcl : clWf s (c ++ [l]) := fun x hx => by
      rcases List.mem_append.1 hx with hx | hx
      · exact hco.wf x hx
      · exact hlo.wf x hx
    have hclz : clSz (c ++ [l]) := fun x hx => by
      rcases List.mem_append.1 hx with hx | hx
      · have := hco.size x hx; omega
      · have := hlo.size x hx; omega
    have a1 := pholds hmo hs c hco.wf (cok_sz hco)
    have a2 := rEach1 52 [.arr (by_.map Pr.d)] (app by_) (by kernel_rfl) c (by omega) fun x hx => by
      have := hco.size x hx
      exact ⟨mbound1 by_ hbl x.left (by omega), mbound1 by_ hbl x.right (by omega)⟩
    have a3 := pholds hmo hs _ hew hez
    have a4 := pholds hmo hs _ hcl hclz
    have hl1 : ([] : List Lt) ++ c = c := rfl
    have hl2 : (c ++ [l]).length ≤ 5 := by simp; omega
    cases hb : holds m c
    · rw [hb] at a1
      (refine wlk ?_)
      (refine SqA.b1 (op_call none rfl rfl rfl (by kernel_rfl) (FnD.use (a1)) rfl rfl rfl rfl rfl rfl) rfl rfl ?_)
      (refine wlk ?_)
      (first | (refine finR (.tmp rfl .nil) rfl rfl ?_) | (refine finN (.tmp rfl .nil) rfl rfl ?_))
      rfl
    · rw [hb] at a1
      rw [holds_by hmo hsub hco.wf hb] at a3
      rw [holds_more hmo hco.wf hcl (fun x hx => List.mem_append_left _ hx) hb] at a4
      (refine wlk ?_)
      (refine SqA.b1 (op_call none rfl rfl rfl (by kernel_rfl) (FnD.use (a1)) rfl rfl rfl rfl rfl rfl) rfl rfl ?_)
      ((repeat ((with_reducible refine id_sq ?_); (first | ((with_reducible refine id_bin (b := .add) ?_); first | (refine SqA.b1 (op_bin rfl rfl rfl rfl (by first | exact bin_add rfl (by omega) | exact bin_catS (by first | assumption | rfl) (by (try simp only [List.length_append, List.length_cons, List.length_nil, List.length_drop, List.length_take]); omega) | exact bin_addw | exact bin_addK (by first | assumption | rfl))) rfl rfl ?_) | (refine SqA.noG1 rfl rfl ?_)) | ((with_reducible refine id_bin (b := .sub) ?_); first | (refine SqA.b1 (op_bin rfl rfl rfl rfl (by first | exact bin_sub rfl (by omega) | exact bin_subK (by first | assumption | rfl))) rfl rfl ?_) | (refine SqA.noG1 rfl rfl ?_)) | ((with_reducible refine id_bin (t := 9) ?_); first | (refine SqA.b1 (op_bin rfl rfl rfl rfl (by first | exact bin_eqS (by first | assumption | rfl) | exact bin_neS (by first | exact congrArg Bool.not (by assumption) | rfl))) rfl rfl ?_) | (refine SqA.a1 TB rfl rfl rfl ?_) | (refine SqA.noG1 rfl rfl ?_)) | ((with_reducible refine id_bin (b := .mul) ?_); first | (refine SqA.b1 (op_bin rfl rfl rfl rfl (by exact bin_mul rfl (by omega))) rfl rfl ?_) | (refine SqA.noG1 rfl rfl ?_)) | ((with_reducible refine id_bin (b := .quo) ?_); first | (refine SqA.b1 (op_bin rfl rfl rfl rfl (bin_quo (by omega) (by omega) (by omega) (by first | assumption | rfl))) rfl rfl ?_) | (refine SqA.noG1 rfl rfl ?_)) | ((with_reducible refine id_bin (b := .rem) ?_); first | (refine SqA.b1 (op_bin rfl rfl rfl rfl (bin_rem (by omega) (by omega) (by first | assumption | rfl))) rfl rfl ?_) | (refine SqA.noG1 rfl rfl ?_)) | ((with_reducible refine id_bin (t := 4) ?_); first | (refine SqA.b1 (op_bin rfl rfl rfl rfl (by first | exact bin_eqlB (by assumption) | exact bin_neqB (by assumption))) rfl rfl ?_) | (refine SqA.a1 TB rfl rfl rfl ?_) | (refine SqA.noG1 rfl rfl ?_)) | ((with_reducible refine id_bin ?_); first | (refine SqA.b1 (op_cmp rfl rfl rfl rfl rfl (by first | exact cmpT (by simp only [cmpP]; assumption) | exact cmpF (by simp only [cmpP]; assumption) | exact cmpT (by simp only [cmpP]; first | done | omega) | exact cmpF (by simp only [cmpP]; first | done | omega) | exact cmpD)) rfl rfl ?_) | (refine SqA.a1 TB rfl rfl rfl ?_) | (refine SqA.b1 (op_neq3 rfl rfl rfl rfl (by first | assumption | rfl)) rfl rfl ?_) | (refine SqA.b1 (op_eql3 rfl rfl rfl rfl (by first | assumption | rfl)) rfl rfl ?_) | (refine SqA.noG1 rfl rfl ?_)) | ((with_reducible refine id_callb (b := .len) ?_); first | (refine SqA.b1 (op_lenT (T := TB) rfl rfl rfl rfl) rfl rfl ?_) | (refine SqA.b1 (op_lenOT (T := TB) rfl rfl rfl rfl) rfl rfl ?_) | (refine SqA.b1 (op_lenNT (T := TB) rfl rfl rfl rfl) rfl rfl ?_) | (refine SqA.b1 (op_lenStr rfl rfl rfl) rfl rfl ?_) | (refine SqA.b1 (op_lenSlT (T := TB) rfl rfl rfl rfl) rfl rfl ?_) | (refine SqA.noG1 rfl rfl ?_)) | ((with_reducible refine id_callb (b := .append) ?_); first | (refine SqA.b2 (op_appT (T := TB) rfl rfl rfl rfl rfl (by first | assumption | rfl) (by (try simp only [List.length_map, List.length_append, List.length_cons, List.length_nil, List.length_take]); omega) (by decide)) rfl rfl ?_) | (refine SqA.b1 (op_app0T (T := TB) rfl rfl rfl rfl rfl (by (try simp only [List.length_map, List.length_append, List.length_cons, List.length_nil, List.length_take]); omega) (by decide)) rfl rfl ?_) | (refine SqA.b1 (op_appFullT (T := TB) rfl rfl rfl rfl rfl (by first | assumption | rfl) (by (try simp only [List.length_map, List.length_append, List.length_cons, List.length_nil, List.length_take]); omega) (by decide) (Nat.succ_pos _)) rfl rfl ?_) | (refine SqA.noG1 rfl rfl ?_)) | ((with_reducible refine id_callb (b := .min) ?_); first | (refine SqA.b1 (op_min rfl rfl rfl rfl (by first | exact if_pos (by omega) | exact if_neg (by omega) | rfl)) rfl rfl ?_) | (refine SqA.noG1 rfl rfl ?_)) | ((with_reducible refine id_callb (b := .max) ?_); first | (refine SqA.b1 (op_max rfl rfl rfl rfl (by first | exact if_pos (by omega) | exact if_neg (by omega) | rfl)) rfl rfl ?_) | (refine SqA.noG1 rfl rfl ?_)) | ((with_reducible refine id_idx ?_); first | (refine SqA.b1 (op_idxT (T := TB) rfl rfl rfl rfl rfl (by assumption) (by first | rfl | omega)) rfl rfl ?_) | (refine SqA.b1 (op_idx3 rfl rfl rfl rfl (by first | rfl | omega) (by omega)) rfl rfl ?_) | (refine SqA.b1 (op_idxSlT (T := TB) rfl rfl rfl rfl rfl (by first | rfl | omega) (by omega) rfl) rfl rfl ?_) | (refine SqA.b1 (op_idx2 rfl rfl rfl rfl (k := 0) rfl (by omega)) rfl rfl ?_) | (refine SqA.b1 (op_idx2 rfl rfl rfl rfl (k := 1) rfl (by omega)) rfl rfl ?_) | (refine SqA.noG1 rfl rfl ?_)) | ((with_reducible refine id_index ?_); first | (refine SqA.b1 (op_index3 rfl rfl rfl rfl (by first | rfl | omega) (by omega) (by first | assumption | rfl) rfl) rfl rfl ?_) | (refine SqA.b1 (op_idxS rfl rfl rfl rfl (by assumption) (by first | rfl | omega)) rfl rfl ?_) | (refine SqA.noG1 rfl rfl ?_)) | ((with_reducible refine id_slice ?_); first | (refine SqA.b1 (op_sliceLoT (T := TB) rfl rfl rfl rfl rfl (by first | decide | omega) (by first | decide | (simp only [List.length_cons, Int.toNat_one]; omega) | omega)) rfl rfl ?_) | (refine SqA.b1 (op_slice3T (T := TB) rfl rfl rfl rfl rfl rfl rfl (by (try simp only [List.length_cons, List.length_nil, List.length_drop, List.length_take, List.length_append]); omega)) rfl rfl ?_) | (refine SqA.b1 (op_slS1 rfl rfl rfl rfl (by first | rfl | omega) (by (try simp only [List.length_cons, List.length_nil, List.length_drop, List.length_take, List.length_append]); omega) (by first | assumption | rfl)) rfl rfl ?_) | (refine SqA.b1 (op_slS2 rfl rfl rfl rfl rfl (by first | rfl | omega) (by first | rfl | omega) (by (try simp only [List.length_cons, List.length_nil, List.length_drop, List.length_take, List.length_append]); omega) (by (try simp only [List.length_cons, List.length_nil, List.length_drop, List.length_take, List.length_append]); omega) (by first | assumption | rfl)) rfl rfl ?_) | (refine SqA.b1 (op_slS0 rfl rfl rfl rfl (by first | rfl | omega) (by (try simp only [List.length_cons, List.length_nil, List.length_drop, List.length_take, List.length_append]); omega) (by first | assumption | rfl)) rfl rfl ?_) | (refine SqA.noG1 rfl rfl ?_)) | ((with_reducible refine id_load ?_); first | (refine SqA.a1 TB rfl rfl rfl ?_) | (refine SqA.a2 TB rfl rfl rfl ?_) | (refine SqA.b1 (op_loadK rfl rfl (rw_of rfl) rfl rfl rfl rfl) rfl rfl ?_) | (refine SqA.b1 (op_load1B rfl rfl (rw_of rfl) rfl rfl (by assumption) rfl rfl) rfl rfl ?_) | (refine SqA.b1 (op_load1I rfl rfl (rw_of rfl) rfl rfl rfl) rfl rfl ?_) | (refine SqA.b1 (op_loadNI rfl rfl (rw_of rfl) rfl rfl rfl rfl rfl) rfl rfl ?_) | (refine SqA.b1 (op_loadP rfl rfl (rw_of rfl) rfl rfl) rfl rfl ?_) | (refine SqA.noG1 rfl rfl ?_)) | ((with_reducible refine id_store ?_); first | (refine SqA.a1 TB rfl rfl rfl ?_) | (refine SqA.a2 TB rfl rfl rfl ?_) | (refine SqA.b1 (op_storeV rfl rfl rfl rfl (rw_of rfl) rfl rfl rfl (by (try simp only [List.length_map, List.length_replicate, List.length_set]); omega) (by first | assumption | rfl) rfl) rfl rfl ?_) | (refine SqA.noG0 rfl rfl ?_)) | ((with_reducible refine id_box ?_); first | (refine SqA.a2 TB rfl rfl rfl ?_) | (refine SqA.noG1 rfl rfl ?_)) | ((with_reducible refine id_alloc ?_); first | (refine SqA.a2 TB rfl rfl rfl ?_) | (refine SqA.b2 (op_alloc3 rfl rfl rfl rfl) rfl rfl ?_) | (refine SqA.noG1 rfl rfl ?_)) | ((with_reducible refine id_build ?_); first | (refine SqA.a1 TB rfl rfl rfl ?_) | (refine SqA.b1 (op_b3 rfl rfl rfl) rfl rfl ?_) | (refine SqA.b1 (op_b2 rfl rfl rfl) rfl rfl ?_) | (refine SqA.noG1 rfl rfl ?_)) | ((with_reducible refine id_move ?_); first | (refine SqA.a1 TB rfl rfl rfl ?_) | (refine SqA.a2 TB rfl rfl rfl ?_) | (refine SqA.noG1 rfl rfl ?_) | (refine SqA.b1 (op_moveK rfl (Or.inl rfl) rfl) rfl rfl ?_)) | ((with_reducible refine id_assign ?_); first | (refine SqA.a1 TB rfl rfl rfl ?_) | (refine SqA.a2 TB rfl rfl rfl ?_) | (refine SqA.noG1 rfl rfl ?_) | (refine SqA.b1 (op_moveK rfl (Or.inr rfl) rfl) rfl rfl ?_)) | ((with_reducible refine id_un ?_); first | (refine SqA.a1 TB rfl rfl rfl ?_) | (refine SqA.noG1 rfl rfl ?_)) | ((with_reducible refine id_fld ?_); first | (refine SqA.a1 TB rfl rfl rfl ?_) | (refine SqA.b1 (op_fldI rfl rfl (fo_of rfl) rfl rfl rfl) rfl rfl ?_) | (refine SqA.noG1 rfl rfl ?_)) | ((with_reducible refine id_extract ?_); first | (refine SqA.a1 TB rfl rfl rfl ?_) | (refine SqA.noG1 rfl rfl ?_)) | ((with_reducible refine id_pick ?_); first | (refine SqA.a1 TB rfl rfl rfl ?_) | (refine SqA.noG1 rfl rfl ?_)) | ((with_reducible refine id_bs ?_); first | (refine SqA.a1 TB rfl rfl rfl ?_) | (refine SqA.noG1 rfl rfl ?_)) | ((with_reducible refine id_call ?_); first | (refine SqA.noG1 rfl rfl ?_)) | ((with_reducible refine id_conv ?_); first | (refine SqA.b1 (op_convU rfl rfl rfl (by omega)) rfl rfl ?_) | (refine SqA.b1 (op_conv8 rfl rfl rfl (by first | assumption | rfl)) rfl rfl ?_) | (refine SqA.b1 (op_s8 rfl rfl rfl) rfl rfl ?_) | (refine SqA.b1 (op_conv32 rfl rfl rfl (by first | assumption | rfl)) rfl rfl ?_) | (refine SqA.b1 (op_s32 rfl rfl rfl (by first | assumption | rfl)) rfl rfl ?_) | (refine SqA.noG1 rfl rfl ?_)) | ((with_reducible refine id_nilc ?_); first | (refine SqA.b1 (op_nilB rfl rfl rfl) rfl rfl ?_) | (refine SqA.b1 (op_nilF rfl rfl rfl) rfl rfl ?_) | (refine SqA.noG1 rfl rfl ?_)) | ((with_reducible refine id_field ?_); first | (refine SqA.b1 (op_fldV rfl rfl ftT0 (rw_of rfl) rfl rfl rfl) rfl rfl ?_) | (refine SqA.b1 (op_fldV rfl rfl ftT1 (rw_of rfl) rfl rfl rfl) rfl rfl ?_) | (refine SqA.b1 (op_fldV rfl rfl ftT2 (rw_of rfl) rfl rfl rfl) rfl rfl ?_) | (refine SqA.noG1 rfl rfl ?_)) | ((with_reducible refine id_mksl ?_); first | (refine SqA.b2 (op_mkInts rfl rfl rfl rfl (by omega) rfl rfl) rfl rfl ?_) | (refine SqA.noG1 rfl rfl ?_)) | ((with_reducible refine id_mkmap ?_); first | (refine SqA.goG (op_mfII (by assumption) rfl rfl rfl rfl rfl) rfl rfl ?_) | (refine SqA.goG (op_mfBS rfl rfl rfl rfl rfl) rfl rfl ?_) | (refine SqA.b2 (op_mkII rfl rfl) rfl rfl ?_) | (refine SqA.b2 (op_mkIB rfl rfl) rfl rfl ?_) | (refine SqA.b2 (op_mkBS rfl rfl) rfl rfl ?_) | (refine SqA.noG1 rfl rfl ?_)) | ((with_reducible refine id_look ?_); first | (refine SqA.b1 (op_lookII rfl rfl rfl rfl rfl rfl rfl (by first | assumption | rfl)) rfl rfl ?_) | (refine SqA.b1 (op_lookIB rfl rfl rfl rfl rfl rfl rfl (by first | assumption | rfl)) rfl rfl ?_) | (refine SqA.b1 (op_lookBS rfl rfl rfl rfl rfl rfl rfl (by first | assumption | rfl)) rfl rfl ?_) | (refine SqA.b1 (op_lfII rfl rfl rfl rfl rfl rfl rfl rfl rfl rfl) rfl rfl ?_) | (refine SqA.b1 (op_lfBS rfl rfl rfl rfl rfl rfl rfl rfl rfl rfl) rfl rfl ?_) | (refine SqA.b1 (op_lnII rfl rfl rfl rfl rfl rfl (by omega) rfl) rfl rfl ?_) | (refine SqA.noG1 rfl rfl ?_)) | ((with_reducible refine id_upd ?_); first | (refine SqA.b1 (op_putII rfl (Or.inl rfl) rfl rfl rfl rfl rfl rfl (by first | assumption | rfl)) rfl rfl ?_) | (refine SqA.b1 (op_putIB rfl (Or.inl rfl) rfl rfl rfl rfl rfl rfl (by first | assumption | rfl)) rfl rfl ?_) | (refine SqA.b1 (op_putBS rfl (Or.inl rfl) rfl rfl rfl rfl rfl rfl (by first | assumption | rfl)) rfl rfl ?_) | (refine SqA.b1 (op_pfII rfl (Or.inl rfl) rfl rfl rfl rfl rfl rfl rfl rfl) rfl rfl ?_) | (refine SqA.b1 (op_pfBS rfl (Or.inl rfl) rfl rfl rfl rfl rfl rfl rfl rfl) rfl rfl ?_) | (refine SqA.noG0 rfl rfl ?_)) | ((with_reducible refine id_ins ?_); first | (refine SqA.b1 (op_putII rfl (Or.inr rfl) rfl rfl rfl rfl rfl rfl (by first | assumption | rfl)) rfl rfl ?_) | (refine SqA.b1 (op_putIB rfl (Or.inr rfl) rfl rfl rfl rfl rfl rfl (by first | assumption | rfl)) rfl rfl ?_) | (refine SqA.b1 (op_putBS rfl (Or.inr rfl) rfl rfl rfl rfl rfl rfl (by first | assumption | rfl)) rfl rfl ?_) | (refine SqA.b1 (op_pfII rfl (Or.inr rfl) rfl rfl rfl rfl rfl rfl rfl rfl) rfl rfl ?_) | (refine SqA.b1 (op_pfBS rfl (Or.inr rfl) rfl rfl rfl rfl rfl rfl rfl rfl) rfl rfl ?_) | (refine SqA.noG0 rfl rfl ?_))))); (with_reducible refine SqA.nilN ?_); (first | (with_reducible refine thenD_n ?_) | (with_reducible refine thenD_ret ?_) | (with_reducible refine thenD_exit ?_) | (with_reducible refine inB_n ?_) | (with_reducible refine inB_ret ?_) | (refine inB_same ?_) | (refine inB_ne rfl ?_)))
      refine dwp_wk (Wk.frzF (t := 8) (j := 8) (fs := [.arr (by_.map Pr.d)]) rfl rfl rfl rfl rfl) ?_
      (refine wlk ?_)
      (refine SqA.b1 (op_mkFn rfl rfl rfl) rfl rfl ?_)
      (refine wlk ?_)
      (refine SqA.b1 (op_call none rfl rfl rfl (by kernel_rfl) (FnD.use (a2)) rfl rfl rfl rfl rfl rfl) rfl rfl ?_)
      (refine wlk ?_)
      (refine SqA.b1 (op_call none rfl rfl rfl (by kernel_rfl) (FnD.use (a3)) rfl rfl rfl rfl rfl rfl) rfl rfl ?_)
      (refine wlk ?_)
      (refine SqA.b1 (op_bsT (T := TB) (f := Lt.d) [l] rfl rfl rfl rfl rfl rfl rfl rfl rfl rfl rfl) rfl rfl ?_)
      (refine wlk ?_)
      (refine SqA.b1 (op_callL (fun t => t = .own (.t 67) 0 0) rfl rfl rfl (by kernel_rfl) a4 (LendL.cons (lend_same rfl rfl rfl) (LendL.cons (lend_own rfl rfl) .nil)) rfl rfl) rfl rfl ?_)
      (refine wlk ?_)
      (first | (refine finR (.tmp rfl .nil) rfl rfl ?_) | (refine finN (.tmp rfl .nil) rfl rfl ?_))
      rfl
end Go.Proofs.Ytmanhdacnkpclaa
