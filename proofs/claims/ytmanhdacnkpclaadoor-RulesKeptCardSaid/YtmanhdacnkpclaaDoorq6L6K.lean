/- RulesKept: walked. -/
import Derived.Test.YtmanhdacnkpclaaDoorq6L6D
namespace Go.Proofs.YtmanhdacnkpclaaDoor
set_option linter.all false
open Go.RowKit

def Cls.d (l : List (List Lt)) : D := .arr (l.map Cl.d)
theorem Cls_fc (l : List (List Lt)) : (Cls.d l).fc = [.arr (l.map Cl.d)] := by simp [Cls.d, D.fc]
instance : FCs Cls.d 1 (fun l => [.arr (l.map Cl.d)]) := ⟨Cls_fc, fun _ => rfl, fun _ => rfl⟩
theorem nodup_ne {α : Type} {l : List α} (h : l.Nodup) {i j : Nat} {y w : α} (hij : j < i) (hi : l[i]? = some y) (hj : l[j]? = some w) : y ≠ w := by
  obtain ⟨hi', rfl⟩ := List.getElem?_eq_some_iff.1 hi
  obtain ⟨hj', rfl⟩ := List.getElem?_eq_some_iff.1 hj
  exact fun e => (List.pairwise_iff_getElem.1 h j i hj' hi' hij) e.symm
set_option maxHeartbeats 16000000 in
set_option maxRecDepth 100000 in
theorem rulesKept_fn (s : List Int) (c d : List Lt) : FnD Tryd.prog 12 [lA Int.d s, lA Lt.d c, lA Lt.d d] (.one (bA true)) := by
  refine Fn.of Tryd.func12 rfl Tryd.ntmps12 rfl (Nat.le_of_ble_eq_true rfl) ?_
  have hr := rright s [c, d]
  cases hb : rightC s [c, d]
  · rw [hb] at hr
    (refine wlk ?_)
    (refine SqA.b1 (op_call none rfl rfl rfl (by kernel_rfl) (FnD.use (alive6)) rfl rfl rfl rfl rfl rfl) rfl rfl ?_)
    (refine wlk ?_)
    (refine SqA.b1 (op_bsT (T := TB) (f := Cl.d) [c, d] rfl rfl rfl rfl rfl rfl rfl rfl rfl rfl rfl) rfl rfl ?_)
    (refine wlk ?_)
    (refine SqA.b1 (op_call none rfl rfl rfl (by kernel_rfl) (FnD.use (hr)) rfl rfl rfl rfl rfl rfl) rfl rfl ?_)
    (refine wlk ?_)
    (first | (refine finR (.tmp rfl .nil) rfl rfl ?_) | (refine finN (.tmp rfl .nil) rfl rfl ?_))
    rfl
  rw [hb] at hr
  obtain ⟨hs, h8, hall⟩ := right_of hb
  have hc : COk s c := hall c (by simp)
  have hd : COk s d := hall d (by simp)
  have a1 := presolve hc.cg
  have a2 := pfactor hc.cg
  have a3 := psup hc.cg hd
  have k1 := resolve_kept hc.wf.good
  have k2 := factor_kept hc.wf.good
  have k3 := sup_kept hc.wf hd.wf
  have l1 : (resolve c).1.length ≤ c.length := resolve_len c c.length
  have hcl := hc.len
  have l2 := factor_len hc.len
  have l3 := sup_len hc.len hd
  have hL : ∀ l ∈ [(resolve c).1, (factor c).1, (sup c d).1], (∀ n ∈ l, Kept s n) ∧ l.Nodup ∧ l.length ≤ 1000 := fun l hl => by
    simp only [List.mem_cons, List.not_mem_nil, or_false] at hl
    rcases hl with rfl | rfl | rfl
    · exact ⟨k1.1, k1.2, by omega⟩
    · exact ⟨k2.1, k2.2, l2⟩
    · exact ⟨k3.1, k3.2, l3⟩
  (refine wlk ?_)
  (refine SqA.b1 (op_call none rfl rfl rfl (by kernel_rfl) (FnD.use (alive6)) rfl rfl rfl rfl rfl rfl) rfl rfl ?_)
  (refine wlk ?_)
  (refine SqA.b1 (op_bsT (T := TB) (f := Cl.d) [c, d] rfl rfl rfl rfl rfl rfl rfl rfl rfl rfl rfl) rfl rfl ?_)
  (refine wlk ?_)
  (refine SqA.b1 (op_call none rfl rfl rfl (by kernel_rfl) (FnD.use (hr)) rfl rfl rfl rfl rfl rfl) rfl rfl ?_)
  (refine wlk ?_)
  (refine SqA.b1 (op_call none rfl rfl rfl (by kernel_rfl) (FnD.use (a1)) rfl rfl rfl rfl rfl rfl) rfl rfl ?_)
  (refine wlk ?_)
  (refine SqA.b1 (op_call none rfl rfl rfl (by kernel_rfl) (FnD.use (a2)) rfl rfl rfl rfl rfl rfl) rfl rfl ?_)
  (refine wlk ?_)
  (refine SqA.b1 (op_call none rfl rfl rfl (by kernel_rfl) (FnD.use (a3)) rfl rfl rfl rfl rfl rfl) rfl rfl ?_)
  (refine wlk ?_)
  (refine SqA.b1 (op_bsT (T := TB) (f := Cls.d) [(resolve c).1, (factor c).1, (sup c d).1] rfl rfl rfl rfl rfl rfl rfl rfl rfl rfl rfl) rfl rfl ?_)
  (refine wlk ?_)
  refine dwp_loop (fun k : Nat => [(.t 0, some (.one (lA Int.d s))), (.t 48, some (.one (lA Cls.d [(resolve c).1, (factor c).1, (sup c d).1]))), (.t 49, some (.one (iA (3 : Nat)))), (.t 50, some (.one (iA k)))])
    (fun k => k ≤ 3) (fun k => 3 - k) 0 (by omega) fgs ?_
  intro k hk
  clear a1 a2 a3 k1 k2 k3 l1 l2 l3
  generalize hLL : [(resolve c).1, (factor c).1, (sup c d).1] = L at *
  have hll : L.length = 3 := by rw [← hLL]; rfl
  clear hLL
  by_cases hkl : k < 3
  rotate_left
  · (refine wlk ?_)
    (first | (refine finR (.tmp rfl .nil) rfl rfl ?_) | (refine finN (.tmp rfl .nil) rfl rfl ?_))
    rfl
  obtain ⟨l, hl⟩ := get_of_lt (s := L) (k := k) (by omega)
  obtain ⟨hkept, hnod, hlen⟩ := hL l (List.mem_of_getElem? hl)
  (refine wlk ?_)
  refine dwp_loop (fun i : Nat => [(.t 0, some (.one (lA Int.d s))), (.t 14, some (.one (lA Cl.d l))), (.t 48, some (.one (lA Cls.d L))), (.t 49, some (.one (iA (3 : Nat)))), (.t 50, some (.one (iA k))), (.t 54, some (.one (lA Cl.d l))), (.t 55, some (.one (iA l.length))), (.t 56, some (.one (iA i)))])
    (fun i => i ≤ l.length) (fun i => l.length - i) 0 (by omega) fgs ?_
  intro i hi
  by_cases hil : i < l.length
  rotate_left
  · (refine wlk ?_)
    exact ⟨k + 1, by omega, fgs, by omega⟩
  obtain ⟨y, hy⟩ := get_of_lt hil
  have hK := hkept y (List.mem_of_getElem? hy)
  have hco := hK.cok
  have n1 := rnorm y hK.wf.ar.okv hK.wf.good.2 (cok_sz hco) (by have := hK.len; omega)
  rw [hK.again] at n1
  dsimp only at n1
  have n2 := rsameClause y y
  rw [clSame_iff.2 rfl] at n2
  have n3 := rwrongCl s y
  rw [hco.wrong] at n3
  (refine wlk ?_)
  (refine SqA.b1 (op_call none rfl rfl rfl (by kernel_rfl) (FnD.use (n1)) rfl rfl rfl rfl rfl rfl) rfl rfl ?_)
  (refine wlk ?_)
  (refine SqA.b1 (op_call none rfl rfl rfl (by kernel_rfl) (FnD.use (n2)) rfl rfl rfl rfl rfl rfl) rfl rfl ?_)
  (refine wlk ?_)
  (refine SqA.b1 (op_call none rfl rfl rfl (by kernel_rfl) (FnD.use (n3)) rfl rfl rfl rfl rfl rfl) rfl rfl ?_)
  (refine wlk ?_)
  (refine SqA.b1 (op_sliceHiT (T := TB) (f := Cl.d) (l := l) rfl rfl rfl rfl rfl (by omega) (by omega)) rfl rfl ?_)
  (refine wlk ?_)
  refine dwp_loop (fun j : Nat => [(.t 0, some (.one (lA Int.d s))), (.t 14, some (.one (lA Cl.d l))), (.t 16, some (.one (lA Lt.d y))), (.t 48, some (.one (lA Cls.d L))), (.t 49, some (.one (iA (3 : Nat)))), (.t 50, some (.one (iA k))), (.t 54, some (.one (lA Cl.d l))), (.t 55, some (.one (iA l.length))), (.t 56, some (.one (iA i))),
      (.t 82, some (.one (lA Cl.d (l.take (i : Int).toNat)))), (.t 83, some (.one (iA (l.take (i : Int).toNat).length))), (.t 84, some (.one (iA j)))])
    (fun j => j ≤ (l.take (i : Int).toNat).length) (fun j => (l.take (i : Int).toNat).length - j) 0 (by omega) fgs ?_
  intro j hj
  by_cases hjl : j < (l.take (i : Int).toNat).length
  rotate_left
  · (refine wlk ?_)
    exact ⟨i + 1, by omega, fgs, by omega⟩
  obtain ⟨w, hw⟩ := get_of_lt hjl
  have hw' : l[j]? = some w := by
    rw [List.getElem?_take] at hw
    split at hw
    · exact hw
    · cases hw
  have hji : j < i := by rw [List.length_take] at hjl; omega
  have hne := nodup_ne hnod hji hy hw'
  have n4 := rsameClause y w
  cases e : clSame y w
  rotate_left
  · exact absurd (clSame_iff.1 e) hne
  rw [e] at n4
  clear hw' hy
  (refine wlk ?_)
  (refine SqA.b1 (op_call none rfl rfl rfl (by kernel_rfl) (FnD.use (n4)) rfl rfl rfl rfl rfl rfl) rfl rfl ?_)
  (refine wlk ?_)
  exact ⟨j + 1, by omega, fgs, by omega⟩
end Go.Proofs.YtmanhdacnkpclaaDoor
