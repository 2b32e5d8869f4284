/- What functions do: texts of terms. -/
import Derived.Test.YtmanhdacnkpclaaGreatDoorzdDa
import Derived.Test.YtmanhdacnkpclaaGreatDoorzdBa
import Derived.Test.YtmanhdacnkpclaaGreatDoorzdT0
import Derived.Test.YtmanhdacnkpclaaGreatDoorzdHh
import Derived.Test.YtmanhdacnkpclaaGreatDoorzdTC
/- What functions do: texts of terms. -/
namespace Go.Proofs.YtmanhdacnkpclaaGreatDoor
set_option linter.all false
open Go.RowKit

theorem Xs {l l' : List UInt8} (h : l = l') : (.one (sA l) : X) = .one (sA l') := by rw [h]
def digits : List UInt8 := [48, 49, 50, 51, 52, 53, 54, 55, 56, 57, 97, 98, 99, 100, 101, 102, 103, 104, 105, 106, 107, 108, 109, 110, 111, 112, 113, 114, 115, 116, 117, 118, 119, 120, 121, 122]
theorem digits_at : ∀ k, k < 10 → (digits.drop k).take (k + 1 - k) = [dig (k : Int)] := by decide
set_option maxRecDepth 100000 in
theorem csmall (k : Nat) (hk : k < 10) : FnD Tryz.prog 97 [iA k] (.one (sA [dig k])) := by
  have hd := digits_at k hk
  have hl : digits.length = 36 := rfl
  refine Fn.of Tryz.func97 rfl Tryz.ntmps97 rfl (Nat.le_of_ble_eq_true rfl) ?_
  (refine wlk ?_)
  (first | (refine finR (.tmp rfl .nil) rfl rfl ?_) | (refine finN (.tmp rfl .nil) rfl rfl ?_))
  exact rfl
set_option maxRecDepth 100000 in
theorem cformat (k : Nat) (hk : k < 10) : FnD Tryz.prog 91 [iA k, iA 10] (.one (sA [dig k])) := by
  refine Fn.of Tryz.func91 rfl Tryz.ntmps91 rfl (Nat.le_of_ble_eq_true rfl) ?_
  (refine wlk ?_)
  (refine SqA.b1 (op_call none rfl rfl rfl (by kernel_rfl) (FnD.use (csmall k hk)) rfl rfl rfl rfl rfl rfl) rfl rfl ?_)
  (refine wlk ?_)
  (first | (refine finR (.tmp rfl .nil) rfl rfl ?_) | (refine finN (.tmp rfl .nil) rfl rfl ?_))
  exact rfl
set_option maxRecDepth 100000 in
theorem citoa0 (k : Nat) (hk : k < 10) : FnD Tryz.prog 78 [iA k] (.one (sA [dig k])) := by
  refine Fn.of Tryz.func78 rfl Tryz.ntmps78 rfl (Nat.le_of_ble_eq_true rfl) ?_
  (refine wlk ?_)
  (refine SqA.b1 (op_call none rfl rfl rfl (by kernel_rfl) (FnD.use (cformat k hk)) rfl rfl rfl rfl rfl rfl) rfl rfl ?_)
  (refine wlk ?_)
  (first | (refine finR (.tmp rfl .nil) rfl rfl ?_) | (refine finN (.tmp rfl .nil) rfl rfl ?_))
  exact rfl
set_option maxRecDepth 100000 in
theorem citoa (n : Int) (h0 : 0 ≤ n) (h1 : n ≤ 9) : FnD Tryz.prog 63 [iA n] (.one (sA [dig n])) := by
  obtain ⟨k, rfl⟩ := Int.eq_ofNat_of_zero_le h0
  refine Fn.of Tryz.func63 rfl Tryz.ntmps63 rfl (Nat.le_of_ble_eq_true rfl) ?_
  (refine wlk ?_)
  (refine SqA.b1 (op_call none rfl rfl rfl (by kernel_rfl) (FnD.use (citoa0 k (by omega))) rfl rfl rfl rfl rfl rfl) rfl rfl ?_)
  (refine wlk ?_)
  (first | (refine finR (.tmp rfl .nil) rfl rfl ?_) | (refine finN (.tmp rfl .nil) rfl rfl ?_))
  exact rfl
theorem sym8 {n : Int} (h0 : 0 ≤ n) (h1 : n ≤ 100) : IntKind.u8.wrap (97 + n) = ((UInt8.ofNat (97 + n.toNat)).toNat : Int) := by
  have h : IntKind.u8.wrap (97 + n) = (97 + n) % 256 := by simp [IntKind.wrap, IntKind.signed, IntKind.bits]
  rw [h]
  simp; omega
set_option maxHeartbeats 8000000 in
set_option maxRecDepth 100000 in
theorem rtext {s : List Int} (hs : s.length ≤ 100) : ∀ t : Tm, t.wf s = true → t.size ≤ 2000000000000 → FnD Tryz.prog 47 [tA t] (.one (sA (text t))) := by
  refine Tm.ind ?_
  intro v n l ih hw hsz
  refine Fn.of Tryz.func47 rfl Tryz.ntmps47 rfl (Nat.le_of_ble_eq_true rfl) ?_
  simp only [Tm.size] at hsz
  cases v
  case true =>
    simp only [Tm.wf, Bool.and_eq_true, decide_eq_true_eq, List.isEmpty_iff] at hw
    have hc := citoa n hw.1.2 (by omega)
    obtain ⟨⟨rfl, _⟩, _⟩ := hw
    have e1 : ([88] : List UInt8) ++ [dig n] = text ⟨true, n, []⟩ := rfl
    (refine wlk ?_)
    (refine SqA.b1 (op_call none rfl rfl rfl (by kernel_rfl) (FnD.use (hc)) rfl rfl rfl rfl rfl rfl) rfl rfl ?_)
    (refine wlk ?_)
    (first | (refine finR (.tmp rfl .nil) rfl rfl ?_) | (refine finN (.tmp rfl .nil) rfl rfl ?_))
    exact rfl
  case false =>
    simp only [Tm.wf, Bool.and_eq_true, decide_eq_true_eq] at hw
    obtain ⟨⟨⟨h0, h1⟩, h2⟩, h3⟩ := hw
    have h8 := sym8 (n := n) h0 (by omega)
    generalize hy : UInt8.ofNat (97 + n.toNat) = y at h8
    have k0 : 0 ≤ (Tm.mk false n l).n := h0
    have k1 : (Tm.mk false n l).n ≤ 100 := by show n ≤ 100; omega
    cases l with
    | nil =>
      (refine wlk ?_)
      (refine SqA.b1 (op_bsT (T := TB) (f := U8.d) [y] rfl rfl rfl rfl rfl rfl rfl rfl rfl rfl rfl) rfl rfl ?_)
      (refine wlk ?_)
      (first | (refine finR (.tmp rfl .nil) rfl rfl ?_) | (refine finN (.tmp rfl .nil) rfl rfl ?_))
      exact Xs (l := [y]) (by rw [text_nil, hy])
    | cons a l =>
      simp only [Tm.wfs, Bool.and_eq_true] at h3
      simp only [Tm.sizes] at hsz
      have ca := ih a (by simp) h3.1 (by omega)
      have la := text_len a
      have ll := texts_len l
      cases l with
      | nil =>
        have g0 : [a][0]? = some a := rfl
        have e0 : [a].length = 1 := rfl
        rw [text_cons, hy]
        (refine wlk ?_)
        (refine SqA.b1 (op_bsT (T := TB) (f := U8.d) [y] rfl rfl rfl rfl rfl rfl rfl rfl rfl rfl rfl) rfl rfl ?_)
        (refine wlk ?_)
        (refine SqA.b1 (op_call none rfl rfl rfl (by kernel_rfl) (FnD.use (ca)) rfl rfl rfl rfl rfl rfl) rfl rfl ?_)
        (refine wlk ?_)
        (first | (refine finR (.tmp rfl .nil) rfl rfl ?_) | (refine finN (.tmp rfl .nil) rfl rfl ?_))
        exact Xs (l := ((([y] ++ [40]) ++ text a) ++ [41])) (by simp [texts])
      | cons b l =>
        generalize hbl : b :: l = r at h3 hsz ll ih k0 k1 h2 ⊢
        have g0 : (a :: r)[0]? = some a := rfl
        have e0 : (a :: r).length = r.length + 1 := by simp
        have e1 : 1 ≤ r.length := by rw [← hbl]; simp
        have e2 : 1 ≤ (a :: r).length := by simp
        have hll := sizes_len r
        rw [text_cons, hy]
        (refine wlk ?_)
        (refine SqA.b1 (op_bsT (T := TB) (f := U8.d) [y] rfl rfl rfl rfl rfl rfl rfl rfl rfl rfl rfl) rfl rfl ?_)
        (refine wlk ?_)
        (refine SqA.b1 (op_call none rfl rfl rfl (by kernel_rfl) (FnD.use (ca)) rfl rfl rfl rfl rfl rfl) rfl rfl ?_)
        (refine wlk ?_)
        refine dwp_loop (fun k : Nat => [(.t 3, some (.one (sA ((([y] ++ [40]) ++ text a) ++ texts (r.take k))))), (.t 45, some (.one (lA Tm.d r))), (.t 46, some (.one (iA r.length))), (.t 47, some (.one (iA k)))])
          (fun k => k ≤ r.length) (fun k => r.length - k) 0 (by omega) ?_ ?_
        · have : ((([y] ++ [40]) ++ text a) ++ texts (r.take 0)) = ([y] ++ [40]) ++ text a := by simp [texts]
          rw [this]; exact fgs
        intro k hk
        have hlk := texts_len (r.take k)
        have hsk := sizes_take_le r k
        by_cases hkl : k < r.length
        · obtain ⟨x, hx⟩ := get_of_lt hkl
          have hxs := size_at hx
          have hxl := text_len x
          have cx := ih x (by simp [List.mem_of_getElem? hx]) ((Tm.wfs_iff.1 h3.2) x (List.mem_of_getElem? hx)) (by omega)
          have hsn : (((([y] ++ [40]) ++ text a) ++ texts (r.take k)) ++ [44]) ++ text x = ((([y] ++ [40]) ++ text a) ++ texts (r.take (k + 1))) := by rw [texts_take r k x hx]; simp
          (refine wlk ?_)
          (refine SqA.b1 (op_call none rfl rfl rfl (by kernel_rfl) (FnD.use (cx)) rfl rfl rfl rfl rfl rfl) rfl rfl ?_)
          (refine wlk ?_)
          exact ⟨k + 1, by omega, fgs, by omega⟩
        · have : k = r.length := by omega
          subst this
          (refine wlk ?_)
          (first | (refine finR (.tmp rfl .nil) rfl rfl ?_) | (refine finN (.tmp rfl .nil) rfl rfl ?_))
          exact Xs (l := (((([y] ++ [40]) ++ text a) ++ texts (r.take r.length)) ++ [41])) (by simp)
end Go.Proofs.YtmanhdacnkpclaaGreatDoor

/- What functions do: texts of clauses; models of clauses. -/
namespace Go.Proofs.YtmanhdacnkpclaaGreatDoor
set_option linter.all false
open Go.RowKit

set_option maxHeartbeats 4000000 in
set_option maxRecDepth 100000 in
theorem rclauseText {s : List Int} (hs : s.length ≤ 100) (c : List Lt) (hw : clWf s c) (hz : ∀ x ∈ c, x.left.size ≤ 12 ∧ x.right.size ≤ 12) (hl : c.length ≤ 1000) : FnD Tryz.prog 15 [lA Lt.d c] (.one (sA (clText c))) := by
  have hA : FewKeys := trivial
  refine Fn.of Tryz.func15 rfl Tryz.ntmps15 rfl (Nat.le_of_ble_eq_true rfl) ?_
  (refine wlk ?_)
  refine dwp_loop (fun k : Nat => [(.t 3, some (.one (sA (clText (c.take k))))), (.t 7, some (.one (lA Lt.d c))), (.t 8, some (.one (iA c.length))), (.t 9, some (.one (iA k)))])
    (fun k => k ≤ c.length ∧ (clText (c.take k)).length ≤ 2 + 101 * k) (fun k => c.length - k) 0 ⟨by omega, by simp [clText]⟩ fgs ?_
  rintro k ⟨hk, hkl⟩
  by_cases hlt : k < c.length
  · obtain ⟨⟨ng, xl, xr⟩, hx⟩ := get_of_lt hlt
    have hxw := hw _ (List.mem_of_getElem? hx)
    have hxz := hz _ (List.mem_of_getElem? hx)
    have hxl := litText_len hxz
    dsimp only at hxw hxz
    have g1 := rtext hs xl hxw.1 (by omega)
    have g2 := rtext hs xr hxw.2 (by omega)
    have l1 := text_len xl
    have l2 := text_len xr
    by_cases h0 : k = 0
    · subst h0
      have h1 := clText_one hx
      cases ng
      · have h2 : (text xl ++ [61]) ++ text xr = clText (c.take (0 + 1)) := h1.symm
        (refine wlk ?_)
        (refine SqA.b1 (op_call none rfl rfl rfl (by kernel_rfl) (FnD.use (g1)) rfl rfl rfl rfl rfl rfl) rfl rfl ?_)
        (refine wlk ?_)
        (refine SqA.b1 (op_call none rfl rfl rfl (by kernel_rfl) (FnD.use (g2)) rfl rfl rfl rfl rfl rfl) rfl rfl ?_)
        (refine wlk ?_)
        exact ⟨0 + 1, ⟨by omega, by rw [h1]; omega⟩, fgs, by omega⟩
      · have h2 : (text xl ++ [33, 61]) ++ text xr = clText (c.take (0 + 1)) := h1.symm
        (refine wlk ?_)
        (refine SqA.b1 (op_call none rfl rfl rfl (by kernel_rfl) (FnD.use (g1)) rfl rfl rfl rfl rfl rfl) rfl rfl ?_)
        (refine wlk ?_)
        (refine SqA.b1 (op_call none rfl rfl rfl (by kernel_rfl) (FnD.use (g2)) rfl rfl rfl rfl rfl rfl) rfl rfl ?_)
        (refine wlk ?_)
        exact ⟨0 + 1, ⟨by omega, by rw [h1]; omega⟩, fgs, by omega⟩
    · have h1 := clText_more h0 hx
      have h3 : (clText (c.take (k + 1))).length ≤ 2 + 101 * (k + 1) := by rw [h1]; simp; omega
      cases ng
      · have h2 : (clText (c.take k) ++ [32, 124, 32]) ++ ((text xl ++ [61]) ++ text xr) = clText (c.take (k + 1)) := h1.symm
        (refine wlk ?_)
        (refine SqA.b1 (op_call none rfl rfl rfl (by kernel_rfl) (FnD.use (g1)) rfl rfl rfl rfl rfl rfl) rfl rfl ?_)
        (refine wlk ?_)
        (refine SqA.b1 (op_call none rfl rfl rfl (by kernel_rfl) (FnD.use (g2)) rfl rfl rfl rfl rfl rfl) rfl rfl ?_)
        (refine wlk ?_)
        exact ⟨k + 1, ⟨by omega, h3⟩, fgs, by omega⟩
      · have h2 : (clText (c.take k) ++ [32, 124, 32]) ++ ((text xl ++ [33, 61]) ++ text xr) = clText (c.take (k + 1)) := h1.symm
        (refine wlk ?_)
        (refine SqA.b1 (op_call none rfl rfl rfl (by kernel_rfl) (FnD.use (g1)) rfl rfl rfl rfl rfl rfl) rfl rfl ?_)
        (refine wlk ?_)
        (refine SqA.b1 (op_call none rfl rfl rfl (by kernel_rfl) (FnD.use (g2)) rfl rfl rfl rfl rfl rfl) rfl rfl ?_)
        (refine wlk ?_)
        exact ⟨k + 1, ⟨by omega, h3⟩, fgs, by omega⟩
  · have : k = c.length := by omega
    subst this
    (refine wlk ?_)
    (first | (refine finR (.tmp rfl .nil) rfl rfl ?_) | (refine finN (.tmp rfl .nil) rfl rfl ?_))
    exact Xs (by rw [List.take_length])
end Go.Proofs.YtmanhdacnkpclaaGreatDoor
