/- What functions do: which clause covers another one. -/
import Derived.Test.YtmanhdacnkpclaaDoorQ4
namespace Go.Proofs.YtmanhdacnkpclaaDoor
set_option linter.all false
open Go.RowKit

theorem coverW_no1 {x : Lt} {s s1 : List Pr} {w : Tm × Tm} (h : moreR s x.left w.1 = (s1, false)) : coverW x s w = none := by unfold coverW; rw [h]
theorem coverW_no2 {x : Lt} {s s1 s2 : List Pr} {w : Tm × Tm} (h : moreR s x.left w.1 = (s1, true)) (h2 : moreR s1 x.right w.2 = (s2, false)) : coverW x s w = none := by unfold coverW; rw [h]; dsimp only; rw [h2]
theorem coverW_yes {x : Lt} {s s1 s2 : List Pr} {w : Tm × Tm} (h : moreR s x.left w.1 = (s1, true)) (h2 : moreR s1 x.right w.2 = (s2, true)) : coverW x s w = some s2 := by unfold coverW; rw [h]; dsimp only; rw [h2]
theorem more_len {s s1 : List Pr} {p t : Tm} {ok : Bool} (h : moreR s p t = (s1, ok)) : s1.length ≤ s.length + p.size := by have := moreR_len p s t; rw [h] at this; exact this
set_option maxHeartbeats 40000000 in
set_option maxRecDepth 100000 in
theorem pcovers (d : List Lt) : ∀ (c : List Lt) (s : List Pr), (∀ x ∈ c, x.left.size ≤ 12 ∧ x.right.size ≤ 12) → s.length + 24 * c.length ≤ 1000000 → FnD Tryd.prog 92 [lA Pr.d s, lA Lt.d c, lA Lt.d d] (.one (bA (coversS s c d)))
  | [], s, _, _ => by
    refine Fn.of Tryd.func92 rfl Tryd.ntmps92 rfl (Nat.le_of_ble_eq_true rfl) ?_
    have h0 : ([] : List Lt).length = 0 := rfl
    (refine wlk ?_)
    (first | (refine finR (.tmp rfl .nil) rfl rfl ?_) | (refine finN (.tmp rfl .nil) rfl rfl ?_))
    rfl
  | ⟨xn, xa, xb⟩ :: c, s, hz, hl => by
    have ih := pcovers d c
    have hzx := hz ⟨xn, xa, xb⟩ (by simp)
    dsimp only at hzx
    simp only [List.length_cons] at hl
    have h0 : ((⟨xn, xa, xb⟩ : Lt) :: c)[0]? = some ⟨xn, xa, xb⟩ := rfl
    have hl1 : ((⟨xn, xa, xb⟩ : Lt) :: c).length = c.length + 1 := rfl
    refine Fn.of Tryd.func92 rfl Tryd.ntmps92 rfl (Nat.le_of_ble_eq_true rfl) ?_
    refine dwp_len (t := 2) (ds := d.map Lt.d) rfl fun hbl => ?_
    rw [List.length_map] at hbl
    (refine wlk ?_)
    refine dwp_loop (fun k : Nat => [(.t 0, some (.one (lA Pr.d s))), (.t 1, some (.one (lA Lt.d ((⟨xn, xa, xb⟩ : Lt) :: c)))), (.t 2, some (.one (lA Lt.d d))), (.t 18, some (.one (lA Lt.d d))), (.t 19, some (.one (iA d.length))), (.t 20, some (.one (iA k)))])
      (fun k => k ≤ d.length ∧ ∀ (j : Nat) (y : Lt), j < k → d[j]? = some y → y.neg = xn → ∀ w ∈ waysL y, ∀ b, coverW ⟨xn, xa, xb⟩ s w = some b → coversS b c d = false) (fun k => d.length - k) 0 ⟨by omega, fun j x h => absurd h (by omega)⟩ fgs ?_
    rintro k ⟨hk, hno⟩
    by_cases hkl : k < d.length
    rotate_left
    · have : k = d.length := by omega
      subst this
      (refine wlk ?_)
      (first | (refine finR (.tmp rfl .nil) rfl rfl ?_) | (refine finN (.tmp rfl .nil) rfl rfl ?_))
      refine Xb (b := false) (Eq.symm (List.any_eq_false.2 fun b hb => ?_))
      obtain ⟨l, hld, hn, w, hw, hc⟩ := coverD_mem.1 hb
      rw [any_upto (R := fun (y : Lt) => y.neg = xn → ∀ w ∈ waysL y, ∀ b, coverW ⟨xn, xa, xb⟩ s w = some b → coversS b c d = false) hno l hld hn w hw b hc]; simp
    obtain ⟨⟨yn, ya, yb⟩, hy⟩ := get_of_lt hkl
    by_cases hne : yn = xn
    rotate_left
    · have e0 : (yn != xn) = true := by simpa using hne
      (refine wlk ?_)
      exact ⟨k + 1, ⟨by omega, upto_succ hno hy (fun h => absurd h hne)⟩, fgs, by omega⟩
    have e0 : (yn != xn) = false := by simp [hne]
    have hwl : waysL ⟨yn, ya, yb⟩ = [(ya, yb), (yb, ya)] := rfl
    (refine wlk ?_)
    (refine SqA.b1 (op_bsT (T := TB) (f := Tw.d) [((ya, yb) : Tm × Tm), (yb, ya)] rfl rfl rfl rfl rfl rfl rfl rfl rfl rfl rfl) rfl rfl ?_)
    (refine wlk ?_)
    refine dwp_loop (fun j : Nat => [(.t 0, some (.one (lA Pr.d s))), (.t 1, some (.one (lA Lt.d ((⟨xn, xa, xb⟩ : Lt) :: c)))), (.t 2, some (.one (lA Lt.d d))), (.t 18, some (.one (lA Lt.d d))), (.t 19, some (.one (iA d.length))), (.t 20, some (.one (iA k))),
        (.t 41, some (.one (lA Tw.d [((ya, yb) : Tm × Tm), (yb, ya)]))), (.t 42, some (.one (iA (2 : Nat)))), (.t 43, some (.one (iA j)))])
      (fun j => j ≤ 2 ∧ ∀ i w, i < j → [((ya, yb) : Tm × Tm), (yb, ya)][i]? = some w → ∀ b, coverW ⟨xn, xa, xb⟩ s w = some b → coversS b c d = false) (fun j => 2 - j) 0 ⟨by omega, fun j x h => absurd h (by omega)⟩ fgs ?_
    rintro j ⟨hj, hnj⟩
    by_cases hj2 : j < 2
    rotate_left
    · have : j = 2 := by omega
      subst this
      (refine wlk ?_)
      exact ⟨k + 1, ⟨by omega, upto_succ hno hy (fun _ w hw => by rw [hwl] at hw; exact any_upto (l := [((ya, yb) : Tm × Tm), (yb, ya)]) hnj w hw)⟩, fgs, by omega⟩
    obtain ⟨⟨a, b⟩, hw⟩ := get_of_lt (s := [((ya, yb) : Tm × Tm), (yb, ya)]) (k := j) hj2
    have hwm : (a, b) ∈ waysL ⟨yn, ya, yb⟩ := by rw [hwl]; exact List.mem_of_getElem? hw
    have g1 := bmore xa a s (by omega)
    cases hm1 : moreR s xa a with
    | mk s1 ok1 =>
      have hl2 := more_len hm1
      rw [hm1] at g1
      cases ok1
      · have hcn : coverW ⟨xn, xa, xb⟩ s (a, b) = none := coverW_no1 hm1
        (refine wlk ?_)
        (refine SqA.b1 (op_idx2B (k := 0) rfl rfl rfl rfl rfl (by decide)) rfl rfl ?_)
        (refine wlk ?_)
        (refine SqA.b1 (op_call none rfl rfl rfl (by kernel_rfl) (FnD.use (g1)) rfl rfl rfl rfl rfl rfl) rfl rfl ?_)
        (refine wlk ?_)
        exact ⟨j + 1, ⟨by omega, upto_succ hnj hw (fun b hb => by rw [hcn] at hb; cases hb)⟩, fgs, by omega⟩
      have g2 := bmore xb b s1 (by omega)
      cases hm2 : moreR s1 xb b with
      | mk s2 ok2 =>
        have hl3 := more_len hm2
        rw [hm2] at g2
        cases ok2
        · have hcn : coverW ⟨xn, xa, xb⟩ s (a, b) = none := coverW_no2 hm1 hm2
          (refine wlk ?_)
          (refine SqA.b1 (op_idx2B (k := 0) rfl rfl rfl rfl rfl (by decide)) rfl rfl ?_)
          (refine wlk ?_)
          (refine SqA.b1 (op_call none rfl rfl rfl (by kernel_rfl) (FnD.use (g1)) rfl rfl rfl rfl rfl rfl) rfl rfl ?_)
          (refine wlk ?_)
          (refine SqA.b1 (op_idx2B (k := 1) rfl rfl rfl rfl rfl (by decide)) rfl rfl ?_)
          (refine wlk ?_)
          (refine SqA.b1 (op_call none rfl rfl rfl (by kernel_rfl) (FnD.use (g2)) rfl rfl rfl rfl rfl rfl) rfl rfl ?_)
          (refine wlk ?_)
          exact ⟨j + 1, ⟨by omega, upto_succ hnj hw (fun b hb => by rw [hcn] at hb; cases hb)⟩, fgs, by omega⟩
        have hcy : coverW ⟨xn, xa, xb⟩ s (a, b) = some s2 := coverW_yes hm1 hm2
        have g3 := ih s2 (fun x hx => hz x (by simp [hx])) (by omega)
        cases hcv : coversS s2 c d
        · rw [hcv] at g3
          (refine wlk ?_)
          (refine SqA.b1 (op_idx2B (k := 0) rfl rfl rfl rfl rfl (by decide)) rfl rfl ?_)
          (refine wlk ?_)
          (refine SqA.b1 (op_call none rfl rfl rfl (by kernel_rfl) (FnD.use (g1)) rfl rfl rfl rfl rfl rfl) rfl rfl ?_)
          (refine wlk ?_)
          (refine SqA.b1 (op_idx2B (k := 1) rfl rfl rfl rfl rfl (by decide)) rfl rfl ?_)
          (refine wlk ?_)
          (refine SqA.b1 (op_call none rfl rfl rfl (by kernel_rfl) (FnD.use (g2)) rfl rfl rfl rfl rfl rfl) rfl rfl ?_)
          (refine wlk ?_)
          (refine SqA.b1 (op_call none rfl rfl rfl (by kernel_rfl) (FnD.use (g3)) rfl rfl rfl rfl rfl rfl) rfl rfl ?_)
          (refine wlk ?_)
          exact ⟨j + 1, ⟨by omega, upto_succ hnj hw (fun b hb => by rw [hcy] at hb; injection hb with hb; subst hb; exact hcv)⟩, fgs, by omega⟩
        · rw [hcv] at g3
          (refine wlk ?_)
          (refine SqA.b1 (op_idx2B (k := 0) rfl rfl rfl rfl rfl (by decide)) rfl rfl ?_)
          (refine wlk ?_)
          (refine SqA.b1 (op_call none rfl rfl rfl (by kernel_rfl) (FnD.use (g1)) rfl rfl rfl rfl rfl rfl) rfl rfl ?_)
          (refine wlk ?_)
          (refine SqA.b1 (op_idx2B (k := 1) rfl rfl rfl rfl rfl (by decide)) rfl rfl ?_)
          (refine wlk ?_)
          (refine SqA.b1 (op_call none rfl rfl rfl (by kernel_rfl) (FnD.use (g2)) rfl rfl rfl rfl rfl rfl) rfl rfl ?_)
          (refine wlk ?_)
          (refine SqA.b1 (op_call none rfl rfl rfl (by kernel_rfl) (FnD.use (g3)) rfl rfl rfl rfl rfl rfl) rfl rfl ?_)
          (refine wlk ?_)
          (first | (refine finR (.tmp rfl .nil) rfl rfl ?_) | (refine finN (.tmp rfl .nil) rfl rfl ?_))
          refine Xb (b := true) (Eq.symm (List.any_eq_true.2 ⟨s2, coverD_mem.2 ⟨_, List.mem_of_getElem? hy, hne, (a, b), hwm, hcy⟩, hcv⟩))
set_option maxRecDepth 100000 in
theorem pCovers (c d : List Lt) (hz : ∀ x ∈ c, x.left.size ≤ 12 ∧ x.right.size ≤ 12) (hl : c.length ≤ 1000) : FnD Tryd.prog 56 [lA Lt.d c, lA Lt.d d] (.one (bA (covers c d))) := by
  refine Fn.of Tryd.func56 rfl Tryd.ntmps56 rfl (Nat.le_of_ble_eq_true rfl) ?_
  have hc := FnD.nil (pcovers d c [] hz (by simp; omega)) 0 rfl
  (refine wlk ?_)
  (refine SqA.b1 (op_call none rfl rfl rfl (by kernel_rfl) (FnD.use (hc)) rfl rfl rfl rfl rfl rfl) rfl rfl ?_)
  (refine wlk ?_)
  (first | (refine finR (.tmp rfl .nil) rfl rfl ?_) | (refine finN (.tmp rfl .nil) rfl rfl ?_))
  rfl

/-! ## by lists of bindings -/
theorem coversN_app (d : List Lt) : ∀ (a b : List Lt) (now : List (List Pr)), coversN now (a ++ b) d = coversN (coversN now a d) b d
  | [], b, now => rfl
  | x :: a, b, now => by simp only [List.cons_append, coversN]; exact coversN_app d a b _
theorem coversN_snoc {c d : List Lt} {k : Nat} {x : Lt} (now : List (List Pr)) (h : c[k]? = some x) : coversN now (c.take (k + 1)) d = (coversN now (c.take k) d).flatMap (coverD x d) := by
  rw [take_succ_of h, coversN_app]; rfl
theorem fm_snoc {α β : Type} {f : α → List β} {l : List α} {k : Nat} {x : α} (h : l[k]? = some x) : (l.take (k + 1)).flatMap f = (l.take k).flatMap f ++ f x := by rw [take_succ_of h]; simp
theorem flt_snoc {α β : Type} {f : α → Option β} {l : List α} {k : Nat} {x : α} (h : l[k]? = some x) : (l.take (k + 1)).filterMap f = (l.take k).filterMap f ++ (f x).toList := by
  rw [take_succ_of h, List.filterMap_append]
  cases hf : f x <;> simp [hf]
def part4 (x : Lt) (s : List Pr) (y : Lt) (m : Nat) : List (List Pr) := if y.neg = x.neg then ((waysL y).take m).filterMap (coverW x s) else []
theorem part4_end (x : Lt) (s : List Pr) (y : Lt) : part4 x s y 2 = coverL x s y := rfl
theorem eight {k : Nat} (h : k ≤ 4) : 8 ^ k ≤ 4096 := Nat.le_trans (Nat.pow_le_pow_right (by decide) h) (by decide)
end Go.Proofs.YtmanhdacnkpclaaDoor
