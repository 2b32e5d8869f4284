/- What functions do: clauses, the same or not; by bindings; with others' numbers. -/
import Derived.Test.YtmanhdacnkpclaaGreatDoorzdCl
import Derived.Test.YtmanhdacnkpclaaGreatDoorzdHh
import Derived.Test.YtmanhdacnkpclaaGreatDoorzdEe
import Derived.Test.YtmanhdacnkpclaaGreatDoorzdBa
namespace Go.Proofs.YtmanhdacnkpclaaGreatDoor
set_option linter.all false
open Go.RowKit

theorem lt_same {a b : Lt} : a.same b = (a.neg == b.neg && (a.left.same b.left && a.right.same b.right)) := rfl
set_option maxHeartbeats 4000000 in
set_option maxRecDepth 100000 in
theorem rsameLit (a b : Lt) : FnD Tryz.prog 19 [ltA a, ltA b] (.one (bA (a.same b))) := by
  obtain ⟨an, al, ar⟩ := a
  obtain ⟨bn, bl, br⟩ := b
  have h1 := rsame al bl
  have h2 := rsame ar br
  rw [lt_same]
  dsimp only
  generalize al.same bl = e1 at *
  generalize ar.same br = e2 at *
  refine Fn.of Tryz.func19 rfl Tryz.ntmps19 rfl (Nat.le_of_ble_eq_true rfl) ?_
  cases an <;> cases bn
  rotate_left 1
  · (refine wlk ?_)
    (first | (refine finR (.tmp rfl .nil) rfl rfl ?_) | (refine finN (.tmp rfl .nil) rfl rfl ?_))
    rfl
  · (refine wlk ?_)
    (first | (refine finR (.tmp rfl .nil) rfl rfl ?_) | (refine finN (.tmp rfl .nil) rfl rfl ?_))
    rfl
  all_goals (cases e1; · ((refine wlk ?_); (refine SqA.b1 (op_call none rfl rfl rfl (by kernel_rfl) (FnD.use (h1)) rfl rfl rfl rfl rfl rfl) rfl rfl ?_); (refine wlk ?_); (first | (refine finR (.tmp rfl .nil) rfl rfl ?_) | (refine finN (.tmp rfl .nil) rfl rfl ?_)); rfl))
  all_goals (cases e2 <;> ((refine wlk ?_); (refine SqA.b1 (op_call none rfl rfl rfl (by kernel_rfl) (FnD.use (h1)) rfl rfl rfl rfl rfl rfl) rfl rfl ?_); (refine wlk ?_); (refine SqA.b1 (op_call none rfl rfl rfl (by kernel_rfl) (FnD.use (h2)) rfl rfl rfl rfl rfl rfl) rfl rfl ?_); (refine wlk ?_); (first | (refine finR (.tmp rfl .nil) rfl rfl ?_) | (refine finN (.tmp rfl .nil) rfl rfl ?_)); rfl))
set_option maxHeartbeats 4000000 in
set_option maxRecDepth 100000 in
theorem psameLit (a b : Lt) : FnD Tryz.prog 18 [ltA a, ltA b] (.one (bA (a.same b))) := by
  obtain ⟨an, al, ar⟩ := a
  obtain ⟨bn, bl, br⟩ := b
  have h1 := psame al bl
  have h2 := psame ar br
  rw [lt_same]
  dsimp only
  generalize al.same bl = e1 at *
  generalize ar.same br = e2 at *
  refine Fn.of Tryz.func18 rfl Tryz.ntmps18 rfl (Nat.le_of_ble_eq_true rfl) ?_
  cases an <;> cases bn
  rotate_left 1
  · (refine wlk ?_)
    (first | (refine finR (.tmp rfl .nil) rfl rfl ?_) | (refine finN (.tmp rfl .nil) rfl rfl ?_))
    rfl
  · (refine wlk ?_)
    (first | (refine finR (.tmp rfl .nil) rfl rfl ?_) | (refine finN (.tmp rfl .nil) rfl rfl ?_))
    rfl
  all_goals (cases e1; · ((refine wlk ?_); (refine SqA.b1 (op_call none rfl rfl rfl (by kernel_rfl) (FnD.use (h1)) rfl rfl rfl rfl rfl rfl) rfl rfl ?_); (refine wlk ?_); (first | (refine finR (.tmp rfl .nil) rfl rfl ?_) | (refine finN (.tmp rfl .nil) rfl rfl ?_)); rfl))
  all_goals (cases e2 <;> ((refine wlk ?_); (refine SqA.b1 (op_call none rfl rfl rfl (by kernel_rfl) (FnD.use (h1)) rfl rfl rfl rfl rfl rfl) rfl rfl ?_); (refine wlk ?_); (refine SqA.b1 (op_call none rfl rfl rfl (by kernel_rfl) (FnD.use (h2)) rfl rfl rfl rfl rfl rfl) rfl rfl ?_); (refine wlk ?_); (first | (refine finR (.tmp rfl .nil) rfl rfl ?_) | (refine finN (.tmp rfl .nil) rfl rfl ?_)); rfl))
theorem clSame_ext {a b : List Lt} (hl : a.length = b.length) (h : ∀ (j : Nat) x, j < a.length → a[j]? = some x → b[j]? = some x) : a = b := by
  refine List.ext_getElem? fun i => ?_
  by_cases hi : i < a.length
  · obtain ⟨x, hx⟩ := get_of_lt hi
    rw [hx, h i x hi hx]
  · rw [List.getElem?_eq_none (by omega), List.getElem?_eq_none (by omega)]
theorem clSame_no {a b : List Lt} (h : a ≠ b) : false = clSame a b := by
  cases e : clSame a b
  · rfl
  · exact absurd (clSame_iff.1 e) h
theorem clSame_yes {a b : List Lt} (h : a = b) : true = clSame a b := (clSame_iff.2 h).symm
theorem ne_at {α : Type} {a b : List α} {k : Nat} {x y : α} (hx : a[k]? = some x) (hy : b[k]? = some y) (h : x ≠ y) : a ≠ b := fun e => by
  rw [e, hy] at hx; injection hx with hx; exact h hx.symm
set_option maxHeartbeats 4000000 in
set_option maxRecDepth 100000 in
theorem rsameClause (a b : List Lt) : FnD Tryz.prog 7 [lA Lt.d a, lA Lt.d b] (.one (bA (clSame a b))) := by
  refine Fn.of Tryz.func7 rfl Tryz.ntmps7 rfl (Nat.le_of_ble_eq_true rfl) ?_
  refine dwp_len (t := 0) (ds := a.map Lt.d) rfl fun hbl => ?_
  rw [List.length_map] at hbl
  by_cases hl : a.length = b.length
  rotate_left
  · (refine wlk ?_)
    (first | (refine finR (.tmp rfl .nil) rfl rfl ?_) | (refine finN (.tmp rfl .nil) rfl rfl ?_))
    exact Xb (b := false) (clSame_no fun e => hl (by rw [e]))
  (refine wlk ?_)
  refine dwp_loop (fun k : Nat => [(.t 0, some (.one (lA Lt.d a))), (.t 1, some (.one (lA Lt.d b))), (.t 12, some (.one (iA a.length))), (.t 13, some (.one (iA k)))])
    (fun k => k ≤ a.length ∧ ∀ (j : Nat) x, j < k → a[j]? = some x → b[j]? = some x) (fun k => a.length - k) 0 ⟨by omega, fun j x h => absurd h (by omega)⟩ fgs ?_
  rintro k ⟨hk, hno⟩
  by_cases hkl : k < a.length
  · obtain ⟨x, hx⟩ := get_of_lt hkl
    obtain ⟨y, hy⟩ := get_of_lt (s := b) (k := k) (by omega)
    have hc := rsameLit x y
    cases e : x.same y
    · rw [e] at hc
      (refine wlk ?_)
      (refine SqA.b1 (op_call none rfl rfl rfl (by kernel_rfl) (FnD.use (hc)) rfl rfl rfl rfl rfl rfl) rfl rfl ?_)
      (refine wlk ?_)
      (first | (refine finR (.tmp rfl .nil) rfl rfl ?_) | (refine finN (.tmp rfl .nil) rfl rfl ?_))
      exact Xb (b := false) (clSame_no (ne_at hx hy fun h => by rw [Lt.same_iff.2 h] at e; cases e))
    · rw [e] at hc
      (refine wlk ?_)
      (refine SqA.b1 (op_call none rfl rfl rfl (by kernel_rfl) (FnD.use (hc)) rfl rfl rfl rfl rfl rfl) rfl rfl ?_)
      (refine wlk ?_)
      exact ⟨k + 1, ⟨by omega, upto_succI hno hx (by rw [hy, Lt.same_iff.1 e])⟩, fgs, by omega⟩
  · have : k = a.length := by omega
    subst this
    (refine wlk ?_)
    (first | (refine finR (.tmp rfl .nil) rfl rfl ?_) | (refine finN (.tmp rfl .nil) rfl rfl ?_))
    exact Xb (b := true) (clSame_yes (clSame_ext hl hno))
set_option maxHeartbeats 4000000 in
set_option maxRecDepth 100000 in
theorem eqfL (a b : List Lt) : FnD Tryz.prog 34 [lA Lt.d a, lA Lt.d b, .c (.val (.func (.func 18) #[] #[]))] (.one (bA (clSame a b))) := by
  refine Fn.of Tryz.func34 rfl Tryz.ntmps34 rfl (Nat.le_of_ble_eq_true rfl) ?_
  refine dwp_len (t := 0) (ds := a.map Lt.d) rfl fun hbl => ?_
  rw [List.length_map] at hbl
  by_cases hl : a.length = b.length
  rotate_left
  · (refine wlk ?_)
    (first | (refine finR (.tmp rfl .nil) rfl rfl ?_) | (refine finN (.tmp rfl .nil) rfl rfl ?_))
    exact Xb (b := false) (clSame_no fun e => hl (by rw [e]))
  (refine wlk ?_)
  refine dwp_loop (fun k : Nat => [(.t 1, some (.one (lA Lt.d b))), (.t 2, some (.one (.c (.val (.func (.func 18) #[] #[]))))), (.t 15, some (.one (lA Lt.d a))), (.t 16, some (.one (iA a.length))), (.t 17, some (.one (iA k)))])
    (fun k => k ≤ a.length ∧ ∀ (j : Nat) x, j < k → a[j]? = some x → b[j]? = some x) (fun k => a.length - k) 0 ⟨by omega, fun j x h => absurd h (by omega)⟩ fgs ?_
  rintro k ⟨hk, hno⟩
  by_cases hkl : k < a.length
  · obtain ⟨x, hx⟩ := get_of_lt hkl
    obtain ⟨y, hy⟩ := get_of_lt (s := b) (k := k) (by omega)
    have hc := psameLit x y
    cases e : x.same y
    · rw [e] at hc
      (refine wlk ?_)
      (refine SqA.b1 (op_call none rfl rfl rfl (by kernel_rfl) (FnD.use (hc)) rfl rfl rfl rfl rfl rfl) rfl rfl ?_)
      (refine wlk ?_)
      (first | (refine finR (.tmp rfl .nil) rfl rfl ?_) | (refine finN (.tmp rfl .nil) rfl rfl ?_))
      exact Xb (b := false) (clSame_no (ne_at hx hy fun h => by rw [Lt.same_iff.2 h] at e; cases e))
    · rw [e] at hc
      (refine wlk ?_)
      (refine SqA.b1 (op_call none rfl rfl rfl (by kernel_rfl) (FnD.use (hc)) rfl rfl rfl rfl rfl rfl) rfl rfl ?_)
      (refine wlk ?_)
      exact ⟨k + 1, ⟨by omega, upto_succI hno hx (by rw [hy, Lt.same_iff.1 e])⟩, fgs, by omega⟩
  · have : k = a.length := by omega
    subst this
    (refine wlk ?_)
    (first | (refine finR (.tmp rfl .nil) rfl rfl ?_) | (refine finN (.tmp rfl .nil) rfl rfl ?_))
    exact Xb (b := true) (clSame_yes (clSame_ext hl hno))
set_option maxRecDepth 100000 in
theorem psameClause (a b : List Lt) : FnD Tryz.prog 10 [lA Lt.d a, lA Lt.d b] (.one (bA (clSame a b))) := by
  refine Fn.of Tryz.func10 rfl Tryz.ntmps10 rfl (Nat.le_of_ble_eq_true rfl) ?_
  (refine wlk ?_)
  (refine SqA.b1 (op_call none rfl rfl rfl (by kernel_rfl) (FnD.use (eqfL a b)) rfl rfl rfl rfl rfl rfl) rfl rfl ?_)
  (refine wlk ?_)
  (first | (refine finR (.tmp rfl .nil) rfl rfl ?_) | (refine finN (.tmp rfl .nil) rfl rfl ?_))
  rfl
set_option maxHeartbeats 4000000 in
set_option maxRecDepth 100000 in
theorem rlike (a b : Lt) : FnD Tryz.prog 44 [ltA a, ltA b] (.one (bA (like a b))) := by
  obtain ⟨an, al, ar⟩ := a
  obtain ⟨bn, bl, br⟩ := b
  have h1 := rsame al bl
  have h2 := rsame ar br
  have h3 := rsame al br
  have h4 := rsame ar bl
  have hl : like ⟨an, al, ar⟩ ⟨bn, bl, br⟩ = ((al.same bl && ar.same br) || (al.same br && ar.same bl)) := rfl
  rw [hl]
  generalize al.same bl = e1 at *
  generalize ar.same br = e2 at *
  generalize al.same br = e3 at *
  generalize ar.same bl = e4 at *
  refine Fn.of Tryz.func44 rfl Tryz.ntmps44 rfl (Nat.le_of_ble_eq_true rfl) ?_
  cases e1
  · cases e3
    · (refine wlk ?_)
      (refine SqA.b1 (op_call none rfl rfl rfl (by kernel_rfl) (FnD.use (h1)) rfl rfl rfl rfl rfl rfl) rfl rfl ?_)
      (refine wlk ?_)
      (refine SqA.b1 (op_call none rfl rfl rfl (by kernel_rfl) (FnD.use (h3)) rfl rfl rfl rfl rfl rfl) rfl rfl ?_)
      (refine wlk ?_)
      (first | (refine finR (.tmp rfl .nil) rfl rfl ?_) | (refine finN (.tmp rfl .nil) rfl rfl ?_))
      rfl
    · cases e4 <;> ((refine wlk ?_); (refine SqA.b1 (op_call none rfl rfl rfl (by kernel_rfl) (FnD.use (h1)) rfl rfl rfl rfl rfl rfl) rfl rfl ?_); (refine wlk ?_); (refine SqA.b1 (op_call none rfl rfl rfl (by kernel_rfl) (FnD.use (h3)) rfl rfl rfl rfl rfl rfl) rfl rfl ?_); (refine wlk ?_); (refine SqA.b1 (op_call none rfl rfl rfl (by kernel_rfl) (FnD.use (h4)) rfl rfl rfl rfl rfl rfl) rfl rfl ?_); (refine wlk ?_); (first | (refine finR (.tmp rfl .nil) rfl rfl ?_) | (refine finN (.tmp rfl .nil) rfl rfl ?_)); rfl)
  · cases e2
    · cases e3
      · (refine wlk ?_)
        (refine SqA.b1 (op_call none rfl rfl rfl (by kernel_rfl) (FnD.use (h1)) rfl rfl rfl rfl rfl rfl) rfl rfl ?_)
        (refine wlk ?_)
        (refine SqA.b1 (op_call none rfl rfl rfl (by kernel_rfl) (FnD.use (h2)) rfl rfl rfl rfl rfl rfl) rfl rfl ?_)
        (refine wlk ?_)
        (refine SqA.b1 (op_call none rfl rfl rfl (by kernel_rfl) (FnD.use (h3)) rfl rfl rfl rfl rfl rfl) rfl rfl ?_)
        (refine wlk ?_)
        (first | (refine finR (.tmp rfl .nil) rfl rfl ?_) | (refine finN (.tmp rfl .nil) rfl rfl ?_))
        rfl
      · cases e4 <;> ((refine wlk ?_); (refine SqA.b1 (op_call none rfl rfl rfl (by kernel_rfl) (FnD.use (h1)) rfl rfl rfl rfl rfl rfl) rfl rfl ?_); (refine wlk ?_); (refine SqA.b1 (op_call none rfl rfl rfl (by kernel_rfl) (FnD.use (h2)) rfl rfl rfl rfl rfl rfl) rfl rfl ?_); (refine wlk ?_); (refine SqA.b1 (op_call none rfl rfl rfl (by kernel_rfl) (FnD.use (h3)) rfl rfl rfl rfl rfl rfl) rfl rfl ?_); (refine wlk ?_); (refine SqA.b1 (op_call none rfl rfl rfl (by kernel_rfl) (FnD.use (h4)) rfl rfl rfl rfl rfl rfl) rfl rfl ?_); (refine wlk ?_); (first | (refine finR (.tmp rfl .nil) rfl rfl ?_) | (refine finN (.tmp rfl .nil) rfl rfl ?_)); rfl)
    · (refine wlk ?_)
      (refine SqA.b1 (op_call none rfl rfl rfl (by kernel_rfl) (FnD.use (h1)) rfl rfl rfl rfl rfl rfl) rfl rfl ?_)
      (refine wlk ?_)
      (refine SqA.b1 (op_call none rfl rfl rfl (by kernel_rfl) (FnD.use (h2)) rfl rfl rfl rfl rfl rfl) rfl rfl ?_)
      (refine wlk ?_)
      (first | (refine finR (.tmp rfl .nil) rfl rfl ?_) | (refine finN (.tmp rfl .nil) rfl rfl ?_))
      rfl

/-! ## by bindings -/
set_option maxHeartbeats 4000000 in
set_option maxRecDepth 100000 in
theorem papplyC (s : List Pr) (c : List Lt) (hl : c.length ≤ 1000000000) (hz : clSz c) : FnD Tryz.prog 20 [lA Pr.d s, lA Lt.d c] (.one (lA Lt.d (each (app s) c))) := by
  refine Fn.of Tryz.func20 rfl Tryz.ntmps20 rfl (Nat.le_of_ble_eq_true rfl) ?_
  (refine wlk ?_)
  refine dwp_loop (fun k : Nat => [(.t 0, some (.one (lA Pr.d s))), (.t 5, some (.one (.c (.own 44 7 ((each (app s) (c.take k)).map Lt.d))))), (.t 8, some (.one (lA Lt.d c))), (.t 9, some (.one (iA c.length))), (.t 10, some (.one (iA k)))])
    (fun k => k ≤ c.length) (fun k => c.length - k) 0 (by omega) ((Wk.nilOwn (d := 5) (E := 44) (m := 7) rfl).trans fgs) ?_
  intro k hk
  by_cases hkl : k < c.length
  · obtain ⟨⟨ng, xl, xr⟩, hx⟩ := get_of_lt hkl
    have hzx := hz _ (List.mem_of_getElem? hx)
    dsimp only at hzx
    have h1 := bapply s xl (by omega)
    have h2 := bapply s xr (by omega)
    have hsn := each_snoc (g := app s) hx
    have hel : (each (app s) (c.take (k + 1))).length ≤ 1000000000 := by rw [each_len, List.length_take]; omega
    (refine wlk ?_)
    (refine SqA.b1 (op_call none rfl rfl rfl (by kernel_rfl) (FnD.use (h1)) rfl rfl rfl rfl rfl rfl) rfl rfl ?_)
    (refine wlk ?_)
    (refine SqA.b1 (op_call none rfl rfl rfl (by kernel_rfl) (FnD.use (h2)) rfl rfl rfl rfl rfl rfl) rfl rfl ?_)
    (refine wlk ?_)
    (refine SqA.b1 (op_bsT (T := TB) (f := Lt.d) [(⟨ng, app s xl, app s xr⟩ : Lt)] rfl rfl rfl rfl rfl rfl rfl rfl rfl rfl rfl) rfl rfl ?_)
    (refine wlk ?_)
    exact ⟨k + 1, by omega, fgs, by omega⟩
  · have : k = c.length := by omega
    subst this
    rw [List.take_length]
    (refine wlk ?_)
    refine fin_wk (fun n => Wk.freezeAt (d := 4) rfl) ?_
    (first | (refine finR (.tmp rfl .nil) rfl rfl ?_) | (refine finN (.tmp rfl .nil) rfl rfl ?_))
    rfl
set_option maxHeartbeats 4000000 in
set_option maxRecDepth 100000 in
theorem prenameC (kk : Int) (h0 : 0 ≤ kk) (h1k : kk ≤ 1000) (c : List Lt) (hl : c.length ≤ 1000000000) (hz : clSz c) (hk : clOkv c) : FnD Tryz.prog 24 [lA Lt.d c, iA kk] (.one (lA Lt.d (each (ren kk) c))) := by
  refine Fn.of Tryz.func24 rfl Tryz.ntmps24 rfl (Nat.le_of_ble_eq_true rfl) ?_
  (refine wlk ?_)
  refine dwp_loop (fun k : Nat => [(.t 1, some (.one (iA kk))), (.t 5, some (.one (.c (.own 44 7 ((each (ren kk) (c.take k)).map Lt.d))))), (.t 8, some (.one (lA Lt.d c))), (.t 9, some (.one (iA c.length))), (.t 10, some (.one (iA k)))])
    (fun k => k ≤ c.length) (fun k => c.length - k) 0 (by omega) ((Wk.nilOwn (d := 5) (E := 44) (m := 7) rfl).trans fgs) ?_
  intro k hk'
  by_cases hkl : k < c.length
  · obtain ⟨⟨ng, xl, xr⟩, hx⟩ := get_of_lt hkl
    have hzx := hz _ (List.mem_of_getElem? hx)
    have hkx := hk _ (List.mem_of_getElem? hx)
    dsimp only at hzx hkx
    have h1 := brename kk h0 h1k xl hkx.1 (by omega)
    have h2 := brename kk h0 h1k xr hkx.2 (by omega)
    have hsn := each_snoc (g := ren kk) hx
    have hel : (each (ren kk) (c.take (k + 1))).length ≤ 1000000000 := by rw [each_len, List.length_take]; omega
    (refine wlk ?_)
    (refine SqA.b1 (op_call none rfl rfl rfl (by kernel_rfl) (FnD.use (h1)) rfl rfl rfl rfl rfl rfl) rfl rfl ?_)
    (refine wlk ?_)
    (refine SqA.b1 (op_call none rfl rfl rfl (by kernel_rfl) (FnD.use (h2)) rfl rfl rfl rfl rfl rfl) rfl rfl ?_)
    (refine wlk ?_)
    (refine SqA.b1 (op_bsT (T := TB) (f := Lt.d) [(⟨ng, ren kk xl, ren kk xr⟩ : Lt)] rfl rfl rfl rfl rfl rfl rfl rfl rfl rfl rfl) rfl rfl ?_)
    (refine wlk ?_)
    exact ⟨k + 1, by omega, fgs, by omega⟩
  · have : k = c.length := by omega
    subst this
    rw [List.take_length]
    (refine wlk ?_)
    refine fin_wk (fun n => Wk.freezeAt (d := 4) rfl) ?_
    (first | (refine finR (.tmp rfl .nil) rfl rfl ?_) | (refine finN (.tmp rfl .nil) rfl rfl ?_))
    rfl

/-! ## whether one of a list is so -/
def idxP {α : Type} (p : α → Bool) : Nat → List α → Int
  | _, [] => -1
  | i, x :: l => if p x then (i : Int) else idxP p (i + 1) l
theorem idxP_at {α : Type} {p : α → Bool} : ∀ {l : List α} {i k : Nat} {v : α}, (∀ j x, j < k → l[j]? = some x → p x = false) → l[k]? = some v → p v = true → idxP p i l = ((i + k : Nat) : Int)
  | [], i, k, v, _, h, _ => by simp at h
  | x :: l, i, 0, v, _, h, hv => by simp at h; subst h; simp [idxP, hv]
  | x :: l, i, k + 1, v, hno, h, hv => by
    have h0 := hno 0 x (by omega) rfl
    have := idxP_at (p := p) (l := l) (i := i + 1) (k := k) (v := v) (fun j y hj hy => hno (j + 1) y (by omega) (by simpa using hy)) (by simpa using h) hv
    simp only [idxP, h0, Bool.false_eq_true, if_false]
    rw [this]
    congr 1; omega
theorem idxP_no {α : Type} {p : α → Bool} : ∀ {l : List α} {i : Nat}, (∀ x ∈ l, p x = false) → idxP p i l = -1
  | [], _, _ => rfl
  | x :: l, i, h => by
    simp only [idxP, h x (by simp), Bool.false_eq_true, if_false]
    exact idxP_no fun y hy => h y (by simp [hy])
theorem idxP_any {α : Type} {p : α → Bool} : ∀ {l : List α} {i : Nat}, l.any p = true → 0 ≤ idxP p i l
  | [], _, h => by simp at h
  | x :: l, i, h => by
    simp only [idxP]
    split
    · omega
    · rename_i hne
      simp only [List.any_cons, Bool.or_eq_true] at h
      rcases h with h | h
      · exact absurd h hne
      · exact idxP_any h
theorem any_no {α : Type} {p : α → Bool} {l : List α} (h : l.any p = false) : ∀ x ∈ l, p x = false := fun x hx => by
  have := List.any_eq_false.1 h x hx
  simpa using this
set_option maxHeartbeats 4000000 in
set_option maxRecDepth 100000 in
theorem idxFL (f : FuncId) (fc : List FC) (p : Lt → Bool) (hf : enters Tryz.prog f = true) (l : List Lt) (hp : ∀ x ∈ l, FnD Tryz.prog f [ltA x, .c (.fp fc)] (.one (bA (p x)))) :
    FnD Tryz.prog 77 [lA Lt.d l, .c (.fnv f [fc])] (.one (iA (idxP p 0 l))) := by
  refine Fn.of Tryz.func77 rfl Tryz.ntmps77 rfl (Nat.le_of_ble_eq_true rfl) ?_
  refine dwp_len (t := 0) rfl fun hbl => ?_
  rw [List.length_map] at hbl
  (refine wlk ?_)
  refine dwp_loop (fun k : Nat => [(.t 0, some (.one (lA Lt.d l))), (.t 1, some (.one (.c (.fnv f [fc])))), (.t 7, some (.one (iA l.length))), (.t 8, some (.one (iA k)))])
    (fun k => k ≤ l.length ∧ ∀ j x, j < k → l[j]? = some x → p x = false) (fun k => l.length - k) 0 ⟨by omega, fun j x h => absurd h (by omega)⟩ fgs ?_
  rintro k ⟨hk, hno⟩
  by_cases hkl : k < l.length
  · obtain ⟨x, hx⟩ := get_of_lt hkl
    have hc := hp x (List.mem_of_getElem? hx)
    cases e : p x
    · rw [e] at hc
      (refine wlk ?_)
      (refine SqA.b1 (op_callV none rfl rfl rfl hf (FnD.use (hc)) rfl rfl rfl rfl rfl rfl) rfl rfl ?_)
      (refine wlk ?_)
      exact ⟨k + 1, ⟨by omega, upto_succ hno hx e⟩, fgs, by omega⟩
    · rw [e] at hc
      (refine wlk ?_)
      (refine SqA.b1 (op_callV none rfl rfl rfl hf (FnD.use (hc)) rfl rfl rfl rfl rfl rfl) rfl rfl ?_)
      (refine wlk ?_)
      (first | (refine finR (.tmp rfl .nil) rfl rfl ?_) | (refine finN (.tmp rfl .nil) rfl rfl ?_))
      exact Xi (b := k) (by rw [idxP_at hno hx e, Nat.zero_add])
  · have : k = l.length := by omega
    subst this
    (refine wlk ?_)
    (first | (refine finR (.tmp rfl .nil) rfl rfl ?_) | (refine finN (.tmp rfl .nil) rfl rfl ?_))
    exact Xi (b := -1) (by rw [idxP_no (any_upto hno)])
set_option maxRecDepth 100000 in
theorem contFL (f : FuncId) (fc : List FC) (p : Lt → Bool) (hf : enters Tryz.prog f = true) (l : List Lt) (hp : ∀ x ∈ l, FnD Tryz.prog f [ltA x, .c (.fp fc)] (.one (bA (p x)))) :
    FnD Tryz.prog 60 [lA Lt.d l, .c (.fnv f [fc])] (.one (bA (l.any p))) := by
  refine Fn.of Tryz.func60 rfl Tryz.ntmps60 rfl (Nat.le_of_ble_eq_true rfl) ?_
  have hc := idxFL f fc p hf l hp
  cases e : l.any p
  · have h0 := idxP_no (p := p) (i := 0) (any_no e)
    (refine wlk ?_)
    (refine SqA.b1 (op_call none rfl rfl rfl (by kernel_rfl) (FnD.use (hc)) rfl rfl rfl rfl rfl rfl) rfl rfl ?_)
    (refine wlk ?_)
    (first | (refine finR (.tmp rfl .nil) rfl rfl ?_) | (refine finN (.tmp rfl .nil) rfl rfl ?_))
    rfl
  · have h0 := idxP_any (p := p) (i := 0) e
    (refine wlk ?_)
    (refine SqA.b1 (op_call none rfl rfl rfl (by kernel_rfl) (FnD.use (hc)) rfl rfl rfl rfl rfl rfl) rfl rfl ?_)
    (refine wlk ?_)
    (first | (refine finR (.tmp rfl .nil) rfl rfl ?_) | (refine finN (.tmp rfl .nil) rfl rfl ?_))
    rfl
def ltF (l : Lt) : List FC := [.val (.bool l.neg), .val (.bool l.left.var), .val (.int .i64 l.left.n), .arr (l.left.args.map Tm.d), .val (.bool l.right.var), .val (.int .i64 l.right.n), .arr (l.right.args.map Tm.d)]
set_option maxRecDepth 100000 in
theorem phas1 (x l : Lt) : FnD Tryz.prog 61 [ltA x, .c (.fp (ltF l))] (.one (bA (x.same l))) := by
  refine Fn.of Tryz.func61 rfl Tryz.ntmps61 rfl (Nat.le_of_ble_eq_true rfl) ?_
  (refine wlk ?_)
  (refine SqA.b1 (op_call none rfl rfl rfl (by kernel_rfl) (FnD.use (psameLit x l)) rfl rfl rfl rfl rfl rfl) rfl rfl ?_)
  (refine wlk ?_)
  (first | (refine finR (.tmp rfl .nil) rfl rfl ?_) | (refine finN (.tmp rfl .nil) rfl rfl ?_))
  rfl
set_option maxRecDepth 100000 in
theorem phas (c : List Lt) (l : Lt) : FnD Tryz.prog 39 [lA Lt.d c, ltA l] (.one (bA (c.any fun x => x.same l))) := by
  refine Fn.of Tryz.func39 rfl Tryz.ntmps39 rfl (Nat.le_of_ble_eq_true rfl) ?_
  (refine wlR ?_)
  refine dwp_wk (Wk.frzF (t := 3) (j := 3) (fs := ltF l) rfl rfl rfl rfl rfl) ?_
  (refine wlk ?_)
  (refine SqA.b1 (op_mkFn rfl rfl rfl) rfl rfl ?_)
  (refine wlk ?_)
  (refine SqA.b1 (op_call none rfl rfl rfl (by kernel_rfl) (FnD.use (contFL 61 (ltF l) (fun x => x.same l) (by kernel_rfl) c fun x _ => phas1 x l)) rfl rfl rfl rfl rfl rfl) rfl rfl ?_)
  (refine wlk ?_)
  (first | (refine finR (.tmp rfl .nil) rfl rfl ?_) | (refine finN (.tmp rfl .nil) rfl rfl ?_))
  rfl
end Go.Proofs.YtmanhdacnkpclaaGreatDoor
