/- What functions do: copies; whether a number is in a list; variables. -/
import Derived.Test.YtmanhdacnkpclaaGreatDoorzdFf
import Derived.Test.YtmanhdacnkpclaaGreatDoorzdDd
import Derived.Test.YtmanhdacnkpclaaGreatDoorzdPb1
namespace Go.Proofs.YtmanhdacnkpclaaGreatDoor
set_option linter.all false
open Go.RowKit

set_option maxRecDepth 100000 in
theorem cloneI (l : List Int) (hl : l.length ≤ 2000000000000) : FnD Tryz.prog 68 [lA Int.d l] (.one (.c (.own 3 1 (l.map Int.d)))) := by
  cases l with
  | nil =>
    refine FnD.ofNil 0 rfl fun a c hc => ?_
    refine Fn.of Tryz.func68 rfl Tryz.ntmps68 rfl (Nat.le_of_ble_eq_true rfl) ?_
    cases a with
    | none =>
      (refine wlk ?_)
      (refine SqA.b1 (op_bin rfl rfl rfl rfl (nvInt c)) rfl rfl ?_)
      (refine wlk ?_)
      refine fin_wk (fun n => Wk.nilOwn (d := 2) (E := 3) (m := 1) rfl) ?_
      refine finO (E := _) rfl ?_
      rfl
    | some a =>
      (refine wlk ?_)
      (refine SqA.b1 (op_bin rfl rfl rfl rfl (nqInt a 0 c)) rfl rfl ?_)
      (refine wlk ?_)
      (refine SqA.b3 (Op1.vaIn (t := 6) rfl hc (op_appT (f := Int.d) (l := []) (es := []) (rs := []) (T := TB) rfl rfl rfl rfl rfl rfl (by decide) (by decide))) rfl rfl ?_)
      (refine wlk ?_)
      refine finO (E := _) rfl ?_
      rfl
  | cons x l =>
    generalize hy : x :: l = y at *
    have hy0 : 0 < (y.map Int.d).length := by rw [← hy]; simp
    have hl1 : ([] : List Int) ++ y = y := rfl
    refine Fn.of Tryz.func68 rfl Tryz.ntmps68 rfl (Nat.le_of_ble_eq_true rfl) ?_
    (refine wlk ?_)
    (refine SqA.b1 (op_eqNil rfl rfl rfl rfl nqInt hy0) rfl rfl ?_)
    (refine wlk ?_)
    refine finO (E := _) rfl ?_
    rfl
/-! ## whether a number is in a list -/
def idxG : Nat → List Int → Int → Int
  | _, [], _ => -1
  | i, x :: l, v => if v = x then (i : Int) else idxG (i + 1) l v
theorem idxG_at : ∀ {l : List Int} {i k : Nat} {v : Int}, (∀ j x, j < k → l[j]? = some x → v ≠ x) → l[k]? = some v → idxG i l v = ((i + k : Nat) : Int)
  | [], i, k, v, _, h => by simp at h
  | x :: l, i, 0, v, _, h => by simp at h; simp [idxG, h]
  | x :: l, i, k + 1, v, hno, h => by
    have h0 := hno 0 x (by omega) rfl
    have := idxG_at (l := l) (i := i + 1) (k := k) (v := v) (fun j y hj hy => hno (j + 1) y (by omega) (by simpa using hy)) (by simpa using h)
    simp only [idxG, if_neg h0]
    rw [this]
    congr 1; omega
theorem idxG_no : ∀ {l : List Int} {i : Nat} {v : Int}, (∀ x ∈ l, v ≠ x) → idxG i l v = -1
  | [], _, _, _ => rfl
  | x :: l, i, v, h => by
    simp only [idxG, if_neg (h x (by simp))]
    exact idxG_no fun y hy => h y (by simp [hy])
theorem idxG_mem : ∀ {l : List Int} {i : Nat} {v : Int}, v ∈ l → 0 ≤ idxG i l v
  | [], _, _, h => by cases h
  | x :: l, i, v, h => by
    simp only [idxG]
    split
    · omega
    · rename_i hne
      rcases List.mem_cons.1 h with h | h
      · exact absurd h hne
      · exact idxG_mem h
set_option maxRecDepth 100000 in
theorem cindexI (l : List Int) (v : Int) : FnD Tryz.prog 81 [lA Int.d l, iA v] (.one (iA (idxG 0 l v))) := by
  refine Fn.of Tryz.func81 rfl Tryz.ntmps81 rfl (Nat.le_of_ble_eq_true rfl) ?_
  refine dwp_len (t := 0) (ds := l.map Int.d) rfl fun hbl => ?_
  rw [List.length_map] at hbl
  (refine wlk ?_)
  refine dwp_loop (fun k : Nat => [(.t 0, some (.one (lA Int.d l))), (.t 1, some (.one (iA v))), (.t 7, some (.one (iA l.length))), (.t 8, some (.one (iA k)))])
    (fun k => k ≤ l.length ∧ ∀ j x, j < k → l[j]? = some x → v ≠ x) (fun k => l.length - k) 0 ⟨by omega, fun j x h => absurd h (by omega)⟩ fgs ?_
  rintro k ⟨hk, hno⟩
  by_cases hkl : k < l.length
  · obtain ⟨x, hx⟩ := get_of_lt hkl
    by_cases hxv : v = x
    · (refine wlk ?_)
      (first | (refine finR (.tmp rfl .nil) rfl rfl ?_) | (refine finN (.tmp rfl .nil) rfl rfl ?_))
      exact Xi (b := k) (by rw [idxG_at hno (hxv ▸ hx), Nat.zero_add])
    · (refine wlk ?_)
      exact ⟨k + 1, ⟨by omega, upto_succ hno hx hxv⟩, fgs, by omega⟩
  · have : k = l.length := by omega
    subst this
    (refine wlk ?_)
    (first | (refine finR (.tmp rfl .nil) rfl rfl ?_) | (refine finN (.tmp rfl .nil) rfl rfl ?_))
    exact Xi (b := -1) (by rw [idxG_no (any_upto hno)])
set_option maxRecDepth 100000 in
theorem ccontI (l : List Int) (v : Int) : FnD Tryz.prog 67 [lA Int.d l, iA v] (.one (bA (l.contains v))) := by
  refine Fn.of Tryz.func67 rfl Tryz.ntmps67 rfl (Nat.le_of_ble_eq_true rfl) ?_
  have hc := cindexI l v
  by_cases hm : v ∈ l
  · have h0 := idxG_mem (i := 0) hm
    (refine wlk ?_)
    (refine SqA.b1 (op_call none rfl rfl rfl (by kernel_rfl) (FnD.use (hc)) rfl rfl rfl rfl rfl rfl) rfl rfl ?_)
    (refine wlk ?_)
    (first | (refine finR (.tmp rfl .nil) rfl rfl ?_) | (refine finN (.tmp rfl .nil) rfl rfl ?_))
    exact Xb (b := true) (by simp [List.contains_iff_mem, hm])
  · have h0 := idxG_no (i := 0) (l := l) (v := v) fun x hx e => hm (e ▸ hx)
    (refine wlk ?_)
    (refine SqA.b1 (op_call none rfl rfl rfl (by kernel_rfl) (FnD.use (hc)) rfl rfl rfl rfl rfl rfl) rfl rfl ?_)
    (refine wlk ?_)
    (first | (refine finR (.tmp rfl .nil) rfl rfl ?_) | (refine finN (.tmp rfl .nil) rfl rfl ?_))
    exact Xb (b := false) (by simp [hm])
/-! ## variables -/
set_option maxHeartbeats 4000000 in
set_option maxRecDepth 100000 in
theorem pvars : ∀ (t : Tm) (l : List Int), l.length + t.size ≤ 2000000000000 → FnD Tryz.prog 48 [lA Int.d l, tA t] (.one (lA Int.d (vars l t))) := by
  refine Tm.ind ?_
  intro v n as_ ih l hsz
  refine Fn.of Tryz.func48 rfl Tryz.ntmps48 rfl (Nat.le_of_ble_eq_true rfl) ?_
  cases v
  case false =>
    simp only [Tm.size] at hsz
    have hll := sizes_len as_
    (refine wlk ?_)
    refine dwp_loop (fun k : Nat => [(.t 0, some (.one (lA Int.d (varss l (as_.take k))))), (.t 22, some (.one (lA Tm.d as_))), (.t 23, some (.one (iA as_.length))), (.t 24, some (.one (iA k)))])
      (fun k => k ≤ as_.length) (fun k => as_.length - k) 0 (by omega) fgs ?_
    intro k hk
    by_cases hkl : k < as_.length
    · obtain ⟨x, hx⟩ := get_of_lt hkl
      have h1 := varss_len l (as_.take k)
      have h2 := sizes_take_succ as_ k x hx
      have h3 := sizes_take_le as_ (k + 1)
      have e := varss_take (acc := l) hx
      (refine wlk ?_)
      (refine SqA.b1 (op_call none rfl rfl rfl (by kernel_rfl) (FnD.use (ih x (List.mem_of_getElem? hx) (varss l (as_.take k)) (by omega))) rfl rfl rfl rfl rfl rfl) rfl rfl ?_)
      rw [← e]
      (refine wlk ?_)
      exact ⟨k + 1, by omega, fgs, by omega⟩
    · have : k = as_.length := by omega
      subst this
      rw [List.take_length]
      (refine wlk ?_)
      (first | (refine finR (.tmp rfl .nil) rfl rfl ?_) | (refine finN (.tmp rfl .nil) rfl rfl ?_))
      exact Xl (f := Int.d) (b := varss l as_) (by simp [vars])
  case true =>
    have hc := ccontI l n
    by_cases hm : n ∈ l
    · rw [show l.contains n = true by simpa [List.contains_iff_mem] using hm] at hc
      (refine wlk ?_)
      (refine SqA.b1 (op_call none rfl rfl rfl (by kernel_rfl) (FnD.use (hc)) rfl rfl rfl rfl rfl rfl) rfl rfl ?_)
      (refine wlk ?_)
      (first | (refine finR (.tmp rfl .nil) rfl rfl ?_) | (refine finN (.tmp rfl .nil) rfl rfl ?_))
      exact Xl (f := Int.d) (b := l) (by simp only [vars]; rw [if_pos hm])
    · rw [show l.contains n = false by simp [hm]] at hc
      have hl2 : (l ++ [n]).length ≤ 2000000000000 := by simp [Tm.size] at hsz ⊢; omega
      (refine wlk ?_)
      (refine SqA.b1 (op_call none rfl rfl rfl (by kernel_rfl) (FnD.use (hc)) rfl rfl rfl rfl rfl rfl) rfl rfl ?_)
      (refine wlk ?_)
      (refine SqA.b1 (op_call none rfl rfl rfl (by kernel_rfl) (FnD.use (cloneI l (by simp [Tm.size] at hsz; omega))) rfl rfl rfl rfl rfl rfl) rfl rfl ?_)
      (refine wlk ?_)
      (refine SqA.b1 (op_bsT (T := TB) (f := Int.d) [n] rfl rfl rfl rfl rfl rfl rfl rfl rfl rfl rfl) rfl rfl ?_)
      (refine wlk ?_)
      refine fin_wk (fun n => Wk.freezeAt (d := 4) rfl) ?_
      (first | (refine finR (.tmp rfl .nil) rfl rfl ?_) | (refine finN (.tmp rfl .nil) rfl rfl ?_))
      exact Xl (f := Int.d) (b := l ++ [n]) (by simp only [vars]; rw [if_neg hm])
theorem clVars_snoc {c : List Lt} {k : Nat} {x : Lt} (acc : List Int) (h : c[k]? = some x) : clVars acc (c.take (k + 1)) = vars (vars (clVars acc (c.take k)) x.left) x.right := by
  rw [take_succ_of h, clVars_append]; rfl
/-- of which the sizes are bound -/
def clSz (c : List Lt) : Prop := ∀ l ∈ c, l.left.size ≤ 1900000000000 ∧ l.right.size ≤ 1900000000000
theorem vars_few {t : Tm} (hk : t.okv = true) (ht : few t) {l : List Int} (hd : l.Nodup) (hl : ∀ v ∈ l, 0 ≤ v ∧ v ≤ 9) : (vars l t).Nodup ∧ ∀ v ∈ vars l t, 0 ≤ v ∧ v ≤ 9 := by
  have h1 := clVars_nodup [⟨false, t, ⟨false, 0, []⟩⟩] l hd
  have h2 : clVars l [⟨false, t, ⟨false, 0, []⟩⟩] = vars l t := by simp [clVars, vars, varss]
  rw [h2] at h1
  refine ⟨h1, fun v hv => ?_⟩
  rcases vars_sub v t l hv with h | h
  · exact hl v h
  · exact ht v h
theorem len_few {l : List Int} (hd : l.Nodup) (hl : ∀ v ∈ l, 0 ≤ v ∧ v ≤ 9) : l.length ≤ 10 := nodup_le 10 _ hd fun x hx => by have := hl x hx; omega
theorem clVars_few2 {c : List Lt} (hk : clOkv c) (hf : clFew c) : (clVars [] c).Nodup ∧ ∀ v ∈ clVars [] c, 0 ≤ v ∧ v ≤ 9 := ⟨clVars_nodup c [] List.nodup_nil, clVars_few hf⟩
set_option maxHeartbeats 4000000 in
set_option maxRecDepth 100000 in
theorem rclVars (c : List Lt) (hk : clOkv c) (hf : clFew c) (hz : clSz c) : FnD Tryz.prog 17 [lA Lt.d c] (.one (lA Int.d (clVars [] c))) := by
  refine Fn.of Tryz.func17 rfl Tryz.ntmps17 rfl (Nat.le_of_ble_eq_true rfl) ?_
  refine dwp_len (t := 0) (ds := c.map Lt.d) rfl fun hbl => ?_
  rw [List.length_map] at hbl
  (refine wlk ?_)
  refine dwp_loop (fun k : Nat => [(.t 3, some (.one (lA Int.d (clVars [] (c.take k))))), (.t 6, some (.one (lA Lt.d c))), (.t 7, some (.one (iA c.length))), (.t 8, some (.one (iA k)))])
    (fun k => k ≤ c.length) (fun k => c.length - k) 0 (by omega) ((Wk.nilArr (d := 3) rfl).trans fgs) ?_
  intro k hk'
  by_cases hkl : k < c.length
  · obtain ⟨⟨ng, xl, xr⟩, hx⟩ := get_of_lt hkl
    have hm := List.mem_of_getElem? hx
    have hkx := hk _ hm
    have hfx := hf _ hm
    have hzx := hz _ hm
    have hsn := clVars_snoc [] hx
    dsimp only at hkx hfx hzx hsn
    have g1 := clVars_few2 (c := c.take k) (fun l hl => hk l (List.mem_of_mem_take hl)) (fun l hl => hf l (List.mem_of_mem_take hl))
    have g2 := vars_few hkx.1 hfx.1 g1.1 g1.2
    have n1 := len_few g1.1 g1.2
    have n2 := len_few g2.1 g2.2
    have c1 := rvars xl (clVars [] (c.take k)) (by omega)
    have c2 := rvars xr (vars (clVars [] (c.take k)) xl) (by omega)
    rw [← hsn] at c2
    (refine wlk ?_)
    (refine SqA.b1 (op_call none rfl rfl rfl (by kernel_rfl) (FnD.use (c1)) rfl rfl rfl rfl rfl rfl) rfl rfl ?_)
    (refine wlk ?_)
    (refine SqA.b1 (op_call none rfl rfl rfl (by kernel_rfl) (FnD.use (c2)) rfl rfl rfl rfl rfl rfl) rfl rfl ?_)
    (refine wlk ?_)
    exact ⟨k + 1, by omega, fgs, by omega⟩
  · have : k = c.length := by omega
    subst this
    rw [List.take_length]
    (refine wlk ?_)
    (first | (refine finR (.tmp rfl .nil) rfl rfl ?_) | (refine finN (.tmp rfl .nil) rfl rfl ?_))
    rfl
set_option maxHeartbeats 4000000 in
set_option maxRecDepth 100000 in
theorem pclVars (c : List Lt) (hk : clOkv c) (hf : clFew c) (hz : clSz c) : FnD Tryz.prog 16 [lA Lt.d c] (.one (lA Int.d (clVars [] c))) := by
  refine Fn.of Tryz.func16 rfl Tryz.ntmps16 rfl (Nat.le_of_ble_eq_true rfl) ?_
  refine dwp_len (t := 0) (ds := c.map Lt.d) rfl fun hbl => ?_
  rw [List.length_map] at hbl
  (refine wlk ?_)
  refine dwp_loop (fun k : Nat => [(.t 3, some (.one (lA Int.d (clVars [] (c.take k))))), (.t 6, some (.one (lA Lt.d c))), (.t 7, some (.one (iA c.length))), (.t 8, some (.one (iA k)))])
    (fun k => k ≤ c.length) (fun k => c.length - k) 0 (by omega) ((Wk.nilArr (d := 3) rfl).trans fgs) ?_
  intro k hk'
  by_cases hkl : k < c.length
  · obtain ⟨⟨ng, xl, xr⟩, hx⟩ := get_of_lt hkl
    have hm := List.mem_of_getElem? hx
    have hkx := hk _ hm
    have hfx := hf _ hm
    have hzx := hz _ hm
    have hsn := clVars_snoc [] hx
    dsimp only at hkx hfx hzx hsn
    have g1 := clVars_few2 (c := c.take k) (fun l hl => hk l (List.mem_of_mem_take hl)) (fun l hl => hf l (List.mem_of_mem_take hl))
    have g2 := vars_few hkx.1 hfx.1 g1.1 g1.2
    have n1 := len_few g1.1 g1.2
    have n2 := len_few g2.1 g2.2
    have c1 := pvars xl (clVars [] (c.take k)) (by omega)
    have c2 := pvars xr (vars (clVars [] (c.take k)) xl) (by omega)
    rw [← hsn] at c2
    (refine wlk ?_)
    (refine SqA.b1 (op_call none rfl rfl rfl (by kernel_rfl) (FnD.use (c1)) rfl rfl rfl rfl rfl rfl) rfl rfl ?_)
    (refine wlk ?_)
    (refine SqA.b1 (op_call none rfl rfl rfl (by kernel_rfl) (FnD.use (c2)) rfl rfl rfl rfl rfl rfl) rfl rfl ?_)
    (refine wlk ?_)
    exact ⟨k + 1, by omega, fgs, by omega⟩
  · have : k = c.length := by omega
    subst this
    rw [List.take_length]
    (refine wlk ?_)
    (first | (refine finR (.tmp rfl .nil) rfl rfl ?_) | (refine finN (.tmp rfl .nil) rfl rfl ?_))
    rfl
end Go.Proofs.YtmanhdacnkpclaaGreatDoor
