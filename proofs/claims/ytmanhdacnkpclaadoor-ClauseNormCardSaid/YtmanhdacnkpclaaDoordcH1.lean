/- What functions do: models. -/
import Derived.Test.YtmanhdacnkpclaaDoordcBa
import Derived.Test.YtmanhdacnkpclaaDoordcPb1
import Derived.Test.YtmanhdacnkpclaaDoordcRt
namespace Go.Proofs.YtmanhdacnkpclaaDoor
set_option linter.all false
open Go.RowKit

abbrev mdA (m : Md) : A1 := .agg [.val (.int .i64 m.size), .arr (m.tables.map Is.d)]
theorem sig_at {s : List Int} (hs : wrongSig s = 0) {k : Nat} {n : Int} (h : s[k]? = some n) : 0 ≤ n ∧ n ≤ 2 := by
  unfold wrongSig at hs
  split at hs
  · cases hs
  · split at hs
    · cases hs
    · rename_i h2
      simp only [Bool.not_eq_true] at h2
      have := List.any_eq_false.1 h2 n (List.mem_of_getElem? h)
      simp only [decide_eq_true_eq] at this
      omega
theorem sig_len {s : List Int} (hs : wrongSig s = 0) : 1 ≤ s.length ∧ s.length ≤ 6 := by
  unfold wrongSig at hs
  split at hs
  · cases hs
  · omega
theorem pow_le {z : Int} (h1 : 1 ≤ z) (h8 : z ≤ 8) {j : Nat} (hj : j ≤ 2) : 1 ≤ z ^ j ∧ z ^ j ≤ 64 := by
  match j with
  | 0 => rw [Int.pow_zero]; omega
  | 1 => rw [show z ^ 1 = z by rw [Int.pow_succ, Int.pow_zero, Int.one_mul]]; omega
  | 2 =>
    have : z ^ 2 = z * z := by rw [Int.pow_succ, Int.pow_succ, Int.pow_zero, Int.one_mul]
    rw [this]
    have h := Int.mul_le_mul h8 h8 (by omega) (by omega)
    have h' := Int.mul_le_mul h1 h1 (by omega) (by omega)
    omega
  | j + 3 => omega
theorem tab_at {m : Md} {s : List Int} (hl : m.tables.length = s.length) {k : Nat} {n : Int} (h : s[k]? = some n) : m.tables[k]? = some (m.tables.getD (0 + k) []) := by
  have hk : k < m.tables.length := by rw [hl]; exact (List.getElem?_eq_some_iff.1 h).1
  rw [Nat.zero_add, List.getD_eq_getElem?_getD, List.getElem?_eq_getElem hk]; rfl
theorem any_bad {z : Int} {row : List Int} {k : Nat} {x : Int} (h : row[k]? = some x) (hx : x < 0 ∨ z ≤ x) : row.any (fun x => decide (x < 0 ∨ z ≤ x)) = true := List.any_eq_true.2 ⟨x, List.mem_of_getElem? h, decide_eq_true hx⟩
theorem any_good {z : Int} {row : List Int} (h : ∀ j x, j < row.length → row[j]? = some x → ¬ (x < 0 ∨ z ≤ x)) : row.any (fun x => decide (x < 0 ∨ z ≤ x)) = false := List.any_eq_false.2 fun x hx => by
  have := any_upto h x hx
  simpa only [decide_eq_true_eq] using this

theorem three_at {z n : Int} (h0 : 0 ≤ n) (h2 : n ≤ 2) : ([1, z, z * z] : List Int)[n.toNat]? = some (z ^ n.toNat) := by
  obtain ⟨k, rfl⟩ := Int.eq_ofNat_of_zero_le h0
  rw [Int.toNat_natCast]
  match k with
  | 0 => simp
  | 1 => simp only [List.getElem?_cons_succ, List.getElem?_cons_zero, Int.pow_succ, Int.pow_zero, Int.one_mul]
  | 2 => simp only [List.getElem?_cons_succ, List.getElem?_cons_zero, Int.pow_succ, Int.pow_zero, Int.one_mul]
  | k + 3 => omega
set_option maxHeartbeats 8000000 in
set_option maxRecDepth 100000 in
theorem rwrongModel (s : List Int) (hs : wrongSig s = 0) (m : Md) : FnD Tryd.prog 49 [lA Int.d s, mdA m] (.one (iA (wrongModel s m))) := by
  refine Fn.of Tryd.func49 rfl Tryd.ntmps49 rfl (Nat.le_of_ble_eq_true rfl) ?_
  obtain ⟨hsl1, hsl6⟩ := sig_len hs
  by_cases h1 : m.size < 1
  · (refine wlk ?_)
    (first | (refine finR (.tmp rfl .nil) rfl rfl ?_) | (refine finN (.tmp rfl .nil) rfl rfl ?_))
    exact Xi (b := 5) (by simp [wrongModel, h1])
  by_cases h8 : 8 < m.size
  · (refine wlk ?_)
    (first | (refine finR (.tmp rfl .nil) rfl rfl ?_) | (refine finN (.tmp rfl .nil) rfl rfl ?_))
    exact Xi (b := 5) (by simp [wrongModel, h8])
  by_cases hl : m.tables.length = s.length
  rotate_left
  · (refine wlk ?_)
    (first | (refine finR (.tmp rfl .nil) rfl rfl ?_) | (refine finN (.tmp rfl .nil) rfl rfl ?_))
    exact Xi (b := 5) (by simp [wrongModel, hl])
  have hwm : wrongModel s m = wrongRows m.size m.tables 0 s := by unfold wrongModel; rw [if_neg (by omega)]
  rw [hwm]
  have hzz := pow_le (z := m.size) (by omega) (by omega) (j := 2) (by omega)
  rw [show m.size ^ 2 = m.size * m.size by rw [Int.pow_succ, Int.pow_succ, Int.pow_zero, Int.one_mul]] at hzz
  (refine wlk ?_)
  refine dwp_loop (fun k : Nat => [(.t 3, some (.one (.c (.ptr 3 0)))), (.b 3, some (.box (mdA m).cells)), (.t 25, some (.one (lA Int.d s))), (.t 26, some (.one (iA s.length))), (.t 27, some (.one (iA k)))])
    (fun k => k ≤ s.length ∧ ∀ j n, j < k → s[j]? = some n → wrongRow m.size (m.tables.getD (0 + j) []) n = 0) (fun k => s.length - k) 0 ⟨by omega, fun j n h => absurd h (by omega)⟩ fgs ?_
  rintro k ⟨hk, hno⟩
  by_cases hkl : k < s.length
  · obtain ⟨n, hn⟩ := get_of_lt hkl
    have hrow := tab_at hl hn
    generalize hr : m.tables.getD (0 + k) [] = row at hrow
    have hnn := sig_at hs hn
    have h3 := three_at (z := m.size) hnn.1 hnn.2
    have hnt : n = (n.toNat : Int) := by omega
    by_cases hrl : (row.length : Int) = m.size ^ n.toNat
    rotate_left
    · (refine wlk ?_)
      (refine SqA.b1 (op_bsT (T := TB) (f := Int.d) [1, m.size, m.size * m.size] rfl rfl rfl rfl rfl rfl rfl rfl rfl rfl rfl) rfl rfl ?_)
      (refine wlk ?_)
      (first | (refine finR (.tmp rfl .nil) rfl rfl ?_) | (refine finN (.tmp rfl .nil) rfl rfl ?_))
      have hw : wrongRow m.size (m.tables.getD (0 + k) []) n = 5 := by rw [hr]; unfold wrongRow want; rw [if_pos hrl]
      exact Xi (b := 5) (by rw [wrongRows_no hno hn (by rw [hw]; decide), hw])
    have hpl := pow_le (z := m.size) (by omega) (by omega) (j := n.toNat) (by omega)
    (refine wlk ?_)
    (refine SqA.b1 (op_bsT (T := TB) (f := Int.d) [1, m.size, m.size * m.size] rfl rfl rfl rfl rfl rfl rfl rfl rfl rfl rfl) rfl rfl ?_)
    (refine wlk ?_)
    refine dwp_loop (fun i : Nat => [(.t 3, some (.one (.c (.ptr 3 0)))), (.b 3, some (.box (mdA m).cells)), (.t 25, some (.one (lA Int.d s))), (.t 26, some (.one (iA s.length))), (.t 27, some (.one (iA k))), (.t 54, some (.one (lA Int.d row))), (.t 55, some (.one (iA row.length))), (.t 56, some (.one (iA i)))])
      (fun i => i ≤ row.length ∧ ∀ j x, j < i → row[j]? = some x → ¬ (x < 0 ∨ m.size ≤ x)) (fun i => row.length - i) 0 ⟨by omega, fun j x h => absurd h (by omega)⟩ fgs ?_
    rintro i ⟨hi, hok⟩
    by_cases hil : i < row.length
    · obtain ⟨x, hx⟩ := get_of_lt hil
      have hbad : (x < 0 ∨ m.size ≤ x) → wrongRow m.size (m.tables.getD (0 + k) []) n = 3 := fun hb => by
        rw [hr]; unfold wrongRow want; rw [if_neg (by simp [hrl]), if_pos (any_bad hx hb)]
      by_cases hx0 : x < 0
      · (refine wlk ?_)
        (first | (refine finR (.tmp rfl .nil) rfl rfl ?_) | (refine finN (.tmp rfl .nil) rfl rfl ?_))
        exact Xi (b := 3) (by rw [wrongRows_no hno hn (by rw [hbad (.inl hx0)]; decide), hbad (.inl hx0)])
      by_cases hxz : m.size ≤ x
      · (refine wlk ?_)
        (first | (refine finR (.tmp rfl .nil) rfl rfl ?_) | (refine finN (.tmp rfl .nil) rfl rfl ?_))
        exact Xi (b := 3) (by rw [wrongRows_no hno hn (by rw [hbad (.inr hxz)]; decide), hbad (.inr hxz)])
      (refine wlk ?_)
      exact ⟨i + 1, ⟨by omega, upto_succ hok hx (by omega)⟩, fgs, by omega⟩
    · have : i = row.length := by omega
      subst this
      have hw : wrongRow m.size (m.tables.getD (0 + k) []) n = 0 := by
        rw [hr]; unfold wrongRow want; rw [if_neg (by simp [hrl]), any_good hok]; rfl
      (refine wlk ?_)
      exact ⟨k + 1, ⟨by omega, upto_succI hno hn hw⟩, fgs, by omega⟩
  · have : k = s.length := by omega
    subst this
    (refine wlk ?_)
    (first | (refine finR (.tmp rfl .nil) rfl rfl ?_) | (refine finN (.tmp rfl .nil) rfl rfl ?_))
    exact Xi (b := 0) (wrongRows_yes hno).symm

theorem wfs_take {s : List Int} {l : List Tm} (h : Tm.wfs s l = true) (k : Nat) : Tm.wfs s (l.take k) = true := Tm.wfs_iff.2 fun t ht => (Tm.wfs_iff.1 h) t (List.mem_of_mem_take ht)
theorem mul_le {w z : Int} (h0 : 0 ≤ w) (h1 : w ≤ 64) (g0 : 1 ≤ z) (g1 : z ≤ 8) : 0 ≤ w * z ∧ w * z ≤ 512 := by
  have h := Int.mul_le_mul h1 g1 (by omega) (by omega)
  have h' := Int.mul_nonneg h0 (show 0 ≤ z by omega)
  omega
theorem row_at {row : List Int} {v : Int} (h0 : 0 ≤ v) (h1 : v < row.length) : row[v.toNat]? = some (row.getD v.toNat 0) := by
  have hlt : v.toNat < row.length := by omega
  rw [List.getD_eq_getElem?_getD, List.getElem?_eq_getElem hlt]; rfl
set_option maxHeartbeats 8000000 in
set_option maxRecDepth 100000 in
theorem rvalue {s : List Int} {m : Md} {env : List Int} (hm : MOk s m) (he : EOk m env) (hs : wrongSig s = 0) : ∀ t : Tm, t.wf s = true → FnD Tryd.prog 120 [mdA m, lA Int.d env, tA t] (.one (iA (value m env t))) := by
  refine Tm.ind ?_
  intro v n l ih hw
  refine Fn.of Tryd.func120 rfl Tryd.ntmps120 rfl (Nat.le_of_ble_eq_true rfl) ?_
  have hel := he.len
  have hm1 := hm.one
  have hm8 := hm.eight
  cases v
  case true =>
    simp only [Tm.wf, Bool.and_eq_true, decide_eq_true_eq] at hw
    have hx : env[n.toNat]? = some (env.getD n.toNat 0) := by
      have hlt : n.toNat < env.length := by omega
      rw [List.getD_eq_getElem?_getD, List.getElem?_eq_getElem hlt]; rfl
    have hnt : (Tm.mk true n l).n = (n.toNat : Int) := by show n = _; omega
    (refine wlk ?_)
    (first | (refine finR (.tmp rfl .nil) rfl rfl ?_) | (refine finN (.tmp rfl .nil) rfl rfl ?_))
    exact Xi (b := env.getD n.toNat 0) (by simp only [value])
  case false =>
    simp only [Tm.wf, Bool.and_eq_true, decide_eq_true_eq] at hw
    obtain ⟨⟨⟨h0, h1⟩, h2⟩, h3⟩ := hw
    have hsn : s[n.toNat]? = some (s.getD n.toNat 0) := by
      have hlt : n.toNat < s.length := by omega
      rw [List.getD_eq_getElem?_getD, List.getElem?_eq_getElem hlt]; rfl
    have hn2 := sig_at hs hsn
    have hl2 : l.length ≤ 2 := by omega
    have hrw := hm.row n.toNat _ hsn
    have hrow := tab_at hm.len hsn
    rw [Nat.zero_add] at hrow
    obtain ⟨hrl, hrx⟩ := hrw
    generalize hr : m.tables.getD n.toNat [] = row at hrow hrl hrx
    have hvs := values_ok hm he l h3 0 0 (by omega) (by simp)
    have hnt : (Tm.mk false n l).n = (n.toNat : Int) := by show n = _; omega
    (refine wlk ?_)
    refine dwp_loop (fun k : Nat => [(.t 1, some (.one (lA Int.d env))), (.t 3, some (.one (.c (.ptr 3 0)))), (.b 3, some (.box (mdA m).cells)), (.t 5, some (.one (.c (.ptr 5 0)))), (.b 5, some (.box (tA ⟨false, n, l⟩).cells)),
        (.t 7, some (.one (iA (values m env 0 (l.take k))))), (.t 18, some (.one (lA Tm.d l))), (.t 19, some (.one (iA l.length))), (.t 20, some (.one (iA k)))])
      (fun k => k ≤ l.length) (fun k => l.length - k) 0 (by omega) fgs ?_
    intro k hk
    by_cases hkl : k < l.length
    · obtain ⟨x, hx⟩ := get_of_lt hkl
      have hxw : x.wf s = true := (Tm.wfs_iff.1 h3) x (List.mem_of_getElem? hx)
      have hc := ih x (List.mem_of_getElem? hx) hxw
      have hv := value_ok hm he x hxw
      have hsn2 : values m env 0 (l.take (k + 1)) = m.size * values m env 0 (l.take k) + value m env x := by
        rw [take_succ_of hx, values_snoc]
        first | done | rw [Int.mul_comm]
      have hwk := values_ok hm he (l.take k) (wfs_take h3 k) 0 0 (by omega) (by simp)
      have hpk := pow_le hm1 hm8 (j := 0 + (l.take k).length) (by rw [List.length_take]; omega)
      have hq0 := mul_le (w := values m env 0 (l.take k)) (z := m.size) hwk.1 (by omega) hm1 hm8
      have hq : 0 ≤ m.size * values m env 0 (l.take k) ∧ m.size * values m env 0 (l.take k) ≤ 512 := by first | exact hq0 | (rw [Int.mul_comm]; exact hq0)
      (refine wlk ?_)
      (refine SqA.b1 (op_call none rfl rfl rfl (by kernel_rfl) (FnD.use (hc)) rfl rfl rfl rfl rfl rfl) rfl rfl ?_)
      (refine wlk ?_)
      refine ⟨k + 1, by omega, ?_, by omega⟩
      rw [hsn2]
      exact fgs
    · have : k = l.length := by omega
      subst this
      rw [List.take_length]
      have hpl := pow_le hm1 hm8 (j := 0 + l.length) (by omega)
      have hrl2 : values m env 0 l < row.length := by
        rw [hrl]
        unfold want
        have : (s.getD n.toNat 0).toNat = 0 + l.length := by omega
        rw [this]; exact hvs.2
      have hat := row_at hvs.1 hrl2
      have hvt : values m env 0 l = ((values m env 0 l).toNat : Int) := by omega
      (refine wlk ?_)
      (first | (refine finR (.tmp rfl .nil) rfl rfl ?_) | (refine finN (.tmp rfl .nil) rfl rfl ?_))
      exact Xi (b := row.getD (values m env 0 l).toNat 0) (by simp only [value, hr])
end Go.Proofs.YtmanhdacnkpclaaDoor
