/- What functions do: the program's Parse and Text. -/
import Derived.Test.YtmanhdacnkpclaaGreatDoorzdT3
import Derived.Test.YtmanhdacnkpclaaGreatDoorzdTt
namespace Go.Proofs.YtmanhdacnkpclaaGreatDoor
set_option linter.all false
open Go.RowKit

set_option maxHeartbeats 4000000 in
set_option maxRecDepth 100000 in
theorem pparse (s : List Int) (l : List UInt8) : FnD Tryz.prog 31 [lA Int.d s, sA l] (.tup [tA (parseTm s l).1, iA (parseTm s l).2]) := by
  refine Fn.of Tryz.func31 rfl Tryz.ntmps31 rfl (Nat.le_of_ble_eq_true rfl) ?_
  by_cases hs : wrongSig s = 0
  rotate_left
  · (refine wlk ?_)
    (refine SqA.b1 (op_call none rfl rfl rfl (by kernel_rfl) (FnD.use (pwrongSig s)) rfl rfl rfl rfl rfl rfl) rfl rfl ?_)
    (refine wlk ?_)
    refine fin_wk (fun n => Wk.nilArrB (j := 4) (q := 2) rfl rfl rfl) ?_
    (first | (refine finR (.cellN rfl rfl (rw_of rfl) rfl rfl (.tmp rfl .nil)) rfl rfl ?_) | (refine finN (.cellN rfl rfl (rw_of rfl) rfl rfl (.tmp rfl .nil)) rfl rfl ?_))
    exact Xpa (r := (Tm.zero, wrongSig s)) (by simp [parseTm, hs])
  by_cases hl : 48 < l.length
  · (refine wlk ?_)
    (refine SqA.b1 (op_call none rfl rfl rfl (by kernel_rfl) (FnD.use (pwrongSig s)) rfl rfl rfl rfl rfl rfl) rfl rfl ?_)
    (refine wlk ?_)
    refine fin_wk (fun n => Wk.nilArrB (j := 4) (q := 2) rfl rfl rfl) ?_
    (first | (refine finR (.cellN rfl rfl (rw_of rfl) rfl rfl (.tmp rfl .nil)) rfl rfl ?_) | (refine finN (.cellN rfl rfl (rw_of rfl) rfl rfl (.tmp rfl .nil)) rfl rfl ?_))
    exact Xpa (r := (Tm.zero, 4)) (by simp [parseTm, hs, hl])
  have hc := pread s hs l
  have hp : parseTm s l = (let r := readTm s l
      if r.2.2 ≠ 0 then (Tm.zero, r.2.2) else if r.2.1 ≠ [] then (Tm.zero, 2) else
      if wrong s r.1 ≠ 0 then (Tm.zero, wrong s r.1) else (r.1, 0)) := by
    unfold parseTm; rw [if_neg (by simp [hs]), if_neg hl]
  rw [hp]
  generalize readTm s l = r at hc
  obtain ⟨t, l', e⟩ := r
  simp only [outX] at hc ⊢
  by_cases h : e = 0
  rotate_left
  · (refine wlk ?_)
    (refine SqA.b1 (op_call none rfl rfl rfl (by kernel_rfl) (FnD.use (pwrongSig s)) rfl rfl rfl rfl rfl rfl) rfl rfl ?_)
    (refine wlk ?_)
    (refine SqA.b1 (op_call none rfl rfl rfl (by kernel_rfl) (FnD.use (hc)) rfl rfl rfl rfl rfl rfl) rfl rfl ?_)
    (refine wlk ?_)
    refine fin_wk (fun n => Wk.nilArrB (j := 4) (q := 2) rfl rfl rfl) ?_
    (first | (refine finR (.cellN rfl rfl (rw_of rfl) rfl rfl (.tmp rfl .nil)) rfl rfl ?_) | (refine finN (.cellN rfl rfl (rw_of rfl) rfl rfl (.tmp rfl .nil)) rfl rfl ?_))
    exact Xpa (r := (Tm.zero, e)) (by simp [h])
  subst h
  cases hl' : (l' == [])
  · (refine wlk ?_)
    (refine SqA.b1 (op_call none rfl rfl rfl (by kernel_rfl) (FnD.use (pwrongSig s)) rfl rfl rfl rfl rfl rfl) rfl rfl ?_)
    (refine wlk ?_)
    (refine SqA.b1 (op_call none rfl rfl rfl (by kernel_rfl) (FnD.use (hc)) rfl rfl rfl rfl rfl rfl) rfl rfl ?_)
    (refine wlk ?_)
    refine fin_wk (fun n => Wk.nilArrB (j := 4) (q := 2) rfl rfl rfl) ?_
    (first | (refine finR (.cellN rfl rfl (rw_of rfl) rfl rfl (.tmp rfl .nil)) rfl rfl ?_) | (refine finN (.cellN rfl rfl (rw_of rfl) rfl rfl (.tmp rfl .nil)) rfl rfl ?_))
    exact Xpa (r := (Tm.zero, 2)) (by simp at hl'; simp [hl'])
  have hl'' : l' = [] := by simpa using hl'
  by_cases hw : wrong s t = 0
  · (refine wlk ?_)
    (refine SqA.b1 (op_call none rfl rfl rfl (by kernel_rfl) (FnD.use (pwrongSig s)) rfl rfl rfl rfl rfl rfl) rfl rfl ?_)
    (refine wlk ?_)
    (refine SqA.b1 (op_call none rfl rfl rfl (by kernel_rfl) (FnD.use (hc)) rfl rfl rfl rfl rfl rfl) rfl rfl ?_)
    (refine wlk ?_)
    (refine SqA.b1 (op_call none rfl rfl rfl (by kernel_rfl) (FnD.use (pwrong s t)) rfl rfl rfl rfl rfl rfl) rfl rfl ?_)
    (refine wlk ?_)
    (first | (refine finR (.cellN rfl rfl (rw_of rfl) rfl rfl (.tmp rfl .nil)) rfl rfl ?_) | (refine finN (.cellN rfl rfl (rw_of rfl) rfl rfl (.tmp rfl .nil)) rfl rfl ?_))
    exact Xpa (r := (t, 0)) (by simp [hl'', hw])
  · (refine wlk ?_)
    (refine SqA.b1 (op_call none rfl rfl rfl (by kernel_rfl) (FnD.use (pwrongSig s)) rfl rfl rfl rfl rfl rfl) rfl rfl ?_)
    (refine wlk ?_)
    (refine SqA.b1 (op_call none rfl rfl rfl (by kernel_rfl) (FnD.use (hc)) rfl rfl rfl rfl rfl rfl) rfl rfl ?_)
    (refine wlk ?_)
    (refine SqA.b1 (op_call none rfl rfl rfl (by kernel_rfl) (FnD.use (pwrong s t)) rfl rfl rfl rfl rfl rfl) rfl rfl ?_)
    (refine wlk ?_)
    refine fin_wk (fun n => Wk.nilArrB (j := 4) (q := 2) rfl rfl rfl) ?_
    (first | (refine finR (.cellN rfl rfl (rw_of rfl) rfl rfl (.tmp rfl .nil)) rfl rfl ?_) | (refine finN (.cellN rfl rfl (rw_of rfl) rfl rfl (.tmp rfl .nil)) rfl rfl ?_))
    exact Xpa (r := (Tm.zero, wrong s t)) (by simp [hl'', hw])
theorem sym32 {n : Int} (h0 : 0 ≤ n) (h1 : n ≤ 5) : IntKind.i32.wrap (97 + n) = 97 + n ∧ Utf8.encode (97 + n) = ⟨[UInt8.ofNat (97 + n.toNat)].toArray⟩ := by
  rcases (show n = 0 ∨ n = 1 ∨ n = 2 ∨ n = 3 ∨ n = 4 ∨ n = 5 by omega) with rfl | rfl | rfl | rfl | rfl | rfl <;> exact ⟨rfl, rfl⟩
set_option maxHeartbeats 4000000 in
set_option maxRecDepth 100000 in
theorem ptext {s : List Int} (hs : s.length ≤ 6) : ∀ t : Tm, t.wf s = true → t.size ≤ 2000000000000 → FnD Tryz.prog 45 [tA t] (.one (sA (text t))) := by
  refine Tm.ind ?_
  intro v n l ih hw hsz
  refine Fn.of Tryz.func45 rfl Tryz.ntmps45 rfl (Nat.le_of_ble_eq_true rfl) ?_
  simp only [Tm.size] at hsz
  cases v
  case true =>
    simp only [Tm.wf, Bool.and_eq_true, decide_eq_true_eq, List.isEmpty_iff] at hw
    have hc := citoa n hw.1.2 (by omega)
    obtain ⟨⟨rfl, _⟩, _⟩ := hw
    have e1 : ([88] : List UInt8) ++ [dig n] = text ⟨true, n, []⟩ := rfl
    (refine wlk ?_)
    (refine SqA.b1 (op_call none rfl rfl rfl (by kernel_rfl) (FnD.use (hc)) rfl rfl rfl rfl rfl rfl) rfl rfl ?_)
    (refine wlk ?_)
    (first | (refine finR (.tmp rfl .nil) rfl rfl ?_) | (refine finN (.tmp rfl .nil) rfl rfl ?_))
    exact rfl
  case false =>
    simp only [Tm.wf, Bool.and_eq_true, decide_eq_true_eq] at hw
    obtain ⟨⟨⟨h0, h1⟩, h2⟩, h3⟩ := hw
    obtain ⟨h8, h9⟩ := sym32 (n := n) h0 (by omega)
    have k0 : 0 ≤ (Tm.mk false n l).n := h0
    have k1 : (Tm.mk false n l).n ≤ 100 := by show n ≤ 100; omega
    have hts := text_sym n l
    generalize hy : UInt8.ofNat (97 + n.toNat) = y at h9 hts
    have hol : ∀ k, k ≤ l.length → (opens (l.take k)).length ≤ 1 + 4 * Tm.sizes l := fun k hk => by
      have h1 := sizes_take_le l k
      have h2 := texts_len (l.take k)
      cases hlt : l.take k with
      | nil => simp [opens]
      | cons a r =>
        rw [hlt] at h1 h2
        simp only [texts, List.length_cons, List.length_append] at h2
        simp only [opens, List.length_cons, List.length_append]
        omega
    have hll := sizes_len l
    (refine wlk ?_)
    refine dwp_loop (fun k : Nat => [(.t 1, some (.one (.c (.ptr 1 0)))), (.b 1, some (.box (tA ⟨false, n, l⟩).cells)), (.t 3, some (.one (sA ([y] ++ opens (l.take k))))), (.t 18, some (.one (lA Tm.d l))), (.t 19, some (.one (iA l.length))), (.t 20, some (.one (iA k)))])
      (fun k => k ≤ l.length) (fun k => l.length - k) 0 (by omega) fgs ?_
    intro k hk
    have hlk := hol k hk
    by_cases hkl : k < l.length
    · obtain ⟨x, hx⟩ := get_of_lt hkl
      have hxs := size_at hx
      have hxl := text_len x
      have cx := ih x (by simp [List.mem_of_getElem? hx]) ((Tm.wfs_iff.1 h3) x (List.mem_of_getElem? hx)) (by omega)
      have hso := opens_snoc (l.take k) x
      rw [← take_succ_of hx] at hso
      have htl : (l.take k).length = k := by rw [List.length_take]; omega
      rw [htl] at hso
      by_cases hk0 : k = 0
      · subst hk0
        have b0 : [([40] : List UInt8), [44]][0]? = some [40] := rfl
        have hsn : ([y] ++ opens (l.take 0)) ++ ([40] ++ text x) = [y] ++ opens (l.take (0 + 1)) := by rw [hso]; simp
        (refine wlk ?_)
        (refine SqA.b1 (op_bsT (T := TB) (f := Str.d) [([40] : List UInt8), [44]] rfl rfl rfl rfl rfl rfl rfl rfl rfl rfl rfl) rfl rfl ?_)
        (refine wlk ?_)
        (refine SqA.b1 (op_call none rfl rfl rfl (by kernel_rfl) (FnD.use (cx)) rfl rfl rfl rfl rfl rfl) rfl rfl ?_)
        (refine wlk ?_)
        exact ⟨0 + 1, by omega, fgs, by omega⟩
      · have hsn : ([y] ++ opens (l.take k)) ++ ([44] ++ text x) = [y] ++ opens (l.take (k + 1)) := by rw [hso]; simp [hk0]
        have b1 : [([40] : List UInt8), [44]][1]? = some [44] := rfl
        have hmin : (if (1 : Int) < (k : Int) then 1 else (k : Int)) = 1 := by split <;> omega
        (refine wlk ?_)
        (refine SqA.b1 (op_bsT (T := TB) (f := Str.d) [([40] : List UInt8), [44]] rfl rfl rfl rfl rfl rfl rfl rfl rfl rfl rfl) rfl rfl ?_)
        (refine wlk ?_)
        (refine SqA.b1 (op_call none rfl rfl rfl (by kernel_rfl) (FnD.use (cx)) rfl rfl rfl rfl rfl rfl) rfl rfl ?_)
        (refine wlk ?_)
        exact ⟨k + 1, by omega, fgs, by omega⟩
    · have : k = l.length := by omega
      subst this
      by_cases hln : l.length = 0
      · (refine wlk ?_)
        (first | (refine finR (.tmp rfl .nil) rfl rfl ?_) | (refine finN (.tmp rfl .nil) rfl rfl ?_))
        have : l = [] := List.length_eq_zero_iff.1 hln
        subst this
        exact Xs (by rw [hts]; rfl)
      · (refine wlk ?_)
        (first | (refine finR (.tmp rfl .nil) rfl rfl ?_) | (refine finN (.tmp rfl .nil) rfl rfl ?_))
        exact Xs (by
          rw [hts, List.take_length]
          cases l with
          | nil => exact absurd rfl hln
          | cons a r => rfl)
end Go.Proofs.YtmanhdacnkpclaaGreatDoor
