/- What functions do: the program's Text and Parse of clauses. -/
import Derived.Test.YtmanhdacnkpclaaGreatDoorzdCA
import Derived.Test.YtmanhdacnkpclaaGreatDoorzdT4
import Derived.Test.YtmanhdacnkpclaaGreatDoorzdD6
namespace Go.Proofs.YtmanhdacnkpclaaGreatDoor
set_option linter.all false
open Go.RowKit

theorem barJ_len : ∀ (l : List (List UInt8)) {n : Nat}, (∀ x ∈ l, x.length ≤ n) → (barJ l).length ≤ l.length * (n + 3)
  | [], n, _ => by simp [barJ]
  | [x], n, h => by have := h x (by simp); simp only [barJ, List.length_cons, List.length_nil, Nat.zero_add, Nat.one_mul]; omega
  | x :: y :: l, n, h => by
    have h1 := h x (by simp)
    have h2 := barJ_len (y :: l) fun z hz => h z (by simp [hz])
    show (x ++ barL ++ barJ (y :: l)).length ≤ _
    have h3 : barL.length = 3 := rfl
    rw [List.length_append, List.length_append, h3, List.length_cons, Nat.succ_mul]
    omega
set_option maxHeartbeats 4000000 in
set_option maxRecDepth 100000 in
theorem pclText {s : List Int} (hs : s.length ≤ 6) (c : List Lt) (hw : clWf s c) (hz : ∀ x ∈ c, x.left.size ≤ 12 ∧ x.right.size ≤ 12) (hl : c.length ≤ 4) : FnD Tryz.prog 14 [lA Lt.d c] (.one (sA (clText c))) := by
  refine Fn.of Tryz.func14 rfl Tryz.ntmps14 rfl (Nat.le_of_ble_eq_true rfl) ?_
  by_cases hl0 : c.length = 0
  · have : c = [] := List.length_eq_zero_iff.1 hl0
    subst this
    (refine wlk ?_)
    (first | (refine finR (.tmp rfl .nil) rfl rfl ?_) | (refine finN (.tmp rfl .nil) rfl rfl ?_))
    exact rfl
  have htx : clText c = barJ (c.map litText) := by
    cases c with
    | nil => exact absurd rfl hl0
    | cons x c => exact clText_bar x c
  have hne : c.map litText ≠ [] := fun e => hl0 (by rw [← List.length_map (f := litText), e]; rfl)
  have hbl := barJ_len (c.map litText) (n := 98) fun x hx => by
    obtain ⟨y, hy, rfl⟩ := List.mem_map.1 hx
    exact litText_len (hz y hy)
  rw [List.length_map] at hbl
  have hj := cjoin (c.map litText) hne (by rw [List.length_map]; omega) (by omega)
  rw [← htx] at hj
  (refine wlk ?_)
  refine dwp_loop (fun k : Nat => [(.t 3, some (.one (.c (.own 9 1 (((c.take k).map litText).map Str.d))))), (.t 10, some (.one (lA Lt.d c))), (.t 11, some (.one (iA c.length))), (.t 12, some (.one (iA k)))])
    (fun k => k ≤ c.length) (fun k => c.length - k) 0 (by omega) ((Wk.nilOwn (d := 3) (E := 9) (m := 1) rfl).trans fgs) ?_
  intro k hk
  by_cases hkl : k < c.length
  · obtain ⟨⟨ng, xl, xr⟩, hx⟩ := get_of_lt hkl
    have hxw := hw _ (List.mem_of_getElem? hx)
    have hxz := hz _ (List.mem_of_getElem? hx)
    have hxl := litText_len hxz
    dsimp only at hxw hxz
    have g1 := ptext hs xl hxw.1 (by omega)
    have g2 := ptext hs xr hxw.2 (by omega)
    have l1 := text_len xl
    have l2 := text_len xr
    have hsn := snoc litText hx
    have hel : ((c.take (k + 1)).map litText).length ≤ 1000 := by rw [List.length_map, List.length_take]; omega
    cases ng
    · have h2 : (text xl ++ [61]) ++ text xr = litText ⟨false, xl, xr⟩ := rfl
      (refine wlk ?_)
      (refine SqA.b1 (op_call none rfl rfl rfl (by kernel_rfl) (FnD.use (g1)) rfl rfl rfl rfl rfl rfl) rfl rfl ?_)
      (refine wlk ?_)
      (refine SqA.b1 (op_call none rfl rfl rfl (by kernel_rfl) (FnD.use (g2)) rfl rfl rfl rfl rfl rfl) rfl rfl ?_)
      (refine wlk ?_)
      (refine SqA.b1 (op_bsT (T := TB) (f := Str.d) [litText ⟨false, xl, xr⟩] rfl rfl rfl rfl rfl rfl rfl rfl rfl rfl rfl) rfl rfl ?_)
      (refine wlk ?_)
      exact ⟨k + 1, by omega, fgs, by omega⟩
    · have h2 : (text xl ++ [33, 61]) ++ text xr = litText ⟨true, xl, xr⟩ := rfl
      (refine wlk ?_)
      (refine SqA.b1 (op_call none rfl rfl rfl (by kernel_rfl) (FnD.use (g1)) rfl rfl rfl rfl rfl rfl) rfl rfl ?_)
      (refine wlk ?_)
      (refine SqA.b1 (op_call none rfl rfl rfl (by kernel_rfl) (FnD.use (g2)) rfl rfl rfl rfl rfl rfl) rfl rfl ?_)
      (refine wlk ?_)
      (refine SqA.b1 (op_bsT (T := TB) (f := Str.d) [litText ⟨true, xl, xr⟩] rfl rfl rfl rfl rfl rfl rfl rfl rfl rfl rfl) rfl rfl ?_)
      (refine wlk ?_)
      exact ⟨k + 1, by omega, fgs, by omega⟩
  · have : k = c.length := by omega
    subst this
    rw [List.take_length]
    refine dwp_wk (Wk.freezeAt (d := 3) rfl) ?_
    (refine wlk ?_)
    (refine SqA.b1 (op_call none rfl rfl rfl (by kernel_rfl) (FnD.use (hj)) rfl rfl rfl rfl rfl rfl) rfl rfl ?_)
    (refine wlk ?_)
    (first | (refine finR (.tmp rfl .nil) rfl rfl ?_) | (refine finN (.tmp rfl .nil) rfl rfl ?_))
    rfl
set_option maxHeartbeats 16000000 in
set_option maxRecDepth 100000 in
theorem pclParse (s : List Int) (text : List UInt8) (htl : text.length < 4294967281) : FnD Tryz.prog 5 [lA Int.d s, sA text] (.tup [lA Lt.d (clauseParse s text).1, iA (clauseParse s text).2]) := by
  refine Fn.of Tryz.func5 rfl Tryz.ntmps5 rfl (Nat.le_of_ble_eq_true rfl) ?_
  by_cases hs : wrongSig s = 0
  rotate_left
  · (refine wlk ?_)
    (refine SqA.b1 (op_call none rfl rfl rfl (by kernel_rfl) (FnD.use (pwrongSig s)) rfl rfl rfl rfl rfl rfl) rfl rfl ?_)
    (refine wlk ?_)
    refine fin_wk (fun n => Wk.nilArr (d := 4) rfl) ?_
    (first | (refine finR (.tmp rfl (.tmp rfl .nil)) rfl rfl ?_) | (refine finN (.tmp rfl (.tmp rfl .nil)) rfl rfl ?_))
    exact Xcl (r := ([], wrongSig s)) (by simp [clauseParse, hs])
  cases ht : (text == [91, 93])
  rotate_left
  · (refine wlk ?_)
    (refine SqA.b1 (op_call none rfl rfl rfl (by kernel_rfl) (FnD.use (pwrongSig s)) rfl rfl rfl rfl rfl rfl) rfl rfl ?_)
    (refine wlk ?_)
    refine fin_wk (fun n => Wk.nilArr (d := 4) rfl) ?_
    (first | (refine finR (.tmp rfl (.tmp rfl .nil)) rfl rfl ?_) | (refine finN (.tmp rfl (.tmp rfl .nil)) rfl rfl ?_))
    exact Xcl (r := ([], 0)) (by simp at ht; simp [clauseParse, hs, ht])
  have ht' : text ≠ [91, 93] := by simpa using ht
  have hcp : clauseParse s text = if 4 < (splitB text).length then ([], 5) else parseLits s (splitB text) := by
    simp only [clauseParse, hs, ne_eq, not_true_eq_false, if_false, if_neg ht']
  rw [hcp]
  clear hcp
  have hpsl : ∀ q ∈ splitB text, q.length ≤ text.length := splitB_len
  have c1 := csplit text htl
  generalize splitB text = ps at hpsl c1 ⊢
  (refine wlk ?_)
  (refine SqA.b1 (op_call none rfl rfl rfl (by kernel_rfl) (FnD.use (pwrongSig s)) rfl rfl rfl rfl rfl rfl) rfl rfl ?_)
  (refine wlk ?_)
  (refine SqA.b1 (Op1.frz (op_call none rfl rfl rfl (by kernel_rfl) (FnD.use (c1)) rfl rfl rfl rfl rfl rfl)) rfl rfl ?_)
  by_cases h4 : 4 < ps.length
  · (refine wlk ?_)
    refine fin_wk (fun n => Wk.nilArr (d := 4) rfl) ?_
    (first | (refine finR (.tmp rfl (.tmp rfl .nil)) rfl rfl ?_) | (refine finN (.tmp rfl (.tmp rfl .nil)) rfl rfl ?_))
    exact Xcl (r := ([], 5)) (by simp [h4])
  rw [if_neg h4]
  (refine wlk ?_)
  refine dwp_loop (fun m : Nat => [(.t 0, some (.one (lA Int.d s))), (.t 8, some (.one (.c (.own 44 7 (((ps.take m).map (fun p => (parseLit s p).1)).map Lt.d))))), (.t 30, some (.one (lA Str.d ps))), (.t 31, some (.one (iA ps.length))), (.t 32, some (.one (iA m)))])
    (fun m => m ≤ ps.length ∧ ∀ j p, j < m → ps[j]? = some p → (parseLit s p).2 = 0) (fun m => ps.length - m) 0 ⟨by omega, fun j p h => absurd h (by omega)⟩ ((Wk.nilOwn (d := 8) (E := 44) (m := 7) rfl).trans fgs) ?_
  rintro m ⟨hm, hno⟩
  by_cases hml : m < ps.length
  · obtain ⟨p, hp⟩ := get_of_lt hml
    have hplen := hpsl p (List.mem_of_getElem? hp)
    have hle := eqAt_le p
    have cc := ccut p (by omega)
    by_cases hk : eqAt p = p.length
    · have hbad : (parseLit s p).2 = 2 := by simp [parseLit, hk]
      rw [show decide (eqAt p ≠ p.length) = false from decide_eq_false (by simp [hk])] at cc
      (refine wlk ?_)
      (refine SqA.b1 (op_call none rfl rfl rfl (by kernel_rfl) (FnD.use (cc)) rfl rfl rfl rfl rfl rfl) rfl rfl ?_)
      (refine wlk ?_)
      refine fin_wk (fun n => Wk.nilArr (d := 4) rfl) ?_
      (first | (refine finR (.tmp rfl (.tmp rfl .nil)) rfl rfl ?_) | (refine finN (.tmp rfl (.tmp rfl .nil)) rfl rfl ?_))
      exact Xcl (r := ([], 2)) (parseLits_bad hno hp hbad (by decide)).symm
    rw [show decide (eqAt p ≠ p.length) = true from decide_eq_true hk] at cc
    have cu := csuf (p.take (eqAt p)) (by rw [List.length_take]; omega)
    have hpl : parseLit s p = let a := parseTm s (if negEnd (p.take (eqAt p)) = true then (p.take (eqAt p)).take ((p.take (eqAt p)).length - 1) else p.take (eqAt p)); if a.2 ≠ 0 then (Lt.zero, a.2) else let b := parseTm s (p.drop (eqAt p + 1)); if b.2 ≠ 0 then (Lt.zero, b.2) else (⟨negEnd (p.take (eqAt p)), a.1, b.1⟩, 0) := by
      simp only [parseLit, if_neg hk, List.length_take, Nat.min_eq_left hle]
    generalize (if negEnd (p.take (eqAt p)) = true then (p.take (eqAt p)).take ((p.take (eqAt p)).length - 1) else p.take (eqAt p)) = ll at cu hpl
    generalize negEnd (p.take (eqAt p)) = ng at cu hpl
    generalize p.take (eqAt p) = l1 at cc cu hpl
    generalize p.drop (eqAt p + 1) = l2 at cc hpl
    have ca := pparse s ll
    have cb := pparse s l2
    generalize parseTm s ll = a at ca hpl
    generalize parseTm s l2 = b at cb hpl
    obtain ⟨a, e⟩ := a
    obtain ⟨b, e'⟩ := b
    simp only at ca cb hpl
    by_cases he : e = 0
    rotate_left
    · rw [if_pos (by simp [he])] at hpl
      (refine wlk ?_)
      (refine SqA.b1 (op_call none rfl rfl rfl (by kernel_rfl) (FnD.use (cc)) rfl rfl rfl rfl rfl rfl) rfl rfl ?_)
      (refine wlk ?_)
      (refine SqA.b1 (op_call none rfl rfl rfl (by kernel_rfl) (FnD.use (cu)) rfl rfl rfl rfl rfl rfl) rfl rfl ?_)
      (refine wlk ?_)
      (refine SqA.b1 (op_call none rfl rfl rfl (by kernel_rfl) (FnD.use (ca)) rfl rfl rfl rfl rfl rfl) rfl rfl ?_)
      (refine wlk ?_)
      refine fin_wk (fun n => Wk.nilArr (d := 4) rfl) ?_
      (first | (refine finR (.tmp rfl (.tmp rfl .nil)) rfl rfl ?_) | (refine finN (.tmp rfl (.tmp rfl .nil)) rfl rfl ?_))
      exact Xcl (r := ([], e)) (parseLits_bad hno hp (by rw [hpl]) he).symm
    subst he
    rw [if_neg (by simp)] at hpl
    by_cases he' : e' = 0
    rotate_left
    · rw [if_pos (by simp [he'])] at hpl
      (refine wlk ?_)
      (refine SqA.b1 (op_call none rfl rfl rfl (by kernel_rfl) (FnD.use (cc)) rfl rfl rfl rfl rfl rfl) rfl rfl ?_)
      (refine wlk ?_)
      (refine SqA.b1 (op_call none rfl rfl rfl (by kernel_rfl) (FnD.use (cu)) rfl rfl rfl rfl rfl rfl) rfl rfl ?_)
      (refine wlk ?_)
      (refine SqA.b1 (op_call none rfl rfl rfl (by kernel_rfl) (FnD.use (ca)) rfl rfl rfl rfl rfl rfl) rfl rfl ?_)
      (refine wlk ?_)
      (refine SqA.b1 (op_call none rfl rfl rfl (by kernel_rfl) (FnD.use (cb)) rfl rfl rfl rfl rfl rfl) rfl rfl ?_)
      (refine wlk ?_)
      refine fin_wk (fun n => Wk.nilArr (d := 4) rfl) ?_
      (first | (refine finR (.tmp rfl (.tmp rfl .nil)) rfl rfl ?_) | (refine finN (.tmp rfl (.tmp rfl .nil)) rfl rfl ?_))
      exact Xcl (r := ([], e')) (parseLits_bad hno hp (by rw [hpl]) he').symm
    subst he'
    rw [if_neg (by simp)] at hpl
    have hx : (parseLit s p).1 = ⟨ng, a, b⟩ := by rw [hpl]
    have hsn := snoc (fun p => (parseLit s p).1) hp
    rw [hx] at hsn
    have hbl2 : ((ps.take (m + 1)).map (fun p => (parseLit s p).1)).length ≤ 1000 := by simp; omega
    (refine wlk ?_)
    (refine SqA.b1 (op_call none rfl rfl rfl (by kernel_rfl) (FnD.use (cc)) rfl rfl rfl rfl rfl rfl) rfl rfl ?_)
    (refine wlk ?_)
    (refine SqA.b1 (op_call none rfl rfl rfl (by kernel_rfl) (FnD.use (cu)) rfl rfl rfl rfl rfl rfl) rfl rfl ?_)
    (refine wlk ?_)
    (refine SqA.b1 (op_call none rfl rfl rfl (by kernel_rfl) (FnD.use (ca)) rfl rfl rfl rfl rfl rfl) rfl rfl ?_)
    (refine wlk ?_)
    (refine SqA.b1 (op_call none rfl rfl rfl (by kernel_rfl) (FnD.use (cb)) rfl rfl rfl rfl rfl rfl) rfl rfl ?_)
    (refine wlk ?_)
    (refine SqA.b1 (op_bsT (T := TB) (f := Lt.d) [(⟨ng, a, b⟩ : Lt)] rfl rfl rfl rfl rfl rfl rfl rfl rfl rfl rfl) rfl rfl ?_)
    (refine wlk ?_)
    exact ⟨m + 1, ⟨by omega, upto_succ hno hp (by rw [hpl])⟩, fgs, by omega⟩
  · have : m = ps.length := by omega
    subst this
    rw [List.take_length]
    have hr := parseLits_ok (s := s) (Nat.le_refl ps.length) hno
    rw [List.drop_length, List.take_length] at hr
    simp only [parseLits, ne_eq, not_true_eq_false, if_false, List.append_nil] at hr
    refine dwp_wk (Wk.freezeAt (d := 8) rfl) ?_
    (refine wlk ?_)
    (first | (refine finR (.tmp rfl (.tmp rfl .nil)) rfl rfl ?_) | (refine finN (.tmp rfl (.tmp rfl .nil)) rfl rfl ?_))
    exact Xcl (r := (ps.map (fun p => (parseLit s p).1), 0)) hr.symm
end Go.Proofs.YtmanhdacnkpclaaGreatDoor
