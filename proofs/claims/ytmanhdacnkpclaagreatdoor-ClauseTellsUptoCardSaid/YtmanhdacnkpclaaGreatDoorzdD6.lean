/- What functions do: reading clauses. -/
import Derived.Test.YtmanhdacnkpclaaGreatDoorzdDa
import Derived.Test.YtmanhdacnkpclaaGreatDoorzdPc
namespace Go.Proofs.YtmanhdacnkpclaaGreatDoor
set_option linter.all false
open Go.RowKit

theorem Xcl {r r' : List Lt × Int} (h : r = r') : (.tup [lA Lt.d r.1, iA r.2] : X) = .tup [lA Lt.d r'.1, iA r'.2] := by rw [h]
theorem eqAt_at : ∀ {p : List UInt8} {k : Nat} {c : UInt8}, eqAt p = k + eqAt (p.drop k) → p[k]? = some c → (if c.toNat = 61 then eqAt p = k else eqAt p = (k + 1) + eqAt (p.drop (k + 1)))
  | p, k, c, h, hc => by
    rw [drop_of hc] at h
    simp only [eqAt] at h
    split <;> rename_i h1 <;> simp only [h1, if_true, if_false] at h <;> omega

set_option maxHeartbeats 16000000 in
set_option maxRecDepth 100000 in
theorem rclauseParse (s : List Int) (text : List UInt8) (htl : text.length ≤ 2000000000000) : FnD Tryz.prog 6 [lA Int.d s, sA text] (.tup [lA Lt.d (clauseParse s text).1, iA (clauseParse s text).2]) := by
  refine Fn.of Tryz.func6 rfl Tryz.ntmps6 rfl (Nat.le_of_ble_eq_true rfl) ?_
  by_cases hs : wrongSig s = 0
  rotate_left
  · (refine wlk ?_)
    (refine SqA.b1 (op_call none rfl rfl rfl (by kernel_rfl) (FnD.use (rwrongSig s)) rfl rfl rfl rfl rfl rfl) rfl rfl ?_)
    (refine wlk ?_)
    refine fin_wk (fun n => Wk.nilArr (d := 4) rfl) ?_
    (first | (refine finR (.tmp rfl (.tmp rfl .nil)) rfl rfl ?_) | (refine finN (.tmp rfl (.tmp rfl .nil)) rfl rfl ?_))
    exact Xcl (r := ([], wrongSig s)) (by simp [clauseParse, hs])
  cases ht : (text == [91, 93])
  rotate_left
  · (refine wlk ?_)
    (refine SqA.b1 (op_call none rfl rfl rfl (by kernel_rfl) (FnD.use (rwrongSig s)) rfl rfl rfl rfl rfl rfl) rfl rfl ?_)
    (refine wlk ?_)
    refine fin_wk (fun n => Wk.nilArr (d := 4) rfl) ?_
    (first | (refine finR (.tmp rfl (.tmp rfl .nil)) rfl rfl ?_) | (refine finN (.tmp rfl (.tmp rfl .nil)) rfl rfl ?_))
    exact Xcl (r := ([], 0)) (by simp at ht; simp [clauseParse, hs, ht])
  have ht' : text ≠ [91, 93] := by simpa using ht
  (refine wlk ?_)
  (refine SqA.b1 (op_call none rfl rfl rfl (by kernel_rfl) (FnD.use (rwrongSig s)) rfl rfl rfl rfl rfl rfl) rfl rfl ?_)
  (refine wlk ?_)
  refine dwp_loop (fun x : Nat × Nat × Nat × List (List UInt8) => [(.t 0, some (.one (lA Int.d s))), (.t 1, some (.one (sA text))), (.t 7, some (.one (.c (.own 9 1 (x.2.2.2.map Str.d))))), (.t 8, some (.one (iA x.2.2.1))), (.t 9, some (.one (iA x.2.1)))])
    (fun x => splitB text = splitGo text x.1 x.2.1 x.2.2.1 x.2.2.2 ∧ text.length + 1 ≤ x.1 + x.2.1 ∧ x.2.2.1 ≤ x.2.1 ∧ x.2.1 ≤ text.length ∧ x.2.2.2.length ≤ x.2.1) (fun x => x.1) (text.length + 1, 0, 0, []) ⟨rfl, by simp, by simp, by simp, by simp⟩ ((Wk.nilOwn (d := 7) (E := 9) (m := 1) rfl).trans fgs) ?_
  rintro ⟨f, i, fr, parts⟩ ⟨hsp, hfi, hfr, hil, hpl⟩
  dsimp only at hsp hfi hfr hil hpl ⊢
  by_cases hi3 : i + 3 ≤ text.length
  · obtain ⟨f, rfl⟩ : ∃ g, f = g + 1 := ⟨f - 1, by omega⟩
    simp only [splitGo, if_pos hi3] at hsp
    have e3 : i + 3 - i = 3 := by omega
    cases hb : ((text.drop i).take (i + 3 - i) == [32, 124, 32])
    · have hb' : ¬ (text.drop i).take 3 = [32, 124, 32] := by rw [e3] at hb; simpa using hb
      rw [if_neg hb'] at hsp
      (refine wlk ?_)
      exact ⟨(f, i + 1, fr, parts), ⟨hsp, by simp only; omega, by simp only; omega, by simp only; omega, by simp only; omega⟩, fgs, by simp only; omega⟩
    · have hb' : (text.drop i).take 3 = [32, 124, 32] := by rw [e3] at hb; simpa using hb
      rw [if_pos hb'] at hsp
      have hbl : (parts ++ [(text.drop fr).take (i - fr)]).length ≤ 2000000000000 := by simp; omega
      (refine wlk ?_)
      (refine SqA.b1 (op_bsT (T := TB) (f := Str.d) [(text.drop fr).take (i - fr)] rfl rfl rfl rfl rfl rfl rfl rfl rfl rfl rfl) rfl rfl ?_)
      (refine wlk ?_)
      exact ⟨(f, i + 3, i + 3, parts ++ [(text.drop fr).take (i - fr)]), ⟨hsp, by simp only; omega, by simp only; omega, by simp only; omega, by simp; omega⟩, fgs, by simp only; omega⟩
  have hsp2 : splitB text = parts ++ [text.drop fr] := by
    rw [hsp]
    cases f with
    | zero => rfl
    | succ f => rw [splitGo, if_neg hi3]
  have hcp : clauseParse s text = if 4 < (splitB text).length then ([], 5) else parseLits s (splitB text) := by
    simp only [clauseParse, hs, ne_eq, not_true_eq_false, if_false, if_neg ht']
  rw [hcp]
  clear hcp hsp
  have hbl : (parts ++ [text.drop fr]).length ≤ 2000000000001 := by simp; omega
  (refine wlk ?_)
  (refine SqA.b1 (op_bsT (T := TB) (f := Str.d) [text.drop fr] rfl rfl rfl rfl rfl rfl rfl rfl rfl rfl rfl) rfl rfl ?_)
  (refine SqA.b2 (Op1.frz (op_appT (T := TB) rfl rfl rfl rfl rfl (by first | assumption | rfl) (by (try simp only [List.length_map, List.length_append, List.length_cons, List.length_nil, List.length_take]); omega) (by decide))) rfl rfl ?_)
  rw [← hsp2]
  have hpsl : ∀ q ∈ splitB text, q.length ≤ 2000000000000 := fun q hq => Nat.le_trans (splitB_len q hq) htl
  generalize splitB text = ps at hpsl ⊢
  by_cases h4 : 4 < ps.length
  · (refine wlk ?_)
    refine fin_wk (fun n => Wk.nilArr (d := 4) rfl) ?_
    (first | (refine finR (.tmp rfl (.tmp rfl .nil)) rfl rfl ?_) | (refine finN (.tmp rfl (.tmp rfl .nil)) rfl rfl ?_))
    exact Xcl (r := ([], 5)) (by simp [h4])
  rw [if_neg h4]
  (refine wlk ?_)
  refine dwp_loop (fun m : Nat => [(.t 0, some (.one (lA Int.d s))), (.t 10, some (.one (.c (.own 44 7 (((ps.take m).map (fun p => (parseLit s p).1)).map Lt.d))))), (.t 58, some (.one (lA Str.d ps))), (.t 59, some (.one (iA ps.length))), (.t 60, some (.one (iA m)))])
    (fun m => m ≤ ps.length ∧ ∀ j p, j < m → ps[j]? = some p → (parseLit s p).2 = 0) (fun m => ps.length - m) 0 ⟨by omega, fun j p h => absurd h (by omega)⟩ ((Wk.nilOwn (d := 10) (E := 44) (m := 7) rfl).trans fgs) ?_
  rintro m ⟨hm, hno⟩
  by_cases hml : m < ps.length
  · obtain ⟨p, hp⟩ := get_of_lt hml
    have hplen := hpsl p (List.mem_of_getElem? hp)
    (refine wlk ?_)
    refine dwp_loop (fun k : Nat => [(.t 0, some (.one (lA Int.d s))), (.t 10, some (.one (.c (.own 44 7 (((ps.take m).map (fun p => (parseLit s p).1)).map Lt.d))))), (.t 12, some (.one (sA p))), (.t 13, some (.one (iA k))), (.t 58, some (.one (lA Str.d ps))), (.t 59, some (.one (iA ps.length))), (.t 60, some (.one (iA m)))])
      (fun k => k ≤ p.length ∧ eqAt p = k + eqAt (p.drop k)) (fun k => p.length - k) 0 ⟨by omega, by simp⟩ fgs ?_
    rintro k ⟨hk, heq⟩
    by_cases hkl : k < p.length
    · obtain ⟨c, hc⟩ := get_of_lt hkl
      have hat := eqAt_at heq hc
      by_cases h61 : (c.toNat : Int) = 61
      · rw [if_pos (by omega)] at hat
        have hek := hat
        by_cases hk0 : k = 0
        · subst hk0
          have hne : negEnd (p.take 0) = false := rfl
          have hpl : parseLit s p = let a := parseTm s (p.take 0); if a.2 ≠ 0 then (Lt.zero, a.2) else let b := parseTm s (p.drop (0 + 1)); if b.2 ≠ 0 then (Lt.zero, b.2) else (⟨false, a.1, b.1⟩, 0) := by
            have hkn : ¬ 0 = p.length := by omega
            simp only [parseLit, hek, if_neg hkn, hne, Bool.false_eq_true, if_false]
          have ca := rparse s (p.take 0)
          have cb := rparse s (p.drop (0 + 1))
          generalize parseTm s (p.take 0) = a at ca hpl
          generalize parseTm s (p.drop (0 + 1)) = b at cb hpl
          obtain ⟨a, e⟩ := a
          obtain ⟨b, e'⟩ := b
          simp only at ca cb hpl
          by_cases he : e = 0
          rotate_left
          · rw [if_pos (by simp [he])] at hpl
            (refine wlk ?_)
            (refine SqA.b1 (op_call none rfl rfl rfl (by kernel_rfl) (FnD.use (ca)) rfl rfl rfl rfl rfl rfl) rfl rfl ?_)
            (refine wlk ?_)
            refine fin_wk (fun n => Wk.nilArr (d := 4) rfl) ?_
            (first | (refine finR (.tmp rfl (.tmp rfl .nil)) rfl rfl ?_) | (refine finN (.tmp rfl (.tmp rfl .nil)) rfl rfl ?_))
            exact Xcl (r := ([], e)) (parseLits_bad hno hp (by rw [hpl]) he).symm
          subst he
          rw [if_neg (by simp)] at hpl
          by_cases he' : e' = 0
          rotate_left
          · rw [if_pos (by simp [he'])] at hpl
            (refine wlk ?_)
            (refine SqA.b1 (op_call none rfl rfl rfl (by kernel_rfl) (FnD.use (ca)) rfl rfl rfl rfl rfl rfl) rfl rfl ?_)
            (refine wlk ?_)
            (refine SqA.b1 (op_call none rfl rfl rfl (by kernel_rfl) (FnD.use (cb)) rfl rfl rfl rfl rfl rfl) rfl rfl ?_)
            (refine wlk ?_)
            refine fin_wk (fun n => Wk.nilArr (d := 4) rfl) ?_
            (first | (refine finR (.tmp rfl (.tmp rfl .nil)) rfl rfl ?_) | (refine finN (.tmp rfl (.tmp rfl .nil)) rfl rfl ?_))
            exact Xcl (r := ([], e')) (parseLits_bad hno hp (by rw [hpl]) he').symm
          subst he'
          rw [if_neg (by simp)] at hpl
          have hx : (parseLit s p).1 = ⟨false, a, b⟩ := by rw [hpl]
          have hsn := snoc (fun p => (parseLit s p).1) hp
          rw [hx] at hsn
          have hbl2 : ((ps.take (m + 1)).map (fun p => (parseLit s p).1)).length ≤ 1000 := by simp; omega
          (refine wlk ?_)
          (refine SqA.b1 (op_call none rfl rfl rfl (by kernel_rfl) (FnD.use (ca)) rfl rfl rfl rfl rfl rfl) rfl rfl ?_)
          (refine wlk ?_)
          (refine SqA.b1 (op_call none rfl rfl rfl (by kernel_rfl) (FnD.use (cb)) rfl rfl rfl rfl rfl rfl) rfl rfl ?_)
          (refine wlk ?_)
          (refine SqA.b1 (op_bsT (T := TB) (f := Lt.d) [⟨false, a, b⟩] rfl rfl rfl rfl rfl rfl rfl rfl rfl rfl rfl) rfl rfl ?_)
          (refine wlk ?_)
          exact ⟨m + 1, ⟨by omega, upto_succ hno hp (by rw [hpl])⟩, fgs, by omega⟩

        obtain ⟨c', hc'⟩ := get_of_lt (s := p.take k) (k := k - 1) (by rw [List.length_take]; omega)
        have hlast : (p.take k).getLast? = some c' := by rw [List.getLast?_eq_getElem?, List.length_take, Nat.min_eq_left hk, hc']
        by_cases h33 : (c'.toNat : Int) = 33
        · have hne : negEnd (p.take k) = true := by unfold negEnd; rw [hlast]; exact decide_eq_true (by omega)
          have hpl : parseLit s p = let a := parseTm s ((p.take k).take (k - 1)); if a.2 ≠ 0 then (Lt.zero, a.2) else let b := parseTm s (p.drop (k + 1)); if b.2 ≠ 0 then (Lt.zero, b.2) else (⟨true, a.1, b.1⟩, 0) := by
            have hkn : ¬ k = p.length := by omega
            simp only [parseLit, hek, if_neg hkn, hne, if_true]
          have ca := rparse s ((p.take k).take (k - 1))
          have cb := rparse s (p.drop (k + 1))
          generalize parseTm s ((p.take k).take (k - 1)) = a at ca hpl
          generalize parseTm s (p.drop (k + 1)) = b at cb hpl
          obtain ⟨a, e⟩ := a
          obtain ⟨b, e'⟩ := b
          simp only at ca cb hpl
          by_cases he : e = 0
          rotate_left
          · rw [if_pos (by simp [he])] at hpl
            (refine wlk ?_)
            (refine SqA.b1 (op_slS0 (hi := k - 1) rfl rfl rfl rfl (by first | rfl | omega) (by (try simp only [List.length_cons, List.length_nil, List.length_drop, List.length_take, List.length_append]); omega) rfl) rfl rfl ?_)
            (refine wlk ?_)
            (refine SqA.b1 (op_call none rfl rfl rfl (by kernel_rfl) (FnD.use (ca)) rfl rfl rfl rfl rfl rfl) rfl rfl ?_)
            (refine wlk ?_)
            refine fin_wk (fun n => Wk.nilArr (d := 4) rfl) ?_
            (first | (refine finR (.tmp rfl (.tmp rfl .nil)) rfl rfl ?_) | (refine finN (.tmp rfl (.tmp rfl .nil)) rfl rfl ?_))
            exact Xcl (r := ([], e)) (parseLits_bad hno hp (by rw [hpl]) he).symm
          subst he
          rw [if_neg (by simp)] at hpl
          by_cases he' : e' = 0
          rotate_left
          · rw [if_pos (by simp [he'])] at hpl
            (refine wlk ?_)
            (refine SqA.b1 (op_slS0 (hi := k - 1) rfl rfl rfl rfl (by first | rfl | omega) (by (try simp only [List.length_cons, List.length_nil, List.length_drop, List.length_take, List.length_append]); omega) rfl) rfl rfl ?_)
            (refine wlk ?_)
            (refine SqA.b1 (op_call none rfl rfl rfl (by kernel_rfl) (FnD.use (ca)) rfl rfl rfl rfl rfl rfl) rfl rfl ?_)
            (refine wlk ?_)
            (refine SqA.b1 (op_call none rfl rfl rfl (by kernel_rfl) (FnD.use (cb)) rfl rfl rfl rfl rfl rfl) rfl rfl ?_)
            (refine wlk ?_)
            refine fin_wk (fun n => Wk.nilArr (d := 4) rfl) ?_
            (first | (refine finR (.tmp rfl (.tmp rfl .nil)) rfl rfl ?_) | (refine finN (.tmp rfl (.tmp rfl .nil)) rfl rfl ?_))
            exact Xcl (r := ([], e')) (parseLits_bad hno hp (by rw [hpl]) he').symm
          subst he'
          rw [if_neg (by simp)] at hpl
          have hx : (parseLit s p).1 = ⟨true, a, b⟩ := by rw [hpl]
          have hsn := snoc (fun p => (parseLit s p).1) hp
          rw [hx] at hsn
          have hbl2 : ((ps.take (m + 1)).map (fun p => (parseLit s p).1)).length ≤ 1000 := by simp; omega
          (refine wlk ?_)
          (refine SqA.b1 (op_slS0 (hi := k - 1) rfl rfl rfl rfl (by first | rfl | omega) (by (try simp only [List.length_cons, List.length_nil, List.length_drop, List.length_take, List.length_append]); omega) rfl) rfl rfl ?_)
          (refine wlk ?_)
          (refine SqA.b1 (op_call none rfl rfl rfl (by kernel_rfl) (FnD.use (ca)) rfl rfl rfl rfl rfl rfl) rfl rfl ?_)
          (refine wlk ?_)
          (refine SqA.b1 (op_call none rfl rfl rfl (by kernel_rfl) (FnD.use (cb)) rfl rfl rfl rfl rfl rfl) rfl rfl ?_)
          (refine wlk ?_)
          (refine SqA.b1 (op_bsT (T := TB) (f := Lt.d) [⟨true, a, b⟩] rfl rfl rfl rfl rfl rfl rfl rfl rfl rfl rfl) rfl rfl ?_)
          (refine wlk ?_)
          exact ⟨m + 1, ⟨by omega, upto_succ hno hp (by rw [hpl])⟩, fgs, by omega⟩

        have hne : negEnd (p.take k) = false := by unfold negEnd; rw [hlast]; exact decide_eq_false (by omega)
        have hpl : parseLit s p = let a := parseTm s (p.take k); if a.2 ≠ 0 then (Lt.zero, a.2) else let b := parseTm s (p.drop (k + 1)); if b.2 ≠ 0 then (Lt.zero, b.2) else (⟨false, a.1, b.1⟩, 0) := by
          have hkn : ¬ k = p.length := by omega
          simp only [parseLit, hek, if_neg hkn, hne, Bool.false_eq_true, if_false]
        have ca := rparse s (p.take k)
        have cb := rparse s (p.drop (k + 1))
        generalize parseTm s (p.take k) = a at ca hpl
        generalize parseTm s (p.drop (k + 1)) = b at cb hpl
        obtain ⟨a, e⟩ := a
        obtain ⟨b, e'⟩ := b
        simp only at ca cb hpl
        by_cases he : e = 0
        rotate_left
        · rw [if_pos (by simp [he])] at hpl
          (refine wlk ?_)
          (refine SqA.b1 (op_call none rfl rfl rfl (by kernel_rfl) (FnD.use (ca)) rfl rfl rfl rfl rfl rfl) rfl rfl ?_)
          (refine wlk ?_)
          refine fin_wk (fun n => Wk.nilArr (d := 4) rfl) ?_
          (first | (refine finR (.tmp rfl (.tmp rfl .nil)) rfl rfl ?_) | (refine finN (.tmp rfl (.tmp rfl .nil)) rfl rfl ?_))
          exact Xcl (r := ([], e)) (parseLits_bad hno hp (by rw [hpl]) he).symm
        subst he
        rw [if_neg (by simp)] at hpl
        by_cases he' : e' = 0
        rotate_left
        · rw [if_pos (by simp [he'])] at hpl
          (refine wlk ?_)
          (refine SqA.b1 (op_call none rfl rfl rfl (by kernel_rfl) (FnD.use (ca)) rfl rfl rfl rfl rfl rfl) rfl rfl ?_)
          (refine wlk ?_)
          (refine SqA.b1 (op_call none rfl rfl rfl (by kernel_rfl) (FnD.use (cb)) rfl rfl rfl rfl rfl rfl) rfl rfl ?_)
          (refine wlk ?_)
          refine fin_wk (fun n => Wk.nilArr (d := 4) rfl) ?_
          (first | (refine finR (.tmp rfl (.tmp rfl .nil)) rfl rfl ?_) | (refine finN (.tmp rfl (.tmp rfl .nil)) rfl rfl ?_))
          exact Xcl (r := ([], e')) (parseLits_bad hno hp (by rw [hpl]) he').symm
        subst he'
        rw [if_neg (by simp)] at hpl
        have hx : (parseLit s p).1 = ⟨false, a, b⟩ := by rw [hpl]
        have hsn := snoc (fun p => (parseLit s p).1) hp
        rw [hx] at hsn
        have hbl2 : ((ps.take (m + 1)).map (fun p => (parseLit s p).1)).length ≤ 1000 := by simp; omega
        (refine wlk ?_)
        (refine SqA.b1 (op_call none rfl rfl rfl (by kernel_rfl) (FnD.use (ca)) rfl rfl rfl rfl rfl rfl) rfl rfl ?_)
        (refine wlk ?_)
        (refine SqA.b1 (op_call none rfl rfl rfl (by kernel_rfl) (FnD.use (cb)) rfl rfl rfl rfl rfl rfl) rfl rfl ?_)
        (refine wlk ?_)
        (refine SqA.b1 (op_bsT (T := TB) (f := Lt.d) [⟨false, a, b⟩] rfl rfl rfl rfl rfl rfl rfl rfl rfl rfl rfl) rfl rfl ?_)
        (refine wlk ?_)
        exact ⟨m + 1, ⟨by omega, upto_succ hno hp (by rw [hpl])⟩, fgs, by omega⟩

      · rw [if_neg (by omega)] at hat
        (refine wlk ?_)
        exact ⟨k + 1, ⟨by omega, hat⟩, fgs, by omega⟩
    · have : k = p.length := by omega
      subst this
      rw [List.drop_length] at heq
      have hbad : (parseLit s p).2 = 2 := by simp [parseLit, show eqAt p = p.length by rw [heq]; rfl]
      (refine wlk ?_)
      refine fin_wk (fun n => Wk.nilArr (d := 4) rfl) ?_
      (first | (refine finR (.tmp rfl (.tmp rfl .nil)) rfl rfl ?_) | (refine finN (.tmp rfl (.tmp rfl .nil)) rfl rfl ?_))
      exact Xcl (r := ([], 2)) (parseLits_bad hno hp hbad (by decide)).symm
  · have : m = ps.length := by omega
    subst this
    rw [List.take_length]
    refine dwp_wk (Wk.freezeAt (d := 10) rfl) ?_
    have hr := parseLits_ok (s := s) (Nat.le_refl ps.length) hno
    rw [List.drop_length, List.take_length] at hr
    simp only [parseLits, ne_eq, not_true_eq_false, if_false, List.append_nil] at hr
    (refine wlk ?_)
    (first | (refine finR (.tmp rfl (.tmp rfl .nil)) rfl rfl ?_) | (refine finN (.tmp rfl (.tmp rfl .nil)) rfl rfl ?_))
    exact Xcl (r := (ps.map (fun p => (parseLit s p).1), 0)) hr.symm
end Go.Proofs.YtmanhdacnkpclaaGreatDoor
