/- What functions do: reading clauses. -/
import Derived.Test.YtmanhdacnkpclaaGreatzh10
import Derived.Test.YtmanhdacnkpclaaGreatzh18
import Derived.Test.YtmanhdacnkpclaaGreatzh17
import Derived.Test.YtmanhdacnkpclaaGreatzh11
import Derived.Test.YtmanhdacnkpclaaGreatzh16
namespace Go.Proofs.YtmanhdacnkpclaaGreat
set_option linter.all false
set_option maxRecDepth 1000000
set_option maxHeartbeats 32000000
open Go.RowKit
theorem Xcl {r r' : List Lt × Int} (h : r = r') : (.tup [lA Lt.d r.1, iA r.2] : X) = .tup [lA Lt.d r'.1, iA r'.2] := by rw [h]
theorem eqAt_at : ∀ {p : List UInt8} {k : Nat} {c : UInt8}, eqAt p = k + eqAt (p.drop k) → p[k]? = some c → (if c.toNat = 61 then eqAt p = k else eqAt p = (k + 1) + eqAt (p.drop (k + 1)))
  | p, k, c, h, hc => by
    rw [drop_of hc] at h
    simp only [eqAt] at h
    split <;> rename_i h1 <;> simp only [h1, if_true, if_false] at h <;> omega
theorem rclauseParse (s : List Int) (text : List UInt8) (htl : text.length ≤ 2000000000000) : FnD Tryz.prog 70 [lA Int.d s, sA text] (.tup [lA Lt.d (clauseParse s text).1, iA (clauseParse s text).2]) := by
  refine Fn.of Tryz.func70 rfl Tryz.ntmps70 rfl (Nat.le_of_ble_eq_true rfl) ?_
  by_cases hs : wrongSig s = 0
  rotate_left
  · (refine wlk ?_)
    (refine SqA.b1 (op_call none rfl rfl rfl (by kernel_rfl) (FnD.use (rwrongSig s)) rfl rfl rfl rfl rfl rfl) rfl rfl ?_)
    (refine wlk ?_)
    refine fin_wk (fun n => Wk.nilArr (d := 4) rfl) ?_
    (refine wfTT ?_)
    exact Xcl (r := ([], wrongSig s)) (by simp [clauseParse, hs])
  cases ht : (text == [91, 93])
  rotate_left
  · (refine wlk ?_)
    (refine SqA.b1 (op_call none rfl rfl rfl (by kernel_rfl) (FnD.use (rwrongSig s)) rfl rfl rfl rfl rfl rfl) rfl rfl ?_)
    (refine wlk ?_)
    refine fin_wk (fun n => Wk.nilArr (d := 4) rfl) ?_
    (refine wfTT ?_)
    exact Xcl (r := ([], 0)) (by simp at ht; simp [clauseParse, hs, ht])
  have ht' : text ≠ [91, 93] := by simpa using ht
  (refine wlk ?_)
  (refine SqA.b1 (op_call none rfl rfl rfl (by kernel_rfl) (FnD.use (rwrongSig s)) rfl rfl rfl rfl rfl rfl) rfl rfl ?_)
  (refine wlk ?_)
  refine dwp_loop (fun x : Nat × Nat × Nat × List (List UInt8) => [(.t 0, some (.one (lA Int.d s))), (.t 1, some (.one (sA text))), (.t 7, some (.one (.c (.own 9 1 (x.2.2.2.map Str.d))))), (.t 8, some (.one (iA x.2.2.1))), (.t 9, some (.one (iA x.2.1)))])
    (fun x => splitB text = splitGo text x.1 x.2.1 x.2.2.1 x.2.2.2 ∧ text.length + 1 ≤ x.1 + x.2.1 ∧ x.2.2.1 ≤ x.2.1 ∧ x.2.1 ≤ text.length ∧ x.2.2.2.length ≤ x.2.1) (fun x => x.1) (text.length + 1, 0, 0, []) ⟨rfl, by simp, by simp, by simp, by simp⟩ ((Wk.nilOwn (d := 7) (E := 9) (m := 1) rfl).trans fgs) ?_
  rintro ⟨f, i, fr, parts⟩ ⟨hsp, hfi, hfr, hil, hpl⟩
  dsimp only at hsp hfi hfr hil hpl ⊢
  by_cases hi3 : i + 3 ≤ text.length
  · obtain ⟨f, rfl⟩ : ∃ g, f = g + 1 := ⟨f - 1, by omega⟩
    simp only [splitGo, if_pos hi3] at hsp
    have e3 : i + 3 - i = 3 := by omega
    cases hb : ((text.drop i).take (i + 3 - i) == [32, 124, 32])
    · have hb' : ¬ (text.drop i).take 3 = [32, 124, 32] := by rw [e3] at hb; simpa using hb
      rw [if_neg hb'] at hsp
      (refine wlk ?_)
      exact ⟨(f, i + 1, fr, parts), ⟨hsp, by simp only; omega, by simp only; omega, by simp only; omega, by simp only; omega⟩, fgs, by simp only; omega⟩
    · have hb' : (text.drop i).take 3 = [32, 124, 32] := by rw [e3] at hb; simpa using hb
      rw [if_pos hb'] at hsp
      have hbl : (parts ++ [(text.drop fr).take (i - fr)]).length ≤ 2000000000000 := by simp; omega
      (refine wlk ?_)
      (refine SqA.b1 (op_bsT (T := TB) (f := Str.d) [(text.drop fr).take (i - fr)] rfl rfl rfl rfl rfl rfl rfl rfl rfl rfl rfl) rfl rfl ?_)
      (refine wlk ?_)
      exact ⟨(f, i + 3, i + 3, parts ++ [(text.drop fr).take (i - fr)]), ⟨hsp, by simp only; omega, by simp only; omega, by simp only; omega, by simp; omega⟩, fgs, by simp only; omega⟩
  have hsp2 : splitB text = parts ++ [text.drop fr] := by
    rw [hsp]
    cases f with
    | zero => rfl
    | succ f => rw [splitGo, if_neg hi3]
  have hcp : clauseParse s text = if 4 < (splitB text).length then ([], 5) else parseLits s (splitB text) := by
    simp only [clauseParse, hs, ne_eq, not_true_eq_false, if_false, if_neg ht']
  rw [hcp]
  clear hcp hsp
  have hbl : (parts ++ [text.drop fr]).length ≤ 2000000000001 := by simp; omega
  (refine wlk ?_)
  (refine SqA.b1 (op_bsT (T := TB) (f := Str.d) [text.drop fr] rfl rfl rfl rfl rfl rfl rfl rfl rfl rfl rfl) rfl rfl ?_)
  (refine SqA.b2 (Op1.frz (op_appT (T := TB) rfl rfl rfl rfl rfl (by first | assumption | rfl) (by (try simp only [List.length_map, List.length_append, List.length_cons, List.length_nil, List.length_take]); omega) (by decide))) rfl rfl ?_)
  rw [← hsp2]
  have hpsl : ∀ q ∈ splitB text, q.length ≤ 2000000000000 := fun q hq => Nat.le_trans (splitB_len q hq) htl
  generalize splitB text = ps at hpsl ⊢
  by_cases h4 : 4 < ps.length
  · (refine wlk ?_)
    refine fin_wk (fun n => Wk.nilArr (d := 4) rfl) ?_
    (refine wfTT ?_)
    exact Xcl (r := ([], 5)) (by simp [h4])
  rw [if_neg h4]
  (refine wlk ?_)
  refine dwp_loop (fun m : Nat => [(.t 0, some (.one (lA Int.d s))), (.t 10, some (.one (.c (.own 77 7 (((ps.take m).map (fun p => (parseLit s p).1)).map Lt.d))))), (.t 58, some (.one (lA Str.d ps))), (.t 59, some (.one (iA ps.length))), (.t 60, some (.one (iA m)))])
    (fun m => m ≤ ps.length ∧ ∀ j p, j < m → ps[j]? = some p → (parseLit s p).2 = 0) (fun m => ps.length - m) 0 ⟨by omega, fun j p h => absurd h (by omega)⟩ ((Wk.nilOwn (d := 10) (E := 77) (m := 7) rfl).trans fgs) ?_
  rintro m ⟨hm, hno⟩
  by_cases hml : m < ps.length
  · obtain ⟨p, hp⟩ := get_of_lt hml
    have hplen := hpsl p (List.mem_of_getElem? hp)
    (refine wlk ?_)
    refine dwp_loop (fun k : Nat => [(.t 0, some (.one (lA Int.d s))), (.t 10, some (.one (.c (.own 77 7 (((ps.take m).map (fun p => (parseLit s p).1)).map Lt.d))))), (.t 12, some (.one (sA p))), (.t 13, some (.one (iA k))), (.t 58, some (.one (lA Str.d ps))), (.t 59, some (.one (iA ps.length))), (.t 60, some (.one (iA m)))])
      (fun k => k ≤ p.length ∧ eqAt p = k + eqAt (p.drop k)) (fun k => p.length - k) 0 ⟨by omega, by simp⟩ fgs ?_
    rintro k ⟨hk, heq⟩
    by_cases hkl : k < p.length
    · obtain ⟨c, hc⟩ := get_of_lt hkl
      have hat := eqAt_at heq hc
      by_cases h61 : (c.toNat : Int) = 61
      · rw [if_pos (by omega)] at hat
        have hek := hat
        by_cases hk0 : k = 0
        · subst hk0
          have hne : negEnd (p.take 0) = false := rfl
          have hpl : parseLit s p = let a := parseTm s (p.take 0); if a.2 ≠ 0 then (Lt.zero, a.2) else let b := parseTm s (p.drop (0 + 1)); if b.2 ≠ 0 then (Lt.zero, b.2) else (⟨false, a.1, b.1⟩, 0) := by
            have hkn : ¬ 0 = p.length := by omega
            simp only [parseLit, hek, if_neg hkn, hne, Bool.false_eq_true, if_false]
          have ca := rparse s (p.take 0)
          have cb := rparse s (p.drop (0 + 1))
          generalize parseTm s (p.take 0) = a at ca hpl
          generalize parseTm s (p.drop (0 + 1)) = b at cb hpl
          obtain ⟨a, e⟩ := a
          obtain ⟨b, e'⟩ := b
          simp only at ca cb hpl
          by_cases he : e = 0
          rotate_left
          · rw [if_pos (by simp [he])] at hpl
            (refine wlk ?_)
            (refine wlC ca ?_)
            (refine wlk ?_)
            refine fin_wk (fun n => Wk.nilArr (d := 4) rfl) ?_
            (refine wfTT ?_)
            exact Xcl (r := ([], e)) (parseLits_bad hno hp (by rw [hpl]) he).symm
          subst he
          rw [if_neg (by simp)] at hpl
          by_cases he' : e' = 0
          rotate_left
          · rw [if_pos (by simp [he'])] at hpl
            (refine wlk ?_)
            (refine wlC ca ?_)
            (refine wlk ?_)
            (refine wlC cb ?_)
            (refine wlk ?_)
            refine fin_wk (fun n => Wk.nilArr (d := 4) rfl) ?_
            (refine wfTT ?_)
            exact Xcl (r := ([], e')) (parseLits_bad hno hp (by rw [hpl]) he').symm
          subst he'
          rw [if_neg (by simp)] at hpl
          have hx : (parseLit s p).1 = ⟨false, a, b⟩ := by rw [hpl]
          have hsn := snoc (fun p => (parseLit s p).1) hp
          rw [hx] at hsn
          have hbl2 : ((ps.take (m + 1)).map (fun p => (parseLit s p).1)).length ≤ 1000 := by simp; omega
          (refine wlk ?_)
          (refine wlC ca ?_)
          (refine wlk ?_)
          (refine wlC cb ?_)
          (refine wlk ?_)
          (refine SqA.b1 (op_bsT (T := TB) (f := Lt.d) [⟨false, a, b⟩] rfl rfl rfl rfl rfl rfl rfl rfl rfl rfl rfl) rfl rfl ?_)
          (refine wlk ?_)
          exact ⟨m + 1, ⟨by omega, upto_succ hno hp (by rw [hpl])⟩, fgs, by omega⟩
        obtain ⟨c', hc'⟩ := get_of_lt (s := p.take k) (k := k - 1) (by rw [List.length_take]; omega)
        have hlast : (p.take k).getLast? = some c' := by rw [List.getLast?_eq_getElem?, List.length_take, Nat.min_eq_left hk, hc']
        by_cases h33 : (c'.toNat : Int) = 33
        · have hne : negEnd (p.take k) = true := by unfold negEnd; rw [hlast]; exact decide_eq_true (by omega)
          have hpl : parseLit s p = let a := parseTm s ((p.take k).take (k - 1)); if a.2 ≠ 0 then (Lt.zero, a.2) else let b := parseTm s (p.drop (k + 1)); if b.2 ≠ 0 then (Lt.zero, b.2) else (⟨true, a.1, b.1⟩, 0) := by
            have hkn : ¬ k = p.length := by omega
            simp only [parseLit, hek, if_neg hkn, hne, if_true]
          have ca := rparse s ((p.take k).take (k - 1))
          have cb := rparse s (p.drop (k + 1))
          generalize parseTm s ((p.take k).take (k - 1)) = a at ca hpl
          generalize parseTm s (p.drop (k + 1)) = b at cb hpl
          obtain ⟨a, e⟩ := a
          obtain ⟨b, e'⟩ := b
          simp only at ca cb hpl
          by_cases he : e = 0
          rotate_left
          · rw [if_pos (by simp [he])] at hpl
            (refine wlk ?_)
            (refine SqA.b1 (op_slS0 (hi := k - 1) rfl rfl rfl rfl (by first | rfl | omega) (by (try simp only [List.length_cons, List.length_nil, List.length_drop, List.length_take, List.length_append]); omega) rfl) rfl rfl ?_)
            (refine wlk ?_)
            (refine wlC ca ?_)
            (refine wlk ?_)
            refine fin_wk (fun n => Wk.nilArr (d := 4) rfl) ?_
            (refine wfTT ?_)
            exact Xcl (r := ([], e)) (parseLits_bad hno hp (by rw [hpl]) he).symm
          subst he
          rw [if_neg (by simp)] at hpl
          by_cases he' : e' = 0
          rotate_left
          · rw [if_pos (by simp [he'])] at hpl
            (refine wlk ?_)
            (refine SqA.b1 (op_slS0 (hi := k - 1) rfl rfl rfl rfl (by first | rfl | omega) (by (try simp only [List.length_cons, List.length_nil, List.length_drop, List.length_take, List.length_append]); omega) rfl) rfl rfl ?_)
            (refine wlk ?_)
            (refine wlC ca ?_)
            (refine wlk ?_)
            (refine wlC cb ?_)
            (refine wlk ?_)
            refine fin_wk (fun n => Wk.nilArr (d := 4) rfl) ?_
            (refine wfTT ?_)
            exact Xcl (r := ([], e')) (parseLits_bad hno hp (by rw [hpl]) he').symm
          subst he'
          rw [if_neg (by simp)] at hpl
          have hx : (parseLit s p).1 = ⟨true, a, b⟩ := by rw [hpl]
          have hsn := snoc (fun p => (parseLit s p).1) hp
          rw [hx] at hsn
          have hbl2 : ((ps.take (m + 1)).map (fun p => (parseLit s p).1)).length ≤ 1000 := by simp; omega
          (refine wlk ?_)
          (refine SqA.b1 (op_slS0 (hi := k - 1) rfl rfl rfl rfl (by first | rfl | omega) (by (try simp only [List.length_cons, List.length_nil, List.length_drop, List.length_take, List.length_append]); omega) rfl) rfl rfl ?_)
          (refine wlk ?_)
          (refine wlC ca ?_)
          (refine wlk ?_)
          (refine wlC cb ?_)
          (refine wlk ?_)
          (refine SqA.b1 (op_bsT (T := TB) (f := Lt.d) [⟨true, a, b⟩] rfl rfl rfl rfl rfl rfl rfl rfl rfl rfl rfl) rfl rfl ?_)
          (refine wlk ?_)
          exact ⟨m + 1, ⟨by omega, upto_succ hno hp (by rw [hpl])⟩, fgs, by omega⟩
        have hne : negEnd (p.take k) = false := by unfold negEnd; rw [hlast]; exact decide_eq_false (by omega)
        have hpl : parseLit s p = let a := parseTm s (p.take k); if a.2 ≠ 0 then (Lt.zero, a.2) else let b := parseTm s (p.drop (k + 1)); if b.2 ≠ 0 then (Lt.zero, b.2) else (⟨false, a.1, b.1⟩, 0) := by
          have hkn : ¬ k = p.length := by omega
          simp only [parseLit, hek, if_neg hkn, hne, Bool.false_eq_true, if_false]
        have ca := rparse s (p.take k)
        have cb := rparse s (p.drop (k + 1))
        generalize parseTm s (p.take k) = a at ca hpl
        generalize parseTm s (p.drop (k + 1)) = b at cb hpl
        obtain ⟨a, e⟩ := a
        obtain ⟨b, e'⟩ := b
        simp only at ca cb hpl
        by_cases he : e = 0
        rotate_left
        · rw [if_pos (by simp [he])] at hpl
          (refine wlk ?_)
          (refine wlC ca ?_)
          (refine wlk ?_)
          refine fin_wk (fun n => Wk.nilArr (d := 4) rfl) ?_
          (refine wfTT ?_)
          exact Xcl (r := ([], e)) (parseLits_bad hno hp (by rw [hpl]) he).symm
        subst he
        rw [if_neg (by simp)] at hpl
        by_cases he' : e' = 0
        rotate_left
        · rw [if_pos (by simp [he'])] at hpl
          (refine wlk ?_)
          (refine wlC ca ?_)
          (refine wlk ?_)
          (refine wlC cb ?_)
          (refine wlk ?_)
          refine fin_wk (fun n => Wk.nilArr (d := 4) rfl) ?_
          (refine wfTT ?_)
          exact Xcl (r := ([], e')) (parseLits_bad hno hp (by rw [hpl]) he').symm
        subst he'
        rw [if_neg (by simp)] at hpl
        have hx : (parseLit s p).1 = ⟨false, a, b⟩ := by rw [hpl]
        have hsn := snoc (fun p => (parseLit s p).1) hp
        rw [hx] at hsn
        have hbl2 : ((ps.take (m + 1)).map (fun p => (parseLit s p).1)).length ≤ 1000 := by simp; omega
        (refine wlk ?_)
        (refine wlC ca ?_)
        (refine wlk ?_)
        (refine wlC cb ?_)
        (refine wlk ?_)
        (refine SqA.b1 (op_bsT (T := TB) (f := Lt.d) [⟨false, a, b⟩] rfl rfl rfl rfl rfl rfl rfl rfl rfl rfl rfl) rfl rfl ?_)
        (refine wlk ?_)
        exact ⟨m + 1, ⟨by omega, upto_succ hno hp (by rw [hpl])⟩, fgs, by omega⟩
      · rw [if_neg (by omega)] at hat
        (refine wlk ?_)
        exact ⟨k + 1, ⟨by omega, hat⟩, fgs, by omega⟩
    · have : k = p.length := by omega
      subst this
      rw [List.drop_length] at heq
      have hbad : (parseLit s p).2 = 2 := by simp [parseLit, show eqAt p = p.length by rw [heq]; rfl]
      (refine wlk ?_)
      refine fin_wk (fun n => Wk.nilArr (d := 4) rfl) ?_
      (refine wfTT ?_)
      exact Xcl (r := ([], 2)) (parseLits_bad hno hp hbad (by decide)).symm
  · have : m = ps.length := by omega
    subst this
    rw [List.take_length]
    refine dwp_wk (Wk.freezeAt (d := 10) rfl) ?_
    have hr := parseLits_ok (s := s) (Nat.le_refl ps.length) hno
    rw [List.drop_length, List.take_length] at hr
    simp only [parseLits, ne_eq, not_true_eq_false, if_false, List.append_nil] at hr
    (refine wlk ?_)
    (refine wfTT ?_)
    exact Xcl (r := (ps.map (fun p => (parseLit s p).1), 0)) hr.symm
end Go.Proofs.YtmanhdacnkpclaaGreat
/- ProveHolds: plain facts. -/
namespace Go.Proofs.YtmanhdacnkpclaaGreat
set_option linter.all false
open Go.RowKit
abbrev k91 : List Lt := [⟨false, ⟨false, 1, [⟨true, 0, []⟩]⟩, ⟨true, 0, []⟩⟩]
abbrev k92 : List Lt := [⟨true, ⟨false, 1, [⟨false, 0, []⟩]⟩, ⟨false, 0, []⟩⟩]
abbrev p91 : Pf := ⟨[0, 1, 2], [⟨1, [0], k91⟩, ⟨1, [1], k92⟩], [], [0, 1], -1, false⟩
abbrev q91 : Pf := ⟨[0, 1, 2], [⟨1, [0], k91⟩, ⟨1, [1], k92⟩], [0], [1], -1, false⟩
abbrev r91 : Pf := ⟨[0, 1, 2], [⟨1, [0], k91⟩, ⟨1, [1], k92⟩, ⟨5, [1, 0], []⟩], [0], [], 2, false⟩
theorem new91 : newP [0, 1, 2] [k91, k92] = (p91, 0) := by kernel_rfl
theorem dn91a : dn [] ⟨false, 1, [⟨true, 0, []⟩]⟩ = ⟨false, 1, [⟨true, 0, []⟩]⟩ := dn_of (downF_downs (f := 10) (by kernel_rfl))
theorem dn91b : dn [] ⟨true, 0, []⟩ = ⟨true, 0, []⟩ := dn_of (downF_downs (f := 10) (by kernel_rfl))
theorem dn91c : dn [k91] ⟨false, 1, [⟨false, 0, []⟩]⟩ = ⟨false, 0, []⟩ := dn_of (downF_downs (f := 10) (by kernel_rfl))
theorem dn91d : dn [k91] ⟨false, 0, []⟩ = ⟨false, 0, []⟩ := dn_of (downF_downs (f := 10) (by kernel_rfl))
theorem rewr91 : rewr [] k91 = (k91, 0) := by
  unfold rewr
  simp only [each, k91, List.map_cons, List.map_nil, dn91a, dn91b]
  kernel_rfl
theorem rewr92 : rewr [k91] k92 = ([], 0) := by
  unfold rewr
  simp only [each, k92, List.map_cons, List.map_nil, dn91c, dn91d]
  kernel_rfl
theorem pick91 : pick p91 0 = (q91, 0) := by
  have e1 : pick p91 0 = (pick1 ⟨[0, 1, 2], [⟨1, [0], k91⟩, ⟨1, [1], k92⟩], [], [1], -1, false⟩ 0, 0) := by
    unfold pick
    rw [if_neg (by decide), if_neg (by decide)]; rfl
  have e2 : pick1 ⟨[0, 1, 2], [⟨1, [0], k91⟩, ⟨1, [1], k92⟩], [], [1], -1, false⟩ 0 = q91 := by
    unfold pick1
    rw [show (unitsK ⟨[0, 1, 2], [⟨1, [0], k91⟩, ⟨1, [1], k92⟩], [], [1], -1, false⟩).map (clAt ⟨[0, 1, 2], [⟨1, [0], k91⟩, ⟨1, [1], k92⟩], [], [1], -1, false⟩) = [] from rfl, show clAt ⟨[0, 1, 2], [⟨1, [0], k91⟩, ⟨1, [1], k92⟩], [], [1], -1, false⟩ 0 = k91 from rfl, rewr91]
    dsimp only
    rw [if_pos rfl]
    kernel_rfl
  rw [e1, e2]
theorem pick92 : pick q91 0 = (r91, 0) := by
  have e1 : pick q91 0 = (pick1 ⟨[0, 1, 2], [⟨1, [0], k91⟩, ⟨1, [1], k92⟩], [0], [], -1, false⟩ 1, 0) := by
    unfold pick
    rw [if_neg (by decide), if_neg (by decide)]; rfl
  have e2 : pick1 ⟨[0, 1, 2], [⟨1, [0], k91⟩, ⟨1, [1], k92⟩], [0], [], -1, false⟩ 1 = r91 := by
    unfold pick1
    rw [show (unitsK ⟨[0, 1, 2], [⟨1, [0], k91⟩, ⟨1, [1], k92⟩], [0], [], -1, false⟩).map (clAt ⟨[0, 1, 2], [⟨1, [0], k91⟩, ⟨1, [1], k92⟩], [0], [], -1, false⟩) = [k91] from rfl, show clAt ⟨[0, 1, 2], [⟨1, [0], k91⟩, ⟨1, [1], k92⟩], [0], [], -1, false⟩ 1 = k92 from rfl, rewr92]
    dsimp only
    rw [if_pos rfl]
    kernel_rfl
  rw [e1, e2]
theorem PfGo.of {S : List Int} {inn : List (List Lt)} {Q : List Lt → Prop} {p : Pf} (h : PI S inn Q p) (hQ : ∀ c, Q c → Kept S c) : PfGo S p := by
  have hn := nodup_le p.steps.length _ h.nd h.idx
  rw [List.length_append] at hn
  exact ⟨⟨h.len, fun x hx => (hQ _ (h.cl x hx)).cok, fun k hk => h.idx k (List.mem_append_left _ hk), fun k hk => h.idx k (List.mem_append_right _ hk)⟩, hn⟩
end Go.Proofs.YtmanhdacnkpclaaGreat
/- ProveHolds: walked. -/
namespace Go.Proofs.YtmanhdacnkpclaaGreat
set_option linter.all false
open Go.RowKit
theorem cok_sz9 {s : List Int} {c : List Lt} (h : COk s c) : clSz c := fun l hl => by have := h.size l hl; omega
end Go.Proofs.YtmanhdacnkpclaaGreat
namespace Go.Proofs.YtmanhdacnkpclaaGreat
set_option linter.all false
set_option maxRecDepth 1000000
set_option maxHeartbeats 32000000
noncomputable def comesL (x : Sp) (l : List (List Lt)) : List (List Lt) × Bool :=
  if x.rule = 2 then ((resolve (l.getD 0 [])).1, true)
  else if x.rule = 3 then ((factor (l.getD 0 [])).1, true)
  else if x.rule = 4 then ((sup (l.getD 0 []) (l.getD 1 [])).1, true)
  else if l.tail.all unit then ([(rewr l.tail (l.getD 0 [])).1], decide ((rewr l.tail (l.getD 0 [])).2 = 0)) else ([], false)
noncomputable def comesP (inn : List (List Lt)) (steps : List Sp) (at_ : Nat) (x : Sp) : List (List Lt) × Bool :=
  if x.frm.length = 0 ∨ (x.rule = 4 ∧ x.frm.length ≠ 2) ∨ (x.rule < 4 ∧ x.frm.length ≠ 1) then ([], false)
  else if x.rule = 1 then (if x.frm.getD 0 0 < 0 ∨ (inn.length : Int) ≤ x.frm.getD 0 0 then ([], false) else ([(norm (inn.getD (x.frm.getD 0 0).toNat [])).1], decide ((norm (inn.getD (x.frm.getD 0 0).toNat [])).2 = 0)))
  else if fromOk at_ x.frm = false then ([], false)
  else comesL x (x.frm.map fun f => (stAt steps f).cl)
theorem comesP_any {inn : List (List Lt)} {steps : List Sp} {at_ : Nat} {x : Sp} (p : List Lt → Bool) : ((comesP inn steps at_ x).2 && (comesP inn steps at_ x).1.any p) = (comes inn steps at_ x).any p := by
  unfold comesP comes
  split
  · rfl
  · split
    · split
      · rfl
      · rcases norm (inn.getD (x.frm.getD 0 0).toNat []) with ⟨n, e⟩
        by_cases he : e = 0 <;> simp [he]
    · split
      · rfl
      · unfold comesL
        simp only
        split
        · simp
        · split
          · simp
          · split
            · simp
            · split
              · rcases rewr (x.frm.map fun f => (stAt steps f).cl).tail ((x.frm.map fun f => (stAt steps f).cl).getD 0 []) with ⟨n, e⟩
                by_cases he : e = 0 <;> simp [he]
              · rfl
theorem comesL_fst {x : Sp} {l : List (List Lt)} : (if (comesL x l).2 = true then (comesL x l).1 else []) =
    (if x.rule = 2 then (resolve (l.getD 0 [])).1 else if x.rule = 3 then (factor (l.getD 0 [])).1 else if x.rule = 4 then (sup (l.getD 0 []) (l.getD 1 [])).1
    else if l.tail.all unit then (match rewr l.tail (l.getD 0 []) with | (c, e) => if e = 0 then [c] else []) else []) := by
  unfold comesL
  split
  · simp
  · split
    · simp
    · split
      · simp
      · split
        · rcases rewr l.tail (l.getD 0 []) with ⟨n, e⟩
          by_cases he : e = 0 <;> simp [he]
        · rfl
theorem comes_ahead {inn : List (List Lt)} {steps : List Sp} {k : Nat} (hk : k ≤ steps.length) (x : Sp) : comes inn (steps.take k) k x = comes inn steps k x := by
  have h := comes_app (inn := inn) (l := steps.take k) (r := steps.drop k) (k := k) (x := x) (by rw [List.length_take]; omega)
  rw [List.take_append_drop] at h
  exact h.symm
theorem fromOk_no {at_ : Nat} {l : List Int} {f : Int} (h : f ∈ l) (hf : ¬ (0 ≤ f ∧ f < (at_ : Int))) : fromOk at_ l = false := by
  rw [← Bool.not_eq_true]
  intro ha
  have := List.all_eq_true.1 ha f h
  simp only [decide_eq_true_eq] at this
  exact hf this
theorem fromOk_of {at_ : Nat} {l : List Int} (h : ∀ f ∈ l, 0 ≤ f ∧ f < (at_ : Int)) : fromOk at_ l = true := List.all_eq_true.2 fun f hf => decide_eq_true (h f hf)
end Go.Proofs.YtmanhdacnkpclaaGreat
namespace Go.Proofs.YtmanhdacnkpclaaGreat
set_option linter.all false
set_option maxRecDepth 1000000
set_option maxHeartbeats 32000000
open Go.RowKit
theorem search91 : search [0, 1, 2] [k91, k92] [0, 0] = (r91, 0) := by
  unfold search
  rw [new91]
  dsimp only
  rw [if_pos rfl, if_neg (by decide)]
  have e1 : searchGo p91 [0, 0] = searchGo (pick p91 0).1 [0] := by
    show (if p91.wait.length = 0 then p91 else searchGo (pick p91 (0 % (p91.wait.length : Int))).1 [0]) = _
    rw [if_neg (by decide)]; rfl
  have e2 : searchGo q91 [0] = searchGo (pick q91 0).1 [] := by
    show (if q91.wait.length = 0 then q91 else searchGo (pick q91 (0 % (q91.wait.length : Int))).1 []) = _
    rw [if_neg (by decide)]; rfl
  rw [e1, pick91, e2, pick92]
  rfl
theorem checked91 : Checked [0, 1, 2] [k91, k92] r91.steps := by
  have h := search_ok search91 fun hs hi => QOk.ofKept hs hi
  exact h.1.checked h.2.2.2.1 h.2.2.2.2 h.2.2.1
theorem Checked.check {S : List Int} {inn : List (List Lt)} {steps : List Sp} (h : Checked S inn steps) : check S inn steps = (0, -1) := by
  unfold Go.Proofs.YtmanhdacnkpclaaGreat.check
  rw [if_pos h.sig, if_neg (by have := h.inn8; have := h.len; omega), if_pos (firstWrong_all.2 h.rin), checkGo_ok h.just steps 0 (by simp)]
abbrev bad91 : List Sp := [⟨1, [0], []⟩, ⟨1, [1], k92⟩, ⟨5, [1, 0], []⟩]
theorem norm91 : norm k91 = (k91, 0) := by kernel_rfl
theorem check91b : check [0, 1, 2] [k91, k92] bad91 = (10, 0) := by
  unfold check
  rw [if_pos (by kernel_rfl), if_neg (by decide), if_pos (by kernel_rfl)]
  have e : comes [k91, k92] bad91 0 ⟨1, [0], []⟩ = [k91] := by
    unfold comes
    rw [if_neg (by decide), if_pos rfl, if_neg (by decide)]
    show (match norm k91 with | (n, e) => if e = 0 then [n] else []) = [k91]
    rw [norm91]
    rfl
  rw [checkGo]
  rw [if_neg (by decide), if_pos (by kernel_rfl), e, if_neg (by decide)]
  rfl
theorem trim91 : trim r91.steps 2 = r91.steps := by kernel_rfl
abbrev pfAV (ad : Option Addr) (nn cp : Nat) (p : Pf) : A1 := .agg [.arr (p.sig.map Int.d), .arr (p.steps.map Sp.d), .arr (p.active.map Int.d), .val (.slice ad nn cp), .val (.int .i64 p.found), .val (.bool p.lost)]
theorem stepP_f {p : Pf} {rule : Int} {frm : List Int} {c : List Lt} (h : 120 ≤ p.steps.length) : stepP p rule frm c = (⟨p.sig, p.steps, p.active, p.wait, p.found, true⟩, false) := if_pos h
theorem stepP_t {p : Pf} {rule : Int} {frm : List Int} {c : List Lt} (h : ¬ 120 ≤ p.steps.length) : stepP p rule frm c = (⟨p.sig, p.steps ++ [⟨rule, frm, c⟩], p.active, p.wait, if c.length = 0 ∧ p.found < 0 then (p.steps.length : Int) else p.found, p.lost⟩, true) := if_neg h
theorem rstep (p : Pf) (rule : Int) (frm : List Int) (c : List Lt) (hl : p.steps.length ≤ 1000) :
    FnD Tryz.prog 46 [pfA p, iA rule, lA Int.d frm, lA Lt.d c] (.tup [pfA (stepP p rule frm c).1, bA (stepP p rule frm c).2]) := by
  refine Fn.of Tryz.func46 rfl Tryz.ntmps46 rfl (Nat.le_of_ble_eq_true rfl) ?_
  obtain ⟨sg, st, ac, wa, fo, lo⟩ := p
  dsimp only at hl
  by_cases h120 : 120 ≤ st.length
  · rw [stepP_f (by exact h120)]
    (refine wlk ?_)
    (refine wfCT ?_)
    rfl
  rw [stepP_t (by exact h120)]
  have e3 : ((st ++ [(⟨rule, frm, c⟩ : Sp)]).length : Int) - 1 = (st.length : Int) := by simp
  have h0 : ([] : List Sp) ++ st = st := rfl
  have hlen : (st ++ [(⟨rule, frm, c⟩ : Sp)]).length ≤ 1001 := by simp; omega
  (refine wlk ?_)
  (refine SqA.b1 (op_bsT (T := TB) (f := Sp.d) [(⟨rule, frm, c⟩ : Sp)] rfl rfl rfl rfl rfl rfl rfl rfl rfl rfl rfl) rfl rfl ?_)
  (refine wlE ?_)
  refine dwp_wk (Wk.freezeB (j := 4) (q := 1) rfl rfl rfl) ?_
  by_cases hc0 : c.length = 0
  · by_cases hf0 : fo < 0
    · rw [if_pos ⟨hc0, hf0⟩]
      (refine wlk ?_)
      (refine wfCT ?_)
      simp only [e3]
      rfl
    · rw [if_neg (fun h => hf0 h.2)]
      (refine wlk ?_)
      (refine wfCT ?_)
      rfl
  · rw [if_neg (fun h => hc0 h.1)]
    (refine wlk ?_)
    (refine wfCT ?_)
    rfl
theorem rstepV (ad : Option Addr) (nn cp : Nat) (p : Pf) (rule : Int) (frm : List Int) (c : List Lt) (hl : p.steps.length ≤ 1000) :
    FnD Tryz.prog 46 [pfAV ad nn cp p, iA rule, lA Int.d frm, lA Lt.d c] (.tup [pfAV ad nn cp (stepP p rule frm c).1, bA (stepP p rule frm c).2]) := by
  refine Fn.of Tryz.func46 rfl Tryz.ntmps46 rfl (Nat.le_of_ble_eq_true rfl) ?_
  obtain ⟨sg, st, ac, wa, fo, lo⟩ := p
  dsimp only at hl
  by_cases h120 : 120 ≤ st.length
  · rw [stepP_f (by exact h120)]
    (refine wlk ?_)
    (refine wfCT ?_)
    rfl
  rw [stepP_t (by exact h120)]
  have e3 : ((st ++ [(⟨rule, frm, c⟩ : Sp)]).length : Int) - 1 = (st.length : Int) := by simp
  have h0 : ([] : List Sp) ++ st = st := rfl
  have hlen : (st ++ [(⟨rule, frm, c⟩ : Sp)]).length ≤ 1001 := by simp; omega
  (refine wlk ?_)
  (refine SqA.b1 (op_bsT (T := TB) (f := Sp.d) [(⟨rule, frm, c⟩ : Sp)] rfl rfl rfl rfl rfl rfl rfl rfl rfl rfl rfl) rfl rfl ?_)
  (refine wlE ?_)
  refine dwp_wk (Wk.freezeB (j := 4) (q := 1) rfl rfl rfl) ?_
  by_cases hc0 : c.length = 0
  · by_cases hf0 : fo < 0
    · rw [if_pos ⟨hc0, hf0⟩]
      (refine wlk ?_)
      (refine wfCT ?_)
      simp only [e3]
      rfl
    · rw [if_neg (fun h => hf0 h.2)]
      (refine wlk ?_)
      (refine wfCT ?_)
      rfl
  · rw [if_neg (fun h => hc0 h.1)]
    (refine wlk ?_)
    (refine wfCT ?_)
    rfl
theorem rcovered {S : List Int} {p : Pf} (h : PfOk S p) (hal : p.active.length ≤ 1000) (c : List Lt) (hc : COk S c) : FnD Tryz.prog 57 [pfA p, lA Lt.d c] (.one (bA (known p c))) := by
  refine Fn.of Tryz.func57 rfl Tryz.ntmps57 rfl (Nat.le_of_ble_eq_true rfl) ?_
  (refine wlk ?_)
  refine dwp_loop (fun k : Nat => [(.t 1, some (.one (lA Lt.d c))), (.t 2, some (.one (.c (.ptr 2 0)))), (.b 2, some (.box (pfA p).cells)), (.t 8, some (.one (lA Int.d p.active))), (.t 9, some (.one (iA p.active.length))), (.t 10, some (.one (iA k)))])
    (fun k => k ≤ p.active.length ∧ ∀ j y, j < k → p.active[j]? = some y → covers (clAt p y) c = false) (fun k => p.active.length - k) 0 ⟨by omega, fun j x h => absurd h (by omega)⟩ fgs ?_
  rintro k ⟨hk, hno⟩
  by_cases hkl : k < p.active.length
  rotate_left
  · have : k = p.active.length := by omega
    subst this
    (refine wlk ?_)
    (refine wfT ?_)
    exact Xb (b := false) (List.any_eq_false.2 fun x hx => by rw [any_upto hno x hx]; simp).symm
  obtain ⟨x, hx⟩ := get_of_lt hkl
  obtain ⟨i, rfl, hst, hcl, hco⟩ := h.at (h.act x (List.mem_of_getElem? hx))
  have hc4 := hc.len
  have g := rCovers (stAt p.steps (i : Int)).cl c hco.size hco.len hc4
  rw [← hcl] at g
  cases hcv : covers (clAt p (i : Int)) c
  · rw [hcv] at g
    (refine wlk ?_)
    (refine wlC g ?_)
    (refine wlk ?_)
    exact ⟨k + 1, ⟨by omega, upto_succ hno hx hcv⟩, fgs, by omega⟩
  · rw [hcv] at g
    (refine wlk ?_)
    (refine wlC g ?_)
    (refine wlk ?_)
    (refine wfT ?_)
    exact Xb (b := true) (List.any_eq_true.2 ⟨_, List.mem_of_getElem? hx, hcv⟩).symm
abbrev zero9 : List CV := [.val (.slice none 0 0), .val (.slice none 0 0), .val (.slice none 0 0), .val (.slice none 0 0), .val (.int .i64 0), .val (.bool false)]
theorem any_takeS {α : Type} {p : α → Bool} {l : List α} {k : Nat} {x : α} (h : l[k]? = some x) : (l.take (k + 1)).any p = ((l.take k).any p || p x) := by
  rw [take_succ_of h, List.any_append]; simp
theorem rcome {S : List Int} {p : Pf} (h : PfGo S p) (rule : Int) (frm : List Int) (l : List (List Lt)) (lost : Bool) (hl : ∀ c ∈ l, COk S c) :
    FnD Tryz.prog 59 [pfA p, iA rule, lA Int.d frm, lA Cl.d l, bA lost] (.one (pfA (come p rule frm (l, lost)))) := by
  refine Fn.of Tryz.func59 rfl Tryz.ntmps59 rfl (Nat.le_of_ble_eq_true rfl) ?_
  refine dwp_len (t := 3) (ds := l.map Cl.d) rfl fun hbl => ?_
  rw [List.length_map] at hbl
  have hg0 : PfGo S { p with lost := p.lost || lost } := ⟨⟨h.ok.len, h.ok.cok, h.ok.act, h.ok.wai⟩, h.aw⟩
  have hcome : come p rule frm (l, lost) = l.foldl (come1 rule frm) { p with lost := p.lost || lost } := rfl
  rw [hcome]
  clear hcome h
  obtain ⟨sg, st, ac, wa, fo, plo⟩ := p
  dsimp only at hg0 ⊢
  obtain ⟨p0, hp0⟩ : ∃ p0 : Pf, p0 = ⟨sg, st, ac, wa, fo, plo || lost⟩ := ⟨_, rfl⟩
  rw [← hp0] at hg0 ⊢
  cases plo
  all_goals (
    (refine wlk ?_)
    refine dwp_loop (fun x : Nat × Pf => [(.t 1, some (.one (iA rule))), (.t 2, some (.one (lA Int.d frm))), (.t 5, some (.one (.c (.ptr 5 0)))), (.b 5, some (.box (pfA x.2).cells)), (.t 10, some (.one (.c (.ptr 10 0)))), (.b 10, some (.box zero9)), (.t 24, some (.one (lA Cl.d l))), (.t 25, some (.one (iA l.length))), (.t 26, some (.one (iA x.1)))])
      (fun x => x.1 ≤ l.length ∧ x.2 = (l.take x.1).foldl (come1 rule frm) p0 ∧ PfGo S x.2) (fun x => l.length - x.1) (0, p0) ⟨by simp, rfl, hg0⟩ (by dsimp only; rw [hp0]; exact fgs) ?_
    rintro ⟨k, q⟩ ⟨hk, hq, hg⟩
    dsimp only at hk hq hg ⊢
    by_cases hkl : k < l.length
    rotate_left
    · rw [fold_all _ _ (by omega)] at hq
      rw [← hq]
      (refine wlk ?_)
      (refine wfC ?_)
      rfl
    obtain ⟨c, hc⟩ := get_of_lt hkl
    have hco := hl c (List.mem_of_getElem? hc)
    have hnext := fold_take (come1 rule frm) p0 hc
    rw [← hq] at hnext
    have hgn := come1_ok hg rule frm hco
    have hlen := hg.ok.len
    have haw := hg.aw
    have gk := rcovered hg.ok (by omega) c hco
    have hsp := rstep q rule frm c (by omega)
    clear hq
    (refine wlk ?_)
    refine dwp_loop (fun j : Nat => [(.t 1, some (.one (iA rule))), (.t 2, some (.one (lA Int.d frm))), (.t 5, some (.one (.c (.ptr 5 0)))), (.b 5, some (.box (pfA q).cells)), (.t 10, some (.one (.c (.ptr 10 0)))), (.b 10, some (.box zero9)), (.t 24, some (.one (lA Cl.d l))), (.t 25, some (.one (iA l.length))), (.t 26, some (.one (iA k))),
        (.t 12, some (.one (lA Lt.d c))), (.t 13, some (.one (bA ((q.wait.take j).any fun y => clSame (clAt q y) c)))), (.t 31, some (.one (lA Int.d q.wait))), (.t 32, some (.one (iA q.wait.length))), (.t 33, some (.one (iA j)))])
      (fun j => j ≤ q.wait.length) (fun j => q.wait.length - j) 0 (by omega) fgs ?_
    intro j hj
    by_cases hjl : j < q.wait.length
    · obtain ⟨y, hy⟩ := get_of_lt hjl
      obtain ⟨yi, rfl, hst, hcl, _⟩ := hg.ok.at (hg.ok.wai y (List.mem_of_getElem? hy))
      have hat := any_takeS (p := fun y => clSame (clAt q y) c) hy
      have gs := rsameClause (stAt q.steps (yi : Int)).cl c
      rw [← hcl] at gs
      cases hb : (q.wait.take j).any fun y => clSame (clAt q y) c
      · rw [hb] at hat
        simp only [Bool.false_or] at hat
        (refine wlk ?_)
        (refine wlC gs ?_)
        (refine wlk ?_)
        refine ⟨j + 1, by omega, ?_, by omega⟩
        rw [hat]
        exact fgs
      · rw [hb] at hat
        simp only [Bool.true_or] at hat
        (refine wlk ?_)
        refine ⟨j + 1, by omega, ?_, by omega⟩
        rw [hat]
        exact fgs
    have hjw : j = q.wait.length := by omega
    subst hjw
    have hww : ((q.wait.take q.wait.length).any fun y => clSame (clAt q y) c) = waits q c := by rw [List.take_length]; rfl
    rw [hww]
    by_cases hf : 0 ≤ q.found
    · rw [come1_skip (.inl hf)] at hnext
      (refine wlk ?_)
      exact ⟨(k + 1, q), ⟨by simp only; omega, hnext.symm, hg⟩, fgs, by simp only; omega⟩
    cases hw : waits q c
    rotate_left
    · rw [come1_skip (.inr (.inl hw))] at hnext
      (refine wlk ?_)
      exact ⟨(k + 1, q), ⟨by simp only; omega, hnext.symm, hg⟩, fgs, by simp only; omega⟩
    cases hn : known q c
    rotate_left
    · rw [come1_skip (.inr (.inr hn))] at hnext
      rw [hn] at gk
      (refine wlk ?_)
      (refine wlC gk ?_)
      (refine wlk ?_)
      exact ⟨(k + 1, q), ⟨by simp only; omega, hnext.symm, hg⟩, fgs, by simp only; omega⟩
    rw [hn] at gk
    have hno : ¬ (0 ≤ q.found ∨ waits q c = true ∨ known q c = true) := by
      rintro (h1 | h1 | h1)
      · exact hf h1
      · rw [hw] at h1; cases h1
      · rw [hn] at h1; cases h1
    by_cases h120 : 120 ≤ q.steps.length
    · rw [come1_full hno h120, stepP_full h120] at hnext hgn
      rw [stepP_f h120] at hsp
      dsimp only [pfA] at hsp
      (refine wlk ?_)
      (refine wlC gk ?_)
      (refine wlk ?_)
      (refine wlC hsp ?_)
      (refine wlk ?_)
      exact ⟨(k + 1, _), ⟨by simp only; omega, hnext.symm, hgn⟩, fgs, by simp only; omega⟩
    · rw [come1_in2 hno h120] at hnext hgn
      rw [stepP_t h120] at hsp
      dsimp only [pfA] at hsp
      have h0 : ([] : List Int) ++ q.wait = q.wait := rfl
      have e3 : ((q.steps ++ [(⟨rule, frm, c⟩ : Sp)]).length : Int) - 1 = (q.steps.length : Int) := by simp
      have hwl : (q.wait ++ [(q.steps.length : Int)]).length ≤ 1000 := by simp; omega
      have hsl2 : (q.steps ++ [(⟨rule, frm, c⟩ : Sp)]).length = q.steps.length + 1 := by simp
      (refine wlk ?_)
      (refine wlC gk ?_)
      (refine wlk ?_)
      (refine wlC hsp ?_)
      (refine wlk ?_)
      rw [e3]
      (refine SqA.b1 (op_bsT (T := TB) (f := Int.d) [(q.steps.length : Int)] rfl rfl rfl rfl rfl rfl rfl rfl rfl rfl rfl) rfl rfl ?_)
      (refine wlD ?_)
      refine dwp_wk (Wk.freezeB (j := 5) (q := 3) rfl rfl rfl) ?_
      (refine wlk ?_)
      exact ⟨(k + 1, _), ⟨by simp only; omega, hnext.symm, hgn⟩, fgs, by simp only; omega⟩)
def fac4 (rest : List Lt) (x y : Lt) (m : Mk) (k : Nat) : Mk := factor1 rest ((turnL (decide (2 ≤ k)) x).left, (turnL (decide (2 ≤ k)) x).right) m ((turnL (decide (k % 2 = 1)) y).left, (turnL (decide (k % 2 = 1)) y).right)
theorem fac4_all (rest : List Lt) (x y : Lt) (m : Mk) : (List.range 4).foldl (fac4 rest x y) m = (waysL x).foldl (factor2 rest y) m := rfl
theorem turn_way (l : Lt) (b : Bool) : ((turnL b l).left, (turnL b l).right) ∈ waysL l := by cases b <;> simp [turnL, waysL]
theorem rfactor {S : List Int} {c : List Lt} (h : CG S c) : FnD Tryz.prog 60 [lA Lt.d c] (.tup [lA Cl.d (factor c).1, bA (factor c).2]) := by
  have hl4 := h.len
  refine Fn.of Tryz.func60 rfl Tryz.ntmps60 rfl (Nat.le_of_ble_eq_true rfl) ?_
  (refine wlk ?_)
  refine dwp_loop (fun x : Nat × Mk => [(.t 0, some (.one (lA Lt.d c))), (.t 4, some (.one (.c (.ptr 13 0)))), (.b 13, some (.box (mkBox x.2))), (.t 15, some (.one (iA c.length))), (.t 16, some (.one (iA x.1)))])
    (fun x => x.1 ≤ c.length ∧ x.2 = (List.range x.1).foldl (factor4 c) ([], false) ∧ x.2.1.length ≤ 100 * x.1) (fun x => c.length - x.1) (0, [], false) ⟨by simp, rfl, by simp⟩ ((Wk.nilOwnB (j := 13) (q := 0) (E := 39) (m := 1) rfl rfl rfl).trans fgs) ?_
  rintro ⟨i, m1⟩ ⟨hk, hm, hb1⟩
  dsimp only at hk hm hb1 ⊢
  by_cases hkl : i < c.length
  rotate_left
  · have hkc : i = c.length := by omega
    subst hkc
    refine dwp_wk (Wk.freezeB (j := 13) (q := 0) rfl rfl rfl) ?_
    (refine wlk ?_)
    (refine wfTT ?_)
    rw [hm]
    rfl
  obtain ⟨⟨xn, xl, xr⟩, hx⟩ := get_of_lt hkl
  have hnext := range_fold (factor4 c) ([], false) i
  rw [← hm] at hnext
  have hf4 : factor4 c m1 i = ((List.range c.length).drop (i + 1)).foldl (factor3 c i ⟨xn, xl, xr⟩) m1 := by unfold factor4; rw [hx]
  rw [hf4] at hnext
  have hel : (c.eraseIdx i).length ≤ 4 := (h.erase i).len
  (refine wlk ?_)
  refine dwp_loop (fun x : Nat × Mk => [(.t 0, some (.one (lA Lt.d c))), (.t 4, some (.one (.c (.ptr 13 0)))), (.b 13, some (.box (mkBox x.2))), (.t 5, some (.one (iA i))), (.t 15, some (.one (iA c.length))), (.t 16, some (.one (iA i))), (.t 20, some (.one (iA c.length))), (.t 21, some (.one (iA x.1)))])
    (fun y => y.1 ≤ c.length ∧ y.2 = (((List.range c.length).drop (i + 1)).take (y.1 - (i + 1))).foldl (factor3 c i ⟨xn, xl, xr⟩) m1 ∧ y.2.1.length ≤ 100 * i + 10 * y.1) (fun y => c.length - y.1) (0, m1) ⟨by simp only; omega, by simp, by simp only; omega⟩ fgs ?_
  rintro ⟨j, m2⟩ ⟨hd, hm2, hb2⟩
  dsimp only at hd hm2 hb2 ⊢
  by_cases hdl : j < c.length
  rotate_left
  · rw [fold_all _ _ (by rw [List.length_drop, List.length_range]; omega)] at hm2
    rw [← hm2] at hnext
    (refine wlk ?_)
    exact ⟨(i + 1, m2), ⟨by simp only; omega, hnext.symm, by simp only; omega⟩, fgs, by simp only; omega⟩
  obtain ⟨⟨yn, yl, yr⟩, hy⟩ := get_of_lt hdl
  by_cases hji : j ≤ i
  · have e0 : j - (i + 1) = 0 := by omega
    have e1 : (j + 1) - (i + 1) = 0 := by omega
    rw [e0] at hm2
    (refine wlk ?_)
    exact ⟨(j + 1, m2), ⟨by simp only; omega, by simp only; rw [e1]; exact hm2, by simp only; omega⟩, fgs, by simp only; omega⟩
  have e1 : (j + 1) - (i + 1) = (j - (i + 1)) + 1 := by omega
  have ej : i + 1 + (j - (i + 1)) = j := by omega
  have hnext2 := fold_take (factor3 c i ⟨xn, xl, xr⟩) m1 (range_drop (n := c.length) (i := i + 1) (d := j - (i + 1)) (by omega))
  rw [← hm2, ej, ← e1] at hnext2
  cases xn
  rotate_left
  · have hf3 : factor3 c i ⟨true, xl, xr⟩ m2 j = m2 := by unfold factor3; rw [hy]; simp
    rw [hf3] at hnext2
    (refine wlk ?_)
    exact ⟨(j + 1, m2), ⟨by simp only; omega, hnext2.symm, by simp only; omega⟩, fgs, by simp only; omega⟩
  cases yn
  rotate_left
  · have hf3 : factor3 c i ⟨false, xl, xr⟩ m2 j = m2 := by unfold factor3; rw [hy]; simp
    rw [hf3] at hnext2
    (refine wlk ?_)
    (refine SqA.b1 (op_idxT (T := TB) rfl rfl rfl rfl rfl (hx) (by first | rfl | omega)) rfl rfl ?_)
    (refine wlk ?_)
    exact ⟨(j + 1, m2), ⟨by simp only; omega, hnext2.symm, by simp only; omega⟩, fgs, by simp only; omega⟩
  have hf3 : factor3 c i ⟨false, xl, xr⟩ m2 j = (List.range 4).foldl (fac4 (c.eraseIdx i) ⟨false, xl, xr⟩ ⟨false, yl, yr⟩) m2 := by unfold factor3; rw [hy]; simp [fac4_all]
  rw [hf3] at hnext2
  (refine wlk ?_)
  (refine SqA.b1 (op_idxT (T := TB) rfl rfl rfl rfl rfl (hx) (by first | rfl | omega)) rfl rfl ?_)
  (refine wlk ?_)
  refine dwp_loop (fun z : Nat × Mk => [(.t 0, some (.one (lA Lt.d c))), (.t 4, some (.one (.c (.ptr 13 0)))), (.b 13, some (.box (mkBox z.2))), (.t 5, some (.one (iA i))), (.t 6, some (.one (iA j))), (.t 15, some (.one (iA c.length))), (.t 16, some (.one (iA i))), (.t 20, some (.one (iA c.length))), (.t 21, some (.one (iA j))), (.t 41, some (.one (iA z.1)))])
    (fun z => z.1 ≤ 4 ∧ z.2 = (List.range z.1).foldl (fac4 (c.eraseIdx i) ⟨false, xl, xr⟩ ⟨false, yl, yr⟩) m2 ∧ z.2.1.length ≤ 100 * i + 10 * j + z.1) (fun z => 4 - z.1) (0, m2) ⟨by simp only; omega, rfl, by simp only; omega⟩ fgs ?_
  rintro ⟨k, m3⟩ ⟨hp, hm3, hb3⟩
  dsimp only at hp hm3 hb3 ⊢
  by_cases hpl : k < 4
  rotate_left
  · have hk4 : k = 4 := by omega
    subst hk4
    rw [← hm3] at hnext2
    (refine wlk ?_)
    exact ⟨(j + 1, m3), ⟨by simp only; omega, hnext2.symm, by simp only; omega⟩, fgs, by simp only; omega⟩
  have hnext3 := range_fold (fac4 (c.eraseIdx i) ⟨false, xl, xr⟩ ⟨false, yl, yr⟩) m2 k
  rw [← hm3] at hnext3
  have c1 : cmpB .geq (k : Int) 2 = decide (2 ≤ k) := by by_cases h2 : 2 ≤ k <;> simp [cmpB, h2] <;> omega
  have c2 : cmpB .eql ((k : Int) % 2) 1 = decide (k % 2 = 1) := by by_cases h2 : k % 2 = 1 <;> simp [cmpB, h2] <;> omega
  have hwx := turn_way (⟨false, xl, xr⟩ : Lt) (cmpB .geq (k : Int) 2)
  have hwy := turn_way (⟨false, yl, yr⟩ : Lt) (cmpB .eql ((k : Int) % 2) 1)
  have hfk : fac4 (c.eraseIdx i) ⟨false, xl, xr⟩ ⟨false, yl, yr⟩ m3 k = factor1 (c.eraseIdx i) ((turnL (cmpB .geq (k : Int) 2) ⟨false, xl, xr⟩).left, (turnL (cmpB .geq (k : Int) 2) ⟨false, xl, xr⟩).right) m3 ((turnL (cmpB .eql ((k : Int) % 2) 1) ⟨false, yl, yr⟩).left, (turnL (cmpB .eql ((k : Int) % 2) 1) ⟨false, yl, yr⟩).right) := by
    rw [c1, c2]; rfl
  rw [hfk] at hnext3
  have t1 := rturn ⟨false, xl, xr⟩ (cmpB .geq (k : Int) 2)
  have t2 := rturn ⟨false, yl, yr⟩ (cmpB .eql ((k : Int) % 2) 1)
  clear hfk c1 c2
  have oa := h.way hx hwx
  have ob := h.way hy hwy
  have hu := runify oa.1.1 ob.1.1
  dsimp only at hu
  have hlen4 := factor1_len (c.eraseIdx i) ((turnL (cmpB .geq (k : Int) 2) ⟨false, xl, xr⟩).left, (turnL (cmpB .geq (k : Int) 2) ⟨false, xl, xr⟩).right) m3 ((turnL (cmpB .eql ((k : Int) % 2) 1) ⟨false, yl, yr⟩).left, (turnL (cmpB .eql ((k : Int) % 2) 1) ⟨false, yl, yr⟩).right)
  (refine wlk ?_)
  (refine SqA.b1 (op_idxT (T := TB) rfl rfl rfl rfl rfl (hx) (by first | rfl | omega)) rfl rfl ?_)
  (refine wlk ?_)
  (refine wlC t1 ?_)
  (refine wlk ?_)
  (refine wlC t2 ?_)
  (refine wlk ?_)
  generalize turnL (cmpB .geq (k : Int) 2) ⟨false, xl, xr⟩ = u at *
  generalize turnL (cmpB .eql ((k : Int) % 2) 1) ⟨false, yl, yr⟩ = v at *
  cases hs : unify u.left v.left with
  | none =>
    rw [hs] at hu
    have hf1 : factor1 (c.eraseIdx i) (u.left, u.right) m3 (v.left, v.right) = m3 := by unfold factor1; simp [hs]
    rw [hf1] at hnext3
    (refine wlC hu ?_)
    (refine wlk ?_)
    exact ⟨(k + 1, m3), ⟨by simp only; omega, hnext3.symm, by simp only; omega⟩, fgs, by simp only; omega⟩
  | some s =>
    rw [hs] at hu
    have hf1 : factor1 (c.eraseIdx i) (u.left, u.right) m3 (v.left, v.right) = addR m3 s (c.eraseIdx i ++ [⟨true, u.right, v.right⟩]) := by unfold factor1; simp [hs]
    rw [hf1] at hnext3 hlen4
    have hok := h.factor hx hy hwx hwy hs
    dsimp only at hok
    (refine wlC hu ?_)
    (refine wlk ?_)
    (refine SqA.b1 (op_call none rfl rfl rfl (by kernel_rfl) (FnD.use (rbutO c i hkl (by omega))) rfl rfl rfl rfl rfl rfl) rfl rfl ?_)
    (refine wlk ?_)
    (refine SqA.b1 (op_bsT (T := TB) (f := Lt.d) [(⟨true, u.right, v.right⟩ : Lt)] rfl rfl rfl rfl rfl rfl rfl rfl rfl rfl rfl) rfl rfl ?_)
    (refine wlk ?_)
    (refine SqA.b3 (Op1.frzIn (t := 79) rfl (op_call (some (13)) rfl rfl rfl (by kernel_rfl) (FnB.use (ladd m3 s (c.eraseIdx i ++ [⟨true, u.right, v.right⟩]) (by have := hok.slen; omega) hok.sz hok.len hok.okv hok.few hok.sz2 (by omega))) rfl rfl rfl rfl rfl rfl)) rfl rfl ?_)
    (refine wlk ?_)
    exact ⟨(k + 1, addR m3 s (c.eraseIdx i ++ [⟨true, u.right, v.right⟩])), ⟨by simp only; omega, hnext3.symm, by simp only; omega⟩, fgs, by simp only; omega⟩
theorem FnD.fn0 {P : Program} {f g : FuncId} {args : List A1} {x : X} (h : FnD P f args x) (i : Nat) (hi : args[i]? = some (.c (.fnv g []))) : FnD P f (args.set i (.c (.val (.func (.func g) #[] #[])))) x := fun who w vs h1 h2 h3 h4 h5 h6 => by
  refine h who w vs h1 h2 h3 (by simpa using h4) (fun j A v hA hv => ?_) h6
  rcases Classical.em (i = j) with rfl | hne
  · rw [hi] at hA; injection hA with hA; subst hA
    have hlt : i < args.length := (List.getElem?_eq_some_iff.1 hi).1
    have := h5 i _ v (by rw [List.getElem?_set_self hlt]) hv
    have e : v = .func (.func g) #[] #[] := this
    subst e
    exact ⟨[], rfl, rfl, fun i cs v h => by simp at h⟩
  · exact h5 j A v (by rw [List.getElem?_set_ne hne]; exact hA) hv
def supK (c d : List Lt) (i : Nat) (x : Lt) (m : Mk) (k : Nat) : Mk := if x.neg then m else sup4 (c.eraseIdx i) d m ((turnL (decide (k = 1)) x).left, (turnL (decide (k = 1)) x).right)
theorem supK_all {c d : List Lt} {i : Nat} {x : Lt} (hx : c[i]? = some x) (m : Mk) : sup5 c d m i = (List.range 2).foldl (supK c d i x) m := by
  unfold sup5
  rw [hx]
  cases hn : x.neg
  · have : (List.range 2).foldl (supK c d i x) m = supK c d i x (supK c d i x m 0) 1 := rfl
    rw [this]
    simp only [supK, hn]
    rfl
  · have : (List.range 2).foldl (supK c d i x) m = supK c d i x (supK c d i x m 0) 1 := rfl
    rw [this]
    simp [supK, hn]
theorem turn_eta (b : Bool) (l : Lt) : turnL b l = ⟨l.neg, (turnL b l).left, (turnL b l).right⟩ := by cases b <;> rfl
theorem cmp_one {k : Nat} : cmpB .eql (k : Int) 1 = decide (k = 1) := by by_cases h : k = 1 <;> simp [cmpB, h]; omega
theorem rsup {S : List Int} {c d : List Lt} (h : CG S c) (h0 : COk S d) : FnD Tryz.prog 61 [lA Lt.d c, lA Lt.d d] (.tup [lA Cl.d (sup c d).1, bA (sup c d).2]) := by
  have hl4 := h.len
  have hl5 := h0.len
  have hren := FnD.fn0 (rEach0 104 trivial (ren 5) (by kernel_rfl) d (by omega) fun l hl => by
    have hz := h0.size l hl
    have hk := h0.wf.ar.okv l hl
    exact ⟨rsup1 l.left hk.1 (by omega), rsup1 l.right hk.2 (by omega)⟩) 1 rfl
  have hsup : sup c d = supD c (each (ren 5) d) := rfl
  rw [hsup]
  have hd := h0.cgr
  clear hsup
  generalize each (ren 5) d = d' at *
  have hld := hd.len
  refine Fn.of Tryz.func61 rfl Tryz.ntmps61 rfl (Nat.le_of_ble_eq_true rfl) ?_
  (refine wlk ?_)
  (refine wlC hren ?_)
  (refine wlk ?_)
  refine dwp_loop (fun x : Nat × Mk => [(.t 0, some (.one (lA Lt.d c))), (.t 1, some (.one (lA Lt.d d'))), (.t 6, some (.one (.c (.ptr 22 0)))), (.b 22, some (.box (mkBox x.2))), (.t 26, some (.one (iA c.length))), (.t 27, some (.one (iA x.1)))])
    (fun x => x.1 ≤ c.length ∧ x.2 = (List.range x.1).foldl (sup5 c d') ([], false) ∧ x.2.1.length ≤ 1000 * x.1) (fun x => c.length - x.1) (0, [], false) ⟨by simp, rfl, by simp⟩ ((Wk.nilOwnB (j := 22) (q := 0) (E := 39) (m := 1) rfl rfl rfl).trans fgs) ?_
  rintro ⟨i, m1⟩ ⟨hk, hm, hb1⟩
  dsimp only at hk hm hb1 ⊢
  by_cases hkl : i < c.length
  rotate_left
  · have hkc : i = c.length := by omega
    subst hkc
    refine dwp_wk (Wk.freezeB (j := 22) (q := 0) rfl rfl rfl) ?_
    (refine wlk ?_)
    (refine wfTT ?_)
    rw [hm]
    rfl
  obtain ⟨⟨xn, xl, xr⟩, hx⟩ := get_of_lt hkl
  have hnext := range_fold (sup5 c d') ([], false) i
  rw [← hm, supK_all hx] at hnext
  have hel : (c.eraseIdx i).length ≤ 4 := (h.erase i).len
  (refine wlk ?_)
  refine dwp_loop (fun z : Nat × Mk => [(.t 0, some (.one (lA Lt.d c))), (.t 1, some (.one (lA Lt.d d'))), (.t 6, some (.one (.c (.ptr 22 0)))), (.b 22, some (.box (mkBox z.2))), (.t 26, some (.one (iA c.length))), (.t 7, some (.one (iA i))), (.t 27, some (.one (iA i))), (.t 30, some (.one (iA z.1)))])
    (fun z => z.1 ≤ 2 ∧ z.2 = (List.range z.1).foldl (supK c d' i ⟨xn, xl, xr⟩) m1 ∧ z.2.1.length ≤ 1000 * i + 100 * z.1) (fun z => 2 - z.1) (0, m1) ⟨by simp only; omega, rfl, by simp only; omega⟩ fgs ?_
  rintro ⟨k, m2⟩ ⟨hp, hm2, hb2⟩
  dsimp only at hp hm2 hb2 ⊢
  by_cases hpl : k < 2
  rotate_left
  · have hk2 : k = 2 := by omega
    subst hk2
    rw [← hm2] at hnext
    (refine wlk ?_)
    exact ⟨(i + 1, m2), ⟨by simp only; omega, hnext.symm, by simp only; omega⟩, fgs, by simp only; omega⟩
  have hnext2 := range_fold (supK c d' i ⟨xn, xl, xr⟩) m1 k
  rw [← hm2] at hnext2
  have t1 := rturn ⟨xn, xl, xr⟩ (cmpB .eql (k : Int) 1)
  have hway := turn_way ⟨xn, xl, xr⟩ (cmpB .eql (k : Int) 1)
  rw [turn_eta (cmpB .eql (k : Int) 1)] at t1
  unfold supK at hnext2
  rw [← cmp_one] at hnext2
  dsimp only at t1 hnext2
  generalize (turnL (cmpB .eql (k : Int) 1) ⟨xn, xl, xr⟩).left = u1 at *
  generalize (turnL (cmpB .eql (k : Int) 1) ⟨xn, xl, xr⟩).right = u2 at *
  cases xn
  rotate_left
  · rw [if_pos rfl] at hnext2
    (refine wlk ?_)
    (refine wlC t1 ?_)
    (refine wlk ?_)
    exact ⟨(k + 1, m2), ⟨by simp only; omega, hnext2.symm, by simp only; omega⟩, fgs, by simp only; omega⟩
  rw [if_neg (by simp)] at hnext2
  cases hav : u1.var
  rotate_left
  · have hf4 : sup4 (c.eraseIdx i) d' m2 (u1, u2) = m2 := by unfold sup4; simp [hav]
    rw [hf4] at hnext2
    (refine wlk ?_)
    (refine wlC t1 ?_)
    (refine wlk ?_)
    exact ⟨(k + 1, m2), ⟨by simp only; omega, hnext2.symm, by simp only; omega⟩, fgs, by simp only; omega⟩
  have hf4 : sup4 (c.eraseIdx i) d' m2 (u1, u2) = (List.range d'.length).foldl (sup3 (u1, u2) (c.eraseIdx i) d') m2 := by unfold sup4; simp [hav]
  rw [hf4] at hnext2
  have oa := h.way hx hway
  dsimp only at oa
  (refine wlk ?_)
  (refine wlC t1 ?_)
  (refine wlk ?_)
  refine dwp_loop (fun z : Nat × Mk => [(.t 0, some (.one (lA Lt.d c))), (.t 1, some (.one (lA Lt.d d'))), (.t 6, some (.one (.c (.ptr 22 0)))), (.b 22, some (.box (mkBox z.2))), (.t 26, some (.one (iA c.length))), (.t 7, some (.one (iA i))), (.t 27, some (.one (iA i))), (.t 30, some (.one (iA k))), (.t 9, some (.one (.c (.ptr 9 0)))), (.b 9, some (.box (ltA ⟨false, u1, u2⟩).cells)), (.t 48, some (.one (iA d'.length))), (.t 49, some (.one (iA z.1)))])
    (fun z => z.1 ≤ d'.length ∧ z.2 = (List.range z.1).foldl (sup3 (u1, u2) (c.eraseIdx i) d') m2 ∧ z.2.1.length ≤ 1000 * i + 100 * k + 24 * z.1) (fun z => d'.length - z.1) (0, m2) ⟨by simp only; omega, rfl, by simp only; omega⟩ fgs ?_
  rintro ⟨j, m3⟩ ⟨hj, hm3, hb3⟩
  dsimp only at hj hm3 hb3 ⊢
  by_cases hjl : j < d'.length
  rotate_left
  · have hjc : j = d'.length := by omega
    subst hjc
    rw [← hm3] at hnext2
    (refine wlk ?_)
    exact ⟨(k + 1, m3), ⟨by simp only; omega, hnext2.symm, by simp only; omega⟩, fgs, by simp only; omega⟩
  have hnext3 := range_fold (sup3 (u1, u2) (c.eraseIdx i) d') m2 j
  rw [← hm3] at hnext3
  have hlen3 := sup3_len hd (u1, u2) (c.eraseIdx i) m3 j
  obtain ⟨y, hy⟩ := get_of_lt hjl
  have hs3 : sup3 (u1, u2) (c.eraseIdx i) d' m3 j = [false, true].foldl (sup2 (u1, u2) (c.eraseIdx i) d' j y) m3 := by unfold sup3; rw [hy]
  rw [hs3] at hnext3 hlen3
  (refine wlk ?_)
  refine dwp_loop (fun z : Nat × Mk => [(.t 0, some (.one (lA Lt.d c))), (.t 1, some (.one (lA Lt.d d'))), (.t 6, some (.one (.c (.ptr 22 0)))), (.b 22, some (.box (mkBox z.2))), (.t 26, some (.one (iA c.length))), (.t 7, some (.one (iA i))), (.t 27, some (.one (iA i))), (.t 30, some (.one (iA k))), (.t 9, some (.one (.c (.ptr 9 0)))), (.b 9, some (.box (ltA ⟨false, u1, u2⟩).cells)), (.t 48, some (.one (iA d'.length))), (.t 49, some (.one (iA j))), (.t 10, some (.one (iA j))), (.t 52, some (.one (iA z.1)))])
    (fun z => z.1 ≤ 2 ∧ z.2 = ([false, true].take z.1).foldl (sup2 (u1, u2) (c.eraseIdx i) d' j y) m3 ∧ z.2.1.length ≤ 1000 * i + 100 * k + 24 * j + 12 * z.1) (fun z => 2 - z.1) (0, m3) ⟨by simp only; omega, rfl, by simp only; omega⟩ fgs ?_
  rintro ⟨s, m4⟩ ⟨hs2, hm4, hb4⟩
  dsimp only at hs2 hm4 hb4 ⊢
  by_cases hsl : s < 2
  rotate_left
  · have hk2 : s = 2 := by omega
    subst hk2
    rw [show ([false, true].take 2) = [false, true] from rfl] at hm4
    rw [← hm4] at hnext3
    (refine wlk ?_)
    exact ⟨(j + 1, m4), ⟨by simp only; omega, hnext3.symm, by simp only; omega⟩, fgs, by simp only; omega⟩
  obtain ⟨side, hside, _, hsd⟩ := side_at hsl y
  have hnext4 := fold_take (sup2 (u1, u2) (c.eraseIdx i) d' j y) m3 hside
  rw [← hm4] at hnext4
  have hcs : cmpB .eql (s : Int) 1 = side := by rcases hsd with ⟨rfl, rfl⟩ | ⟨rfl, rfl⟩ <;> rfl
  have ow := hd.turn hy side
  have hs2' : sup2 (u1, u2) (c.eraseIdx i) d' j y m4 side = (places (turnL side y).left).foldl (sup1 (u1, u2) (c.eraseIdx i) d' j y side ((turnL side y).left, (turnL side y).right)) m4 := rfl
  rw [hs2'] at hnext4
  have hpl2 := places_len (turnL side y).left
  have hok := fun p s hp hs => CG.sup (side := side) (p := p) (s := s) h hd hx hy hway hp hs
  unfold supCl at hok
  dsimp only at hok
  have t2 := rturn y (cmpB .eql (s : Int) 1)
  rw [show turnL (cmpB .eql (s : Int) 1) y = ⟨y.neg, (turnL side y).left, (turnL side y).right⟩ by rw [hcs]; exact turn_eta side y] at t2
  clear hs2' hside hsd
  generalize hW1 : (turnL side y).left = w1 at *
  generalize hW2 : (turnL side y).right = w2 at *
  have hz1 := ow.1.1.size
  (refine wlk ?_)
  (refine wlC t2 ?_)
  (refine wlk ?_)
  (refine SqA.b1 (op_call none rfl rfl rfl (by kernel_rfl) (FnD.use (rplaces w1 (by omega))) rfl rfl rfl rfl rfl rfl) rfl rfl ?_)
  (refine wlk ?_)
  refine dwp_loop (fun z : Nat × Mk => [(.t 0, some (.one (lA Lt.d c))), (.t 1, some (.one (lA Lt.d d'))), (.t 6, some (.one (.c (.ptr 22 0)))), (.b 22, some (.box (mkBox z.2))), (.t 26, some (.one (iA c.length))), (.t 7, some (.one (iA i))), (.t 27, some (.one (iA i))), (.t 30, some (.one (iA k))), (.t 9, some (.one (.c (.ptr 9 0)))), (.b 9, some (.box (ltA ⟨false, u1, u2⟩).cells)), (.t 48, some (.one (iA d'.length))), (.t 49, some (.one (iA j))), (.t 10, some (.one (iA j))), (.t 52, some (.one (iA s))), (.t 11, some (.one (iA s))), (.t 12, some (.one (.c (.ptr 12 0)))), (.b 12, some (.box (ltA ⟨y.neg, w1, w2⟩).cells)), (.t 64, some (.one (lA Is.d (places w1)))), (.t 65, some (.one (iA (places w1).length))), (.t 66, some (.one (iA z.1)))])
    (fun z => z.1 ≤ (places w1).length ∧ z.2 = ((places w1).take z.1).foldl (sup1 (u1, u2) (c.eraseIdx i) d' j y side (w1, w2)) m4 ∧ z.2.1.length ≤ 1000 * i + 100 * k + 24 * j + 12 * s + z.1) (fun z => (places w1).length - z.1) (0, m4) ⟨by simp only; omega, rfl, by simp only; omega⟩ fgs ?_
  rintro ⟨q, m5⟩ ⟨hq, hm5, hb5⟩
  dsimp only at hq hm5 hb5 ⊢
  by_cases hql : q < (places w1).length
  rotate_left
  · rw [fold_all _ _ (by omega)] at hm5
    rw [← hm5] at hnext4
    (refine wlk ?_)
    exact ⟨(s + 1, m5), ⟨by simp only; omega, hnext4.symm, by simp only; omega⟩, fgs, by simp only; omega⟩
  obtain ⟨p, hp⟩ := get_of_lt hql
  have hpm := List.mem_of_getElem? hp
  have hnext5 := fold_take (sup1 (u1, u2) (c.eraseIdx i) d' j y side (w1, w2)) m4 hp
  rw [← hm5] at hnext5
  have hlen5 := sup1_len (u1, u2) (c.eraseIdx i) d' j y side (w1, w2) m5 p
  have oat := ow.1.1.at ow.1.2 hpm
  have hu := runify oa.1.1 oat
  have hat := rat p w1 (by have := places_deep w1 p hpm; omega)
  cases hs : unify u1 (at_ w1 p).1 with
  | none =>
    rw [hs] at hu
    have hf1 : sup1 (u1, u2) (c.eraseIdx i) d' j y side (w1, w2) m5 p = m5 := by unfold sup1; simp [hs]
    rw [hf1] at hnext5
    (refine wlk ?_)
    (refine wlC hat ?_)
    (refine wlk ?_)
    (refine wlC hu ?_)
    (refine wlk ?_)
    exact ⟨(q + 1, m5), ⟨by simp only; omega, hnext5.symm, by simp only; omega⟩, fgs, by simp only; omega⟩
  | some sb =>
    rw [hs] at hu
    have ul := unify_len oa.1.1 oat hs
    have v1 := uok_of oa.1.1 oat hs oa.1.1
    have v2 := uok_of oa.1.1 oat hs oa.2.1
    have v3 := uok_of oa.1.1 oat hs ow.1.1
    have v4 := uok_of oa.1.1 oat hs ow.2.1
    have z1 := oa.1.1.size
    have z2 := oa.2.1.size
    have z4 := ow.2.1.size
    have g1 := ap sb (by omega) u1 (by omega)
    have g2 := ap sb (by omega) u2 (by omega)
    have g3 := ap sb (by omega) w1 (by omega)
    have g4 := ap sb (by omega) w2 (by omega)
    have k1 := rabove (app sb u2) (app sb u1) (by omega) (by omega)
    have k2 := rabove (app sb w2) (app sb w1) (by omega) (by omega)
    cases n1 : above (app sb u2) (app sb u1)
    rotate_left
    · have hf1 : sup1 (u1, u2) (c.eraseIdx i) d' j y side (w1, w2) m5 p = m5 := by unfold sup1; simp [hs, n1]
      rw [hf1] at hnext5
      rw [n1] at k1
      (refine wlk ?_)
      (refine wlC hat ?_)
      (refine wlk ?_)
      (refine wlC hu ?_)
      (refine wlk ?_)
      (refine wlC g2 ?_)
      (refine wlk ?_)
      (refine wlC g1 ?_)
      (refine wlk ?_)
      (refine wlC k1 ?_)
      (refine wlk ?_)
      exact ⟨(q + 1, m5), ⟨by simp only; omega, hnext5.symm, by simp only; omega⟩, fgs, by simp only; omega⟩
    rw [n1] at k1
    cases n2 : above (app sb w2) (app sb w1)
    rotate_left
    · have hf1 : sup1 (u1, u2) (c.eraseIdx i) d' j y side (w1, w2) m5 p = m5 := by unfold sup1; simp [hs, n2]
      rw [hf1] at hnext5
      rw [n2] at k2
      (refine wlk ?_)
      (refine wlC hat ?_)
      (refine wlk ?_)
      (refine wlC hu ?_)
      (refine wlk ?_)
      (refine wlC g2 ?_)
      (refine wlk ?_)
      (refine wlC g1 ?_)
      (refine wlk ?_)
      (refine wlC k1 ?_)
      (refine wlk ?_)
      (refine wlC g4 ?_)
      (refine wlk ?_)
      (refine wlC g3 ?_)
      (refine wlk ?_)
      (refine wlC k2 ?_)
      (refine wlk ?_)
      exact ⟨(q + 1, m5), ⟨by simp only; omega, hnext5.symm, by simp only; omega⟩, fgs, by simp only; omega⟩
    · rw [n2] at k2
      have hf1 : sup1 (u1, u2) (c.eraseIdx i) d' j y side (w1, w2) m5 p = addR m5 sb (c.eraseIdx i ++ d'.set j (turnL side ⟨y.neg, put w1 p u2, w2⟩)) := by unfold sup1; simp [hs, n1, n2]
      rw [hf1] at hnext5 hlen5
      have hok := hok p sb hpm hs
      have hput := rput u2 p w1 (by omega)
      have hsl : (d'.set j (turnL side ⟨y.neg, put w1 p u2, w2⟩)).length = d'.length := List.length_set ..
      have hadd := ladd m5 sb (c.eraseIdx i ++ d'.set j (turnL side ⟨y.neg, put w1 p u2, w2⟩)) (by omega) hok.sz hok.len hok.okv hok.few hok.sz2 (by omega)
      have t3 := rturn ⟨y.neg, put w1 p u2, w2⟩ (cmpB .eql (s : Int) 1)
      rw [show turnL (cmpB .eql (s : Int) 1) ⟨y.neg, put w1 p u2, w2⟩ = turnL side ⟨y.neg, put w1 p u2, w2⟩ by rw [hcs]] at t3
      have hbut := rbutO c i hkl (by omega)
      (refine wlk ?_)
      (refine wlC hat ?_)
      (refine wlk ?_)
      (refine wlC hu ?_)
      (refine wlk ?_)
      (refine wlC g2 ?_)
      (refine wlk ?_)
      (refine wlC g1 ?_)
      (refine wlk ?_)
      (refine wlC k1 ?_)
      (refine wlk ?_)
      (refine wlC g4 ?_)
      (refine wlk ?_)
      (refine wlC g3 ?_)
      (refine wlk ?_)
      (refine wlC k2 ?_)
      (refine wlk ?_)
      (refine SqA.b2 (op_appT (T := TB) (f := Lt.d) (l := []) (es := d') (rs := d') rfl rfl rfl rfl rfl rfl (by omega) (by decide)) rfl rfl ?_)
      (refine wlk ?_)
      (refine wlC hput ?_)
      (refine wlE ?_)
      refine dwp_wk (σ' := [(.t 0, some (.one (lA Lt.d c))), (.t 1, some (.one (lA Lt.d d'))), (.t 6, some (.one (.c (.ptr 22 0)))), (.b 22, some (.box (mkBox m5))), (.t 26, some (.one (iA c.length))), (.t 7, some (.one (iA i))), (.t 27, some (.one (iA i))), (.t 30, some (.one (iA k))), (.t 9, some (.one (.c (.ptr 9 0)))), (.b 9, some (.box (ltA ⟨false, u1, u2⟩).cells)), (.t 48, some (.one (iA d'.length))), (.t 49, some (.one (iA j))), (.t 10, some (.one (iA j))), (.t 52, some (.one (iA s))), (.t 11, some (.one (iA s))), (.t 12, some (.one (.c (.ptr 12 0)))), (.b 12, some (.box (ltA ⟨y.neg, w1, w2⟩).cells)), (.t 64, some (.one (lA Is.d (places w1)))), (.t 65, some (.one (iA (places w1).length))), (.t 66, some (.one (iA q))), (.t 14, some (.one (lA Int.d p))), (.t 17, some (.one (lA Pr.d sb))), (.t 20, some (.one (.c (.ptr 20 0)))), (.b 20, some (.box (ltA ⟨y.neg, put w1 p u2, w2⟩).cells)), (.t 19, some (.one (.c (.own 77 7 (d'.map Lt.d)))))]) fgs ?_
      refine dwp_ownEls (f := Lt.d) (g := ltG) (t := 19) rfl (by omega) rfl rfl rfl rfl fun e => ?_
      (refine wlk ?_)
      (refine wlC t3 ?_)
      (refine wlk ?_)
      (refine SqA.b1 (op_storeEl0 (g := ltG) (m := 7) (fun _ => rfl) (turnL side ⟨y.neg, put w1 p u2, w2⟩) rfl rfl (rw_of rfl) rfl rfl rfl rfl rfl rfl rfl rfl hjl rfl) rfl rfl ?_)
      (refine wlE ?_)
      refine dwp_wk (Wk.frzSlG (f := Lt.d) (g := ltG) (t := 19) (j := 19) (k := d'.length) (l := d'.set j (turnL side ⟨y.neg, put w1 p u2, w2⟩)) rfl rfl (els_take _ _) hsl rfl rfl) ?_
      (refine wlk ?_)
      (refine wlC hbut ?_)
      (refine wlk ?_)
      (refine SqA.b3 (Op1.frzIn (t := 132) rfl (op_call (some (22)) rfl rfl rfl (by kernel_rfl) (FnB.use (hadd)) rfl rfl rfl rfl rfl rfl)) rfl rfl ?_)
      (refine wlk ?_)
      exact ⟨(q + 1, addR m5 sb (c.eraseIdx i ++ d'.set j (turnL side ⟨y.neg, put w1 p u2, w2⟩))), ⟨by simp only; omega, hnext5.symm, by simp only; omega⟩, fgs, by simp only; omega⟩
end Go.Proofs.YtmanhdacnkpclaaGreat
