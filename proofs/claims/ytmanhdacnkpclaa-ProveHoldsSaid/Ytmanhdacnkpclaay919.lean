/- What functions do: reading clauses. -/
import Derived.Test.Ytmanhdacnkpclaay910
import Derived.Test.Ytmanhdacnkpclaay918
import Derived.Test.Ytmanhdacnkpclaay916
import Derived.Test.Ytmanhdacnkpclaay901
import Derived.Test.YtmanhdacnkpclaaRows
import Derived.ProofKit
import Derived.SizedLaws
import Derived.OpenShut
import Derived.Test.Ytmanhdacnkpclaay904
import Derived.Test.Ytmanhdacnkpclaay908

namespace Go.Proofs.Ytmanhdacnkpclaa
set_option linter.all false
open Go.RowKit
theorem Xcl {r r' : List Lt × Int} (h : r = r') : (.tup [lA Lt.d r.1, iA r.2] : X) = .tup [lA Lt.d r'.1, iA r'.2] := by rw [h]
theorem eqAt_at : ∀ {p : List UInt8} {k : Nat} {c : UInt8}, eqAt p = k + eqAt (p.drop k) → p[k]? = some c → (if c.toNat = 61 then eqAt p = k else eqAt p = (k + 1) + eqAt (p.drop (k + 1)))
  | p, k, c, h, hc => by
    rw [drop_of hc] at h
    simp only [eqAt] at h
    split <;> rename_i h1 <;> simp only [h1, if_true, if_false] at h <;> omega
set_option maxHeartbeats 16000000 in
set_option maxRecDepth 100000 in
theorem rclauseParse (s : List Int) (text : List UInt8) (htl : text.length ≤ 2000000000000) : FnD Try.prog 93 [lA Int.d s, sA text] (.tup [lA Lt.d (clauseParse s text).1, iA (clauseParse s text).2]) := by
  refine Fn.of Try.func93 rfl Try.ntmps93 rfl (Nat.le_of_ble_eq_true rfl) ?_
  by_cases hs : wrongSig s = 0
  rotate_left
  · (refine wlk ?_)
    (refine SqA.b1 (op_call none rfl rfl rfl (by kernel_rfl) (FnD.use (rwrongSig s)) rfl rfl rfl rfl rfl rfl) rfl rfl ?_)
    (refine wlk ?_)
    refine fin_wk (fun n => Wk.nilArr (d := 4) rfl) ?_
    (refine wfTT ?_)
    exact Xcl (r := ([], wrongSig s)) (by simp [clauseParse, hs])
  cases ht : (text == [91, 93])
  rotate_left
  · (refine wlk ?_)
    (refine SqA.b1 (op_call none rfl rfl rfl (by kernel_rfl) (FnD.use (rwrongSig s)) rfl rfl rfl rfl rfl rfl) rfl rfl ?_)
    (refine wlk ?_)
    refine fin_wk (fun n => Wk.nilArr (d := 4) rfl) ?_
    (refine wfTT ?_)
    exact Xcl (r := ([], 0)) (by simp at ht; simp [clauseParse, hs, ht])
  have ht' : text ≠ [91, 93] := by simpa using ht
  (refine wlk ?_)
  (refine SqA.b1 (op_call none rfl rfl rfl (by kernel_rfl) (FnD.use (rwrongSig s)) rfl rfl rfl rfl rfl rfl) rfl rfl ?_)
  (refine wlk ?_)
  refine dwp_loop (fun x : Nat × Nat × Nat × List (List UInt8) => [(.t 0, some (.one (lA Int.d s))), (.t 1, some (.one (sA text))), (.t 7, some (.one (.c (.own 9 1 (x.2.2.2.map Str.d))))), (.t 8, some (.one (iA x.2.2.1))), (.t 9, some (.one (iA x.2.1)))])
    (fun x => splitB text = splitGo text x.1 x.2.1 x.2.2.1 x.2.2.2 ∧ text.length + 1 ≤ x.1 + x.2.1 ∧ x.2.2.1 ≤ x.2.1 ∧ x.2.1 ≤ text.length ∧ x.2.2.2.length ≤ x.2.1) (fun x => x.1) (text.length + 1, 0, 0, []) ⟨rfl, by simp, by simp, by simp, by simp⟩ ((Wk.nilOwn (d := 7) (E := 9) (m := 1) rfl).trans fgs) ?_
  rintro ⟨f, i, fr, parts⟩ ⟨hsp, hfi, hfr, hil, hpl⟩
  dsimp only at hsp hfi hfr hil hpl ⊢
  by_cases hi3 : i + 3 ≤ text.length
  · obtain ⟨f, rfl⟩ : ∃ g, f = g + 1 := ⟨f - 1, by omega⟩
    simp only [splitGo, if_pos hi3] at hsp
    have e3 : i + 3 - i = 3 := by omega
    cases hb : ((text.drop i).take (i + 3 - i) == [32, 124, 32])
    · have hb' : ¬ (text.drop i).take 3 = [32, 124, 32] := by rw [e3] at hb; simpa using hb
      rw [if_neg hb'] at hsp
      (refine wlk ?_)
      exact ⟨(f, i + 1, fr, parts), ⟨hsp, by simp only; omega, by simp only; omega, by simp only; omega, by simp only; omega⟩, fgs, by simp only; omega⟩
    · have hb' : (text.drop i).take 3 = [32, 124, 32] := by rw [e3] at hb; simpa using hb
      rw [if_pos hb'] at hsp
      have hbl : (parts ++ [(text.drop fr).take (i - fr)]).length ≤ 2000000000000 := by simp; omega
      (refine wlk ?_)
      (refine SqA.b1 (op_bsT (T := TB) (f := Str.d) [(text.drop fr).take (i - fr)] rfl rfl rfl rfl rfl rfl rfl rfl rfl rfl rfl) rfl rfl ?_)
      (refine wlk ?_)
      exact ⟨(f, i + 3, i + 3, parts ++ [(text.drop fr).take (i - fr)]), ⟨hsp, by simp only; omega, by simp only; omega, by simp only; omega, by simp; omega⟩, fgs, by simp only; omega⟩
  have hsp2 : splitB text = parts ++ [text.drop fr] := by
    rw [hsp]
    cases f with
    | zero => rfl
    | succ f => rw [splitGo, if_neg hi3]
  have hcp : clauseParse s text = if 4 < (splitB text).length then ([], 5) else parseLits s (splitB text) := by
    simp only [clauseParse, hs, ne_eq, not_true_eq_false, if_false, if_neg ht']
  rw [hcp]
  clear hcp hsp
  have hbl : (parts ++ [text.drop fr]).length ≤ 2000000000001 := by simp; omega
  (refine wlk ?_)
  (refine SqA.b1 (op_bsT (T := TB) (f := Str.d) [text.drop fr] rfl rfl rfl rfl rfl rfl rfl rfl rfl rfl rfl) rfl rfl ?_)
  (refine SqA.b2 (Op1.frz (op_appT (T := TB) rfl rfl rfl rfl rfl (by first | assumption | rfl) (by (try simp only [List.length_map, List.length_append, List.length_cons, List.length_nil, List.length_take]); omega) (by decide))) rfl rfl ?_)
  rw [← hsp2]
  have hpsl : ∀ q ∈ splitB text, q.length ≤ 2000000000000 := fun q hq => Nat.le_trans (splitB_len q hq) htl
  generalize splitB text = ps at hpsl ⊢
  by_cases h4 : 4 < ps.length
  · (refine wlk ?_)
    refine fin_wk (fun n => Wk.nilArr (d := 4) rfl) ?_
    (refine wfTT ?_)
    exact Xcl (r := ([], 5)) (by simp [h4])
  rw [if_neg h4]
  (refine wlk ?_)
  refine dwp_loop (fun m : Nat => [(.t 0, some (.one (lA Int.d s))), (.t 10, some (.one (.c (.own 59 7 (((ps.take m).map (fun p => (parseLit s p).1)).map Lt.d))))), (.t 58, some (.one (lA Str.d ps))), (.t 59, some (.one (iA ps.length))), (.t 60, some (.one (iA m)))])
    (fun m => m ≤ ps.length ∧ ∀ j p, j < m → ps[j]? = some p → (parseLit s p).2 = 0) (fun m => ps.length - m) 0 ⟨by omega, fun j p h => absurd h (by omega)⟩ ((Wk.nilOwn (d := 10) (E := 59) (m := 7) rfl).trans fgs) ?_
  rintro m ⟨hm, hno⟩
  by_cases hml : m < ps.length
  · obtain ⟨p, hp⟩ := get_of_lt hml
    have hplen := hpsl p (List.mem_of_getElem? hp)
    (refine wlk ?_)
    refine dwp_loop (fun k : Nat => [(.t 0, some (.one (lA Int.d s))), (.t 10, some (.one (.c (.own 59 7 (((ps.take m).map (fun p => (parseLit s p).1)).map Lt.d))))), (.t 12, some (.one (sA p))), (.t 13, some (.one (iA k))), (.t 58, some (.one (lA Str.d ps))), (.t 59, some (.one (iA ps.length))), (.t 60, some (.one (iA m)))])
      (fun k => k ≤ p.length ∧ eqAt p = k + eqAt (p.drop k)) (fun k => p.length - k) 0 ⟨by omega, by simp⟩ fgs ?_
    rintro k ⟨hk, heq⟩
    by_cases hkl : k < p.length
    · obtain ⟨c, hc⟩ := get_of_lt hkl
      have hat := eqAt_at heq hc
      by_cases h61 : (c.toNat : Int) = 61
      · rw [if_pos (by omega)] at hat
        have hek := hat
        by_cases hk0 : k = 0
        · subst hk0
          have hne : negEnd (p.take 0) = false := rfl
          have hpl : parseLit s p = let a := parseTm s (p.take 0); if a.2 ≠ 0 then (Lt.zero, a.2) else let b := parseTm s (p.drop (0 + 1)); if b.2 ≠ 0 then (Lt.zero, b.2) else (⟨false, a.1, b.1⟩, 0) := by
            have hkn : ¬ 0 = p.length := by omega
            simp only [parseLit, hek, if_neg hkn, hne, Bool.false_eq_true, if_false]
          have ca := rparse s (p.take 0)
          have cb := rparse s (p.drop (0 + 1))
          generalize parseTm s (p.take 0) = a at ca hpl
          generalize parseTm s (p.drop (0 + 1)) = b at cb hpl
          obtain ⟨a, e⟩ := a
          obtain ⟨b, e'⟩ := b
          simp only at ca cb hpl
          by_cases he : e = 0
          rotate_left
          · rw [if_pos (by simp [he])] at hpl
            (refine wlk ?_)
            (refine wlC ca ?_)
            (refine wlk ?_)
            refine fin_wk (fun n => Wk.nilArr (d := 4) rfl) ?_
            (refine wfTT ?_)
            exact Xcl (r := ([], e)) (parseLits_bad hno hp (by rw [hpl]) he).symm
          subst he
          rw [if_neg (by simp)] at hpl
          by_cases he' : e' = 0
          rotate_left
          · rw [if_pos (by simp [he'])] at hpl
            (refine wlk ?_)
            (refine wlC ca ?_)
            (refine wlk ?_)
            (refine wlC cb ?_)
            (refine wlk ?_)
            refine fin_wk (fun n => Wk.nilArr (d := 4) rfl) ?_
            (refine wfTT ?_)
            exact Xcl (r := ([], e')) (parseLits_bad hno hp (by rw [hpl]) he').symm
          subst he'
          rw [if_neg (by simp)] at hpl
          have hx : (parseLit s p).1 = ⟨false, a, b⟩ := by rw [hpl]
          have hsn := snoc (fun p => (parseLit s p).1) hp
          rw [hx] at hsn
          have hbl2 : ((ps.take (m + 1)).map (fun p => (parseLit s p).1)).length ≤ 1000 := by simp; omega
          (refine wlk ?_)
          (refine wlC ca ?_)
          (refine wlk ?_)
          (refine wlC cb ?_)
          (refine wlk ?_)
          (refine SqA.b1 (op_bsT (T := TB) (f := Lt.d) [⟨false, a, b⟩] rfl rfl rfl rfl rfl rfl rfl rfl rfl rfl rfl) rfl rfl ?_)
          (refine wlk ?_)
          exact ⟨m + 1, ⟨by omega, upto_succ hno hp (by rw [hpl])⟩, fgs, by omega⟩
        obtain ⟨c', hc'⟩ := get_of_lt (s := p.take k) (k := k - 1) (by rw [List.length_take]; omega)
        have hlast : (p.take k).getLast? = some c' := by rw [List.getLast?_eq_getElem?, List.length_take, Nat.min_eq_left hk, hc']
        by_cases h33 : (c'.toNat : Int) = 33
        · have hne : negEnd (p.take k) = true := by unfold negEnd; rw [hlast]; exact decide_eq_true (by omega)
          have hpl : parseLit s p = let a := parseTm s ((p.take k).take (k - 1)); if a.2 ≠ 0 then (Lt.zero, a.2) else let b := parseTm s (p.drop (k + 1)); if b.2 ≠ 0 then (Lt.zero, b.2) else (⟨true, a.1, b.1⟩, 0) := by
            have hkn : ¬ k = p.length := by omega
            simp only [parseLit, hek, if_neg hkn, hne, if_true]
          have ca := rparse s ((p.take k).take (k - 1))
          have cb := rparse s (p.drop (k + 1))
          generalize parseTm s ((p.take k).take (k - 1)) = a at ca hpl
          generalize parseTm s (p.drop (k + 1)) = b at cb hpl
          obtain ⟨a, e⟩ := a
          obtain ⟨b, e'⟩ := b
          simp only at ca cb hpl
          by_cases he : e = 0
          rotate_left
          · rw [if_pos (by simp [he])] at hpl
            (refine wlk ?_)
            (refine SqA.b1 (op_slS0 (hi := k - 1) rfl rfl rfl rfl (by first | rfl | omega) (by (try simp only [List.length_cons, List.length_nil, List.length_drop, List.length_take, List.length_append]); omega) rfl) rfl rfl ?_)
            (refine wlk ?_)
            (refine wlC ca ?_)
            (refine wlk ?_)
            refine fin_wk (fun n => Wk.nilArr (d := 4) rfl) ?_
            (refine wfTT ?_)
            exact Xcl (r := ([], e)) (parseLits_bad hno hp (by rw [hpl]) he).symm
          subst he
          rw [if_neg (by simp)] at hpl
          by_cases he' : e' = 0
          rotate_left
          · rw [if_pos (by simp [he'])] at hpl
            (refine wlk ?_)
            (refine SqA.b1 (op_slS0 (hi := k - 1) rfl rfl rfl rfl (by first | rfl | omega) (by (try simp only [List.length_cons, List.length_nil, List.length_drop, List.length_take, List.length_append]); omega) rfl) rfl rfl ?_)
            (refine wlk ?_)
            (refine wlC ca ?_)
            (refine wlk ?_)
            (refine wlC cb ?_)
            (refine wlk ?_)
            refine fin_wk (fun n => Wk.nilArr (d := 4) rfl) ?_
            (refine wfTT ?_)
            exact Xcl (r := ([], e')) (parseLits_bad hno hp (by rw [hpl]) he').symm
          subst he'
          rw [if_neg (by simp)] at hpl
          have hx : (parseLit s p).1 = ⟨true, a, b⟩ := by rw [hpl]
          have hsn := snoc (fun p => (parseLit s p).1) hp
          rw [hx] at hsn
          have hbl2 : ((ps.take (m + 1)).map (fun p => (parseLit s p).1)).length ≤ 1000 := by simp; omega
          (refine wlk ?_)
          (refine SqA.b1 (op_slS0 (hi := k - 1) rfl rfl rfl rfl (by first | rfl | omega) (by (try simp only [List.length_cons, List.length_nil, List.length_drop, List.length_take, List.length_append]); omega) rfl) rfl rfl ?_)
          (refine wlk ?_)
          (refine wlC ca ?_)
          (refine wlk ?_)
          (refine wlC cb ?_)
          (refine wlk ?_)
          (refine SqA.b1 (op_bsT (T := TB) (f := Lt.d) [⟨true, a, b⟩] rfl rfl rfl rfl rfl rfl rfl rfl rfl rfl rfl) rfl rfl ?_)
          (refine wlk ?_)
          exact ⟨m + 1, ⟨by omega, upto_succ hno hp (by rw [hpl])⟩, fgs, by omega⟩
        have hne : negEnd (p.take k) = false := by unfold negEnd; rw [hlast]; exact decide_eq_false (by omega)
        have hpl : parseLit s p = let a := parseTm s (p.take k); if a.2 ≠ 0 then (Lt.zero, a.2) else let b := parseTm s (p.drop (k + 1)); if b.2 ≠ 0 then (Lt.zero, b.2) else (⟨false, a.1, b.1⟩, 0) := by
          have hkn : ¬ k = p.length := by omega
          simp only [parseLit, hek, if_neg hkn, hne, Bool.false_eq_true, if_false]
        have ca := rparse s (p.take k)
        have cb := rparse s (p.drop (k + 1))
        generalize parseTm s (p.take k) = a at ca hpl
        generalize parseTm s (p.drop (k + 1)) = b at cb hpl
        obtain ⟨a, e⟩ := a
        obtain ⟨b, e'⟩ := b
        simp only at ca cb hpl
        by_cases he : e = 0
        rotate_left
        · rw [if_pos (by simp [he])] at hpl
          (refine wlk ?_)
          (refine wlC ca ?_)
          (refine wlk ?_)
          refine fin_wk (fun n => Wk.nilArr (d := 4) rfl) ?_
          (refine wfTT ?_)
          exact Xcl (r := ([], e)) (parseLits_bad hno hp (by rw [hpl]) he).symm
        subst he
        rw [if_neg (by simp)] at hpl
        by_cases he' : e' = 0
        rotate_left
        · rw [if_pos (by simp [he'])] at hpl
          (refine wlk ?_)
          (refine wlC ca ?_)
          (refine wlk ?_)
          (refine wlC cb ?_)
          (refine wlk ?_)
          refine fin_wk (fun n => Wk.nilArr (d := 4) rfl) ?_
          (refine wfTT ?_)
          exact Xcl (r := ([], e')) (parseLits_bad hno hp (by rw [hpl]) he').symm
        subst he'
        rw [if_neg (by simp)] at hpl
        have hx : (parseLit s p).1 = ⟨false, a, b⟩ := by rw [hpl]
        have hsn := snoc (fun p => (parseLit s p).1) hp
        rw [hx] at hsn
        have hbl2 : ((ps.take (m + 1)).map (fun p => (parseLit s p).1)).length ≤ 1000 := by simp; omega
        (refine wlk ?_)
        (refine wlC ca ?_)
        (refine wlk ?_)
        (refine wlC cb ?_)
        (refine wlk ?_)
        (refine SqA.b1 (op_bsT (T := TB) (f := Lt.d) [⟨false, a, b⟩] rfl rfl rfl rfl rfl rfl rfl rfl rfl rfl rfl) rfl rfl ?_)
        (refine wlk ?_)
        exact ⟨m + 1, ⟨by omega, upto_succ hno hp (by rw [hpl])⟩, fgs, by omega⟩
      · rw [if_neg (by omega)] at hat
        (refine wlk ?_)
        exact ⟨k + 1, ⟨by omega, hat⟩, fgs, by omega⟩
    · have : k = p.length := by omega
      subst this
      rw [List.drop_length] at heq
      have hbad : (parseLit s p).2 = 2 := by simp [parseLit, show eqAt p = p.length by rw [heq]; rfl]
      (refine wlk ?_)
      refine fin_wk (fun n => Wk.nilArr (d := 4) rfl) ?_
      (refine wfTT ?_)
      exact Xcl (r := ([], 2)) (parseLits_bad hno hp hbad (by decide)).symm
  · have : m = ps.length := by omega
    subst this
    rw [List.take_length]
    refine dwp_wk (Wk.freezeAt (d := 10) rfl) ?_
    have hr := parseLits_ok (s := s) (Nat.le_refl ps.length) hno
    rw [List.drop_length, List.take_length] at hr
    simp only [parseLits, ne_eq, not_true_eq_false, if_false, List.append_nil] at hr
    (refine wlk ?_)
    (refine wfTT ?_)
    exact Xcl (r := (ps.map (fun p => (parseLit s p).1), 0)) hr.symm
end Go.Proofs.Ytmanhdacnkpclaa
/- ProveHolds: plain facts. -/
namespace Go.Proofs.Ytmanhdacnkpclaa
set_option linter.all false
open Go.RowKit
abbrev k91 : List Lt := [⟨false, ⟨false, 1, [⟨true, 0, []⟩]⟩, ⟨true, 0, []⟩⟩]
abbrev k92 : List Lt := [⟨true, ⟨false, 1, [⟨false, 0, []⟩]⟩, ⟨false, 0, []⟩⟩]
abbrev p91 : Pf := ⟨[0, 1, 2], [⟨1, [0], k91⟩, ⟨1, [1], k92⟩], [], [0, 1], -1, false⟩
abbrev q91 : Pf := ⟨[0, 1, 2], [⟨1, [0], k91⟩, ⟨1, [1], k92⟩], [0], [1], -1, false⟩
abbrev r91 : Pf := ⟨[0, 1, 2], [⟨1, [0], k91⟩, ⟨1, [1], k92⟩, ⟨5, [1, 0], []⟩], [0], [], 2, false⟩
theorem cok_k91 : COk [0, 1, 2] k91 := cok_of (by kernel_rfl) (by kernel_rfl)
theorem cok_k92 : COk [0, 1, 2] k92 := cok_of (by kernel_rfl) (by kernel_rfl)
theorem new91 : newP [0, 1, 2] [k91, k92] = (p91, 0) := by kernel_rfl
theorem dn91a : dn [] ⟨false, 1, [⟨true, 0, []⟩]⟩ = ⟨false, 1, [⟨true, 0, []⟩]⟩ := dn_of (downF_downs (f := 10) (by kernel_rfl))
theorem dn91b : dn [] ⟨true, 0, []⟩ = ⟨true, 0, []⟩ := dn_of (downF_downs (f := 10) (by kernel_rfl))
theorem dn91c : dn [k91] ⟨false, 1, [⟨false, 0, []⟩]⟩ = ⟨false, 0, []⟩ := dn_of (downF_downs (f := 10) (by kernel_rfl))
theorem dn91d : dn [k91] ⟨false, 0, []⟩ = ⟨false, 0, []⟩ := dn_of (downF_downs (f := 10) (by kernel_rfl))
theorem rewr91 : rewr [] k91 = (k91, 0) := by
  unfold rewr
  simp only [each, k91, List.map_cons, List.map_nil, dn91a, dn91b]
  kernel_rfl
theorem rewr92 : rewr [k91] k92 = ([], 0) := by
  unfold rewr
  simp only [each, k92, List.map_cons, List.map_nil, dn91c, dn91d]
  kernel_rfl
theorem pick91 : pick p91 0 = (q91, 0) := by
  have e1 : pick p91 0 = (pick1 ⟨[0, 1, 2], [⟨1, [0], k91⟩, ⟨1, [1], k92⟩], [], [1], -1, false⟩ 0, 0) := by
    unfold pick
    rw [if_neg (by decide), if_neg (by decide)]; rfl
  have e2 : pick1 ⟨[0, 1, 2], [⟨1, [0], k91⟩, ⟨1, [1], k92⟩], [], [1], -1, false⟩ 0 = q91 := by
    unfold pick1
    rw [show (unitsK ⟨[0, 1, 2], [⟨1, [0], k91⟩, ⟨1, [1], k92⟩], [], [1], -1, false⟩).map (clAt ⟨[0, 1, 2], [⟨1, [0], k91⟩, ⟨1, [1], k92⟩], [], [1], -1, false⟩) = [] from rfl, show clAt ⟨[0, 1, 2], [⟨1, [0], k91⟩, ⟨1, [1], k92⟩], [], [1], -1, false⟩ 0 = k91 from rfl, rewr91]
    dsimp only
    rw [if_pos rfl]
    kernel_rfl
  rw [e1, e2]
theorem pick92 : pick q91 0 = (r91, 0) := by
  have e1 : pick q91 0 = (pick1 ⟨[0, 1, 2], [⟨1, [0], k91⟩, ⟨1, [1], k92⟩], [0], [], -1, false⟩ 1, 0) := by
    unfold pick
    rw [if_neg (by decide), if_neg (by decide)]; rfl
  have e2 : pick1 ⟨[0, 1, 2], [⟨1, [0], k91⟩, ⟨1, [1], k92⟩], [0], [], -1, false⟩ 1 = r91 := by
    unfold pick1
    rw [show (unitsK ⟨[0, 1, 2], [⟨1, [0], k91⟩, ⟨1, [1], k92⟩], [0], [], -1, false⟩).map (clAt ⟨[0, 1, 2], [⟨1, [0], k91⟩, ⟨1, [1], k92⟩], [0], [], -1, false⟩) = [k91] from rfl, show clAt ⟨[0, 1, 2], [⟨1, [0], k91⟩, ⟨1, [1], k92⟩], [0], [], -1, false⟩ 1 = k92 from rfl, rewr92]
    dsimp only
    rw [if_pos rfl]
    kernel_rfl
  rw [e1, e2]
theorem PfGo.of {S : List Int} {inn : List (List Lt)} {Q : List Lt → Prop} {p : Pf} (h : PI S inn Q p) (hQ : ∀ c, Q c → Kept S c) : PfGo S p := by
  have hn := nodup_le p.steps.length _ h.nd h.idx
  rw [List.length_append] at hn
  exact ⟨⟨h.len, fun x hx => (hQ _ (h.cl x hx)).cok, fun k hk => h.idx k (List.mem_append_left _ hk), fun k hk => h.idx k (List.mem_append_right _ hk)⟩, hn⟩
theorem QOk.ofValid {S : List Int} {inn : List (List Lt)} {m : Md} (hm : MOk S m) (hi : ∀ c ∈ inn, COk S c) (hv : ∀ c ∈ inn, validF m c) : QOk S inn (fun c => Kept S c ∧ validF m c) where
  kept := fun c h => h.1
  norm := fun c hc n hn => ⟨(hi c hc).wf.good.kept hn, (hi c hc).wf.good.valid hn hm (hv c hc)⟩
  resolve := fun c h n hn => ⟨(resolve_kept h.1.wf.good).1 n hn, resolve_valid hm h.1.wf.good h.2 n hn⟩
  factor := fun c h n hn => ⟨(factor_kept h.1.wf.good).1 n hn, factor_valid hm h.1.wf.good h.2 n hn⟩
  sup := fun c d h h' n hn => ⟨(sup_kept h.1.wf h'.1.wf).1 n hn, sup_valid hm h.1.wf h'.1.wf h.2 h'.2 n hn⟩
  rewr := fun us hu c n h hn => by
    have ho : UsOk S us := ⟨fun u hu' => (hu u hu').2, fun u hu' => (hu u hu').1.1.wf⟩
    exact ⟨rewr_kept ho h.1.wf hn, (rewr_valid ho hm (fun u hu' => (hu u hu').1.2) h.1.wf hn).1 h.2⟩
theorem go91 : PfGo [0, 1, 2] p91 := ⟨⟨by decide, fun x hx => by
  simp only [List.mem_cons, List.not_mem_nil, or_false] at hx
  rcases hx with rfl | rfl
  · exact cok_k91
  · exact cok_k92, by decide, by decide⟩, by decide⟩
theorem go92 : PfGo [0, 1, 2] q91 := ⟨⟨by decide, fun x hx => by
  simp only [List.mem_cons, List.not_mem_nil, or_false] at hx
  rcases hx with rfl | rfl
  · exact cok_k91
  · exact cok_k92, by decide, by decide⟩, by decide⟩
end Go.Proofs.Ytmanhdacnkpclaa
/- ProveHolds: walked. -/
namespace Go.Proofs.Ytmanhdacnkpclaa
set_option linter.all false
open Go.RowKit
theorem cok_sz9 {s : List Int} {c : List Lt} (h : COk s c) : clSz c := fun l hl => by have := h.size l hl; omega
set_option maxHeartbeats 4000000 in
set_option maxRecDepth 100000 in
theorem clauses9 (ts : List (List UInt8)) (cs : List (List Lt)) (hcs : cs = ts.map fun t => (clauseParse [0, 1, 2] t).1) (hl : ts.length ≤ 1000) (hb : ∀ t ∈ ts, t.length ≤ 1000) : FnD Try.prog 117 [lA Str.d ts] (.one (lA Cl.d cs)) := by
  have hcl : cs.length = ts.length := by rw [hcs, List.length_map]
  refine Fn.of Try.func117 rfl Try.ntmps117 rfl (Nat.le_of_ble_eq_true rfl) ?_
  (refine wlk ?_)
  refine dwp_loop (fun k : Nat => [(.t 3, some (.one (.c (.own 48 1 ((cs.take k).map Cl.d))))), (.t 8, some (.one (lA Str.d ts))), (.t 9, some (.one (iA ts.length))), (.t 10, some (.one (iA k)))])
    (fun k => k ≤ ts.length) (fun k => ts.length - k) 0 (by omega) ((Wk.nilOwn (d := 3) (E := 48) (m := 1) rfl).trans fgs) ?_
  intro k hk
  by_cases hkl : k < ts.length
  rotate_left
  · have : k = ts.length := by omega
    subst this
    refine dwp_wk (Wk.freezeAt (d := 3) rfl) ?_
    (refine wlk ?_)
    (refine wfT ?_)
    rw [List.take_of_length_le (by omega)]
    rfl
  obtain ⟨t, ht⟩ := get_of_lt hkl
  have htl := hb t (List.mem_of_getElem? ht)
  have hp := rclauseParse [0, 1, 2] t (by omega)
  have hc : cs[k]? = some (clauseParse [0, 1, 2] t).1 := by rw [hcs, List.getElem?_map, ht]; rfl
  obtain ⟨⟨c, e⟩, he⟩ : ∃ r, r = clauseParse [0, 1, 2] t := ⟨_, rfl⟩
  rw [← he] at hp hc
  dsimp only at hp hc
  have hts : cs.take k ++ [c] = cs.take (k + 1) := (take_succ_of hc).symm
  have hlen : (cs.take (k + 1)).length ≤ 1001 := by rw [List.length_take]; omega
  have hlen0 : (cs.take k).length ≤ 1001 := by rw [List.length_take]; omega
  clear hc
  (refine wlk ?_)
  (refine SqA.b1 (op_bsT (T := TB) (f := Int.d) [0, 1, 2] rfl rfl rfl rfl rfl rfl rfl rfl rfl rfl rfl) rfl rfl ?_)
  (refine wlk ?_)
  (refine wlC hp ?_)
  (refine wlk ?_)
  (refine SqA.b1 (op_bsT (T := TB) (f := Cl.d) [c] rfl rfl rfl rfl rfl rfl rfl rfl rfl rfl rfl) rfl rfl ?_)
  (refine wlk ?_)
  exact ⟨k + 1, by omega, fgs, by omega⟩
set_option maxHeartbeats 4000000 in
set_option maxRecDepth 100000 in
theorem sownA (p : Pf) (h1 : p.sig.length ≤ 1000000) (h2 : p.steps.length ≤ 1000000) (h3 : p.active.length ≤ 1000000) (h4 : p.wait.length ≤ 1000000) : FnD Try.prog 118 [pfA p] (.one (pfA p)) := by
  have c1 := cloneG p.sig (by omega)
  have c2 := cloneS p.steps (by omega)
  have c3 := cloneI p.active (by omega)
  have c4 := cloneI p.wait (by omega)
  refine Fn.of Try.func118 rfl Try.ntmps118 rfl (Nat.le_of_ble_eq_true rfl) ?_
  (refine wlk ?_)
  (refine wlC c1 ?_)
  (refine wlk ?_)
  (refine wlC c2 ?_)
  (refine wlD ?_)
  (refine wlk ?_)
  (refine wlC c3 ?_)
  (refine wlk ?_)
  (refine wlC c4 ?_)
  (refine wlD ?_)
  refine dwp_wk (Wk.freezeB (j := 1) (q := 0) rfl rfl rfl) ?_
  refine dwp_wk (Wk.freezeB (j := 1) (q := 1) rfl rfl rfl) ?_
  refine dwp_wk (Wk.freezeB (j := 1) (q := 2) rfl rfl rfl) ?_
  refine dwp_wk (Wk.freezeB (j := 1) (q := 3) rfl rfl rfl) ?_
  (refine wlk ?_)
  (refine wfC ?_)
  rfl
theorem ftPf1 : fieldTy Try.prog 96 1 = some (1, 94) := by kernel_rfl
set_option maxHeartbeats 16000000 in
set_option maxRecDepth 100000 in
theorem alive9 : FnD Try.prog 78 [] (.one (bA true)) := by
  have c1 := clauses9 [[98, 40, 88, 48, 41, 61, 88, 48], [98, 40, 97, 41, 33, 61, 97]] [k91, k92] (by kernel_rfl) (by decide) (by decide)
  have c2 := snew (S := [0, 1, 2]) (l := [k91, k92])
  rw [new91] at c2
  have c3 := spick go91 (by decide) 0
  rw [pick91] at c3
  have c4 := spick go92 (by decide) 0
  rw [pick92] at c4
  have c5 := sownA r91 (by decide) (by decide) (by decide) (by decide)
  dsimp only at c2 c3 c4
  refine Fn.of Try.func78 rfl Try.ntmps78 rfl (Nat.le_of_ble_eq_true rfl) ?_
  (refine wlk ?_)
  (refine SqA.b1 (op_bsT (T := TB) (f := Int.d) [0, 1, 2] rfl rfl rfl rfl rfl rfl rfl rfl rfl rfl rfl) rfl rfl ?_)
  (refine wlk ?_)
  (refine SqA.b1 (op_bsT (T := TB) (f := Str.d) [[98, 40, 88, 48, 41, 61, 88, 48], [98, 40, 97, 41, 33, 61, 97]] rfl rfl rfl rfl rfl rfl rfl rfl rfl rfl rfl) rfl rfl ?_)
  (refine wlk ?_)
  (refine wlC c1 ?_)
  (refine wlk ?_)
  (refine wlC c2 ?_)
  (refine wlk ?_)
  (refine wlC c3 ?_)
  (refine wlk ?_)
  (refine wlC c4 ?_)
  (refine wlk ?_)
  (refine wlC c5 ?_)
  (refine wlk ?_)
  (refine SqA.b1 (op_fldV rfl rfl ftPf1 (rw_of rfl) rfl rfl rfl) rfl rfl ?_)
  (refine wlk ?_)
  (refine wfT ?_)
  rfl
set_option maxHeartbeats 16000000 in
set_option maxRecDepth 100000 in
theorem proveHolds_fn (s : List Int) (l : List (List Lt)) (picks : List Int) (m : Md) : FnD Try.prog 15 [lA Int.d s, lA Cl.d l, lA Int.d picks, mdA m] (.one (bA true)) := by
  refine Fn.of Try.func15 rfl Try.ntmps15 rfl (Nat.le_of_ble_eq_true rfl) ?_
  have hr := rright s l
  cases hb : rightC s l
  · rw [hb] at hr
    (refine wlk ?_)
    (refine wlC alive9 ?_)
    (refine wlk ?_)
    (refine wlC hr ?_)
    (refine wlk ?_)
    (refine wfT ?_)
    rfl
  rw [hb] at hr
  obtain ⟨hs, h8, hall⟩ := right_of hb
  have m2 := rwrongModel s hs m
  by_cases hm : wrongModel s m = 0
  rotate_left
  · generalize wrongModel s m = e at *
    (refine wlk ?_)
    (refine wlC alive9 ?_)
    (refine wlk ?_)
    (refine wlC hr ?_)
    (refine wlk ?_)
    (refine wlC m2 ?_)
    (refine wlk ?_)
    (refine wfT ?_)
    rfl
  rw [hm] at m2
  have hmo := MOk.of hm
  have hmd := rmodels hmo hs l (fun u hu => ⟨(hall u hu).wf, cok_sz9 (hall u hu)⟩) (by omega)
  cases hv : l.all (holds m)
  · rw [hv] at hmd
    (refine wlk ?_)
    (refine wlC alive9 ?_)
    (refine wlk ?_)
    (refine wlC hr ?_)
    (refine wlk ?_)
    (refine wlC m2 ?_)
    (refine wlk ?_)
    (refine wlC hmd ?_)
    (refine wlk ?_)
    (refine wfT ?_)
    rfl
  rw [hv] at hmd
  by_cases h20 : 20 < picks.length
  · (refine wlk ?_)
    (refine wlC alive9 ?_)
    (refine wlk ?_)
    (refine wlC hr ?_)
    (refine wlk ?_)
    (refine wlC m2 ?_)
    (refine wlk ?_)
    (refine wlC hmd ?_)
    (refine wlk ?_)
    (refine wfT ?_)
    rfl
  have hsz : s.length ≤ 1000000 := by
    have := wrongSig_len hs
    omega
  have hnew := snew (S := s) (l := l)
  have hval : ∀ c ∈ l, validF m c := fun c hc => (holds_iffF hmo (hall c hc).wf).1 (List.all_eq_true.1 hv c hc)
  have hcode : (newP s l).2 = 0 ∨ (newP s l).2 = 4 := by
    have e : newP s l = newGo s 0 l ⟨s, [], [], [], -1, false⟩ := by unfold newP; rw [if_pos hs, if_neg (by omega)]
    rw [e]; exact newGo_code l _ _ hall
  obtain ⟨⟨p0, e0⟩, hn⟩ : ∃ r, r = newP s l := ⟨_, rfl⟩
  rw [← hn] at hnew hcode
  dsimp only at hnew hcode
  by_cases h0 : e0 = 0
  rotate_left
  · have h4 : e0 = 4 := hcode.resolve_left h0
    subst h4
    (refine wlk ?_)
    (refine wlC alive9 ?_)
    (refine wlk ?_)
    (refine wlC hr ?_)
    (refine wlk ?_)
    (refine wlC m2 ?_)
    (refine wlk ?_)
    (refine wlC hmd ?_)
    (refine wlk ?_)
    (refine wlC hnew ?_)
    (refine wlk ?_)
    (refine wfT ?_)
    rfl
  subst h0
  have hQ := QOk.ofValid hmo hall hval
  have hpi := (newP_ok hn.symm hQ).1
  (refine wlk ?_)
  (refine wlC alive9 ?_)
  (refine wlk ?_)
  (refine wlC hr ?_)
  (refine wlk ?_)
  (refine wlC m2 ?_)
  (refine wlk ?_)
  (refine wlC hmd ?_)
  (refine wlk ?_)
  (refine wlC hnew ?_)
  (refine wlk ?_)
  refine dwp_loop (fun x : Nat × Pf => [(.t 7, some (.one (.c (.ptr 7 0)))), (.b 7, some (.box (mdA m).cells)), (.t 9, some (.one (.c (.ptr 9 0)))), (.b 9, some (.box (pfA x.2).cells)), (.t 50, some (.one (lA Int.d picks))), (.t 51, some (.one (iA picks.length))), (.t 52, some (.one (iA x.1)))])
    (fun x => x.1 ≤ picks.length ∧ PI s l (fun c => Kept s c ∧ validF m c) x.2) (fun x => picks.length - x.1) (0, p0) ⟨by simp, hpi⟩ fgs ?_
  clear hpi hnew hcode hn
  rintro ⟨k, p⟩ ⟨hk, hp⟩
  dsimp only at hk hp ⊢
  by_cases hkl : k < picks.length
  · obtain ⟨x, hx⟩ := get_of_lt hkl
    have hgo := PfGo.of hp fun c h => h.1
    have hpk := spick hgo (by rw [hp.sig]; exact hsz) x
    have hp2 := (hp.pick hQ x).1
    generalize pick p x = r at *
    obtain ⟨r, e⟩ := r
    dsimp only at hpk hp2
    (refine wlk ?_)
    (refine wlC hpk ?_)
    (refine wlk ?_)
    exact ⟨(k + 1, r), ⟨by simp only; omega, hp2⟩, fgs, by simp only; omega⟩
  have hnf := hp.notFound hmo
  have hlen := hp.len
  have hst : ∀ (j : Nat) (x : Sp), p.steps[j]? = some x → Kept s x.cl ∧ validF m x.cl := fun j x hx => hp.cl x (List.mem_of_getElem? hx)
  clear hp
  obtain ⟨sg, st, ac, wa, fo, lo⟩ := p
  dsimp only at hnf hlen hst
  subst hnf
  (refine wlk ?_)
  refine dwp_loop (fun k : Nat => [(.t 7, some (.one (.c (.ptr 7 0)))), (.b 7, some (.box (mdA m).cells)), (.t 9, some (.one (.c (.ptr 9 0)))), (.b 9, some (.box (pfA ⟨sg, st, ac, wa, -1, lo⟩).cells)), (.t 65, some (.one (lA Sp.d st))), (.t 66, some (.one (iA st.length))), (.t 67, some (.one (iA k)))])
    (fun k => k ≤ st.length) (fun k => st.length - k) 0 (by omega) fgs ?_
  intro j hj
  by_cases hjl : j < st.length
  rotate_left
  · (refine wlk ?_)
    (refine wfT ?_)
    rfl
  obtain ⟨x, hx⟩ := get_of_lt hjl
  obtain ⟨hk1, hk2⟩ := hst j x hx
  have hh := rholds hmo hs x.cl hk1.wf (cok_sz9 hk1.cok)
  rw [(holds_iffF hmo hk1.wf).2 hk2] at hh
  (refine wlk ?_)
  (refine wlC hh ?_)
  (refine wlk ?_)
  exact ⟨j + 1, by omega, fgs, by omega⟩
end Go.Proofs.Ytmanhdacnkpclaa
/- From the reading that a row speaks of to our own: terms, lists, numbers. -/
namespace Go.Proofs.Ytmanhdacnkpclaa
set_option linter.unusedVariables false
set_option linter.unusedSimpArgs false
open Go.ChangeShapes Go.WideShapes Go.ChangeAt Go.RowKit
theorem Try.own : ownKnob Try.prog.godebug = none := by kernel_rfl
theorem Try.laidOut : laidOutB Try.prog = true := by kernel_rfl
theorem exists_list {α : Type} {R : Nat → α → Prop} : ∀ n, (∀ i, i < n → ∃ x, R i x) → ∃ l : List α, l.length = n ∧ ∀ i x, l[i]? = some x → R i x
  | 0, _ => ⟨[], rfl, by simp⟩
  | n + 1, h => by
    obtain ⟨l, hl, hR⟩ := exists_list n (fun i hi => h i (by omega))
    obtain ⟨y, hy⟩ := h n (by omega)
    refine ⟨l ++ [y], by simp [hl], fun i x hx => ?_⟩
    rcases Nat.lt_or_ge i n with hi | hi
    · rw [List.getElem?_append_left (by omega)] at hx; exact hR i x hx
    · rw [List.getElem?_append_right (by omega)] at hx
      have : i - l.length = 0 := by
        rcases Nat.eq_zero_or_pos (i - l.length) with h0 | h0
        · exact h0
        · rw [List.getElem?_eq_none (by simp; omega)] at hx; cases hx
      rw [this] at hx
      simp at hx; subst hx
      have : i = n := by omega
      subst this; exact hy
theorem rds_cells {α : Type} {f : α → D} {w : World} {S : Nat → Prop} {m b : Nat} : ∀ (l : List α) (o : Nat),
    (∀ i x, l[i]? = some x → ∃ cs, cs.length = m ∧ rd w S (f x) cs ∧ ∀ j u, cs[j]? = some u → w.cell? ⟨b, o + i * m + j, none⟩ = some u) →
    ∃ xs, rds w S (l.map f) xs ∧ ∀ j u, xs[j]? = some u → w.cell? ⟨b, o + j, none⟩ = some u
  | [], _, _ => ⟨[], rfl, by simp⟩
  | y :: l, o, h => by
    obtain ⟨cs, hc, hr, hcell⟩ := h 0 y rfl
    obtain ⟨xs, hx, hxc⟩ := rds_cells l (o + m) (fun i x hi => by
      obtain ⟨cs, h1, h2, h3⟩ := h (i + 1) x (by simpa using hi)
      exact ⟨cs, h1, h2, fun j u hu => by
        have := h3 j u hu
        rw [Nat.add_mul, Nat.one_mul] at this
        rw [show o + m + i * m + j = o + (i * m + m) + j by omega]; exact this⟩)
    refine ⟨cs ++ xs, ⟨cs, xs, rfl, hr, hx⟩, fun j u hu => ?_⟩
    rcases Nat.lt_or_ge j cs.length with hj | hj
    · rw [List.getElem?_append_left hj] at hu
      have := hcell j u hu
      simpa using this
    · rw [List.getElem?_append_right hj, hc] at hu
      have := hxc _ u hu
      rw [show o + m + (j - m) = o + j by omega] at this; exact this
section
variable {H : Type} {enc : TypeId × Value → H} {P : Program} {w : World} {base : Nat} {spare : Nat → Bool} {held : Bool}
theorem trod_list {α : Type} {f : α → D} {T E m : Nat} (hT : P.underlying T = some (.slice E)) (hE : P.cellsOf E = m) (hm : 0 < m) {fuel : Nat}
    (ih : ∀ n cs x, n < fuel → DataW.trod enc P w base spare held n E cs = some x → ∃ y, rd w (fun _ => True) (f y) cs) {cs : List Value} {x : DataW H × List MemPlace}
    (h : DataW.trod enc P w base spare held fuel T cs = some x) : ∃ l v, cs = [v] ∧ RdL f w (fun _ => True) l v := by
  rcases DataW.trod_slice hT h with ⟨rfl, _⟩ | ⟨a, len, cap, elems, rest, n, rfl, rfl, _, hb, hl, hm', hlen, hel, _⟩
  · exact ⟨[], _, rfl, RdL.nil 0 (by omega) none⟩
  · rw [hE] at hel
    have hi : ∀ i, i < len → ∃ y, ∃ cs, cs.length = m ∧ rd w (fun _ => True) (f y) cs ∧ ∀ j, j < m → w.cell? ((a.add (i * m)).add j) = cs[j]? := by
      intro i hi
      have h1 := hel i hi
      have h2 : elems[i]? = some (elems[i]'(by omega)) := List.getElem?_eq_getElem (by omega)
      rw [h2] at h1
      obtain ⟨cs, hcs, htr⟩ := Option.bind_eq_some_iff.1 h1
      obtain ⟨y, hy⟩ := ih n cs _ (by omega) htr
      obtain ⟨_, hcl, hc⟩ := World.cells?_some hcs
      exact ⟨y, cs, hcl, hy, hc⟩
    obtain ⟨l, hll, hR⟩ := exists_list len hi
    refine ⟨l, _, rfl, ?_⟩
    refine ⟨some a, cap, by simp [hll], by simpa [hll] using hl, hm', ?_⟩
    rcases Nat.eq_zero_or_pos len with h0 | h0
    · left; simp [hll, h0]
    · right
      obtain ⟨b, o, sp⟩ := a
      have hsp : sp = none := by
        obtain ⟨y, cs, h1, _, h3⟩ := hi 0 h0
        have := h3 0 hm
        rw [List.getElem?_eq_getElem (by omega)] at this
        simpa [Addr.add] using World.cell?_spot this
      subst hsp
      have hadd : ∀ i j, ((⟨b, o, none⟩ : Addr).add (i * m)).add j = ⟨b, o + i * m + j, none⟩ := by
        intro i j; rw [add_lit, add_lit]
      obtain ⟨xs, hx, hxc⟩ := rds_cells (f := f) (w := w) (S := fun _ => True) (m := m) (b := b) l o (fun i y hy => by
        have hil : i < l.length := (List.getElem?_eq_some_iff.1 hy).1
        obtain ⟨cs, h1, h2, h3⟩ := hR i y hy
        refine ⟨cs, h1, h2, fun j u hu => ?_⟩
        have hj : j < m := by rw [← h1]; exact (List.getElem?_eq_some_iff.1 hu).1
        rw [← hadd, h3 j hj]; exact hu)
      have hbs : b < w.heap.size := by
        obtain ⟨y, cs, h1, _, h3⟩ := hi 0 h0
        have := h3 0 hm
        rw [List.getElem?_eq_getElem (by omega), hadd] at this
        exact World.block_lt_of_cell? w _ this
      exact ⟨b, o, xs, rfl, trivial, hbs, hx, hxc⟩
end
section
variable {H : Type} {enc : TypeId × Value → H} {w : World} {base : Nat} {spare : Nat → Bool} {held : Bool}
theorem trod_intD {fuel : Nat} {cs : List Value} {x : DataW H × List MemPlace} (h : DataW.trod enc Try.prog w base spare held fuel 3 cs = some x) : ∃ y, rd w (fun _ => True) (Int.d y) cs := by
  obtain ⟨n, rfl, _⟩ := DataW.trod_int Try.underlying3 h
  exact ⟨n, rfl⟩
set_option maxRecDepth 100000 in
theorem trod_tm : ∀ (fuel : Nat) (cs : List Value) (x : DataW H × List MemPlace), DataW.trod enc Try.prog w base spare held fuel 26 cs = some x → ∃ t : Tm, rd w (fun _ => True) t.d cs := by
  intro fuel
  induction fuel using Nat.strongRecOn with
  | ind fuel ih =>
    intro cs x h
    obtain ⟨xs, n, rfl, hx, hcl, hxl, hf⟩ := DataW.trod_struct Try.underlying26 h
    have hcl' : cs.length = 3 := hcl.trans (by kernel_rfl)
    match cs, hcl', xs, hxl with
    | [c0, c1, c2], _, [x0, x1, x2], _ =>
      have e4 : Try.prog.cellsOf 4 = 1 := by kernel_rfl
      have e3 : Try.prog.cellsOf 3 = 1 := by kernel_rfl
      have e24 : Try.prog.cellsOf 24 = 1 := by kernel_rfl
      have f0 : DataW.trod enc Try.prog w base spare held n 4 [c0] = some x0 := (congrArg (fun k => DataW.trod enc Try.prog w base spare held n 4 (List.take k [c0, c1, c2])) e4).symm.trans (hf 0 _ rfl)
      have f1 : DataW.trod enc Try.prog w base spare held n 3 [c1] = some x1 := (congrArg (fun k => DataW.trod enc Try.prog w base spare held n 3 (List.take k [c1, c2])) e3).symm.trans (hf 1 _ rfl)
      have f2 : DataW.trod enc Try.prog w base spare held n 24 [c2] = some x2 := (congrArg (fun k => DataW.trod enc Try.prog w base spare held n 24 (List.take k [c2])) e24).symm.trans (hf 2 _ rfl)
      obtain ⟨b, hb, _⟩ := DataW.trod_bool Try.underlying4 f0
      obtain ⟨m, hm, _⟩ := DataW.trod_int Try.underlying3 f1
      obtain ⟨l, v, hv, hl⟩ := trod_list (f := Tm.d) Try.underlying24 (m := 3) (by kernel_rfl) (by omega) (fun n' cs x hn ht => ih n' (by omega) cs x ht) f2
      simp at hb hm hv
      subst hb hm hv
      obtain ⟨a, c, rfl, _⟩ := hl.form
      exact ⟨⟨b, m, l⟩, rd_tm.2 ⟨a, c, rfl, hl⟩⟩
set_option maxRecDepth 100000 in
theorem open_nums {T : Nat} (hT : Try.prog.underlying T = some (.slice 3)) {r : Reach} {b0 : Nat} {v : Value} {d : DataW H} {p : List MemPlace} (hv : Value.okWide Try.prog w r b0 T v) (h : DataW.Trod enc Try.prog w base spare held T v d p) :
    ∃ l : List Int, RdI w (fun _ => True) l v := by
  obtain ⟨a0, len, cap, rfl⟩ := okWide_slice hT hv
  obtain ⟨fuel, hf⟩ := h
  obtain ⟨l, v, e, hl⟩ := trod_list (f := Int.d) hT (m := 1) (by kernel_rfl) (by omega) (fun n cs x _ ht => trod_intD ht) hf
  simp [Value.cells] at e
  subst e
  exact ⟨l, hl⟩
set_option maxRecDepth 100000 in
theorem trodAll_below {W W' : World} (hb : Below W.heap.size W W') : ∀ (ts : List TypeId) (vs : List Value) (ds : List (DataW H)) (ps : List MemPlace),
    (∀ t ∈ ts, Try.prog.readableRec t = true ∧ t < Try.prog.types.size) → DataW.TrodAll enc Try.prog W 0 (fun _ => true) true ts vs ds ps → (∀ x ∈ ps, x.block < W.heap.size) →
    DataW.TrodAll enc Try.prog W' 0 (fun b => decide (b < W.heap.size)) true ts vs ds ps
  | [], vs, ds, ps, _, h, _ => by obtain ⟨rfl, rfl, rfl⟩ := trodAll_nil h; exact trodAll_mk0
  | t :: ts, vs, ds, ps, hts, h, hlt => by
    obtain ⟨v, vs', d, ds', p, q, rfl, rfl, rfl, hd, hr⟩ := trodAll_cons h
    refine trodAll_cons_mk (Below.trod Try.laidOut (hts t (by simp)).1 (hts t (by simp)).2 hd hb (fun x hx => hlt x (by simp [hx]))) (trodAll_below hb ts vs' ds' q (fun t' ht' => hts t' (by simp [ht'])) hr (fun x hx => hlt x (by simp [hx])))
end
end Go.Proofs.Ytmanhdacnkpclaa
/- From the reading that a row speaks of to our own: more kinds. -/
namespace Go.Proofs.Ytmanhdacnkpclaa
set_option linter.unusedVariables false
set_option linter.unusedSimpArgs false
open Go.ChangeShapes Go.WideShapes Go.ChangeAt Go.RowKit
section
variable {H : Type} {enc : TypeId × Value → H} {w : World} {base : Nat} {spare : Nat → Bool} {held : Bool}
set_option maxRecDepth 100000 in
theorem trod_lt (fuel : Nat) (cs : List Value) (x : DataW H × List MemPlace) (h : DataW.trod enc Try.prog w base spare held fuel 59 cs = some x) : ∃ l : Lt, rd w (fun _ => True) l.d cs := by
  obtain ⟨xs, n, rfl, hx, hcl, hxl, hf⟩ := DataW.trod_struct Try.underlying59 h
  have hcl' : cs.length = 7 := hcl.trans (by kernel_rfl)
  match cs, hcl', xs, hxl with
  | [c0, c1, c2, c3, c4, c5, c6], _, [x0, x1, x2], _ =>
    have e4 : Try.prog.cellsOf 4 = 1 := by kernel_rfl
    have e3 : Try.prog.cellsOf 26 = 3 := by kernel_rfl
    have f0 : DataW.trod enc Try.prog w base spare held n 4 [c0] = some x0 := (congrArg (fun k => DataW.trod enc Try.prog w base spare held n 4 (List.take k [c0, c1, c2, c3, c4, c5, c6])) e4).symm.trans (hf 0 _ rfl)
    have f1 : DataW.trod enc Try.prog w base spare held n 26 [c1, c2, c3] = some x1 := (congrArg (fun k => DataW.trod enc Try.prog w base spare held n 26 (List.take k [c1, c2, c3, c4, c5, c6])) e3).symm.trans (hf 1 _ rfl)
    have f2 : DataW.trod enc Try.prog w base spare held n 26 [c4, c5, c6] = some x2 := (congrArg (fun k => DataW.trod enc Try.prog w base spare held n 26 (List.take k [c4, c5, c6])) e3).symm.trans (hf 2 _ rfl)
    obtain ⟨b, hb, _⟩ := DataW.trod_bool Try.underlying4 f0
    obtain ⟨t, ht⟩ := trod_tm _ _ _ f1
    obtain ⟨u, hu⟩ := trod_tm _ _ _ f2
    simp at hb
    subst hb
    exact ⟨⟨b, t, u⟩, [.bool b], [c1, c2, c3, c4, c5, c6], rfl, rfl, [c1, c2, c3], [c4, c5, c6], rfl, ht, [c4, c5, c6], [], rfl, hu, rfl⟩
set_option maxRecDepth 100000 in
theorem open_clause {r : Reach} {b0 : Nat} {v : Value} {d : DataW H} {p : List MemPlace} (hv : Value.okWide Try.prog w r b0 48 v) (h : DataW.Trod enc Try.prog w base spare held 48 v d p) :
    ∃ l : List Lt, RdL Lt.d w (fun _ => True) l v := by
  obtain ⟨a0, len, cap, rfl⟩ := okWide_slice Try.underlying48 hv
  obtain ⟨fuel, hf⟩ := h
  obtain ⟨l, v, e, hl⟩ := trod_list (f := Lt.d) Try.underlying48 (m := 7) (by kernel_rfl) (by omega) (fun n cs x _ ht => trod_lt n cs x ht) hf
  simp [Value.cells] at e
  subst e
  exact ⟨l, hl⟩
end
end Go.Proofs.Ytmanhdacnkpclaa
/- From the reading that a row speaks of to our own: bindings, literals, models, more. -/
namespace Go.Proofs.Ytmanhdacnkpclaa
set_option linter.all false
open Go.ChangeShapes Go.WideShapes Go.ChangeAt Go.RowKit
section
variable {H : Type} {enc : TypeId × Value → H} {w : World} {base : Nat} {spare : Nat → Bool} {held : Bool}
abbrev mA (m : Md) : A1 := .agg [.val (.int .i64 m.size), .arr (m.tables.map Is.d)]
set_option maxRecDepth 100000 in
theorem trod_ints (fuel : Nat) (cs : List Value) (x : DataW H × List MemPlace) (h : DataW.trod enc Try.prog w base spare held fuel 22 cs = some x) : ∃ l : List Int, rd w (fun _ => True) (Is.d l) cs := by
  obtain ⟨l, v, e, hl⟩ := trod_list (f := Int.d) Try.underlying22 (m := 1) (by kernel_rfl) (by omega) (fun n cs x _ ht => trod_intD ht) h
  subst e
  exact ⟨l, hl⟩
set_option maxRecDepth 100000 in
theorem open_model {r : Reach} {b0 : Nat} {v : Value} {d : DataW H} {p : List MemPlace} (hv : Value.okWide Try.prog w r b0 66 v) (h : DataW.Trod enc Try.prog w base spare held 66 v d p) :
    ∃ m : Md, ArgS w (fun _ => True) (mA m) v := by
  obtain ⟨cs, rfl, hsz⟩ := okWide_struct Try.underlying66 hv
  obtain ⟨fuel, hf⟩ := h
  obtain ⟨cs⟩ := cs
  obtain ⟨xs, n, rfl, hx, hcl, hxl, hg⟩ := DataW.trod_struct Try.underlying66 hf
  have hcl' : cs.length = 2 := by simpa [Value.cells] using hcl.trans (show Try.prog.cellsOf 66 = 2 by kernel_rfl)
  match cs, hcl', xs, hxl with
  | [c0, c1], _, [x0, x1], _ =>
    have e4 : Try.prog.cellsOf 3 = 1 := by kernel_rfl
    have e3 : Try.prog.cellsOf 37 = 1 := by kernel_rfl
    have f0 : DataW.trod enc Try.prog w base spare held n 3 [c0] = some x0 := (congrArg (fun k => DataW.trod enc Try.prog w base spare held n 3 (List.take k [c0, c1])) e4).symm.trans (hg 0 _ rfl)
    have f1 : DataW.trod enc Try.prog w base spare held n 37 [c1] = some x1 := (congrArg (fun k => DataW.trod enc Try.prog w base spare held n 37 (List.take k [c1])) e3).symm.trans (hg 1 _ rfl)
    obtain ⟨b, hb, _⟩ := DataW.trod_int Try.underlying3 f0
    obtain ⟨l, v, e, hl⟩ := trod_list (f := Is.d) Try.underlying37 (m := 1) (by kernel_rfl) (by omega) (fun n cs x _ ht => trod_ints n cs x ht) f1
    simp at hb e
    subst hb e
    refine ⟨⟨b, l⟩, _, rfl, rfl, fun q c v hq hv => ?_⟩
    match q with
    | 0 => simp at hq hv; subst hq hv; exact ⟨rfl, rfl⟩
    | 1 =>
      simp at hq hv; subst hq hv
      obtain ⟨a, c, rfl, _⟩ := hl.form
      exact ⟨rfl, hl⟩
    | q + 2 => simp at hq
set_option maxRecDepth 100000 in
theorem trod_cl (fuel : Nat) (cs : List Value) (x : DataW H × List MemPlace) (h : DataW.trod enc Try.prog w base spare held fuel 48 cs = some x) : ∃ l : List Lt, rd w (fun _ => True) (Cl.d l) cs := by
  obtain ⟨l, v, e, hl⟩ := trod_list (f := Lt.d) Try.underlying48 (m := 7) (by kernel_rfl) (by omega) (fun n cs x _ ht => trod_lt n cs x ht) h
  subst e
  exact ⟨l, hl⟩
set_option maxRecDepth 100000 in
theorem open_clauses {r : Reach} {b0 : Nat} {v : Value} {d : DataW H} {p : List MemPlace} (hv : Value.okWide Try.prog w r b0 79 v) (h : DataW.Trod enc Try.prog w base spare held 79 v d p) :
    ∃ l : List (List Lt), RdL Cl.d w (fun _ => True) l v := by
  obtain ⟨a0, len, cap, rfl⟩ := okWide_slice Try.underlying79 hv
  obtain ⟨fuel, hf⟩ := h
  obtain ⟨l, v, e, hl⟩ := trod_list (f := Cl.d) Try.underlying79 (m := 1) (by kernel_rfl) (by omega) (fun n cs x _ ht => trod_cl n cs x ht) hf
  simp [Value.cells] at e
  subst e
  exact ⟨l, hl⟩
end
end Go.Proofs.Ytmanhdacnkpclaa
