/- What functions do: Unify, More. -/
import Derived.Test.YtmanhdacnkpclaaD4
namespace Go.Proofs.Ytmanhdacnkpclaa
set_option linter.all false
open Go.RowKit

set_option maxRecDepth 100000 in
theorem runify {a b : Tm} (ha : Old a) (hb : Old b) : FnD Try.prog 39 [tA a, tA b] (.tup (resU (unify a b))) := by
  have hc : FnD Try.prog 94 [.c (.val (.slice none 0 0)), lA Tm.d [a], lA Tm.d [b]] (.tup (resU (unify a b))) := FnD.nil (rsolve 10000000000000 [] [(a, b)] (UInv.start ha hb) (UInv.start ha hb).mu_le) 0 rfl
  generalize unify a b = r at hc
  refine Fn.of Try.func39 rfl Try.ntmps39 rfl (Nat.le_of_ble_eq_true rfl) ?_
  (refine wlk ?_)
  (refine SqA.b1 (op_bsT (T := TB) (f := Tm.d) [a] rfl rfl rfl rfl rfl rfl rfl rfl rfl rfl rfl) rfl rfl ?_)
  (refine wlk ?_)
  (refine SqA.b1 (op_bsT (T := TB) (f := Tm.d) [b] rfl rfl rfl rfl rfl rfl rfl rfl rfl rfl rfl) rfl rfl ?_)
  (refine wlk ?_)
  cases r <;> ((refine SqA.b1 (op_call none rfl rfl rfl (by kernel_rfl) (FnD.use (hc)) rfl rfl rfl rfl rfl rfl) rfl rfl ?_); (refine wlk ?_); (first | (refine finR (.tmp rfl (.tmp rfl .nil)) rfl rfl ?_) | (refine finN (.tmp rfl (.tmp rfl .nil)) rfl rfl ?_)); exact rfl)

theorem Xmo {r r' : List Pr × Bool} (h : r = r') : (.tup [lA Pr.d r.1, bA r.2] : X) = .tup [lA Pr.d r'.1, bA r'.2] := by rw [h]
theorem moreR_sym {s : List Pr} {n : Int} {l : List Tm} {t : Tm} : moreR s ⟨false, n, l⟩ t = if t.var = true ∨ t.n ≠ n ∨ t.args.length ≠ l.length then ([], false) else moresR s l t.args := by rw [moreR]
theorem moresR_at {s : List Pr} {l l' : List Tm} {k : Nat} {p t : Tm} (hp : l[k]? = some p) (ht : l'[k]? = some t) : moresR s (l.drop k) (l'.drop k) = match moreR s p t with | (s', true) => moresR s' (l.drop (k + 1)) (l'.drop (k + 1)) | (_, false) => ([], false) := by
  rw [drop_of hp, drop_of ht, moresR]
  cases moreR s p t with
  | mk s' b => cases b <;> rfl
set_option maxHeartbeats 4000000 in
set_option maxRecDepth 100000 in
theorem rmore : ∀ (p t : Tm) (s : List Pr), s.length + p.size ≤ 2000000000000 → FnD Try.prog 41 [lA Pr.d s, tA p, tA t] (.tup [lA Pr.d (moreR s p t).1, bA (moreR s p t).2]) := by
  refine Tm.ind ?_
  rintro v n l ih ⟨vt, nt, lt⟩ s hsz
  refine Fn.of Try.func41 rfl Try.ntmps41 rfl (Nat.le_of_ble_eq_true rfl) ?_
  have hll := sizes_len l
  simp only [Tm.size] at hsz
  cases v
  case true =>
    (refine wlk ?_)
    refine dwp_loop (fun k : Nat => [(.t 0, some (.one (lA Pr.d s))), (.t 4, some (.one (.c (.ptr 4 0)))), (.b 4, some (.box (tA ⟨true, n, l⟩).cells)), (.t 5, some (.one (.c (.ptr 5 0)))), (.b 5, some (.box (tA ⟨vt, nt, lt⟩).cells)),
      (.t 15, some (.one (lA Pr.d s))), (.t 16, some (.one (iA s.length))), (.t 17, some (.one (iA k)))])
      (fun k => k ≤ s.length ∧ ∀ j p, j < k → s[j]? = some p → p.1 ≠ n) (fun k => s.length - k) 0 ⟨by omega, fun j p h => absurd h (by omega)⟩ fgs ?_
    rintro k ⟨hk, hno⟩
    by_cases hkl : k < s.length
    · obtain ⟨x, hx⟩ := get_of_lt hkl
      by_cases hxn : x.1 = n
      · have hc := rsame x.2 ⟨vt, nt, lt⟩
        (refine wlk ?_)
        (refine SqA.b1 (op_call none rfl rfl rfl (by kernel_rfl) (FnD.use (hc)) rfl rfl rfl rfl rfl rfl) rfl rfl ?_)
        (refine wlk ?_)
        (first | (refine finR (.tmp rfl (.tmp rfl .nil)) rfl rfl ?_) | (refine finN (.tmp rfl (.tmp rfl .nil)) rfl rfl ?_))
        exact Xmo (r := (s, x.2.same ⟨vt, nt, lt⟩)) (r' := moreR s ⟨true, n, l⟩ ⟨vt, nt, lt⟩) (by simp only [moreR, findS_at hno hx hxn])
      · (refine wlk ?_)
        exact ⟨k + 1, ⟨by omega, upto_succ hno hx hxn⟩, fgs, by omega⟩
    · have h1 : ([] : List Pr) ++ s = s := rfl
      have h2 : (s ++ [((n, ⟨vt, nt, lt⟩) : Pr)]).length ≤ 2000000000000 := by simp; omega
      (refine wlk ?_)
      (refine SqA.b1 (op_bsT (T := TB) (f := Pr.d) [((n, ⟨vt, nt, lt⟩) : Pr)] rfl rfl rfl rfl rfl rfl rfl rfl rfl rfl rfl) rfl rfl ?_)
      (refine wlk ?_)
      refine fin_wk (fun n => Wk.freezeAt (d := 6) rfl) ?_
      (first | (refine finR (.tmp rfl (.tmp rfl .nil)) rfl rfl ?_) | (refine finN (.tmp rfl (.tmp rfl .nil)) rfl rfl ?_))
      exact Xmo (r := (s ++ [(n, ⟨vt, nt, lt⟩)], true)) (r' := moreR s ⟨true, n, l⟩ ⟨vt, nt, lt⟩) (by simp only [moreR, findS_no hno (show s.length ≤ k by omega)])
  case false =>
    rw [moreR_sym]
    cases vt
    rotate_left
    · (refine wlk ?_)
      refine fin_wk (fun n => Wk.nilArr (d := 6) rfl) ?_
      (first | (refine finR (.tmp rfl (.tmp rfl .nil)) rfl rfl ?_) | (refine finN (.tmp rfl (.tmp rfl .nil)) rfl rfl ?_))
      exact Xmo (r := ([], false)) (by simp)
    by_cases hn : nt = n
    rotate_left
    · (refine wlk ?_)
      refine fin_wk (fun n => Wk.nilArr (d := 6) rfl) ?_
      (first | (refine finR (.tmp rfl (.tmp rfl .nil)) rfl rfl ?_) | (refine finN (.tmp rfl (.tmp rfl .nil)) rfl rfl ?_))
      exact Xmo (r := ([], false)) (by simp [hn])
    by_cases hl : lt.length = l.length
    rotate_left
    · (refine wlk ?_)
      refine fin_wk (fun n => Wk.nilArr (d := 6) rfl) ?_
      (first | (refine finR (.tmp rfl (.tmp rfl .nil)) rfl rfl ?_) | (refine finN (.tmp rfl (.tmp rfl .nil)) rfl rfl ?_))
      exact Xmo (r := ([], false)) (by simp [hl])
    rw [if_neg (by simp [hn, hl])]
    (refine wlk ?_)
    refine dwp_loop (fun x : Nat × List Pr => [(.t 0, some (.one (lA Pr.d x.2))), (.t 4, some (.one (.c (.ptr 4 0)))), (.b 4, some (.box (tA ⟨false, n, l⟩).cells)), (.t 5, some (.one (.c (.ptr 5 0)))), (.b 5, some (.box (tA ⟨false, nt, lt⟩).cells)),
      (.t 61, some (.one (iA l.length))), (.t 62, some (.one (iA x.1)))])
      (fun x => x.1 ≤ l.length ∧ moresR s l lt = moresR x.2 (l.drop x.1) (lt.drop x.1) ∧ x.2.length ≤ s.length + Tm.sizes (l.take x.1)) (fun x => l.length - x.1) (0, s) ⟨by omega, rfl, by simp⟩ fgs ?_
    rintro ⟨k, s'⟩ ⟨hk, hm, hlen⟩
    simp only at hk hm hlen
    by_cases hkl : k < l.length
    · obtain ⟨x, hx⟩ := get_of_lt hkl
      obtain ⟨y, hy⟩ := get_of_lt (s := lt) (k := k) (by omega)
      have h1 := sizes_take_succ l k x hx
      have h2 := sizes_take_le l (k + 1)
      have hc := ih x (List.mem_of_getElem? hx) y s' (by omega)
      have hml := moreR_len x s' y
      rw [moresR_at hx hy] at hm
      generalize moreR s' x y = r at hc hm hml
      obtain ⟨r, b⟩ := r
      simp only at hc hm hml
      cases b
      · (refine wlk ?_)
        (refine SqA.b1 (op_call none rfl rfl rfl (by kernel_rfl) (FnD.use (hc)) rfl rfl rfl rfl rfl rfl) rfl rfl ?_)
        (refine wlk ?_)
        refine fin_wk (fun n => Wk.nilArr (d := 6) rfl) ?_
        (first | (refine finR (.tmp rfl (.tmp rfl .nil)) rfl rfl ?_) | (refine finN (.tmp rfl (.tmp rfl .nil)) rfl rfl ?_))
        exact Xmo (r := ([], false)) hm.symm
      · (refine wlk ?_)
        (refine SqA.b1 (op_call none rfl rfl rfl (by kernel_rfl) (FnD.use (hc)) rfl rfl rfl rfl rfl rfl) rfl rfl ?_)
        (refine wlk ?_)
        exact ⟨(k + 1, r), ⟨by simp only; omega, hm, by simp only; omega⟩, fgs, by simp only; omega⟩
    · have : k = l.length := by omega
      subst this
      rw [List.drop_length, ← hl, List.drop_length] at hm
      (refine wlk ?_)
      (first | (refine finR (.tmp rfl (.tmp rfl .nil)) rfl rfl ?_) | (refine finN (.tmp rfl (.tmp rfl .nil)) rfl rfl ?_))
      exact Xmo (r := (s', true)) (by rw [hm]; rfl)
end Go.Proofs.Ytmanhdacnkpclaa
