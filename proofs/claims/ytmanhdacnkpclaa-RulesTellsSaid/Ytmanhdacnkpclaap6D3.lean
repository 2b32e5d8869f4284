/- What functions do: Vars, Put; Compare. -/
import Derived.Test.Ytmanhdacnkpclaap6Da
import Derived.Test.Ytmanhdacnkpclaap6Bb
import Derived.Test.Ytmanhdacnkpclaap6Eb
import Derived.Test.Ytmanhdacnkpclaap6Pa1
namespace Go.Proofs.Ytmanhdacnkpclaa
set_option linter.all false
open Go.RowKit

theorem A1m.two {w : World} {who : Nat → Tag} {vs : List Value} {A B : A1} (hl : vs.length = [A, B].length) (ha : ∀ (i : Nat) (C : A1) (v : Value), [A, B][i]? = some C → vs[i]? = some v → A1m w who (.t i) 0 C v) : ∃ u v, vs = [u, v] ∧ A1m w who (.t 0) 0 A u ∧ A1m w who (.t 1) 0 B v := by
  match vs, hl with
  | [u, v], _ => exact ⟨u, v, rfl, ha 0 A u rfl rfl, ha 1 B v rfl rfl⟩
theorem pcompare (t u : Tm) (hsz : t.size ≤ 4398046511104) (hsz' : u.size ≤ 4398046511104) (hok : t.okv = true) (hok' : u.okv = true) : FnD Try.prog 17 [tA t, tA u] (.one (iA (compare t u))) := by
  refine Fn.ofElder fun who w vs hl ha => ?_
  obtain ⟨x, y, rfl, hx, hy⟩ := A1m.two hl ha
  exact pcompare_any t u w (Fz who) x y hx.rdt hy.rdt hsz hsz' hok hok'

theorem varss_take {l : List Tm} {acc : List Int} {k : Nat} {x : Tm} (h : l[k]? = some x) : varss acc (l.take (k + 1)) = vars (varss acc (l.take k)) x := by
  rw [take_succ_of h, varss_snoc]
set_option maxHeartbeats 4000000 in
set_option maxRecDepth 100000 in
theorem rvars : ∀ (t : Tm) (l : List Int), l.length + t.size ≤ 2000000000000 → FnD Try.prog 21 [lA Int.d l, tA t] (.one (lA Int.d (vars l t))) := by
  refine Tm.ind ?_
  intro v n as_ ih l hsz
  refine Fn.of Try.func21 rfl Try.ntmps21 rfl (Nat.le_of_ble_eq_true rfl) ?_
  cases v
  case false =>
    simp only [Tm.size] at hsz
    have hll := sizes_len as_
    (refine wlk ?_)
    refine dwp_loop (fun k : Nat => [(.t 0, some (.one (lA Int.d (varss l (as_.take k))))), (.t 13, some (.one (lA Tm.d as_))), (.t 14, some (.one (iA as_.length))), (.t 15, some (.one (iA k)))])
      (fun k => k ≤ as_.length) (fun k => as_.length - k) 0 (by omega) fgs ?_
    intro k hk
    by_cases hkl : k < as_.length
    · obtain ⟨x, hx⟩ := get_of_lt hkl
      have h1 := varss_len l (as_.take k)
      have h2 := sizes_take_succ as_ k x hx
      have h3 := sizes_take_le as_ (k + 1)
      have e := varss_take (acc := l) hx
      (refine wlk ?_)
      (refine SqA.b1 (op_call none rfl rfl rfl (by kernel_rfl) (FnD.use (ih x (List.mem_of_getElem? hx) (varss l (as_.take k)) (by omega))) rfl rfl rfl rfl rfl rfl) rfl rfl ?_)
      rw [← e]
      (refine wlk ?_)
      exact ⟨k + 1, by omega, fgs, by omega⟩
    · have : k = as_.length := by omega
      subst this
      rw [List.take_length]
      (refine wlk ?_)
      (first | (refine finR (.tmp rfl .nil) rfl rfl ?_) | (refine finN (.tmp rfl .nil) rfl rfl ?_))
      exact Xl (f := Int.d) (b := varss l as_) (by simp [vars])
  case true =>
    (refine wlk ?_)
    refine dwp_loop (fun k : Nat => [(.t 0, some (.one (lA Int.d l))), (.t 3, some (.one (.c (.ptr 3 0)))), (.b 3, some (.box (tA ⟨true, n, as_⟩).cells)), (.t 24, some (.one (lA Int.d l))), (.t 25, some (.one (iA l.length))), (.t 26, some (.one (iA k)))])
      (fun k => k ≤ l.length ∧ ∀ j x, j < k → l[j]? = some x → x ≠ n) (fun k => l.length - k) 0 ⟨by omega, fun j x h => absurd h (by omega)⟩ fgs ?_
    rintro k ⟨hk, hno⟩
    by_cases hkl : k < l.length
    · obtain ⟨x, hx⟩ := get_of_lt hkl
      by_cases hxn : x = n
      · (refine wlk ?_)
        (first | (refine finR (.tmp rfl .nil) rfl rfl ?_) | (refine finN (.tmp rfl .nil) rfl rfl ?_))
        exact Xl (f := Int.d) (b := l) (by simp only [vars]; rw [if_pos (hxn ▸ List.mem_of_getElem? hx)])
      · (refine wlk ?_)
        exact ⟨k + 1, ⟨by omega, upto_succ hno hx hxn⟩, fgs, by omega⟩
    · have hnm : n ∉ l := fun hm => by
        obtain ⟨j, hj, e⟩ := List.getElem_of_mem hm
        exact hno j n (by omega) (by rw [List.getElem?_eq_getElem hj, e]) rfl
      have hl1 : ([] : List Int) ++ l = l := rfl
      have hl2 : (l ++ [n]).length ≤ 2000000000000 := by simp [Tm.size] at hsz ⊢; omega
      (refine wlk ?_)
      (refine SqA.b1 (op_bsT (T := TB) (f := Int.d) [n] rfl rfl rfl rfl rfl rfl rfl rfl rfl rfl rfl) rfl rfl ?_)
      (refine wlk ?_)
      refine fin_wk (fun n => Wk.freezeAt (d := 4) rfl) ?_
      (first | (refine finR (.tmp rfl .nil) rfl rfl ?_) | (refine finN (.tmp rfl .nil) rfl rfl ?_))
      exact Xl (f := Int.d) (b := l ++ [n]) (by simp only [vars]; rw [if_neg hnm])

/-- the arguments, with another one at a place -/
def putA (l : List Tm) (i : Int) (p : List Int) (u : Tm) : List Tm := if i < 0 ∨ (l.length : Int) ≤ i then l else l.set i.toNat (put (l.getD i.toNat ⟨false, 0, []⟩) p u)
theorem put_putA {v : Bool} {n : Int} {l : List Tm} {i : Int} {p : List Int} {u : Tm} : put ⟨v, n, l⟩ (i :: p) u = ⟨v, n, putA l i p u⟩ := by
  simp only [put, putA]; split <;> rfl
theorem putA_len (l : List Tm) (i : Int) (p : List Int) (u : Tm) : (putA l i p u).length = l.length := by
  unfold putA; split <;> simp
theorem putA_at {l : List Tm} {i : Int} {p : List Int} {u : Tm} {k : Nat} {x : Tm} (hx : l[k]? = some x) : (putA l i p u)[k]? = some (if (k : Int) = i then put x p u else x) := by
  have hk := (List.getElem?_eq_some_iff.1 hx).1
  unfold putA
  split
  · rw [if_neg (by omega), hx]
  · split
    · rename_i h
      subst h
      rw [Int.toNat_natCast, List.getElem?_set_self hk, getD_of hx]
    · rw [List.getElem?_set_ne (by omega), hx]
set_option maxHeartbeats 4000000 in
set_option maxRecDepth 100000 in
theorem rput (u : Tm) : ∀ (p : List Int) (t : Tm), t.size ≤ 1000000000 → FnD Try.prog 25 [tA t, lA Int.d p, tA u] (.one (tA (put t p u)))
  | [], t, hsz => by
    refine Fn.of Try.func25 rfl Try.ntmps25 rfl (Nat.le_of_ble_eq_true rfl) ?_
    have h0 : ([] : List Int).length = 0 := rfl
    (refine wlk ?_)
    (first | (refine finR (.cellN rfl rfl (rw_of rfl) rfl rfl .nil) rfl rfl ?_) | (refine finN (.cellN rfl rfl (rw_of rfl) rfl rfl .nil) rfl rfl ?_))
    exact Xt (b := u) (by simp [put])
  | i :: p, ⟨v, n, l⟩, hsz => by
    have ih := rput u p
    refine Fn.of Try.func25 rfl Try.ntmps25 rfl (Nat.le_of_ble_eq_true rfl) ?_
    have h0 : (i :: p)[0]? = some i := rfl
    have hl1 : (i :: p).length = p.length + 1 := rfl
    have hll := sizes_len l
    simp only [Tm.size] at hsz
    rw [put_putA]
    have hpl := putA_len l i p u
    have hat : ∀ (k : Nat) (x : Tm), l[k]? = some x → (putA l i p u)[k]? = some (if (k : Int) = i then put x p u else x) := fun k x hx => putA_at hx
    generalize putA l i p u = l' at hpl hat
    (refine wlk ?_)
    refine dwp_loop (fun k : Nat => [(.t 1, some (.one (lA Int.d (i :: p)))), (.t 5, some (.one (.c (.ptr 5 0)))), (.b 5, some (.box (tA u).cells)), (.t 6, some (.one (.c (.ptr 6 0)))), (.b 6, some (.box [.val (.bool false), .val (.int .i64 0), .val (.slice none 0 0)])),
      (.t 7, some (.one (.c (.ptr 7 0)))), (.b 7, some (.box [.val (.bool v), .val (.int .i64 n), .own 26 3 ((l'.take k).map Tm.d)])), (.t 20, some (.one (lA Tm.d l))), (.t 21, some (.one (iA l.length))), (.t 22, some (.one (iA k)))])
      (fun k => k ≤ l.length) (fun k => l.length - k) 0 (by omega) ((Wk.nilOwnB (j := 7) (q := 2) (E := 26) (m := 3) rfl rfl rfl).trans fgs) ?_
    intro k hk
    by_cases hkl : k < l.length
    · obtain ⟨x, hx⟩ := get_of_lt hkl
      have hy := hat k x hx
      have hxs := size_at hx
      have hbl : (l'.take (k + 1)).length ≤ 1000000000 := by rw [List.length_take]; omega
      by_cases hki : (k : Int) = i
      · rw [if_pos hki] at hy
        have hsn := (take_succ_of hy).symm
        (refine wlk ?_)
        (refine SqA.b1 (op_call none rfl rfl rfl (by kernel_rfl) (FnD.use (ih x (by omega))) rfl rfl rfl rfl rfl rfl) rfl rfl ?_)
        (refine wlk ?_)
        (refine SqA.b1 (op_bsT (T := TB) (f := Tm.d) [put x p u] rfl rfl rfl rfl rfl rfl rfl rfl rfl rfl rfl) rfl rfl ?_)
        (refine wlk ?_)
        exact ⟨k + 1, by omega, fgs, by omega⟩
      · rw [if_neg hki] at hy
        have hsn := (take_succ_of hy).symm
        (refine wlk ?_)
        (refine SqA.b1 (op_bsT (T := TB) (f := Tm.d) [x] rfl rfl rfl rfl rfl rfl rfl rfl rfl rfl rfl) rfl rfl ?_)
        (refine wlk ?_)
        exact ⟨k + 1, by omega, fgs, by omega⟩
    · have : k = l.length := by omega
      subst this
      rw [← hpl, List.take_length, hpl]
      refine dwp_wk (Wk.freezeB (j := 7) (q := 2) rfl rfl rfl) ?_
      (refine wlk ?_)
      (first | (refine finR (.cellN rfl rfl (rw_of rfl) rfl rfl .nil) rfl rfl ?_) | (refine finN (.cellN rfl rfl (rw_of rfl) rfl rfl .nil) rfl rfl ?_))
      exact Xt (b := ⟨v, n, l'⟩) rfl
end Go.Proofs.Ytmanhdacnkpclaa
