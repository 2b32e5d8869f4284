/- What functions do: Vars, Put; Compare. -/
import Derived.Test.YtmanhdacnkpclaaGreatDoorzdDa
import Derived.Test.YtmanhdacnkpclaaGreatDoorzdBb
import Derived.Test.YtmanhdacnkpclaaGreatDoorzdEb
import Derived.Test.YtmanhdacnkpclaaGreatDoorzdPa1
import Derived.Test.YtmanhdacnkpclaaGreatDoorzdBa
import Derived.Test.YtmanhdacnkpclaaGreatDoorzdPb1
/- What functions do: Vars, Put; Compare. -/
namespace Go.Proofs.YtmanhdacnkpclaaGreatDoor
set_option linter.all false
open Go.RowKit

theorem A1m.two {w : World} {who : Nat → Tag} {vs : List Value} {A B : A1} (hl : vs.length = [A, B].length) (ha : ∀ (i : Nat) (C : A1) (v : Value), [A, B][i]? = some C → vs[i]? = some v → A1m w who (.t i) 0 C v) : ∃ u v, vs = [u, v] ∧ A1m w who (.t 0) 0 A u ∧ A1m w who (.t 1) 0 B v := by
  match vs, hl with
  | [u, v], _ => exact ⟨u, v, rfl, ha 0 A u rfl rfl, ha 1 B v rfl rfl⟩
theorem pcompare (t u : Tm) (hsz : t.size ≤ 4398046511104) (hsz' : u.size ≤ 4398046511104) (hok : t.okv = true) (hok' : u.okv = true) : FnD Tryz.prog 38 [tA t, tA u] (.one (iA (compare t u))) := by
  refine Fn.ofElder fun who w vs hl ha => ?_
  obtain ⟨x, y, rfl, hx, hy⟩ := A1m.two hl ha
  exact pcompare_any t u w (Fz who) x y hx.rdt hy.rdt hsz hsz' hok hok'

theorem varss_take {l : List Tm} {acc : List Int} {k : Nat} {x : Tm} (h : l[k]? = some x) : varss acc (l.take (k + 1)) = vars (varss acc (l.take k)) x := by
  rw [take_succ_of h, varss_snoc]
set_option maxHeartbeats 4000000 in
set_option maxRecDepth 100000 in
theorem rvars : ∀ (t : Tm) (l : List Int), l.length + t.size ≤ 2000000000000 → FnD Tryz.prog 49 [lA Int.d l, tA t] (.one (lA Int.d (vars l t))) := by
  refine Tm.ind ?_
  intro v n as_ ih l hsz
  refine Fn.of Tryz.func49 rfl Tryz.ntmps49 rfl (Nat.le_of_ble_eq_true rfl) ?_
  cases v
  case false =>
    simp only [Tm.size] at hsz
    have hll := sizes_len as_
    (refine wlk ?_)
    refine dwp_loop (fun k : Nat => [(.t 0, some (.one (lA Int.d (varss l (as_.take k))))), (.t 13, some (.one (lA Tm.d as_))), (.t 14, some (.one (iA as_.length))), (.t 15, some (.one (iA k)))])
      (fun k => k ≤ as_.length) (fun k => as_.length - k) 0 (by omega) fgs ?_
    intro k hk
    by_cases hkl : k < as_.length
    · obtain ⟨x, hx⟩ := get_of_lt hkl
      have h1 := varss_len l (as_.take k)
      have h2 := sizes_take_succ as_ k x hx
      have h3 := sizes_take_le as_ (k + 1)
      have e := varss_take (acc := l) hx
      (refine wlk ?_)
      (refine SqA.b1 (op_call none rfl rfl rfl (by kernel_rfl) (FnD.use (ih x (List.mem_of_getElem? hx) (varss l (as_.take k)) (by omega))) rfl rfl rfl rfl rfl rfl) rfl rfl ?_)
      rw [← e]
      (refine wlk ?_)
      exact ⟨k + 1, by omega, fgs, by omega⟩
    · have : k = as_.length := by omega
      subst this
      rw [List.take_length]
      (refine wlk ?_)
      (first | (refine finR (.tmp rfl .nil) rfl rfl ?_) | (refine finN (.tmp rfl .nil) rfl rfl ?_))
      exact Xl (f := Int.d) (b := varss l as_) (by simp [vars])
  case true =>
    (refine wlk ?_)
    refine dwp_loop (fun k : Nat => [(.t 0, some (.one (lA Int.d l))), (.t 3, some (.one (.c (.ptr 3 0)))), (.b 3, some (.box (tA ⟨true, n, as_⟩).cells)), (.t 24, some (.one (lA Int.d l))), (.t 25, some (.one (iA l.length))), (.t 26, some (.one (iA k)))])
      (fun k => k ≤ l.length ∧ ∀ j x, j < k → l[j]? = some x → x ≠ n) (fun k => l.length - k) 0 ⟨by omega, fun j x h => absurd h (by omega)⟩ fgs ?_
    rintro k ⟨hk, hno⟩
    by_cases hkl : k < l.length
    · obtain ⟨x, hx⟩ := get_of_lt hkl
      by_cases hxn : x = n
      · (refine wlk ?_)
        (first | (refine finR (.tmp rfl .nil) rfl rfl ?_) | (refine finN (.tmp rfl .nil) rfl rfl ?_))
        exact Xl (f := Int.d) (b := l) (by simp only [vars]; rw [if_pos (hxn ▸ List.mem_of_getElem? hx)])
      · (refine wlk ?_)
        exact ⟨k + 1, ⟨by omega, upto_succ hno hx hxn⟩, fgs, by omega⟩
    · have hnm : n ∉ l := fun hm => by
        obtain ⟨j, hj, e⟩ := List.getElem_of_mem hm
        exact hno j n (by omega) (by rw [List.getElem?_eq_getElem hj, e]) rfl
      have hl1 : ([] : List Int) ++ l = l := rfl
      have hl2 : (l ++ [n]).length ≤ 2000000000000 := by simp [Tm.size] at hsz ⊢; omega
      (refine wlk ?_)
      (refine SqA.b1 (op_bsT (T := TB) (f := Int.d) [n] rfl rfl rfl rfl rfl rfl rfl rfl rfl rfl rfl) rfl rfl ?_)
      (refine wlk ?_)
      refine fin_wk (fun n => Wk.freezeAt (d := 4) rfl) ?_
      (first | (refine finR (.tmp rfl .nil) rfl rfl ?_) | (refine finN (.tmp rfl .nil) rfl rfl ?_))
      exact Xl (f := Int.d) (b := l ++ [n]) (by simp only [vars]; rw [if_neg hnm])

end Go.Proofs.YtmanhdacnkpclaaGreatDoor

/- What functions do: bindings. -/
namespace Go.Proofs.YtmanhdacnkpclaaGreatDoor
set_option linter.all false
open Go.RowKit

section
variable {P : Program} {n : Nat} {dr : Bool} {ops : Array Oper} {o : Oper} {os : List Oper} {i : Info} {acc : List Info} {σ : St} {K : St → Prop}
theorem SqA.b3 {e e' e'' : Key × Option X} (h : Op1 P n o i σ [e, e', e'']) (hg : guardIs ops o σ = some true) (hal : i.al.all (fun j => nomem j (St.ids σ)) = true) (hk : SqA P n dr ops os (⟨guardKeys ops o ++ i.rd, i.wr, i.al⟩ :: acc) (e :: e' :: e'' :: σ) K) : SqA P n dr ops (o :: os) acc σ K := .goG h hg hal hk
end
set_option maxHeartbeats 4000000 in
set_option maxRecDepth 100000 in
theorem rrename (k : Int) (hk0 : 0 ≤ k) (hk1 : k ≤ 1000) : ∀ t : Tm, t.okv = true → t.size ≤ 2000000000000 → FnD Tryz.prog 26 [tA t, iA k] (.one (tA (ren k t))) := by
  refine Tm.ind ?_
  intro v n l ih hok hsz
  refine Fn.of Tryz.func26 rfl Tryz.ntmps26 rfl (Nat.le_of_ble_eq_true rfl) ?_
  cases v
  case true =>
    simp only [Tm.okv, Bool.and_eq_true, decide_eq_true_eq] at hok
    have h0 : (0 : Int) ≤ (Tm.mk true n l).n := hok.1.2
    have h1 : (Tm.mk true n l).n ≤ 1000000 := hok.2
    (refine wlk ?_)
    (first | (refine finR (.cellN rfl rfl (rw_of rfl) rfl rfl .nil) rfl rfl ?_) | (refine finN (.cellN rfl rfl (rw_of rfl) rfl rfl .nil) rfl rfl ?_))
    exact rfl
  case false =>
    simp only [Tm.okv] at hok
    have hll := sizes_len l
    simp only [Tm.size] at hsz
    (refine wlk ?_)
    refine dwp_loop (fun m : Nat => [(.t 1, some (.one (iA k))), (.t 4, some (.one (.c (.ptr 4 0)))), (.b 4, some (.box [.val (.bool false), .val (.int .i64 0), .val (.slice none 0 0)])), (.t 5, some (.one (.c (.ptr 5 0)))), (.b 5, some (.box [.val (.bool false), .val (.int .i64 n), .own 36 3 (((l.take m).map (ren k)).map Tm.d)])),
      (.t 21, some (.one (lA Tm.d l))), (.t 22, some (.one (iA l.length))), (.t 23, some (.one (iA m)))])
      (fun m => m ≤ l.length) (fun m => l.length - m) 0 (by omega) ((Wk.nilOwnB (j := 5) (q := 2) (E := 36) (m := 3) rfl rfl rfl).trans fgs) ?_
    intro m hm
    by_cases hml : m < l.length
    · obtain ⟨x, hx⟩ := get_of_lt hml
      have hsn := snoc (ren k) hx
      have hxs := size_at hx
      (refine wlk ?_)
      (refine SqA.b1 (op_call none rfl rfl rfl (by kernel_rfl) (FnD.use (ih x (List.mem_of_getElem? hx) (okvs_at hok hx) (by omega))) rfl rfl rfl rfl rfl rfl) rfl rfl ?_)
      (refine wlk ?_)
      (refine SqA.b1 (op_bsT (T := TB) (f := Tm.d) [ren k x] rfl rfl rfl rfl rfl rfl rfl rfl rfl rfl rfl) rfl rfl ?_)
      (refine wlk ?_)
      exact ⟨m + 1, by omega, fgs, by omega⟩
    · have : m = l.length := by omega
      subst this
      refine dwp_wk (Wk.freezeB (j := 5) (q := 2) rfl rfl rfl) ?_
      (refine wlk ?_)
      (first | (refine finR (.cellN rfl rfl (rw_of rfl) rfl rfl .nil) rfl rfl ?_) | (refine finN (.cellN rfl rfl (rw_of rfl) rfl rfl .nil) rfl rfl ?_))
      exact Xt (b := ⟨false, n, (l.take l.length).map (ren k)⟩) (by simp [ren, rens_eq])

end Go.Proofs.YtmanhdacnkpclaaGreatDoor

/- What functions do: Unify, More. -/
namespace Go.Proofs.YtmanhdacnkpclaaGreatDoor
set_option linter.all false
open Go.RowKit

end Go.Proofs.YtmanhdacnkpclaaGreatDoor
