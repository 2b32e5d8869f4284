/- What functions do: Vars, Put; Compare. -/
import Derived.Test.YtmanhdacnkpclaaGreatzh10
import Derived.Test.YtmanhdacnkpclaaGreatzh11
import Derived.Test.YtmanhdacnkpclaaGreatzh13
import Derived.Test.YtmanhdacnkpclaaGreatzh07
import Derived.Test.YtmanhdacnkpclaaGreatzh08
import Derived.Test.YtmanhdacnkpclaaGreatzh05
/- What functions do: Vars, Put; Compare. -/
namespace Go.Proofs.YtmanhdacnkpclaaGreat
set_option linter.all false
open Go.RowKit
theorem A1m.two {w : World} {who : Nat → Tag} {vs : List Value} {A B : A1} (hl : vs.length = [A, B].length) (ha : ∀ (i : Nat) (C : A1) (v : Value), [A, B][i]? = some C → vs[i]? = some v → A1m w who (.t i) 0 C v) : ∃ u v, vs = [u, v] ∧ A1m w who (.t 0) 0 A u ∧ A1m w who (.t 1) 0 B v := by
  match vs, hl with
  | [u, v], _ => exact ⟨u, v, rfl, ha 0 A u rfl rfl, ha 1 B v rfl rfl⟩
theorem pcompare (t u : Tm) (hsz : t.size ≤ 4398046511104) (hsz' : u.size ≤ 4398046511104) (hok : t.okv = true) (hok' : u.okv = true) : FnD Tryz.prog 75 [tA t, tA u] (.one (iA (compare t u))) := by
  refine Fn.ofElder fun who w vs hl ha => ?_
  obtain ⟨x, y, rfl, hx, hy⟩ := A1m.two hl ha
  exact pcompare_any t u w (Fz who) x y hx.rdt hy.rdt hsz hsz' hok hok'
theorem varss_take {l : List Tm} {acc : List Int} {k : Nat} {x : Tm} (h : l[k]? = some x) : varss acc (l.take (k + 1)) = vars (varss acc (l.take k)) x := by
  rw [take_succ_of h, varss_snoc]
set_option maxHeartbeats 4000000 in
set_option maxRecDepth 100000 in
theorem rvars : ∀ (t : Tm) (l : List Int), l.length + t.size ≤ 2000000000000 → FnD Tryz.prog 71 [lA Int.d l, tA t] (.one (lA Int.d (vars l t))) := by
  refine Tm.ind ?_
  intro v n as_ ih l hsz
  refine Fn.of Tryz.func71 rfl Tryz.ntmps71 rfl (Nat.le_of_ble_eq_true rfl) ?_
  cases v
  case false =>
    simp only [Tm.size] at hsz
    have hll := sizes_len as_
    (refine wlk ?_)
    refine dwp_loop (fun k : Nat => [(.t 0, some (.one (lA Int.d (varss l (as_.take k))))), (.t 13, some (.one (lA Tm.d as_))), (.t 14, some (.one (iA as_.length))), (.t 15, some (.one (iA k)))])
      (fun k => k ≤ as_.length) (fun k => as_.length - k) 0 (by omega) fgs ?_
    intro k hk
    by_cases hkl : k < as_.length
    · obtain ⟨x, hx⟩ := get_of_lt hkl
      have h1 := varss_len l (as_.take k)
      have h2 := sizes_take_succ as_ k x hx
      have h3 := sizes_take_le as_ (k + 1)
      have e := varss_take (acc := l) hx
      (refine wlk ?_)
      (refine SqA.b1 (op_call none rfl rfl rfl (by kernel_rfl) (FnD.use (ih x (List.mem_of_getElem? hx) (varss l (as_.take k)) (by omega))) rfl rfl rfl rfl rfl rfl) rfl rfl ?_)
      rw [← e]
      (refine wlk ?_)
      exact ⟨k + 1, by omega, fgs, by omega⟩
    · have : k = as_.length := by omega
      subst this
      rw [List.take_length]
      (refine wlk ?_)
      (refine wfT ?_)
      exact Xl (f := Int.d) (b := varss l as_) (by simp [vars])
  case true =>
    (refine wlk ?_)
    refine dwp_loop (fun k : Nat => [(.t 0, some (.one (lA Int.d l))), (.t 3, some (.one (.c (.ptr 3 0)))), (.b 3, some (.box (tA ⟨true, n, as_⟩).cells)), (.t 24, some (.one (lA Int.d l))), (.t 25, some (.one (iA l.length))), (.t 26, some (.one (iA k)))])
      (fun k => k ≤ l.length ∧ ∀ j x, j < k → l[j]? = some x → x ≠ n) (fun k => l.length - k) 0 ⟨by omega, fun j x h => absurd h (by omega)⟩ fgs ?_
    rintro k ⟨hk, hno⟩
    by_cases hkl : k < l.length
    · obtain ⟨x, hx⟩ := get_of_lt hkl
      by_cases hxn : x = n
      · (refine wlk ?_)
        (refine wfT ?_)
        exact Xl (f := Int.d) (b := l) (by simp only [vars]; rw [if_pos (hxn ▸ List.mem_of_getElem? hx)])
      · (refine wlk ?_)
        exact ⟨k + 1, ⟨by omega, upto_succ hno hx hxn⟩, fgs, by omega⟩
    · have hnm : n ∉ l := fun hm => by
        obtain ⟨j, hj, e⟩ := List.getElem_of_mem hm
        exact hno j n (by omega) (by rw [List.getElem?_eq_getElem hj, e]) rfl
      have hl1 : ([] : List Int) ++ l = l := rfl
      have hl2 : (l ++ [n]).length ≤ 2000000000000 := by simp [Tm.size] at hsz ⊢; omega
      (refine wlk ?_)
      (refine SqA.b1 (op_bsT (T := TB) (f := Int.d) [n] rfl rfl rfl rfl rfl rfl rfl rfl rfl rfl rfl) rfl rfl ?_)
      (refine wlk ?_)
      refine fin_wk (fun n => Wk.freezeAt (d := 4) rfl) ?_
      (refine wfT ?_)
      exact Xl (f := Int.d) (b := l ++ [n]) (by simp only [vars]; rw [if_neg hnm])
def putA (l : List Tm) (i : Int) (p : List Int) (u : Tm) : List Tm := if i < 0 ∨ (l.length : Int) ≤ i then l else l.set i.toNat (put (l.getD i.toNat ⟨false, 0, []⟩) p u)
theorem put_putA {v : Bool} {n : Int} {l : List Tm} {i : Int} {p : List Int} {u : Tm} : put ⟨v, n, l⟩ (i :: p) u = ⟨v, n, putA l i p u⟩ := by
  simp only [put, putA]; split <;> rfl
theorem putA_len (l : List Tm) (i : Int) (p : List Int) (u : Tm) : (putA l i p u).length = l.length := by
  unfold putA; split <;> simp
theorem putA_at {l : List Tm} {i : Int} {p : List Int} {u : Tm} {k : Nat} {x : Tm} (hx : l[k]? = some x) : (putA l i p u)[k]? = some (if (k : Int) = i then put x p u else x) := by
  have hk := (List.getElem?_eq_some_iff.1 hx).1
  unfold putA
  split
  · rw [if_neg (by omega), hx]
  · split
    · rename_i h
      subst h
      rw [Int.toNat_natCast, List.getElem?_set_self hk, getD_of hx]
    · rw [List.getElem?_set_ne (by omega), hx]
set_option maxHeartbeats 4000000 in
set_option maxRecDepth 100000 in
theorem rput (u : Tm) : ∀ (p : List Int) (t : Tm), t.size ≤ 1000000000 → FnD Tryz.prog 108 [tA t, lA Int.d p, tA u] (.one (tA (put t p u)))
  | [], t, hsz => by
    refine Fn.of Tryz.func108 rfl Tryz.ntmps108 rfl (Nat.le_of_ble_eq_true rfl) ?_
    have h0 : ([] : List Int).length = 0 := rfl
    (refine wlk ?_)
    (refine wfC ?_)
    exact Xt (b := u) (by simp [put])
  | i :: p, ⟨v, n, l⟩, hsz => by
    have ih := rput u p
    refine Fn.of Tryz.func108 rfl Tryz.ntmps108 rfl (Nat.le_of_ble_eq_true rfl) ?_
    have h0 : (i :: p)[0]? = some i := rfl
    have hl1 : (i :: p).length = p.length + 1 := rfl
    have hll := sizes_len l
    simp only [Tm.size] at hsz
    rw [put_putA]
    have hpl := putA_len l i p u
    have hat : ∀ (k : Nat) (x : Tm), l[k]? = some x → (putA l i p u)[k]? = some (if (k : Int) = i then put x p u else x) := fun k x hx => putA_at hx
    generalize putA l i p u = l' at hpl hat
    (refine wlk ?_)
    refine dwp_loop (fun k : Nat => [(.t 1, some (.one (lA Int.d (i :: p)))), (.t 5, some (.one (.c (.ptr 5 0)))), (.b 5, some (.box (tA u).cells)), (.t 6, some (.one (.c (.ptr 6 0)))), (.b 6, some (.box [.val (.bool false), .val (.int .i64 0), .val (.slice none 0 0)])),
      (.t 7, some (.one (.c (.ptr 7 0)))), (.b 7, some (.box [.val (.bool v), .val (.int .i64 n), .own 75 3 ((l'.take k).map Tm.d)])), (.t 20, some (.one (lA Tm.d l))), (.t 21, some (.one (iA l.length))), (.t 22, some (.one (iA k)))])
      (fun k => k ≤ l.length) (fun k => l.length - k) 0 (by omega) ((Wk.nilOwnB (j := 7) (q := 2) (E := 75) (m := 3) rfl rfl rfl).trans fgs) ?_
    intro k hk
    by_cases hkl : k < l.length
    · obtain ⟨x, hx⟩ := get_of_lt hkl
      have hy := hat k x hx
      have hxs := size_at hx
      have hbl : (l'.take (k + 1)).length ≤ 1000000000 := by rw [List.length_take]; omega
      by_cases hki : (k : Int) = i
      · rw [if_pos hki] at hy
        have hsn := (take_succ_of hy).symm
        (refine wlk ?_)
        (refine SqA.b1 (op_call none rfl rfl rfl (by kernel_rfl) (FnD.use (ih x (by omega))) rfl rfl rfl rfl rfl rfl) rfl rfl ?_)
        (refine wlk ?_)
        (refine SqA.b1 (op_bsT (T := TB) (f := Tm.d) [put x p u] rfl rfl rfl rfl rfl rfl rfl rfl rfl rfl rfl) rfl rfl ?_)
        (refine wlk ?_)
        exact ⟨k + 1, by omega, fgs, by omega⟩
      · rw [if_neg hki] at hy
        have hsn := (take_succ_of hy).symm
        (refine wlk ?_)
        (refine SqA.b1 (op_bsT (T := TB) (f := Tm.d) [x] rfl rfl rfl rfl rfl rfl rfl rfl rfl rfl rfl) rfl rfl ?_)
        (refine wlk ?_)
        exact ⟨k + 1, by omega, fgs, by omega⟩
    · have : k = l.length := by omega
      subst this
      rw [← hpl, List.take_length, hpl]
      refine dwp_wk (Wk.freezeB (j := 7) (q := 2) rfl rfl rfl) ?_
      (refine wlk ?_)
      (refine wfC ?_)
      exact Xt (b := ⟨v, n, l'⟩) rfl
end Go.Proofs.YtmanhdacnkpclaaGreat
/- What functions do: bindings. -/
namespace Go.Proofs.YtmanhdacnkpclaaGreat
set_option linter.all false
open Go.RowKit
section
variable {P : Program} {n : Nat} {dr : Bool} {ops : Array Oper} {o : Oper} {os : List Oper} {i : Info} {acc : List Info} {σ : St} {K : St → Prop}
theorem SqA.b3 {e e' e'' : Key × Option X} (h : Op1 P n o i σ [e, e', e'']) (hg : guardIs ops o σ = some true) (hal : i.al.all (fun j => nomem j (St.ids σ)) = true) (hk : SqA P n dr ops os (⟨guardKeys ops o ++ i.rd, i.wr, i.al⟩ :: acc) (e :: e' :: e'' :: σ) K) : SqA P n dr ops (o :: os) acc σ K := .goG h hg hal hk
end
theorem mem_vars {v : Int} {t : Tm} (ht : t.okv = true) : v ∈ vars [] t ↔ times v t ≠ 0 := by
  constructor
  · intro h
    rcases vars_sub v t [] h with h | h
    · cases h
    · exact h
  · intro h; exact (times_mem v t [] ht h).1
set_option maxRecDepth 100000 in
theorem rin (v : Int) (t : Tm) (ht : t.okv = true) (hsz : t.size ≤ 2000000000000) : FnD Tryz.prog 145 [iA v, tA t] (.one (bA (decide (times v t ≠ 0)))) := by
  refine Fn.of Tryz.func145 rfl Tryz.ntmps145 rfl (Nat.le_of_ble_eq_true rfl) ?_
  have hv := FnD.nil (rvars t [] (by simpa using hsz)) 0 rfl
  have hm := mem_vars (v := v) ht
  have hvl := vars_len [] t
  generalize vars [] t = l at hv hm hvl
  simp only [List.length_nil] at hvl
  (refine wlk ?_)
  (refine wlC hv ?_)
  (refine wlk ?_)
  refine dwp_loop (fun k : Nat => [(.t 0, some (.one (iA v))), (.t 8, some (.one (lA Int.d l))), (.t 9, some (.one (iA l.length))), (.t 10, some (.one (iA k)))])
    (fun k => k ≤ l.length ∧ ∀ j x, j < k → l[j]? = some x → x ≠ v) (fun k => l.length - k) 0 ⟨by omega, fun j x h => absurd h (by omega)⟩ fgs ?_
  rintro k ⟨hk, hno⟩
  by_cases hkl : k < l.length
  · obtain ⟨x, hx⟩ := get_of_lt hkl
    by_cases hxv : x = v
    · (refine wlk ?_)
      (refine wfT ?_)
      exact Xb (b := true) (decide_eq_true (hm.1 (hxv ▸ List.mem_of_getElem? hx))).symm
    · (refine wlk ?_)
      exact ⟨k + 1, ⟨by omega, upto_succ hno hx hxv⟩, fgs, by omega⟩
  · have : k = l.length := by omega
    subst this
    (refine wlk ?_)
    (refine wfT ?_)
    exact Xb (b := false) (decide_eq_false fun h => any_upto hno v (hm.2 h) rfl).symm
set_option maxHeartbeats 4000000 in
set_option maxRecDepth 100000 in
theorem rrename (k : Int) (hk0 : 0 ≤ k) (hk1 : k ≤ 1000) : ∀ t : Tm, t.okv = true → t.size ≤ 2000000000000 → FnD Tryz.prog 105 [tA t, iA k] (.one (tA (ren k t))) := by
  refine Tm.ind ?_
  intro v n l ih hok hsz
  refine Fn.of Tryz.func105 rfl Tryz.ntmps105 rfl (Nat.le_of_ble_eq_true rfl) ?_
  cases v
  case true =>
    simp only [Tm.okv, Bool.and_eq_true, decide_eq_true_eq] at hok
    have h0 : (0 : Int) ≤ (Tm.mk true n l).n := hok.1.2
    have h1 : (Tm.mk true n l).n ≤ 1000000 := hok.2
    (refine wlk ?_)
    (refine wfC ?_)
    exact rfl
  case false =>
    simp only [Tm.okv] at hok
    have hll := sizes_len l
    simp only [Tm.size] at hsz
    (refine wlk ?_)
    refine dwp_loop (fun m : Nat => [(.t 1, some (.one (iA k))), (.t 4, some (.one (.c (.ptr 4 0)))), (.b 4, some (.box [.val (.bool false), .val (.int .i64 0), .val (.slice none 0 0)])), (.t 5, some (.one (.c (.ptr 5 0)))), (.b 5, some (.box [.val (.bool false), .val (.int .i64 n), .own 75 3 (((l.take m).map (ren k)).map Tm.d)])),
      (.t 21, some (.one (lA Tm.d l))), (.t 22, some (.one (iA l.length))), (.t 23, some (.one (iA m)))])
      (fun m => m ≤ l.length) (fun m => l.length - m) 0 (by omega) ((Wk.nilOwnB (j := 5) (q := 2) (E := 75) (m := 3) rfl rfl rfl).trans fgs) ?_
    intro m hm
    by_cases hml : m < l.length
    · obtain ⟨x, hx⟩ := get_of_lt hml
      have hsn := snoc (ren k) hx
      have hxs := size_at hx
      (refine wlk ?_)
      (refine SqA.b1 (op_call none rfl rfl rfl (by kernel_rfl) (FnD.use (ih x (List.mem_of_getElem? hx) (okvs_at hok hx) (by omega))) rfl rfl rfl rfl rfl rfl) rfl rfl ?_)
      (refine wlk ?_)
      (refine SqA.b1 (op_bsT (T := TB) (f := Tm.d) [ren k x] rfl rfl rfl rfl rfl rfl rfl rfl rfl rfl rfl) rfl rfl ?_)
      (refine wlk ?_)
      exact ⟨m + 1, by omega, fgs, by omega⟩
    · have : m = l.length := by omega
      subst this
      refine dwp_wk (Wk.freezeB (j := 5) (q := 2) rfl rfl rfl) ?_
      (refine wlk ?_)
      (refine wfC ?_)
      exact Xt (b := ⟨false, n, (l.take l.length).map (ren k)⟩) (by simp [ren, rens_eq])
def resU : Option (List Pr) → List A1
  | some r => [lA Pr.d r, bA true]
  | none => [lA Pr.d [], bA false]
theorem Xu {r r' : Option (List Pr)} (h : r = r') : (.tup (resU r) : X) = .tup (resU r') := by rw [h]
theorem bound_snoc {s : List Pr} {k : Nat} {p : Pr} {v : Int} {y : Tm} (h : s[k]? = some p) : (s.take k).map (fun p => (p.1, app [(v, y)] p.2)) ++ [(p.1, app [(v, y)] p.2)] = (s.take (k + 1)).map (fun p => ((p.1, app [(v, y)] p.2) : Pr)) := snoc (fun p => ((p.1, app [(v, y)] p.2) : Pr)) h
set_option maxHeartbeats 16000000 in
set_option maxRecDepth 100000 in
theorem rsolve {root : Tm} : ∀ (f : Nat) (s : List Pr) (todo : List (Tm × Tm)), UInv root s todo → muU s todo ≤ f →
    FnD Tryz.prog 133 [lA Pr.d s, lA Tm.d (todo.map Prod.fst), lA Tm.d (todo.map Prod.snd)] (.tup (resU (unifyF f s todo)))
  | f, s, [], hi, hf => by
    refine Fn.of Tryz.func133 rfl Tryz.ntmps133 rfl (Nat.le_of_ble_eq_true rfl) ?_
    have h0 : (([] : List (Tm × Tm)).map Prod.fst).length = 0 := rfl
    (refine wlk ?_)
    (refine wfTT ?_)
    exact Xu (r := some s) (by cases f <;> rfl)
  | 0, s, (a, b) :: todo, hi, hf => by
    have h1 : 1 ≤ wt (fun _ => 1) (app s a) := by rw [size_wt hi.idem.1 (hi.ok (a, b) (by simp)).1]; exact size_pos _
    simp only [muU, sumU, List.map_cons, List.sum_cons] at hf
    omega
  | f + 1, s, (a, b) :: todo, hi, hf => by
    have ih := rsolve (root := root) f
    have hB := bigU_eq
    obtain ⟨⟨z1, z2⟩, z3, z4⟩ := hi.esize (e := (a, b)) (by simp)
    have hps := fun p (hp : p ∈ s) => hi.psize hp
    have hsl := hi.len_le
    have htl := hi.todo_le
    have hab := hi.ok (a, b) (by simp)
    have ka := app_okv hi.idem.1 a hab.1
    have kb := app_okv hi.idem.1 b hab.2
    have hstep : ∀ s' todo', UWay s a b todo s' todo' → FnD Tryz.prog 133 [lA Pr.d s', lA Tm.d (todo'.map Prod.fst), lA Tm.d (todo'.map Prod.snd)] (.tup (resU (unifyF f s' todo'))) := fun s' todo' hw => by
      obtain ⟨g1, g2⟩ := hi.step hw
      exact ih s' todo' g1 (by omega)
    have hbig : ∀ s' todo', UWay s a b todo s' todo' → todo'.length ≤ bigU := fun s' todo' hw => (hi.step hw).1.todo_le
    have capx := ap s (by omega) a (by simp only at z1; omega)
    have capy := ap s (by omega) b (by simp only at z2; omega)
    have hu : unifyF (f + 1) s ((a, b) :: todo) = match ustep s a b todo with | none => none | some (s', todo') => unifyF f s' todo' := by
      simp only [unifyF]
      cases ustep s a b todo <;> rfl
    have hway := fun s' todo' => ustep_way (todo := todo) (todo' := todo') (s' := s') ka kb
    rw [hu]
    have hus : ustep s a b todo = (if (app s a).same (app s b) then some (s, todo)
      else if (app s a).var then (if times (app s a).n (app s b) ≠ 0 then none else some (bound s (app s a).n (app s b), todo))
      else if (app s b).var then (if times (app s b).n (app s a) ≠ 0 then none else some (bound s (app s b).n (app s a), todo))
      else if (app s a).n ≠ (app s b).n ∨ (app s a).args.length ≠ (app s b).args.length then none
      else some (s, (app s a).args.zip (app s b).args ++ todo)) := rfl
    rw [hus] at hway ⊢
    simp only [List.length_cons] at htl
    simp only at z1 z2 z3 z4
    clear hu hus ih
    generalize app s a = x at *
    generalize app s b = y at *
    refine Fn.of Tryz.func133 rfl Tryz.ntmps133 rfl (Nat.le_of_ble_eq_true rfl) ?_
    have e1 : (((a, b) :: todo).map Prod.fst)[0]? = some a := rfl
    have e2 : (((a, b) :: todo).map Prod.snd)[0]? = some b := rfl
    have e3 : (((a, b) :: todo).map Prod.fst).length = todo.length + 1 := by simp
    have e4 : (((a, b) :: todo).map Prod.snd).length = todo.length + 1 := by simp
    have e5 : 1 ≤ (((a, b) :: todo).map Prod.fst).length := by simp
    have e6 : 1 ≤ (((a, b) :: todo).map Prod.snd).length := by simp
    have csame := rsame x y
    have zl1 := sizes_len x.args
    have zl2 := sizes_len y.args
    have zs1 : x.size = 1 + Tm.sizes x.args := by cases x; rfl
    have zs2 : y.size = 1 + Tm.sizes y.args := by cases y; rfl
    cases hxy : x.same y
    rotate_left
    · rw [hxy] at csame
      have hw := hway s todo (by simp [hxy])
      have hc := hstep _ _ hw
      (refine wlk ?_)
      (refine wlC capx ?_)
      (refine wlk ?_)
      (refine wlC capy ?_)
      (refine wlk ?_)
      (refine wlC csame ?_)
      (refine wlk ?_)
      simp only [if_true]
      generalize unifyF f s todo = r at hc
      cases r <;> ((refine wlC hc ?_); (refine wlk ?_); (refine wfTT ?_); exact rfl)
    rw [hxy] at csame
    simp only [hxy, Bool.false_eq_true, if_false] at hway ⊢
    obtain ⟨vx, nx, lx⟩ := x
    obtain ⟨vy, ny, ly⟩ := y
    simp only at *
    cases vx
    · cases vy
      · -- two symbols
        simp only [Bool.false_eq_true, if_false] at hway ⊢
        by_cases hn : nx = ny
        rotate_left
        · rw [if_pos (.inl hn)]
          (refine wlk ?_)
          (refine wlC capx ?_)
          (refine wlk ?_)
          (refine wlC capy ?_)
          (refine wlk ?_)
          (refine wlC csame ?_)
          (refine wlk ?_)
          refine fin_wk (fun n => Wk.nilArr (d := 6) rfl) ?_
          (refine wfTT ?_)
          exact rfl
        by_cases hl : lx.length = ly.length
        rotate_left
        · rw [if_pos (.inr hl)]
          (refine wlk ?_)
          (refine wlC capx ?_)
          (refine wlk ?_)
          (refine wlC capy ?_)
          (refine wlk ?_)
          (refine wlC csame ?_)
          (refine wlk ?_)
          refine fin_wk (fun n => Wk.nilArr (d := 6) rfl) ?_
          (refine wfTT ?_)
          exact rfl
        rw [if_neg (by simp [hn, hl])] at hway ⊢
        have hw := hway _ _ rfl
        have hc := hstep _ _ hw
        have hbg := hbig _ _ hw
        simp only [List.length_append, List.length_zip] at hbg
        have m1 : lx ++ todo.map Prod.fst = (lx.zip ly ++ todo).map Prod.fst := by rw [List.map_append, List.map_fst_zip (by omega)]
        have m2 : ly ++ todo.map Prod.snd = (lx.zip ly ++ todo).map Prod.snd := by rw [List.map_append, List.map_snd_zip (by omega)]
        have n1 : ([] : List Tm) ++ lx = lx := rfl
        have n2 : ([] : List Tm) ++ ly = ly := rfl
        rw [← m1, ← m2] at hc
        have b1 : (lx ++ todo.map Prod.fst).length ≤ 2000000000000 := by rw [List.length_append, List.length_map]; omega
        have b2 : (ly ++ todo.map Prod.snd).length ≤ 2000000000000 := by rw [List.length_append, List.length_map]; omega
        have a1 : lx ++ todo.map Prod.fst = lx ++ todo.map Prod.fst := rfl
        have a2 : ly ++ todo.map Prod.snd = ly ++ todo.map Prod.snd := rfl
        simp only [hn, ne_eq, not_true_eq_false, hl, or_self, if_false] at hc ⊢
        (refine wlk ?_)
        (refine wlC capx ?_)
        (refine wlk ?_)
        (refine wlC capy ?_)
        (refine wlk ?_)
        (refine wlC csame ?_)
        (refine wlk ?_)
        generalize unifyF f s (lx.zip ly ++ todo) = r at hc
        cases r <;> ((refine SqA.b3 (Op1.frzIn (t := 69) rfl (Op1.frzIn (t := 75) rfl (op_call none rfl rfl rfl (by kernel_rfl) (FnD.use (hc)) rfl rfl rfl rfl rfl rfl))) rfl rfl ?_); (refine wlk ?_); (refine wfTT ?_); exact rfl)
      · -- the second one is a variable
        simp only [Bool.false_eq_true, if_false, if_true] at hway ⊢
        by_cases ho : times ny ⟨false, nx, lx⟩ = 0
        rotate_left
        · have cin := rin ny ⟨false, nx, lx⟩ ka (by omega)
          rw [decide_eq_true ho] at cin
          simp only [ho, ne_eq, not_false_eq_true, if_true]
          (refine wlk ?_)
          (refine wlC capx ?_)
          (refine wlk ?_)
          (refine wlC capy ?_)
          (refine wlk ?_)
          (refine wlC csame ?_)
          (refine wlk ?_)
          (refine wlC cin ?_)
          (refine wlk ?_)
          refine fin_wk (fun n => Wk.nilArr (d := 6) rfl) ?_
          (refine wfTT ?_)
          exact rfl
        have cin := rin ny ⟨false, nx, lx⟩ ka (by omega)
        rw [decide_eq_false (by simp [ho])] at cin
        simp only [ho, ne_eq, not_true_eq_false, if_false] at hway ⊢
        have hw := hway _ _ rfl
        have hc := hstep _ _ hw
        have hbl : (bound s ny ⟨false, nx, lx⟩).length = s.length + 1 := by simp [bound]
        have hbe : s.map (fun p => ((p.1, app [(ny, ⟨false, nx, lx⟩)] p.2) : Pr)) ++ [(ny, ⟨false, nx, lx⟩)] = bound s ny ⟨false, nx, lx⟩ := rfl
        (refine wlk ?_)
        (refine wlC capx ?_)
        (refine wlk ?_)
        (refine wlC capy ?_)
        (refine wlk ?_)
        (refine wlC csame ?_)
        (refine wlk ?_)
        (refine wlC cin ?_)
        (refine wlk ?_)
        (refine SqA.b1 (op_bsT (T := TB) (f := Pr.d) [(ny, ⟨false, nx, lx⟩)] rfl rfl rfl rfl rfl rfl rfl rfl rfl rfl rfl) rfl rfl ?_)
        (refine wlk ?_)
        refine dwp_loop (fun k : Nat => [(.t 1, some (.one (lA Tm.d (todo.map Prod.fst)))), (.t 2, some (.one (lA Tm.d (todo.map Prod.snd)))), (.t 10, some (.one (lA Pr.d [((ny, ⟨false, nx, lx⟩) : Pr)]))), (.t 11, some (.one (.c (.own 109 4 (((s.take k).map (fun p => ((p.1, app [(ny, ⟨false, nx, lx⟩)] p.2) : Pr))).map Pr.d))))),
          (.t 93, some (.one (lA Pr.d s))), (.t 94, some (.one (iA s.length))), (.t 95, some (.one (iA k)))])
          (fun k => k ≤ s.length) (fun k => s.length - k) 0 (by omega) ((Wk.nilOwn (d := 11) (E := 109) (m := 4) rfl).trans fgs) ?_
        intro k hk
        by_cases hkl : k < s.length
        · obtain ⟨p, hp⟩ := get_of_lt hkl
          have hsn := bound_snoc (v := ny) (y := ⟨false, nx, lx⟩) hp
          have hpz := hps p (List.mem_of_getElem? hp)
          (refine wlk ?_)
          (refine SqA.b1 (op_call none rfl rfl rfl (by kernel_rfl) (FnD.use (ap [(ny, ⟨false, nx, lx⟩)] (by simp) p.2 (by omega))) rfl rfl rfl rfl rfl rfl) rfl rfl ?_)
          (refine wlk ?_)
          (refine SqA.b1 (op_bsT (T := TB) (f := Pr.d) [(p.1, app [(ny, ⟨false, nx, lx⟩)] p.2)] rfl rfl rfl rfl rfl rfl rfl rfl rfl rfl rfl) rfl rfl ?_)
          (refine wlk ?_)
          exact ⟨k + 1, by omega, fgs, by omega⟩
        · have : k = s.length := by omega
          subst this
          rw [List.take_length]
          (refine wlk ?_)
          generalize unifyF f (bound s ny ⟨false, nx, lx⟩) todo = r at hc
          cases r <;> ((refine SqA.b2 (Op1.frzIn (t := 112) rfl (op_call none rfl rfl rfl (by kernel_rfl) (FnD.use (hc)) rfl rfl rfl rfl rfl rfl)) rfl rfl ?_); (refine wlk ?_); (refine wfTT ?_); exact rfl)
    · -- the first one is a variable
      simp only [if_true] at hway ⊢
      by_cases ho : times nx ⟨vy, ny, ly⟩ = 0
      rotate_left
      · have cin := rin nx ⟨vy, ny, ly⟩ kb (by omega)
        rw [decide_eq_true ho] at cin
        simp only [ho, ne_eq, not_false_eq_true, if_true]
        (refine wlk ?_)
        (refine wlC capx ?_)
        (refine wlk ?_)
        (refine wlC capy ?_)
        (refine wlk ?_)
        (refine wlC csame ?_)
        (refine wlk ?_)
        (refine wlC cin ?_)
        (refine wlk ?_)
        refine fin_wk (fun n => Wk.nilArr (d := 6) rfl) ?_
        (refine wfTT ?_)
        exact rfl
      have cin := rin nx ⟨vy, ny, ly⟩ kb (by omega)
      rw [decide_eq_false (by simp [ho])] at cin
      simp only [ho, ne_eq, not_true_eq_false, if_false] at hway ⊢
      have hw := hway _ _ rfl
      have hc := hstep _ _ hw
      have hbl : (bound s nx ⟨vy, ny, ly⟩).length = s.length + 1 := by simp [bound]
      have hbe : s.map (fun p => ((p.1, app [(nx, ⟨vy, ny, ly⟩)] p.2) : Pr)) ++ [(nx, ⟨vy, ny, ly⟩)] = bound s nx ⟨vy, ny, ly⟩ := rfl
      (refine wlk ?_)
      (refine wlC capx ?_)
      (refine wlk ?_)
      (refine wlC capy ?_)
      (refine wlk ?_)
      (refine wlC csame ?_)
      (refine wlk ?_)
      (refine wlC cin ?_)
      (refine wlk ?_)
      (refine SqA.b1 (op_bsT (T := TB) (f := Pr.d) [(nx, ⟨vy, ny, ly⟩)] rfl rfl rfl rfl rfl rfl rfl rfl rfl rfl rfl) rfl rfl ?_)
      (refine wlk ?_)
      refine dwp_loop (fun k : Nat => [(.t 1, some (.one (lA Tm.d (todo.map Prod.fst)))), (.t 2, some (.one (lA Tm.d (todo.map Prod.snd)))), (.t 10, some (.one (lA Pr.d [((nx, ⟨vy, ny, ly⟩) : Pr)]))), (.t 11, some (.one (.c (.own 109 4 (((s.take k).map (fun p => ((p.1, app [(nx, ⟨vy, ny, ly⟩)] p.2) : Pr))).map Pr.d))))),
        (.t 93, some (.one (lA Pr.d s))), (.t 94, some (.one (iA s.length))), (.t 95, some (.one (iA k)))])
        (fun k => k ≤ s.length) (fun k => s.length - k) 0 (by omega) ((Wk.nilOwn (d := 11) (E := 109) (m := 4) rfl).trans fgs) ?_
      intro k hk
      by_cases hkl : k < s.length
      · obtain ⟨p, hp⟩ := get_of_lt hkl
        have hsn := bound_snoc (v := nx) (y := ⟨vy, ny, ly⟩) hp
        have hpz := hps p (List.mem_of_getElem? hp)
        (refine wlk ?_)
        (refine SqA.b1 (op_call none rfl rfl rfl (by kernel_rfl) (FnD.use (ap [(nx, ⟨vy, ny, ly⟩)] (by simp) p.2 (by omega))) rfl rfl rfl rfl rfl rfl) rfl rfl ?_)
        (refine wlk ?_)
        (refine SqA.b1 (op_bsT (T := TB) (f := Pr.d) [(p.1, app [(nx, ⟨vy, ny, ly⟩)] p.2)] rfl rfl rfl rfl rfl rfl rfl rfl rfl rfl rfl) rfl rfl ?_)
        (refine wlk ?_)
        exact ⟨k + 1, by omega, fgs, by omega⟩
      · have : k = s.length := by omega
        subst this
        rw [List.take_length]
        (refine wlk ?_)
        generalize unifyF f (bound s nx ⟨vy, ny, ly⟩) todo = r at hc
        cases r <;> ((refine SqA.b2 (Op1.frzIn (t := 112) rfl (op_call none rfl rfl rfl (by kernel_rfl) (FnD.use (hc)) rfl rfl rfl rfl rfl rfl)) rfl rfl ?_); (refine wlk ?_); (refine wfTT ?_); exact rfl)
end Go.Proofs.YtmanhdacnkpclaaGreat
/- What functions do: Unify, More. -/
namespace Go.Proofs.YtmanhdacnkpclaaGreat
set_option linter.all false
open Go.RowKit
set_option maxRecDepth 100000 in
theorem runify {a b : Tm} (ha : Old a) (hb : Old b) : FnD Tryz.prog 100 [tA a, tA b] (.tup (resU (unify a b))) := by
  have hc : FnD Tryz.prog 133 [.c (.val (.slice none 0 0)), lA Tm.d [a], lA Tm.d [b]] (.tup (resU (unify a b))) := FnD.nil (rsolve 10000000000000 [] [(a, b)] (UInv.start ha hb) (UInv.start ha hb).mu_le) 0 rfl
  generalize unify a b = r at hc
  refine Fn.of Tryz.func100 rfl Tryz.ntmps100 rfl (Nat.le_of_ble_eq_true rfl) ?_
  (refine wlk ?_)
  (refine SqA.b1 (op_bsT (T := TB) (f := Tm.d) [a] rfl rfl rfl rfl rfl rfl rfl rfl rfl rfl rfl) rfl rfl ?_)
  (refine wlk ?_)
  (refine SqA.b1 (op_bsT (T := TB) (f := Tm.d) [b] rfl rfl rfl rfl rfl rfl rfl rfl rfl rfl rfl) rfl rfl ?_)
  (refine wlk ?_)
  cases r <;> ((refine wlC hc ?_); (refine wlk ?_); (refine wfTT ?_); exact rfl)
theorem Xmo {r r' : List Pr × Bool} (h : r = r') : (.tup [lA Pr.d r.1, bA r.2] : X) = .tup [lA Pr.d r'.1, bA r'.2] := by rw [h]
theorem moreR_sym {s : List Pr} {n : Int} {l : List Tm} {t : Tm} : moreR s ⟨false, n, l⟩ t = if t.var = true ∨ t.n ≠ n ∨ t.args.length ≠ l.length then ([], false) else moresR s l t.args := by rw [moreR]
theorem moresR_at {s : List Pr} {l l' : List Tm} {k : Nat} {p t : Tm} (hp : l[k]? = some p) (ht : l'[k]? = some t) : moresR s (l.drop k) (l'.drop k) = match moreR s p t with | (s', true) => moresR s' (l.drop (k + 1)) (l'.drop (k + 1)) | (_, false) => ([], false) := by
  rw [drop_of hp, drop_of ht, moresR]
  cases moreR s p t with
  | mk s' b => cases b <;> rfl
set_option maxHeartbeats 4000000 in
set_option maxRecDepth 100000 in
theorem rmore : ∀ (p t : Tm) (s : List Pr), s.length + p.size ≤ 2000000000000 → FnD Tryz.prog 132 [lA Pr.d s, tA p, tA t] (.tup [lA Pr.d (moreR s p t).1, bA (moreR s p t).2]) := by
  refine Tm.ind ?_
  rintro v n l ih ⟨vt, nt, lt⟩ s hsz
  refine Fn.of Tryz.func132 rfl Tryz.ntmps132 rfl (Nat.le_of_ble_eq_true rfl) ?_
  have hll := sizes_len l
  simp only [Tm.size] at hsz
  cases v
  case true =>
    (refine wlk ?_)
    refine dwp_loop (fun k : Nat => [(.t 0, some (.one (lA Pr.d s))), (.t 4, some (.one (.c (.ptr 4 0)))), (.b 4, some (.box (tA ⟨true, n, l⟩).cells)), (.t 5, some (.one (.c (.ptr 5 0)))), (.b 5, some (.box (tA ⟨vt, nt, lt⟩).cells)),
      (.t 15, some (.one (lA Pr.d s))), (.t 16, some (.one (iA s.length))), (.t 17, some (.one (iA k)))])
      (fun k => k ≤ s.length ∧ ∀ j p, j < k → s[j]? = some p → p.1 ≠ n) (fun k => s.length - k) 0 ⟨by omega, fun j p h => absurd h (by omega)⟩ fgs ?_
    rintro k ⟨hk, hno⟩
    by_cases hkl : k < s.length
    · obtain ⟨x, hx⟩ := get_of_lt hkl
      by_cases hxn : x.1 = n
      · have hc := rsame x.2 ⟨vt, nt, lt⟩
        (refine wlk ?_)
        (refine wlC hc ?_)
        (refine wlk ?_)
        (refine wfTT ?_)
        exact Xmo (r := (s, x.2.same ⟨vt, nt, lt⟩)) (r' := moreR s ⟨true, n, l⟩ ⟨vt, nt, lt⟩) (by simp only [moreR, findS_at hno hx hxn])
      · (refine wlk ?_)
        exact ⟨k + 1, ⟨by omega, upto_succ hno hx hxn⟩, fgs, by omega⟩
    · have h1 : ([] : List Pr) ++ s = s := rfl
      have h2 : (s ++ [((n, ⟨vt, nt, lt⟩) : Pr)]).length ≤ 2000000000000 := by simp; omega
      (refine wlk ?_)
      (refine SqA.b1 (op_bsT (T := TB) (f := Pr.d) [((n, ⟨vt, nt, lt⟩) : Pr)] rfl rfl rfl rfl rfl rfl rfl rfl rfl rfl rfl) rfl rfl ?_)
      (refine wlk ?_)
      refine fin_wk (fun n => Wk.freezeAt (d := 6) rfl) ?_
      (refine wfTT ?_)
      exact Xmo (r := (s ++ [(n, ⟨vt, nt, lt⟩)], true)) (r' := moreR s ⟨true, n, l⟩ ⟨vt, nt, lt⟩) (by simp only [moreR, findS_no hno (show s.length ≤ k by omega)])
  case false =>
    rw [moreR_sym]
    cases vt
    rotate_left
    · (refine wlk ?_)
      refine fin_wk (fun n => Wk.nilArr (d := 6) rfl) ?_
      (refine wfTT ?_)
      exact Xmo (r := ([], false)) (by simp)
    by_cases hn : nt = n
    rotate_left
    · (refine wlk ?_)
      refine fin_wk (fun n => Wk.nilArr (d := 6) rfl) ?_
      (refine wfTT ?_)
      exact Xmo (r := ([], false)) (by simp [hn])
    by_cases hl : lt.length = l.length
    rotate_left
    · (refine wlk ?_)
      refine fin_wk (fun n => Wk.nilArr (d := 6) rfl) ?_
      (refine wfTT ?_)
      exact Xmo (r := ([], false)) (by simp [hl])
    rw [if_neg (by simp [hn, hl])]
    (refine wlk ?_)
    refine dwp_loop (fun x : Nat × List Pr => [(.t 0, some (.one (lA Pr.d x.2))), (.t 4, some (.one (.c (.ptr 4 0)))), (.b 4, some (.box (tA ⟨false, n, l⟩).cells)), (.t 5, some (.one (.c (.ptr 5 0)))), (.b 5, some (.box (tA ⟨false, nt, lt⟩).cells)),
      (.t 61, some (.one (iA l.length))), (.t 62, some (.one (iA x.1)))])
      (fun x => x.1 ≤ l.length ∧ moresR s l lt = moresR x.2 (l.drop x.1) (lt.drop x.1) ∧ x.2.length ≤ s.length + Tm.sizes (l.take x.1)) (fun x => l.length - x.1) (0, s) ⟨by omega, rfl, by simp⟩ fgs ?_
    rintro ⟨k, s'⟩ ⟨hk, hm, hlen⟩
    simp only at hk hm hlen
    by_cases hkl : k < l.length
    · obtain ⟨x, hx⟩ := get_of_lt hkl
      obtain ⟨y, hy⟩ := get_of_lt (s := lt) (k := k) (by omega)
      have h1 := sizes_take_succ l k x hx
      have h2 := sizes_take_le l (k + 1)
      have hc := ih x (List.mem_of_getElem? hx) y s' (by omega)
      have hml := moreR_len x s' y
      rw [moresR_at hx hy] at hm
      generalize moreR s' x y = r at hc hm hml
      obtain ⟨r, b⟩ := r
      simp only at hc hm hml
      cases b
      · (refine wlk ?_)
        (refine wlC hc ?_)
        (refine wlk ?_)
        refine fin_wk (fun n => Wk.nilArr (d := 6) rfl) ?_
        (refine wfTT ?_)
        exact Xmo (r := ([], false)) hm.symm
      · (refine wlk ?_)
        (refine wlC hc ?_)
        (refine wlk ?_)
        exact ⟨(k + 1, r), ⟨by simp only; omega, hm, by simp only; omega⟩, fgs, by simp only; omega⟩
    · have : k = l.length := by omega
      subst this
      rw [List.drop_length, ← hl, List.drop_length] at hm
      (refine wlk ?_)
      (refine wfTT ?_)
      exact Xmo (r := (s', true)) (by rw [hm]; rfl)
end Go.Proofs.YtmanhdacnkpclaaGreat
namespace Go.Proofs.YtmanhdacnkpclaaGreat
set_option linter.all false
set_option maxRecDepth 1000000
set_option maxHeartbeats 32000000
open Go.RowKit
theorem cloneI (l : List Int) (hl : l.length ≤ 2000000000000) : FnD Tryz.prog 37 [lA Int.d l] (.one (.c (.own 3 1 (l.map Int.d)))) := by
  cases l with
  | nil =>
    refine FnD.ofNil 0 rfl fun a c hc => ?_
    refine Fn.of Tryz.func37 rfl Tryz.ntmps37 rfl (Nat.le_of_ble_eq_true rfl) ?_
    cases a with
    | none =>
      (refine wlk ?_)
      (refine SqA.b1 (op_bin rfl rfl rfl rfl (nvInt c)) rfl rfl ?_)
      (refine wlk ?_)
      refine fin_wk (fun n => Wk.nilOwn (d := 2) (E := 3) (m := 1) rfl) ?_
      refine finO (E := _) rfl ?_
      rfl
    | some a =>
      (refine wlk ?_)
      (refine SqA.b1 (op_bin rfl rfl rfl rfl (nqInt a 0 c)) rfl rfl ?_)
      (refine wlk ?_)
      (refine SqA.b3 (Op1.vaIn (t := 6) rfl hc (op_appT (f := Int.d) (l := []) (es := []) (rs := []) (T := TB) rfl rfl rfl rfl rfl rfl (by decide) (by decide))) rfl rfl ?_)
      (refine wlk ?_)
      refine finO (E := _) rfl ?_
      rfl
  | cons x l =>
    generalize hy : x :: l = y at *
    have hy0 : 0 < (y.map Int.d).length := by rw [← hy]; simp
    have hl1 : ([] : List Int) ++ y = y := rfl
    refine Fn.of Tryz.func37 rfl Tryz.ntmps37 rfl (Nat.le_of_ble_eq_true rfl) ?_
    (refine wlk ?_)
    (refine SqA.b1 (op_eqNil rfl rfl rfl rfl nqInt hy0) rfl rfl ?_)
    (refine wlk ?_)
    refine finO (E := _) rfl ?_
    rfl
theorem cloneT (l : List Tm) (hl : l.length ≤ 2000000000000) : FnD Tryz.prog 142 [lA Tm.d l] (.one (.c (.own 75 3 (l.map Tm.d)))) := by
  cases l with
  | nil =>
    refine FnD.ofNil 0 rfl fun a c hc => ?_
    refine Fn.of Tryz.func142 rfl Tryz.ntmps142 rfl (Nat.le_of_ble_eq_true rfl) ?_
    cases a with
    | none =>
      (refine wlk ?_)
      (refine SqA.b1 (op_bin rfl rfl rfl rfl (nvTm c)) rfl rfl ?_)
      (refine wlk ?_)
      refine fin_wk (fun n => Wk.nilOwn (d := 2) (E := 75) (m := 3) rfl) ?_
      refine finO (E := _) rfl ?_
      rfl
    | some a =>
      (refine wlk ?_)
      (refine SqA.b1 (op_bin rfl rfl rfl rfl (nqTm a 0 c)) rfl rfl ?_)
      (refine wlk ?_)
      (refine SqA.b3 (Op1.vaIn (t := 6) rfl hc (op_appT (f := Tm.d) (l := []) (es := []) (rs := []) (T := TB) rfl rfl rfl rfl rfl rfl (by decide) (by decide))) rfl rfl ?_)
      (refine wlk ?_)
      refine finO (E := _) rfl ?_
      rfl
  | cons x l =>
    generalize hy : x :: l = y at *
    have hy0 : 0 < (y.map Tm.d).length := by rw [← hy]; simp
    have hl1 : ([] : List Tm) ++ y = y := rfl
    refine Fn.of Tryz.func142 rfl Tryz.ntmps142 rfl (Nat.le_of_ble_eq_true rfl) ?_
    (refine wlk ?_)
    (refine SqA.b1 (op_eqNil rfl rfl rfl rfl nqTm hy0) rfl rfl ?_)
    (refine wlk ?_)
    refine finO (E := _) rfl ?_
    rfl
theorem cloneL (l : List Lt) (hl : l.length ≤ 1000000000) : FnD Tryz.prog 129 [lA Lt.d l] (.one (.c (.own 77 7 (l.map Lt.d)))) := by
  cases l with
  | nil =>
    refine FnD.ofNil 0 rfl fun a c hc => ?_
    refine Fn.of Tryz.func129 rfl Tryz.ntmps129 rfl (Nat.le_of_ble_eq_true rfl) ?_
    cases a with
    | none =>
      (refine wlk ?_)
      (refine SqA.b1 (op_bin rfl rfl rfl rfl (nvLt c)) rfl rfl ?_)
      (refine wlk ?_)
      refine fin_wk (fun n => Wk.nilOwn (d := 2) (E := 77) (m := 7) rfl) ?_
      refine finO (E := _) rfl ?_
      rfl
    | some a =>
      (refine wlk ?_)
      (refine SqA.b1 (op_bin rfl rfl rfl rfl (nqLt a 0 c)) rfl rfl ?_)
      (refine wlk ?_)
      (refine SqA.b3 (Op1.vaIn (t := 6) rfl hc (op_appT (f := Lt.d) (l := []) (es := []) (rs := []) (T := TB) rfl rfl rfl rfl rfl rfl (by decide) (by decide))) rfl rfl ?_)
      (refine wlk ?_)
      refine finO (E := _) rfl ?_
      rfl
  | cons x l =>
    generalize hy : x :: l = y at *
    have hy0 : 0 < (y.map Lt.d).length := by rw [← hy]; simp
    have hl1 : ([] : List Lt) ++ y = y := rfl
    refine Fn.of Tryz.func129 rfl Tryz.ntmps129 rfl (Nat.le_of_ble_eq_true rfl) ?_
    (refine wlk ?_)
    (refine SqA.b1 (op_eqNil rfl rfl rfl rfl nqLt hy0) rfl rfl ?_)
    (refine wlk ?_)
    refine finO (E := _) rfl ?_
    rfl
def idxG : Nat → List Int → Int → Int
  | _, [], _ => -1
  | i, x :: l, v => if v = x then (i : Int) else idxG (i + 1) l v
theorem idxG_at : ∀ {l : List Int} {i k : Nat} {v : Int}, (∀ j x, j < k → l[j]? = some x → v ≠ x) → l[k]? = some v → idxG i l v = ((i + k : Nat) : Int)
  | [], i, k, v, _, h => by simp at h
  | x :: l, i, 0, v, _, h => by simp at h; simp [idxG, h]
  | x :: l, i, k + 1, v, hno, h => by
    have h0 := hno 0 x (by omega) rfl
    have := idxG_at (l := l) (i := i + 1) (k := k) (v := v) (fun j y hj hy => hno (j + 1) y (by omega) (by simpa using hy)) (by simpa using h)
    simp only [idxG, if_neg h0]
    rw [this]
    congr 1; omega
theorem idxG_no : ∀ {l : List Int} {i : Nat} {v : Int}, (∀ x ∈ l, v ≠ x) → idxG i l v = -1
  | [], _, _, _ => rfl
  | x :: l, i, v, h => by
    simp only [idxG, if_neg (h x (by simp))]
    exact idxG_no fun y hy => h y (by simp [hy])
theorem idxG_mem : ∀ {l : List Int} {i : Nat} {v : Int}, v ∈ l → 0 ≤ idxG i l v
  | [], _, _, h => by cases h
  | x :: l, i, v, h => by
    simp only [idxG]
    split
    · omega
    · rename_i hne
      rcases List.mem_cons.1 h with h | h
      · exact absurd h hne
      · exact idxG_mem h
theorem cindexI (l : List Int) (v : Int) : FnD Tryz.prog 147 [lA Int.d l, iA v] (.one (iA (idxG 0 l v))) := by
  refine Fn.of Tryz.func147 rfl Tryz.ntmps147 rfl (Nat.le_of_ble_eq_true rfl) ?_
  refine dwp_len (t := 0) (ds := l.map Int.d) rfl fun hbl => ?_
  rw [List.length_map] at hbl
  (refine wlk ?_)
  refine dwp_loop (fun k : Nat => [(.t 0, some (.one (lA Int.d l))), (.t 1, some (.one (iA v))), (.t 7, some (.one (iA l.length))), (.t 8, some (.one (iA k)))])
    (fun k => k ≤ l.length ∧ ∀ j x, j < k → l[j]? = some x → v ≠ x) (fun k => l.length - k) 0 ⟨by omega, fun j x h => absurd h (by omega)⟩ fgs ?_
  rintro k ⟨hk, hno⟩
  by_cases hkl : k < l.length
  · obtain ⟨x, hx⟩ := get_of_lt hkl
    by_cases hxv : v = x
    · (refine wlk ?_)
      (refine wfT ?_)
      exact Xi (b := k) (by rw [idxG_at hno (hxv ▸ hx), Nat.zero_add])
    · (refine wlk ?_)
      exact ⟨k + 1, ⟨by omega, upto_succ hno hx hxv⟩, fgs, by omega⟩
  · have : k = l.length := by omega
    subst this
    (refine wlk ?_)
    (refine wfT ?_)
    exact Xi (b := -1) (by rw [idxG_no (any_upto hno)])
theorem ccontI (l : List Int) (v : Int) : FnD Tryz.prog 137 [lA Int.d l, iA v] (.one (bA (l.contains v))) := by
  refine Fn.of Tryz.func137 rfl Tryz.ntmps137 rfl (Nat.le_of_ble_eq_true rfl) ?_
  have hc := cindexI l v
  by_cases hm : v ∈ l
  · have h0 := idxG_mem (i := 0) hm
    (refine wlk ?_)
    (refine wlC hc ?_)
    (refine wlk ?_)
    (refine wfT ?_)
    exact Xb (b := true) (by simp [List.contains_iff_mem, hm])
  · have h0 := idxG_no (i := 0) (l := l) (v := v) fun x hx e => hm (e ▸ hx)
    (refine wlk ?_)
    (refine wlC hc ?_)
    (refine wlk ?_)
    (refine wfT ?_)
    exact Xb (b := false) (by simp [hm])
theorem pvars : ∀ (t : Tm) (l : List Int), l.length + t.size ≤ 2000000000000 → FnD Tryz.prog 114 [lA Int.d l, tA t] (.one (lA Int.d (vars l t))) := by
  refine Tm.ind ?_
  intro v n as_ ih l hsz
  refine Fn.of Tryz.func114 rfl Tryz.ntmps114 rfl (Nat.le_of_ble_eq_true rfl) ?_
  cases v
  case false =>
    simp only [Tm.size] at hsz
    have hll := sizes_len as_
    (refine wlk ?_)
    refine dwp_loop (fun k : Nat => [(.t 0, some (.one (lA Int.d (varss l (as_.take k))))), (.t 22, some (.one (lA Tm.d as_))), (.t 23, some (.one (iA as_.length))), (.t 24, some (.one (iA k)))])
      (fun k => k ≤ as_.length) (fun k => as_.length - k) 0 (by omega) fgs ?_
    intro k hk
    by_cases hkl : k < as_.length
    · obtain ⟨x, hx⟩ := get_of_lt hkl
      have h1 := varss_len l (as_.take k)
      have h2 := sizes_take_succ as_ k x hx
      have h3 := sizes_take_le as_ (k + 1)
      have e := varss_take (acc := l) hx
      (refine wlk ?_)
      (refine SqA.b1 (op_call none rfl rfl rfl (by kernel_rfl) (FnD.use (ih x (List.mem_of_getElem? hx) (varss l (as_.take k)) (by omega))) rfl rfl rfl rfl rfl rfl) rfl rfl ?_)
      rw [← e]
      (refine wlk ?_)
      exact ⟨k + 1, by omega, fgs, by omega⟩
    · have : k = as_.length := by omega
      subst this
      rw [List.take_length]
      (refine wlk ?_)
      (refine wfT ?_)
      exact Xl (f := Int.d) (b := varss l as_) (by simp [vars])
  case true =>
    have hc := ccontI l n
    by_cases hm : n ∈ l
    · rw [show l.contains n = true by simpa [List.contains_iff_mem] using hm] at hc
      (refine wlk ?_)
      (refine wlC hc ?_)
      (refine wlk ?_)
      (refine wfT ?_)
      exact Xl (f := Int.d) (b := l) (by simp only [vars]; rw [if_pos hm])
    · rw [show l.contains n = false by simp [hm]] at hc
      have hl2 : (l ++ [n]).length ≤ 2000000000000 := by simp [Tm.size] at hsz ⊢; omega
      (refine wlk ?_)
      (refine wlC hc ?_)
      (refine wlk ?_)
      (refine SqA.b1 (op_call none rfl rfl rfl (by kernel_rfl) (FnD.use (cloneI l (by simp [Tm.size] at hsz; omega))) rfl rfl rfl rfl rfl rfl) rfl rfl ?_)
      (refine wlk ?_)
      (refine SqA.b1 (op_bsT (T := TB) (f := Int.d) [n] rfl rfl rfl rfl rfl rfl rfl rfl rfl rfl rfl) rfl rfl ?_)
      (refine wlk ?_)
      refine fin_wk (fun n => Wk.freezeAt (d := 4) rfl) ?_
      (refine wfT ?_)
      exact Xl (f := Int.d) (b := l ++ [n]) (by simp only [vars]; rw [if_neg hm])
theorem clVars_snoc {c : List Lt} {k : Nat} {x : Lt} (acc : List Int) (h : c[k]? = some x) : clVars acc (c.take (k + 1)) = vars (vars (clVars acc (c.take k)) x.left) x.right := by
  rw [take_succ_of h, clVars_append]; rfl
def clSz (c : List Lt) : Prop := ∀ l ∈ c, l.left.size ≤ 1900000000000 ∧ l.right.size ≤ 1900000000000
theorem vars_few {t : Tm} (hk : t.okv = true) (ht : few t) {l : List Int} (hd : l.Nodup) (hl : ∀ v ∈ l, 0 ≤ v ∧ v ≤ 9) : (vars l t).Nodup ∧ ∀ v ∈ vars l t, 0 ≤ v ∧ v ≤ 9 := by
  have h1 := clVars_nodup [⟨false, t, ⟨false, 0, []⟩⟩] l hd
  have h2 : clVars l [⟨false, t, ⟨false, 0, []⟩⟩] = vars l t := by simp [clVars, vars, varss]
  rw [h2] at h1
  refine ⟨h1, fun v hv => ?_⟩
  rcases vars_sub v t l hv with h | h
  · exact hl v h
  · exact ht v h
theorem len_few {l : List Int} (hd : l.Nodup) (hl : ∀ v ∈ l, 0 ≤ v ∧ v ≤ 9) : l.length ≤ 10 := nodup_le 10 _ hd fun x hx => by have := hl x hx; omega
theorem clVars_few2 {c : List Lt} (hk : clOkv c) (hf : clFew c) : (clVars [] c).Nodup ∧ ∀ v ∈ clVars [] c, 0 ≤ v ∧ v ≤ 9 := ⟨clVars_nodup c [] List.nodup_nil, clVars_few hf⟩
theorem rclVars (c : List Lt) (hk : clOkv c) (hf : clFew c) (hz : clSz c) : FnD Tryz.prog 39 [lA Lt.d c] (.one (lA Int.d (clVars [] c))) := by
  refine Fn.of Tryz.func39 rfl Tryz.ntmps39 rfl (Nat.le_of_ble_eq_true rfl) ?_
  refine dwp_len (t := 0) (ds := c.map Lt.d) rfl fun hbl => ?_
  rw [List.length_map] at hbl
  (refine wlk ?_)
  refine dwp_loop (fun k : Nat => [(.t 3, some (.one (lA Int.d (clVars [] (c.take k))))), (.t 6, some (.one (lA Lt.d c))), (.t 7, some (.one (iA c.length))), (.t 8, some (.one (iA k)))])
    (fun k => k ≤ c.length) (fun k => c.length - k) 0 (by omega) ((Wk.nilArr (d := 3) rfl).trans fgs) ?_
  intro k hk'
  by_cases hkl : k < c.length
  · obtain ⟨⟨ng, xl, xr⟩, hx⟩ := get_of_lt hkl
    have hm := List.mem_of_getElem? hx
    have hkx := hk _ hm
    have hfx := hf _ hm
    have hzx := hz _ hm
    have hsn := clVars_snoc [] hx
    dsimp only at hkx hfx hzx hsn
    have g1 := clVars_few2 (c := c.take k) (fun l hl => hk l (List.mem_of_mem_take hl)) (fun l hl => hf l (List.mem_of_mem_take hl))
    have g2 := vars_few hkx.1 hfx.1 g1.1 g1.2
    have n1 := len_few g1.1 g1.2
    have n2 := len_few g2.1 g2.2
    have c1 := rvars xl (clVars [] (c.take k)) (by omega)
    have c2 := rvars xr (vars (clVars [] (c.take k)) xl) (by omega)
    rw [← hsn] at c2
    (refine wlk ?_)
    (refine wlC c1 ?_)
    (refine wlk ?_)
    (refine wlC c2 ?_)
    (refine wlk ?_)
    exact ⟨k + 1, by omega, fgs, by omega⟩
  · have : k = c.length := by omega
    subst this
    rw [List.take_length]
    (refine wlk ?_)
    (refine wfT ?_)
    rfl
theorem pclVars (c : List Lt) (hk : clOkv c) (hf : clFew c) (hz : clSz c) : FnD Tryz.prog 76 [lA Lt.d c] (.one (lA Int.d (clVars [] c))) := by
  refine Fn.of Tryz.func76 rfl Tryz.ntmps76 rfl (Nat.le_of_ble_eq_true rfl) ?_
  refine dwp_len (t := 0) (ds := c.map Lt.d) rfl fun hbl => ?_
  rw [List.length_map] at hbl
  (refine wlk ?_)
  refine dwp_loop (fun k : Nat => [(.t 3, some (.one (lA Int.d (clVars [] (c.take k))))), (.t 6, some (.one (lA Lt.d c))), (.t 7, some (.one (iA c.length))), (.t 8, some (.one (iA k)))])
    (fun k => k ≤ c.length) (fun k => c.length - k) 0 (by omega) ((Wk.nilArr (d := 3) rfl).trans fgs) ?_
  intro k hk'
  by_cases hkl : k < c.length
  · obtain ⟨⟨ng, xl, xr⟩, hx⟩ := get_of_lt hkl
    have hm := List.mem_of_getElem? hx
    have hkx := hk _ hm
    have hfx := hf _ hm
    have hzx := hz _ hm
    have hsn := clVars_snoc [] hx
    dsimp only at hkx hfx hzx hsn
    have g1 := clVars_few2 (c := c.take k) (fun l hl => hk l (List.mem_of_mem_take hl)) (fun l hl => hf l (List.mem_of_mem_take hl))
    have g2 := vars_few hkx.1 hfx.1 g1.1 g1.2
    have n1 := len_few g1.1 g1.2
    have n2 := len_few g2.1 g2.2
    have c1 := pvars xl (clVars [] (c.take k)) (by omega)
    have c2 := pvars xr (vars (clVars [] (c.take k)) xl) (by omega)
    rw [← hsn] at c2
    (refine wlk ?_)
    (refine wlC c1 ?_)
    (refine wlk ?_)
    (refine wlC c2 ?_)
    (refine wlk ?_)
    exact ⟨k + 1, by omega, fgs, by omega⟩
  · have : k = c.length := by omega
    subst this
    rw [List.take_length]
    (refine wlk ?_)
    (refine wfT ?_)
    rfl
theorem size_ren {k : Int} : ∀ t : Tm, (ren k t).size = t.size := by
  refine Tm.ind ?_
  intro v n l ih
  cases v
  · simp only [ren, Tm.size, rens_eq]
    congr 1
    have key : ∀ l : List Tm, (∀ a ∈ l, (ren k a).size = a.size) → Tm.sizes (l.map (ren k)) = Tm.sizes l := by
      intro l
      induction l with
      | nil => intro _; rfl
      | cons a l ih => intro h; simp only [List.map_cons, Tm.sizes, h a (by simp), ih fun b hb => h b (by simp [hb])]
    exact key l ih
  · rfl
theorem unifyF_inv {root : Tm} : ∀ (f : Nat) (s : List Pr) (todo : List (Tm × Tm)) (r : List Pr), UInv root s todo → unifyF f s todo = some r → UInv root r []
  | f, s, [], r, hi, h => by
    have : s = r := by cases f <;> simpa [unifyF] using h
    subst this; exact hi
  | 0, s, (a, b) :: todo, r, _, h => by simp [unifyF] at h
  | f + 1, s, (a, b) :: todo, r, hi, h => by
    have hab := hi.ok (a, b) (by simp)
    simp only [unifyF] at h
    split at h
    · cases h
    · rename_i s' todo' hst
      exact unifyF_inv f s' todo' r (hi.step (ustep_way (app_okv hi.idem.1 a hab.1) (app_okv hi.idem.1 b hab.2) hst)).1 h
theorem unify_len {a b : Tm} (ha : Old a) (hb : Old b) {r : List Pr} (h : unify a b = some r) : r.length ≤ 1000000 := by
  have := (unifyF_inv _ _ _ r (UInv.start ha hb) h).len_le
  omega
abbrev mdA (m : Md) : A1 := .agg [.val (.int .i64 m.size), .arr (m.tables.map Is.d)]
theorem pow_le {z : Int} (h1 : 1 ≤ z) (h8 : z ≤ 8) {j : Nat} (hj : j ≤ 2) : 1 ≤ z ^ j ∧ z ^ j ≤ 64 := by
  match j with
  | 0 => rw [Int.pow_zero]; omega
  | 1 => rw [show z ^ 1 = z by rw [Int.pow_succ, Int.pow_zero, Int.one_mul]]; omega
  | 2 =>
    have : z ^ 2 = z * z := by rw [Int.pow_succ, Int.pow_succ, Int.pow_zero, Int.one_mul]
    rw [this]
    have h := Int.mul_le_mul h8 h8 (by omega) (by omega)
    have h' := Int.mul_le_mul h1 h1 (by omega) (by omega)
    omega
  | j + 3 => omega
theorem tab_at {m : Md} {s : List Int} (hl : m.tables.length = s.length) {k : Nat} {n : Int} (h : s[k]? = some n) : m.tables[k]? = some (m.tables.getD (0 + k) []) := by
  have hk : k < m.tables.length := by rw [hl]; exact (List.getElem?_eq_some_iff.1 h).1
  rw [Nat.zero_add, List.getD_eq_getElem?_getD, List.getElem?_eq_getElem hk]; rfl
theorem any_bad {z : Int} {row : List Int} {k : Nat} {x : Int} (h : row[k]? = some x) (hx : x < 0 ∨ z ≤ x) : row.any (fun x => decide (x < 0 ∨ z ≤ x)) = true := List.any_eq_true.2 ⟨x, List.mem_of_getElem? h, decide_eq_true hx⟩
theorem any_good {z : Int} {row : List Int} (h : ∀ j x, j < row.length → row[j]? = some x → ¬ (x < 0 ∨ z ≤ x)) : row.any (fun x => decide (x < 0 ∨ z ≤ x)) = false := List.any_eq_false.2 fun x hx => by
  have := any_upto h x hx
  simpa only [decide_eq_true_eq] using this
theorem three_at {z n : Int} (h0 : 0 ≤ n) (h2 : n ≤ 2) : ([1, z, z * z] : List Int)[n.toNat]? = some (z ^ n.toNat) := by
  obtain ⟨k, rfl⟩ := Int.eq_ofNat_of_zero_le h0
  rw [Int.toNat_natCast]
  match k with
  | 0 => simp
  | 1 => simp only [List.getElem?_cons_succ, List.getElem?_cons_zero, Int.pow_succ, Int.pow_zero, Int.one_mul]
  | 2 => simp only [List.getElem?_cons_succ, List.getElem?_cons_zero, Int.pow_succ, Int.pow_zero, Int.one_mul]
  | k + 3 => omega
theorem rwrongModel (s : List Int) (hs : wrongSig s = 0) (m : Md) : FnD Tryz.prog 15 [lA Int.d s, mdA m] (.one (iA (wrongModel s m))) := by
  refine Fn.of Tryz.func15 rfl Tryz.ntmps15 rfl (Nat.le_of_ble_eq_true rfl) ?_
  obtain ⟨hsl1, hsl6⟩ := sig_len hs
  by_cases h1 : m.size < 1
  · (refine wlk ?_)
    (refine wfT ?_)
    exact Xi (b := 5) (by simp [wrongModel, h1])
  by_cases h8 : 8 < m.size
  · (refine wlk ?_)
    (refine wfT ?_)
    exact Xi (b := 5) (by simp [wrongModel, h8])
  by_cases hl : m.tables.length = s.length
  rotate_left
  · (refine wlk ?_)
    (refine wfT ?_)
    exact Xi (b := 5) (by simp [wrongModel, hl])
  have hwm : wrongModel s m = wrongRows m.size m.tables 0 s := by unfold wrongModel; rw [if_neg (by omega)]
  rw [hwm]
  have hzz := pow_le (z := m.size) (by omega) (by omega) (j := 2) (by omega)
  rw [show m.size ^ 2 = m.size * m.size by rw [Int.pow_succ, Int.pow_succ, Int.pow_zero, Int.one_mul]] at hzz
  (refine wlk ?_)
  refine dwp_loop (fun k : Nat => [(.t 3, some (.one (.c (.ptr 3 0)))), (.b 3, some (.box (mdA m).cells)), (.t 25, some (.one (lA Int.d s))), (.t 26, some (.one (iA s.length))), (.t 27, some (.one (iA k)))])
    (fun k => k ≤ s.length ∧ ∀ j n, j < k → s[j]? = some n → wrongRow m.size (m.tables.getD (0 + j) []) n = 0) (fun k => s.length - k) 0 ⟨by omega, fun j n h => absurd h (by omega)⟩ fgs ?_
  rintro k ⟨hk, hno⟩
  by_cases hkl : k < s.length
  · obtain ⟨n, hn⟩ := get_of_lt hkl
    have hrow := tab_at hl hn
    generalize hr : m.tables.getD (0 + k) [] = row at hrow
    have hnn := sig_at hs hn
    have h3 := three_at (z := m.size) hnn.1 hnn.2
    have hnt : n = (n.toNat : Int) := by omega
    by_cases hrl : (row.length : Int) = m.size ^ n.toNat
    rotate_left
    · (refine wlk ?_)
      (refine SqA.b1 (op_bsT (T := TB) (f := Int.d) [1, m.size, m.size * m.size] rfl rfl rfl rfl rfl rfl rfl rfl rfl rfl rfl) rfl rfl ?_)
      (refine wlk ?_)
      (refine wfT ?_)
      have hw : wrongRow m.size (m.tables.getD (0 + k) []) n = 5 := by rw [hr]; unfold wrongRow want; rw [if_pos hrl]
      exact Xi (b := 5) (by rw [wrongRows_no hno hn (by rw [hw]; decide), hw])
    have hpl := pow_le (z := m.size) (by omega) (by omega) (j := n.toNat) (by omega)
    (refine wlk ?_)
    (refine SqA.b1 (op_bsT (T := TB) (f := Int.d) [1, m.size, m.size * m.size] rfl rfl rfl rfl rfl rfl rfl rfl rfl rfl rfl) rfl rfl ?_)
    (refine wlk ?_)
    refine dwp_loop (fun i : Nat => [(.t 3, some (.one (.c (.ptr 3 0)))), (.b 3, some (.box (mdA m).cells)), (.t 25, some (.one (lA Int.d s))), (.t 26, some (.one (iA s.length))), (.t 27, some (.one (iA k))), (.t 54, some (.one (lA Int.d row))), (.t 55, some (.one (iA row.length))), (.t 56, some (.one (iA i)))])
      (fun i => i ≤ row.length ∧ ∀ j x, j < i → row[j]? = some x → ¬ (x < 0 ∨ m.size ≤ x)) (fun i => row.length - i) 0 ⟨by omega, fun j x h => absurd h (by omega)⟩ fgs ?_
    rintro i ⟨hi, hok⟩
    by_cases hil : i < row.length
    · obtain ⟨x, hx⟩ := get_of_lt hil
      have hbad : (x < 0 ∨ m.size ≤ x) → wrongRow m.size (m.tables.getD (0 + k) []) n = 3 := fun hb => by
        rw [hr]; unfold wrongRow want; rw [if_neg (by simp [hrl]), if_pos (any_bad hx hb)]
      by_cases hx0 : x < 0
      · (refine wlk ?_)
        (refine wfT ?_)
        exact Xi (b := 3) (by rw [wrongRows_no hno hn (by rw [hbad (.inl hx0)]; decide), hbad (.inl hx0)])
      by_cases hxz : m.size ≤ x
      · (refine wlk ?_)
        (refine wfT ?_)
        exact Xi (b := 3) (by rw [wrongRows_no hno hn (by rw [hbad (.inr hxz)]; decide), hbad (.inr hxz)])
      (refine wlk ?_)
      exact ⟨i + 1, ⟨by omega, upto_succ hok hx (by omega)⟩, fgs, by omega⟩
    · have : i = row.length := by omega
      subst this
      have hw : wrongRow m.size (m.tables.getD (0 + k) []) n = 0 := by
        rw [hr]; unfold wrongRow want; rw [if_neg (by simp [hrl]), any_good hok]; rfl
      (refine wlk ?_)
      exact ⟨k + 1, ⟨by omega, upto_succI hno hn hw⟩, fgs, by omega⟩
  · have : k = s.length := by omega
    subst this
    (refine wlk ?_)
    (refine wfT ?_)
    exact Xi (b := 0) (wrongRows_yes hno).symm
theorem wfs_take {s : List Int} {l : List Tm} (h : Tm.wfs s l = true) (k : Nat) : Tm.wfs s (l.take k) = true := Tm.wfs_iff.2 fun t ht => (Tm.wfs_iff.1 h) t (List.mem_of_mem_take ht)
theorem mul_le {w z : Int} (h0 : 0 ≤ w) (h1 : w ≤ 64) (g0 : 1 ≤ z) (g1 : z ≤ 8) : 0 ≤ w * z ∧ w * z ≤ 512 := by
  have h := Int.mul_le_mul h1 g1 (by omega) (by omega)
  have h' := Int.mul_nonneg h0 (show 0 ≤ z by omega)
  omega
theorem row_at {row : List Int} {v : Int} (h0 : 0 ≤ v) (h1 : v < row.length) : row[v.toNat]? = some (row.getD v.toNat 0) := by
  have hlt : v.toNat < row.length := by omega
  rw [List.getD_eq_getElem?_getD, List.getElem?_eq_getElem hlt]; rfl
theorem rvalue {s : List Int} {m : Md} {env : List Int} (hm : MOk s m) (he : EOk m env) (hs : wrongSig s = 0) : ∀ t : Tm, t.wf s = true → FnD Tryz.prog 72 [mdA m, lA Int.d env, tA t] (.one (iA (value m env t))) := by
  refine Tm.ind ?_
  intro v n l ih hw
  refine Fn.of Tryz.func72 rfl Tryz.ntmps72 rfl (Nat.le_of_ble_eq_true rfl) ?_
  have hel := he.len
  have hm1 := hm.one
  have hm8 := hm.eight
  cases v
  case true =>
    simp only [Tm.wf, Bool.and_eq_true, decide_eq_true_eq] at hw
    have hx : env[n.toNat]? = some (env.getD n.toNat 0) := by
      have hlt : n.toNat < env.length := by omega
      rw [List.getD_eq_getElem?_getD, List.getElem?_eq_getElem hlt]; rfl
    have hnt : (Tm.mk true n l).n = (n.toNat : Int) := by show n = _; omega
    (refine wlk ?_)
    (refine wfT ?_)
    exact Xi (b := env.getD n.toNat 0) (by simp only [value])
  case false =>
    simp only [Tm.wf, Bool.and_eq_true, decide_eq_true_eq] at hw
    obtain ⟨⟨⟨h0, h1⟩, h2⟩, h3⟩ := hw
    have hsn : s[n.toNat]? = some (s.getD n.toNat 0) := by
      have hlt : n.toNat < s.length := by omega
      rw [List.getD_eq_getElem?_getD, List.getElem?_eq_getElem hlt]; rfl
    have hn2 := sig_at hs hsn
    have hl2 : l.length ≤ 2 := by omega
    have hrw := hm.row n.toNat _ hsn
    have hrow := tab_at hm.len hsn
    rw [Nat.zero_add] at hrow
    obtain ⟨hrl, hrx⟩ := hrw
    generalize hr : m.tables.getD n.toNat [] = row at hrow hrl hrx
    have hvs := values_ok hm he l h3 0 0 (by omega) (by simp)
    have hnt : (Tm.mk false n l).n = (n.toNat : Int) := by show n = _; omega
    (refine wlk ?_)
    refine dwp_loop (fun k : Nat => [(.t 1, some (.one (lA Int.d env))), (.t 3, some (.one (.c (.ptr 3 0)))), (.b 3, some (.box (mdA m).cells)), (.t 5, some (.one (.c (.ptr 5 0)))), (.b 5, some (.box (tA ⟨false, n, l⟩).cells)),
        (.t 7, some (.one (iA (values m env 0 (l.take k))))), (.t 18, some (.one (lA Tm.d l))), (.t 19, some (.one (iA l.length))), (.t 20, some (.one (iA k)))])
      (fun k => k ≤ l.length) (fun k => l.length - k) 0 (by omega) fgs ?_
    intro k hk
    by_cases hkl : k < l.length
    · obtain ⟨x, hx⟩ := get_of_lt hkl
      have hxw : x.wf s = true := (Tm.wfs_iff.1 h3) x (List.mem_of_getElem? hx)
      have hc := ih x (List.mem_of_getElem? hx) hxw
      have hv := value_ok hm he x hxw
      have hsn2 : values m env 0 (l.take (k + 1)) = m.size * values m env 0 (l.take k) + value m env x := by
        rw [take_succ_of hx, values_snoc]
        first | done | rw [Int.mul_comm]
      have hwk := values_ok hm he (l.take k) (wfs_take h3 k) 0 0 (by omega) (by simp)
      have hpk := pow_le hm1 hm8 (j := 0 + (l.take k).length) (by rw [List.length_take]; omega)
      have hq0 := mul_le (w := values m env 0 (l.take k)) (z := m.size) hwk.1 (by omega) hm1 hm8
      have hq : 0 ≤ m.size * values m env 0 (l.take k) ∧ m.size * values m env 0 (l.take k) ≤ 512 := by first | exact hq0 | (rw [Int.mul_comm]; exact hq0)
      (refine wlk ?_)
      (refine wlC hc ?_)
      (refine wlk ?_)
      refine ⟨k + 1, by omega, ?_, by omega⟩
      rw [hsn2]
      exact fgs
    · have : k = l.length := by omega
      subst this
      rw [List.take_length]
      have hpl := pow_le hm1 hm8 (j := 0 + l.length) (by omega)
      have hrl2 : values m env 0 l < row.length := by
        rw [hrl]
        unfold want
        have : (s.getD n.toNat 0).toNat = 0 + l.length := by omega
        rw [this]; exact hvs.2
      have hat := row_at hvs.1 hrl2
      have hvt : values m env 0 l = ((values m env 0 l).toNat : Int) := by omega
      (refine wlk ?_)
      (refine wfT ?_)
      exact Xi (b := row.getD (values m env 0 l).toNat 0) (by simp only [value, hr])
end Go.Proofs.YtmanhdacnkpclaaGreat
namespace Go.Proofs.YtmanhdacnkpclaaGreat
set_option linter.all false
set_option maxRecDepth 1000000
set_option maxHeartbeats 32000000
def loopE (g : Nat → List Int → Bool × List Int) : Nat → Nat → List Int → Bool × List Int
  | 0, _, e => (true, e)
  | r + 1, x, e => if (g x e).1 = true then loopE g r (x + 1) (g x e).2 else (false, (g x e).2)
def walkE (m : Md) (c : List Lt) : List Int → List Int → Bool × List Int
  | [], e => (some_ m e c, e)
  | v :: vs, e => loopE (fun x e => walkE m c vs (e.set v.toNat (x : Int))) m.size.toNat 0 e
theorem loopE_keep {R : List Int → List Int → Prop} (h0 : ∀ e, R e e) (ht : ∀ a b c, R a b → R b c → R a c) {g : Nat → List Int → Bool × List Int} : ∀ (r x : Nat) (e : List Int), (∀ x' e, x' < x + r → R e (g x' e).2) → R e (loopE g r x e).2
  | 0, x, e, _ => h0 e
  | r + 1, x, e, hg => by
    simp only [loopE]
    split
    · exact ht _ _ _ (hg x e (by omega)) (loopE_keep h0 ht r (x + 1) _ fun x' e h => hg x' e (by omega))
    · exact hg x e (by omega)
def OutE (vs e e' : List Int) : Prop := e'.length = e.length ∧ ∀ j : Nat, (∀ v ∈ vs, v.toNat ≠ j) → e'[j]? = e[j]?
theorem OutE.refl {vs e : List Int} : OutE vs e e := ⟨rfl, fun _ _ => rfl⟩
theorem OutE.trans {vs a b c : List Int} (h : OutE vs a b) (h' : OutE vs b c) : OutE vs a c := ⟨h'.1.trans h.1, fun j hj => (h'.2 j hj).trans (h.2 j hj)⟩
theorem OutE.set {v : Int} {vs e : List Int} {x : Int} : OutE (v :: vs) e (e.set v.toNat x) := ⟨by simp, fun j hj => by rw [List.getElem?_set_ne (hj v (by simp))]⟩
theorem OutE.more {v : Int} {vs e e' : List Int} (h : OutE vs e e') : OutE (v :: vs) e e' := ⟨h.1, fun j hj => h.2 j fun u hu => hj u (by simp [hu])⟩
theorem walkE_out {m : Md} {c : List Lt} : ∀ (vs e : List Int), OutE vs e (walkE m c vs e).2
  | [], e => OutE.refl
  | v :: vs, e => by
    simp only [walkE]
    exact loopE_keep (R := OutE (v :: vs)) (fun _ => OutE.refl) (fun _ _ _ => OutE.trans) _ _ _ fun x e _ => OutE.set.trans (walkE_out vs _).more
def dgE1 (z : Nat) (p : Nat × List Int) (v : Int) : Nat × List Int := (p.1 / z, p.2.set v.toNat ((p.1 % z : Nat) : Int))
def dgE (z : Nat) (vs : List Int) (p : Nat × List Int) : Nat × List Int := vs.foldl (dgE1 z) p
theorem dgE_snoc {z : Nat} {vs : List Int} {k : Nat} {v : Int} {p : Nat × List Int} (h : vs[k]? = some v) : dgE z (vs.take (k + 1)) p = dgE1 z (dgE z (vs.take k) p) v := by
  rw [take_succ_of h]
  simp only [dgE, List.foldl_append, List.foldl_cons, List.foldl_nil]
theorem dgE_len {z : Nat} : ∀ (vs : List Int) (p : Nat × List Int), (dgE z vs p).2.length = p.2.length
  | [], _ => rfl
  | v :: vs, p => by
    have := dgE_len (z := z) vs (dgE1 z p v)
    simp only [dgE, List.foldl_cons] at this ⊢
    rw [this]; simp [dgE1]
theorem dgE_le {z : Nat} : ∀ (vs : List Int) (p : Nat × List Int), (dgE z vs p).1 ≤ p.1
  | [], _ => Nat.le_refl _
  | v :: vs, p => by
    have := dgE_le (z := z) vs (dgE1 z p v)
    simp only [dgE, List.foldl_cons] at this ⊢
    exact Nat.le_trans this (Nat.div_le_self _ _)
theorem dgE_ok {m : Md} {z : Nat} (hz : (z : Int) = m.size) (h1 : 1 ≤ z) : ∀ (vs : List Int) (p : Nat × List Int), EOk m p.2 → EOk m (dgE z vs p).2
  | [], _, h => h
  | v :: vs, p, h => by
    simp only [dgE, List.foldl_cons]
    refine dgE_ok hz h1 vs (dgE1 z p v) ?_
    have := Nat.mod_lt p.1 (show 0 < z by omega)
    exact h.set (by omega) (by omega)
theorem dgE_all {m : Md} {c : List Lt} {z : Nat} (hz : m.size.toNat = z) (h1 : 1 ≤ z) : ∀ (vs e : List Int), allE m c e vs = true ↔ ∀ n, n < z ^ vs.length → some_ m (dgE z vs (n, e)).2 c = true
  | [], e => by
    simp only [allE, List.length_nil, Nat.pow_zero, dgE, List.foldl_nil]
    exact ⟨fun h n _ => h, fun h => h 0 (by omega)⟩
  | v :: vs, e => by
    simp only [allE, List.all_eq_true, List.mem_range, hz, List.length_cons]
    have e1 : z ^ (vs.length + 1) = z * z ^ vs.length := by rw [Nat.pow_succ, Nat.mul_comm]
    have ih := fun e => dgE_all (c := c) hz h1 vs e
    constructor
    · intro h n hn
      rw [e1] at hn
      exact (ih _).1 (h (n % z) (Nat.mod_lt _ (by omega))) (n / z) (Nat.div_lt_of_lt_mul hn)
    · intro h x hx
      refine (ih _).2 fun n hn => ?_
      have h2 : z * n + x < z * z ^ vs.length := by
        have := Nat.mul_le_mul_left z (show n + 1 ≤ z ^ vs.length by omega)
        rw [Nat.mul_add, Nat.mul_one] at this; omega
      have h3 := h (z * n + x) (by rw [e1]; exact h2)
      have h4 : (z * n + x) / z = n := by rw [Nat.mul_add_div (by omega), Nat.div_eq_of_lt hx, Nat.add_zero]
      have h5 : (z * n + x) % z = x := by rw [Nat.mul_add_mod, Nat.mod_eq_of_lt hx]
      simp only [dgE, List.foldl_cons, dgE1, h4, h5] at h3 ⊢
      exact h3
theorem clVars_five {s : List Int} {c : List Lt} (h : clWf s c) : (clVars [] c).length ≤ 5 := nodup_le 5 _ (clVars_nodup c [] List.nodup_nil) fun x hx => by
  have := clVars_range h x hx; omega
theorem some_no {m : Md} {env : List Int} {c : List Lt} {k : Nat} {l : Lt} (h : c[k]? = some l) (hl : lit m env l = true) : some_ m env c = true := List.any_eq_true.2 ⟨l, List.mem_of_getElem? h, hl⟩
end Go.Proofs.YtmanhdacnkpclaaGreat
