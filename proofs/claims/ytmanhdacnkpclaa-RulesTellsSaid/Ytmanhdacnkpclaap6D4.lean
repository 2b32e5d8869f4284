/- What functions do: bindings. -/
import Derived.Test.Ytmanhdacnkpclaap6D3
import Derived.Test.Ytmanhdacnkpclaap6Ba
import Derived.Test.Ytmanhdacnkpclaap6Pb1
import Derived.Test.Ytmanhdacnkpclaap6Pa1
namespace Go.Proofs.Ytmanhdacnkpclaa
set_option linter.all false
open Go.RowKit

section
variable {P : Program} {n : Nat} {dr : Bool} {ops : Array Oper} {o : Oper} {os : List Oper} {i : Info} {acc : List Info} {σ : St} {K : St → Prop}
theorem SqA.b3 {e e' e'' : Key × Option X} (h : Op1 P n o i σ [e, e', e'']) (hg : guardIs ops o σ = some true) (hal : i.al.all (fun j => nomem j (St.ids σ)) = true) (hk : SqA P n dr ops os (⟨guardKeys ops o ++ i.rd, i.wr, i.al⟩ :: acc) (e :: e' :: e'' :: σ) K) : SqA P n dr ops (o :: os) acc σ K := .goG h hg hal hk
end
theorem mem_vars {v : Int} {t : Tm} (ht : t.okv = true) : v ∈ vars [] t ↔ times v t ≠ 0 := by
  constructor
  · intro h
    rcases vars_sub v t [] h with h | h
    · cases h
    · exact h
  · intro h; exact (times_mem v t [] ht h).1
set_option maxRecDepth 100000 in
theorem rin (v : Int) (t : Tm) (ht : t.okv = true) (hsz : t.size ≤ 2000000000000) : FnD Try.prog 133 [iA v, tA t] (.one (bA (decide (times v t ≠ 0)))) := by
  refine Fn.of Try.func133 rfl Try.ntmps133 rfl (Nat.le_of_ble_eq_true rfl) ?_
  have hv := FnD.nil (rvars t [] (by simpa using hsz)) 0 rfl
  have hm := mem_vars (v := v) ht
  have hvl := vars_len [] t
  generalize vars [] t = l at hv hm hvl
  simp only [List.length_nil] at hvl
  (refine wlk ?_)
  (refine SqA.b1 (op_call none rfl rfl rfl (by kernel_rfl) (FnD.use (hv)) rfl rfl rfl rfl rfl rfl) rfl rfl ?_)
  (refine wlk ?_)
  refine dwp_loop (fun k : Nat => [(.t 0, some (.one (iA v))), (.t 8, some (.one (lA Int.d l))), (.t 9, some (.one (iA l.length))), (.t 10, some (.one (iA k)))])
    (fun k => k ≤ l.length ∧ ∀ j x, j < k → l[j]? = some x → x ≠ v) (fun k => l.length - k) 0 ⟨by omega, fun j x h => absurd h (by omega)⟩ fgs ?_
  rintro k ⟨hk, hno⟩
  by_cases hkl : k < l.length
  · obtain ⟨x, hx⟩ := get_of_lt hkl
    by_cases hxv : x = v
    · (refine wlk ?_)
      (first | (refine finR (.tmp rfl .nil) rfl rfl ?_) | (refine finN (.tmp rfl .nil) rfl rfl ?_))
      exact Xb (b := true) (decide_eq_true (hm.1 (hxv ▸ List.mem_of_getElem? hx))).symm
    · (refine wlk ?_)
      exact ⟨k + 1, ⟨by omega, upto_succ hno hx hxv⟩, fgs, by omega⟩
  · have : k = l.length := by omega
    subst this
    (refine wlk ?_)
    (first | (refine finR (.tmp rfl .nil) rfl rfl ?_) | (refine finN (.tmp rfl .nil) rfl rfl ?_))
    exact Xb (b := false) (decide_eq_false fun h => any_upto hno v (hm.2 h) rfl).symm

set_option maxHeartbeats 4000000 in
set_option maxRecDepth 100000 in
theorem rrename (k : Int) (hk0 : 0 ≤ k) (hk1 : k ≤ 1000) : ∀ t : Tm, t.okv = true → t.size ≤ 2000000000000 → FnD Try.prog 40 [tA t, iA k] (.one (tA (ren k t))) := by
  refine Tm.ind ?_
  intro v n l ih hok hsz
  refine Fn.of Try.func40 rfl Try.ntmps40 rfl (Nat.le_of_ble_eq_true rfl) ?_
  cases v
  case true =>
    simp only [Tm.okv, Bool.and_eq_true, decide_eq_true_eq] at hok
    have h0 : (0 : Int) ≤ (Tm.mk true n l).n := hok.1.2
    have h1 : (Tm.mk true n l).n ≤ 1000000 := hok.2
    (refine wlk ?_)
    (first | (refine finR (.cellN rfl rfl (rw_of rfl) rfl rfl .nil) rfl rfl ?_) | (refine finN (.cellN rfl rfl (rw_of rfl) rfl rfl .nil) rfl rfl ?_))
    exact rfl
  case false =>
    simp only [Tm.okv] at hok
    have hll := sizes_len l
    simp only [Tm.size] at hsz
    (refine wlk ?_)
    refine dwp_loop (fun m : Nat => [(.t 1, some (.one (iA k))), (.t 4, some (.one (.c (.ptr 4 0)))), (.b 4, some (.box [.val (.bool false), .val (.int .i64 0), .val (.slice none 0 0)])), (.t 5, some (.one (.c (.ptr 5 0)))), (.b 5, some (.box [.val (.bool false), .val (.int .i64 n), .own 26 3 (((l.take m).map (ren k)).map Tm.d)])),
      (.t 21, some (.one (lA Tm.d l))), (.t 22, some (.one (iA l.length))), (.t 23, some (.one (iA m)))])
      (fun m => m ≤ l.length) (fun m => l.length - m) 0 (by omega) ((Wk.nilOwnB (j := 5) (q := 2) (E := 26) (m := 3) rfl rfl rfl).trans fgs) ?_
    intro m hm
    by_cases hml : m < l.length
    · obtain ⟨x, hx⟩ := get_of_lt hml
      have hsn := snoc (ren k) hx
      have hxs := size_at hx
      (refine wlk ?_)
      (refine SqA.b1 (op_call none rfl rfl rfl (by kernel_rfl) (FnD.use (ih x (List.mem_of_getElem? hx) (okvs_at hok hx) (by omega))) rfl rfl rfl rfl rfl rfl) rfl rfl ?_)
      (refine wlk ?_)
      (refine SqA.b1 (op_bsT (T := TB) (f := Tm.d) [ren k x] rfl rfl rfl rfl rfl rfl rfl rfl rfl rfl rfl) rfl rfl ?_)
      (refine wlk ?_)
      exact ⟨m + 1, by omega, fgs, by omega⟩
    · have : m = l.length := by omega
      subst this
      refine dwp_wk (Wk.freezeB (j := 5) (q := 2) rfl rfl rfl) ?_
      (refine wlk ?_)
      (first | (refine finR (.cellN rfl rfl (rw_of rfl) rfl rfl .nil) rfl rfl ?_) | (refine finN (.cellN rfl rfl (rw_of rfl) rfl rfl .nil) rfl rfl ?_))
      exact Xt (b := ⟨false, n, (l.take l.length).map (ren k)⟩) (by simp [ren, rens_eq])

def resU : Option (List Pr) → List A1
  | some r => [lA Pr.d r, bA true]
  | none => [lA Pr.d [], bA false]
theorem Xu {r r' : Option (List Pr)} (h : r = r') : (.tup (resU r) : X) = .tup (resU r') := by rw [h]
theorem bound_snoc {s : List Pr} {k : Nat} {p : Pr} {v : Int} {y : Tm} (h : s[k]? = some p) : (s.take k).map (fun p => (p.1, app [(v, y)] p.2)) ++ [(p.1, app [(v, y)] p.2)] = (s.take (k + 1)).map (fun p => ((p.1, app [(v, y)] p.2) : Pr)) := snoc (fun p => ((p.1, app [(v, y)] p.2) : Pr)) h
set_option maxHeartbeats 16000000 in
set_option maxRecDepth 100000 in
theorem rsolve {root : Tm} : ∀ (f : Nat) (s : List Pr) (todo : List (Tm × Tm)), UInv root s todo → muU s todo ≤ f →
    FnD Try.prog 94 [lA Pr.d s, lA Tm.d (todo.map Prod.fst), lA Tm.d (todo.map Prod.snd)] (.tup (resU (unifyF f s todo)))
  | f, s, [], hi, hf => by
    refine Fn.of Try.func94 rfl Try.ntmps94 rfl (Nat.le_of_ble_eq_true rfl) ?_
    have h0 : (([] : List (Tm × Tm)).map Prod.fst).length = 0 := rfl
    (refine wlk ?_)
    (first | (refine finR (.tmp rfl (.tmp rfl .nil)) rfl rfl ?_) | (refine finN (.tmp rfl (.tmp rfl .nil)) rfl rfl ?_))
    exact Xu (r := some s) (by cases f <;> rfl)
  | 0, s, (a, b) :: todo, hi, hf => by
    have h1 : 1 ≤ wt (fun _ => 1) (app s a) := by rw [size_wt hi.idem.1 (hi.ok (a, b) (by simp)).1]; exact size_pos _
    simp only [muU, sumU, List.map_cons, List.sum_cons] at hf
    omega
  | f + 1, s, (a, b) :: todo, hi, hf => by
    have ih := rsolve (root := root) f
    have hB := bigU_eq
    obtain ⟨⟨z1, z2⟩, z3, z4⟩ := hi.esize (e := (a, b)) (by simp)
    have hps := fun p (hp : p ∈ s) => hi.psize hp
    have hsl := hi.len_le
    have htl := hi.todo_le
    have hab := hi.ok (a, b) (by simp)
    have ka := app_okv hi.idem.1 a hab.1
    have kb := app_okv hi.idem.1 b hab.2
    have hstep : ∀ s' todo', UWay s a b todo s' todo' → FnD Try.prog 94 [lA Pr.d s', lA Tm.d (todo'.map Prod.fst), lA Tm.d (todo'.map Prod.snd)] (.tup (resU (unifyF f s' todo'))) := fun s' todo' hw => by
      obtain ⟨g1, g2⟩ := hi.step hw
      exact ih s' todo' g1 (by omega)
    have hbig : ∀ s' todo', UWay s a b todo s' todo' → todo'.length ≤ bigU := fun s' todo' hw => (hi.step hw).1.todo_le
    have capx := ap s (by omega) a (by simp only at z1; omega)
    have capy := ap s (by omega) b (by simp only at z2; omega)
    have hu : unifyF (f + 1) s ((a, b) :: todo) = match ustep s a b todo with | none => none | some (s', todo') => unifyF f s' todo' := by
      simp only [unifyF]
      cases ustep s a b todo <;> rfl
    have hway := fun s' todo' => ustep_way (todo := todo) (todo' := todo') (s' := s') ka kb
    rw [hu]
    have hus : ustep s a b todo = (if (app s a).same (app s b) then some (s, todo)
      else if (app s a).var then (if times (app s a).n (app s b) ≠ 0 then none else some (bound s (app s a).n (app s b), todo))
      else if (app s b).var then (if times (app s b).n (app s a) ≠ 0 then none else some (bound s (app s b).n (app s a), todo))
      else if (app s a).n ≠ (app s b).n ∨ (app s a).args.length ≠ (app s b).args.length then none
      else some (s, (app s a).args.zip (app s b).args ++ todo)) := rfl
    rw [hus] at hway ⊢
    simp only [List.length_cons] at htl
    simp only at z1 z2 z3 z4
    clear hu hus ih
    generalize app s a = x at *
    generalize app s b = y at *
    refine Fn.of Try.func94 rfl Try.ntmps94 rfl (Nat.le_of_ble_eq_true rfl) ?_
    have e1 : (((a, b) :: todo).map Prod.fst)[0]? = some a := rfl
    have e2 : (((a, b) :: todo).map Prod.snd)[0]? = some b := rfl
    have e3 : (((a, b) :: todo).map Prod.fst).length = todo.length + 1 := by simp
    have e4 : (((a, b) :: todo).map Prod.snd).length = todo.length + 1 := by simp
    have e5 : 1 ≤ (((a, b) :: todo).map Prod.fst).length := by simp
    have e6 : 1 ≤ (((a, b) :: todo).map Prod.snd).length := by simp
    have csame := rsame x y
    have zl1 := sizes_len x.args
    have zl2 := sizes_len y.args
    have zs1 : x.size = 1 + Tm.sizes x.args := by cases x; rfl
    have zs2 : y.size = 1 + Tm.sizes y.args := by cases y; rfl
    cases hxy : x.same y
    rotate_left
    · rw [hxy] at csame
      have hw := hway s todo (by simp [hxy])
      have hc := hstep _ _ hw
      (refine wlk ?_)
      (refine SqA.b1 (op_call none rfl rfl rfl (by kernel_rfl) (FnD.use (capx)) rfl rfl rfl rfl rfl rfl) rfl rfl ?_)
      (refine wlk ?_)
      (refine SqA.b1 (op_call none rfl rfl rfl (by kernel_rfl) (FnD.use (capy)) rfl rfl rfl rfl rfl rfl) rfl rfl ?_)
      (refine wlk ?_)
      (refine SqA.b1 (op_call none rfl rfl rfl (by kernel_rfl) (FnD.use (csame)) rfl rfl rfl rfl rfl rfl) rfl rfl ?_)
      (refine wlk ?_)
      simp only [if_true]
      generalize unifyF f s todo = r at hc
      cases r <;> ((refine SqA.b1 (op_call none rfl rfl rfl (by kernel_rfl) (FnD.use (hc)) rfl rfl rfl rfl rfl rfl) rfl rfl ?_); (refine wlk ?_); (first | (refine finR (.tmp rfl (.tmp rfl .nil)) rfl rfl ?_) | (refine finN (.tmp rfl (.tmp rfl .nil)) rfl rfl ?_)); exact rfl)
    rw [hxy] at csame
    simp only [hxy, Bool.false_eq_true, if_false] at hway ⊢
    obtain ⟨vx, nx, lx⟩ := x
    obtain ⟨vy, ny, ly⟩ := y
    simp only at *
    cases vx
    · cases vy
      · -- two symbols
        simp only [Bool.false_eq_true, if_false] at hway ⊢
        by_cases hn : nx = ny
        rotate_left
        · rw [if_pos (.inl hn)]
          (refine wlk ?_)
          (refine SqA.b1 (op_call none rfl rfl rfl (by kernel_rfl) (FnD.use (capx)) rfl rfl rfl rfl rfl rfl) rfl rfl ?_)
          (refine wlk ?_)
          (refine SqA.b1 (op_call none rfl rfl rfl (by kernel_rfl) (FnD.use (capy)) rfl rfl rfl rfl rfl rfl) rfl rfl ?_)
          (refine wlk ?_)
          (refine SqA.b1 (op_call none rfl rfl rfl (by kernel_rfl) (FnD.use (csame)) rfl rfl rfl rfl rfl rfl) rfl rfl ?_)
          (refine wlk ?_)
          refine fin_wk (fun n => Wk.nilArr (d := 6) rfl) ?_
          (first | (refine finR (.tmp rfl (.tmp rfl .nil)) rfl rfl ?_) | (refine finN (.tmp rfl (.tmp rfl .nil)) rfl rfl ?_))
          exact rfl
        by_cases hl : lx.length = ly.length
        rotate_left
        · rw [if_pos (.inr hl)]
          (refine wlk ?_)
          (refine SqA.b1 (op_call none rfl rfl rfl (by kernel_rfl) (FnD.use (capx)) rfl rfl rfl rfl rfl rfl) rfl rfl ?_)
          (refine wlk ?_)
          (refine SqA.b1 (op_call none rfl rfl rfl (by kernel_rfl) (FnD.use (capy)) rfl rfl rfl rfl rfl rfl) rfl rfl ?_)
          (refine wlk ?_)
          (refine SqA.b1 (op_call none rfl rfl rfl (by kernel_rfl) (FnD.use (csame)) rfl rfl rfl rfl rfl rfl) rfl rfl ?_)
          (refine wlk ?_)
          refine fin_wk (fun n => Wk.nilArr (d := 6) rfl) ?_
          (first | (refine finR (.tmp rfl (.tmp rfl .nil)) rfl rfl ?_) | (refine finN (.tmp rfl (.tmp rfl .nil)) rfl rfl ?_))
          exact rfl
        rw [if_neg (by simp [hn, hl])] at hway ⊢
        have hw := hway _ _ rfl
        have hc := hstep _ _ hw
        have hbg := hbig _ _ hw
        simp only [List.length_append, List.length_zip] at hbg
        have m1 : lx ++ todo.map Prod.fst = (lx.zip ly ++ todo).map Prod.fst := by rw [List.map_append, List.map_fst_zip (by omega)]
        have m2 : ly ++ todo.map Prod.snd = (lx.zip ly ++ todo).map Prod.snd := by rw [List.map_append, List.map_snd_zip (by omega)]
        have n1 : ([] : List Tm) ++ lx = lx := rfl
        have n2 : ([] : List Tm) ++ ly = ly := rfl
        rw [← m1, ← m2] at hc
        have b1 : (lx ++ todo.map Prod.fst).length ≤ 2000000000000 := by rw [List.length_append, List.length_map]; omega
        have b2 : (ly ++ todo.map Prod.snd).length ≤ 2000000000000 := by rw [List.length_append, List.length_map]; omega
        have a1 : lx ++ todo.map Prod.fst = lx ++ todo.map Prod.fst := rfl
        have a2 : ly ++ todo.map Prod.snd = ly ++ todo.map Prod.snd := rfl
        simp only [hn, ne_eq, not_true_eq_false, hl, or_self, if_false] at hc ⊢
        (refine wlk ?_)
        (refine SqA.b1 (op_call none rfl rfl rfl (by kernel_rfl) (FnD.use (capx)) rfl rfl rfl rfl rfl rfl) rfl rfl ?_)
        (refine wlk ?_)
        (refine SqA.b1 (op_call none rfl rfl rfl (by kernel_rfl) (FnD.use (capy)) rfl rfl rfl rfl rfl rfl) rfl rfl ?_)
        (refine wlk ?_)
        (refine SqA.b1 (op_call none rfl rfl rfl (by kernel_rfl) (FnD.use (csame)) rfl rfl rfl rfl rfl rfl) rfl rfl ?_)
        (refine wlk ?_)
        generalize unifyF f s (lx.zip ly ++ todo) = r at hc
        cases r <;> ((refine SqA.b3 (Op1.frzIn (t := 69) rfl (Op1.frzIn (t := 75) rfl (op_call none rfl rfl rfl (by kernel_rfl) (FnD.use (hc)) rfl rfl rfl rfl rfl rfl))) rfl rfl ?_); (refine wlk ?_); (first | (refine finR (.tmp rfl (.tmp rfl .nil)) rfl rfl ?_) | (refine finN (.tmp rfl (.tmp rfl .nil)) rfl rfl ?_)); exact rfl)
      · -- the second one is a variable
        simp only [Bool.false_eq_true, if_false, if_true] at hway ⊢
        by_cases ho : times ny ⟨false, nx, lx⟩ = 0
        rotate_left
        · have cin := rin ny ⟨false, nx, lx⟩ ka (by omega)
          rw [decide_eq_true ho] at cin
          simp only [ho, ne_eq, not_false_eq_true, if_true]
          (refine wlk ?_)
          (refine SqA.b1 (op_call none rfl rfl rfl (by kernel_rfl) (FnD.use (capx)) rfl rfl rfl rfl rfl rfl) rfl rfl ?_)
          (refine wlk ?_)
          (refine SqA.b1 (op_call none rfl rfl rfl (by kernel_rfl) (FnD.use (capy)) rfl rfl rfl rfl rfl rfl) rfl rfl ?_)
          (refine wlk ?_)
          (refine SqA.b1 (op_call none rfl rfl rfl (by kernel_rfl) (FnD.use (csame)) rfl rfl rfl rfl rfl rfl) rfl rfl ?_)
          (refine wlk ?_)
          (refine SqA.b1 (op_call none rfl rfl rfl (by kernel_rfl) (FnD.use (cin)) rfl rfl rfl rfl rfl rfl) rfl rfl ?_)
          (refine wlk ?_)
          refine fin_wk (fun n => Wk.nilArr (d := 6) rfl) ?_
          (first | (refine finR (.tmp rfl (.tmp rfl .nil)) rfl rfl ?_) | (refine finN (.tmp rfl (.tmp rfl .nil)) rfl rfl ?_))
          exact rfl
        have cin := rin ny ⟨false, nx, lx⟩ ka (by omega)
        rw [decide_eq_false (by simp [ho])] at cin
        simp only [ho, ne_eq, not_true_eq_false, if_false] at hway ⊢
        have hw := hway _ _ rfl
        have hc := hstep _ _ hw
        have hbl : (bound s ny ⟨false, nx, lx⟩).length = s.length + 1 := by simp [bound]
        have hbe : s.map (fun p => ((p.1, app [(ny, ⟨false, nx, lx⟩)] p.2) : Pr)) ++ [(ny, ⟨false, nx, lx⟩)] = bound s ny ⟨false, nx, lx⟩ := rfl
        (refine wlk ?_)
        (refine SqA.b1 (op_call none rfl rfl rfl (by kernel_rfl) (FnD.use (capx)) rfl rfl rfl rfl rfl rfl) rfl rfl ?_)
        (refine wlk ?_)
        (refine SqA.b1 (op_call none rfl rfl rfl (by kernel_rfl) (FnD.use (capy)) rfl rfl rfl rfl rfl rfl) rfl rfl ?_)
        (refine wlk ?_)
        (refine SqA.b1 (op_call none rfl rfl rfl (by kernel_rfl) (FnD.use (csame)) rfl rfl rfl rfl rfl rfl) rfl rfl ?_)
        (refine wlk ?_)
        (refine SqA.b1 (op_call none rfl rfl rfl (by kernel_rfl) (FnD.use (cin)) rfl rfl rfl rfl rfl rfl) rfl rfl ?_)
        (refine wlk ?_)
        (refine SqA.b1 (op_bsT (T := TB) (f := Pr.d) [(ny, ⟨false, nx, lx⟩)] rfl rfl rfl rfl rfl rfl rfl rfl rfl rfl rfl) rfl rfl ?_)
        (refine wlk ?_)
        refine dwp_loop (fun k : Nat => [(.t 1, some (.one (lA Tm.d (todo.map Prod.fst)))), (.t 2, some (.one (lA Tm.d (todo.map Prod.snd)))), (.t 10, some (.one (lA Pr.d [((ny, ⟨false, nx, lx⟩) : Pr)]))), (.t 11, some (.one (.c (.own 42 4 (((s.take k).map (fun p => ((p.1, app [(ny, ⟨false, nx, lx⟩)] p.2) : Pr))).map Pr.d))))),
          (.t 93, some (.one (lA Pr.d s))), (.t 94, some (.one (iA s.length))), (.t 95, some (.one (iA k)))])
          (fun k => k ≤ s.length) (fun k => s.length - k) 0 (by omega) ((Wk.nilOwn (d := 11) (E := 42) (m := 4) rfl).trans fgs) ?_
        intro k hk
        by_cases hkl : k < s.length
        · obtain ⟨p, hp⟩ := get_of_lt hkl
          have hsn := bound_snoc (v := ny) (y := ⟨false, nx, lx⟩) hp
          have hpz := hps p (List.mem_of_getElem? hp)
          (refine wlk ?_)
          (refine SqA.b1 (op_call none rfl rfl rfl (by kernel_rfl) (FnD.use (ap [(ny, ⟨false, nx, lx⟩)] (by simp) p.2 (by omega))) rfl rfl rfl rfl rfl rfl) rfl rfl ?_)
          (refine wlk ?_)
          (refine SqA.b1 (op_bsT (T := TB) (f := Pr.d) [(p.1, app [(ny, ⟨false, nx, lx⟩)] p.2)] rfl rfl rfl rfl rfl rfl rfl rfl rfl rfl rfl) rfl rfl ?_)
          (refine wlk ?_)
          exact ⟨k + 1, by omega, fgs, by omega⟩
        · have : k = s.length := by omega
          subst this
          rw [List.take_length]
          (refine wlk ?_)
          generalize unifyF f (bound s ny ⟨false, nx, lx⟩) todo = r at hc
          cases r <;> ((refine SqA.b2 (Op1.frzIn (t := 112) rfl (op_call none rfl rfl rfl (by kernel_rfl) (FnD.use (hc)) rfl rfl rfl rfl rfl rfl)) rfl rfl ?_); (refine wlk ?_); (first | (refine finR (.tmp rfl (.tmp rfl .nil)) rfl rfl ?_) | (refine finN (.tmp rfl (.tmp rfl .nil)) rfl rfl ?_)); exact rfl)
    · -- the first one is a variable
      simp only [if_true] at hway ⊢
      by_cases ho : times nx ⟨vy, ny, ly⟩ = 0
      rotate_left
      · have cin := rin nx ⟨vy, ny, ly⟩ kb (by omega)
        rw [decide_eq_true ho] at cin
        simp only [ho, ne_eq, not_false_eq_true, if_true]
        (refine wlk ?_)
        (refine SqA.b1 (op_call none rfl rfl rfl (by kernel_rfl) (FnD.use (capx)) rfl rfl rfl rfl rfl rfl) rfl rfl ?_)
        (refine wlk ?_)
        (refine SqA.b1 (op_call none rfl rfl rfl (by kernel_rfl) (FnD.use (capy)) rfl rfl rfl rfl rfl rfl) rfl rfl ?_)
        (refine wlk ?_)
        (refine SqA.b1 (op_call none rfl rfl rfl (by kernel_rfl) (FnD.use (csame)) rfl rfl rfl rfl rfl rfl) rfl rfl ?_)
        (refine wlk ?_)
        (refine SqA.b1 (op_call none rfl rfl rfl (by kernel_rfl) (FnD.use (cin)) rfl rfl rfl rfl rfl rfl) rfl rfl ?_)
        (refine wlk ?_)
        refine fin_wk (fun n => Wk.nilArr (d := 6) rfl) ?_
        (first | (refine finR (.tmp rfl (.tmp rfl .nil)) rfl rfl ?_) | (refine finN (.tmp rfl (.tmp rfl .nil)) rfl rfl ?_))
        exact rfl
      have cin := rin nx ⟨vy, ny, ly⟩ kb (by omega)
      rw [decide_eq_false (by simp [ho])] at cin
      simp only [ho, ne_eq, not_true_eq_false, if_false] at hway ⊢
      have hw := hway _ _ rfl
      have hc := hstep _ _ hw
      have hbl : (bound s nx ⟨vy, ny, ly⟩).length = s.length + 1 := by simp [bound]
      have hbe : s.map (fun p => ((p.1, app [(nx, ⟨vy, ny, ly⟩)] p.2) : Pr)) ++ [(nx, ⟨vy, ny, ly⟩)] = bound s nx ⟨vy, ny, ly⟩ := rfl
      (refine wlk ?_)
      (refine SqA.b1 (op_call none rfl rfl rfl (by kernel_rfl) (FnD.use (capx)) rfl rfl rfl rfl rfl rfl) rfl rfl ?_)
      (refine wlk ?_)
      (refine SqA.b1 (op_call none rfl rfl rfl (by kernel_rfl) (FnD.use (capy)) rfl rfl rfl rfl rfl rfl) rfl rfl ?_)
      (refine wlk ?_)
      (refine SqA.b1 (op_call none rfl rfl rfl (by kernel_rfl) (FnD.use (csame)) rfl rfl rfl rfl rfl rfl) rfl rfl ?_)
      (refine wlk ?_)
      (refine SqA.b1 (op_call none rfl rfl rfl (by kernel_rfl) (FnD.use (cin)) rfl rfl rfl rfl rfl rfl) rfl rfl ?_)
      (refine wlk ?_)
      (refine SqA.b1 (op_bsT (T := TB) (f := Pr.d) [(nx, ⟨vy, ny, ly⟩)] rfl rfl rfl rfl rfl rfl rfl rfl rfl rfl rfl) rfl rfl ?_)
      (refine wlk ?_)
      refine dwp_loop (fun k : Nat => [(.t 1, some (.one (lA Tm.d (todo.map Prod.fst)))), (.t 2, some (.one (lA Tm.d (todo.map Prod.snd)))), (.t 10, some (.one (lA Pr.d [((nx, ⟨vy, ny, ly⟩) : Pr)]))), (.t 11, some (.one (.c (.own 42 4 (((s.take k).map (fun p => ((p.1, app [(nx, ⟨vy, ny, ly⟩)] p.2) : Pr))).map Pr.d))))),
        (.t 93, some (.one (lA Pr.d s))), (.t 94, some (.one (iA s.length))), (.t 95, some (.one (iA k)))])
        (fun k => k ≤ s.length) (fun k => s.length - k) 0 (by omega) ((Wk.nilOwn (d := 11) (E := 42) (m := 4) rfl).trans fgs) ?_
      intro k hk
      by_cases hkl : k < s.length
      · obtain ⟨p, hp⟩ := get_of_lt hkl
        have hsn := bound_snoc (v := nx) (y := ⟨vy, ny, ly⟩) hp
        have hpz := hps p (List.mem_of_getElem? hp)
        (refine wlk ?_)
        (refine SqA.b1 (op_call none rfl rfl rfl (by kernel_rfl) (FnD.use (ap [(nx, ⟨vy, ny, ly⟩)] (by simp) p.2 (by omega))) rfl rfl rfl rfl rfl rfl) rfl rfl ?_)
        (refine wlk ?_)
        (refine SqA.b1 (op_bsT (T := TB) (f := Pr.d) [(p.1, app [(nx, ⟨vy, ny, ly⟩)] p.2)] rfl rfl rfl rfl rfl rfl rfl rfl rfl rfl rfl) rfl rfl ?_)
        (refine wlk ?_)
        exact ⟨k + 1, by omega, fgs, by omega⟩
      · have : k = s.length := by omega
        subst this
        rw [List.take_length]
        (refine wlk ?_)
        generalize unifyF f (bound s nx ⟨vy, ny, ly⟩) todo = r at hc
        cases r <;> ((refine SqA.b2 (Op1.frzIn (t := 112) rfl (op_call none rfl rfl rfl (by kernel_rfl) (FnD.use (hc)) rfl rfl rfl rfl rfl rfl)) rfl rfl ?_); (refine wlk ?_); (first | (refine finR (.tmp rfl (.tmp rfl .nil)) rfl rfl ?_) | (refine finN (.tmp rfl (.tmp rfl .nil)) rfl rfl ?_)); exact rfl)
end Go.Proofs.Ytmanhdacnkpclaa
