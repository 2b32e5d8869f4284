/- What functions do: the program's bindings. -/
import Derived.Test.Ytmanhdacnkpclaay913
import Derived.Test.Ytmanhdacnkpclaay910
import Derived.Test.Ytmanhdacnkpclaay908
import Derived.Test.Ytmanhdacnkpclaay906

/- What functions do: the program's bindings. -/
namespace Go.Proofs.Ytmanhdacnkpclaa
set_option linter.all false
open Go.RowKit
def resF : Option Tm → List A1
  | some u => [tA u, bA true]
  | none => [tA ⟨false, 0, []⟩, bA false]
set_option maxRecDepth 100000 in
theorem bfind (s : List Pr) (n : Int) : FnD Try.prog 100 [lA Pr.d s, iA n] (.tup (resF (findS s n))) := by
  refine Fn.of Try.func100 rfl Try.ntmps100 rfl (Nat.le_of_ble_eq_true rfl) ?_
  refine dwp_len (t := 0) (ds := s.map Pr.d) rfl fun hbl => ?_
  rw [List.length_map] at hbl
  (refine wlk ?_)
  refine dwp_loop (fun k : Nat => [(.t 1, some (.one (iA n))), (.t 8, some (.one (lA Pr.d s))), (.t 9, some (.one (iA s.length))), (.t 10, some (.one (iA k))), (.t 4, some (.one (.c (.ptr 4 0)))),
    (.b 4, some (.box [.val (.bool false), .val (.int .i64 0), .val (.slice none 0 0)]))]) (fun k => k ≤ s.length ∧ ∀ j p, j < k → s[j]? = some p → p.1 ≠ n) (fun k => s.length - k) 0 ⟨by omega, fun j p h => absurd h (by omega)⟩ fgs ?_
  rintro k ⟨hk, hno⟩
  by_cases hkl : k < s.length
  · obtain ⟨x, hx⟩ := get_of_lt hkl
    by_cases hxn : x.1 = n
    · (refine wlk ?_)
      (refine wfCT ?_)
      rw [findS_at hno hx hxn]; rfl
    · (refine wlk ?_)
      exact ⟨k + 1, ⟨by omega, upto_succ hno hx hxn⟩, fgs, by omega⟩
  · (refine wlk ?_)
    refine fin_wk (fun n => Wk.nilArrB (j := 4) (q := 2) rfl rfl rfl) ?_
    (refine wfCT ?_)
    rw [findS_no hno (by omega)]; rfl
set_option maxHeartbeats 4000000 in
set_option maxRecDepth 100000 in
theorem bapply (s : List Pr) : ∀ t : Tm, t.size ≤ 2000000000000 → FnD Try.prog 56 [lA Pr.d s, tA t] (.one (tA (app s t))) := by
  refine Tm.ind ?_
  intro v n l ih hsz
  refine Fn.of Try.func56 rfl Try.ntmps56 rfl (Nat.le_of_ble_eq_true rfl) ?_
  cases v
  case true =>
    have hc := bfind s n
    have ha := app_var s n l
    generalize findS s n = r at hc ha
    rw [ha]
    cases r <;> ((refine wlk ?_); (refine wlC hc ?_); (refine wlk ?_); (refine wfC ?_); exact rfl)
  case false =>
    have hlen := sizes_len l
    have hsz' : Tm.sizes l ≤ 2000000000000 := by simp [Tm.size] at hsz; omega
    (refine wlk ?_)
    refine dwp_loop (fun k : Nat => [(.t 23, some (.one (lA Tm.d l))), (.t 24, some (.one (iA l.length))), (.t 25, some (.one (iA k))), (.t 0, some (.one (lA Pr.d s))), (.t 3, some (.one (.c (.ptr 3 0)))), (.t 4, some (.one (.c (.ptr 4 0)))),
      (.b 4, some (.box [.val (.bool false), .val (.int .i64 0), .val (.slice none 0 0)])), (.b 3, some (.box (tA ⟨false, n, l⟩).cells)), (.t 7, some (.one (.c (.own 26 3 (((l.take k).map (app s)).map Tm.d)))))])
      (fun k => k ≤ l.length) (fun k => l.length - k) 0 (by omega) ((Wk.nilOwn (d := 7) (E := 26) (m := 3) rfl).trans fgs) ?_
    intro k hk
    by_cases hkl : k < l.length
    · obtain ⟨x, hx⟩ := get_of_lt hkl
      have hsn := snoc (app s) hx
      have hxs := size_at hx
      (refine wlk ?_)
      (refine SqA.b1 (op_call none rfl rfl rfl (by kernel_rfl) (FnD.use (ih x (List.mem_of_getElem? hx) (by omega))) rfl rfl rfl rfl rfl rfl) rfl rfl ?_)
      (refine wlk ?_)
      (refine SqA.b1 (op_bsT (T := TB) (f := Tm.d) [app s x] rfl rfl rfl rfl rfl rfl rfl rfl rfl rfl rfl) rfl rfl ?_)
      (refine wlk ?_)
      exact ⟨k + 1, by omega, fgs, by omega⟩
    · have : k = l.length := by omega
      subst this
      refine dwp_wk (Wk.freezeAt (d := 7) rfl) ?_
      (refine wlk ?_)
      (refine wfC ?_)
      exact Xt (b := ⟨false, n, (l.take l.length).map (app s)⟩) (by simp [app, apps_eq])
set_option maxHeartbeats 4000000 in
set_option maxRecDepth 100000 in
theorem brename (k : Int) (hk0 : 0 ≤ k) (hk1 : k ≤ 1000) : ∀ t : Tm, t.okv = true → t.size ≤ 2000000000000 → FnD Try.prog 57 [tA t, iA k] (.one (tA (ren k t))) := by
  refine Tm.ind ?_
  intro v n l ih hok hsz
  refine Fn.of Try.func57 rfl Try.ntmps57 rfl (Nat.le_of_ble_eq_true rfl) ?_
  cases v
  case true =>
    simp only [Tm.okv, Bool.and_eq_true, decide_eq_true_eq] at hok
    have h0 : (0 : Int) ≤ (Tm.mk true n l).n := hok.1.2
    have h1 : (Tm.mk true n l).n ≤ 1000000 := hok.2
    (refine wlk ?_)
    (refine wfC ?_)
    exact rfl
  case false =>
    simp only [Tm.okv] at hok
    have hll := sizes_len l
    simp only [Tm.size] at hsz
    (refine wlk ?_)
    refine dwp_loop (fun m : Nat => [(.t 1, some (.one (iA k))), (.t 4, some (.one (.c (.ptr 4 0)))), (.b 4, some (.box [.val (.bool false), .val (.int .i64 0), .val (.slice none 0 0)])), (.t 2, some (.one (.c (.ptr 2 0)))), (.b 2, some (.box (tA ⟨false, n, l⟩).cells)),
      (.t 5, some (.one (.c (.own 26 3 (((l.take m).map (ren k)).map Tm.d))))), (.t 17, some (.one (lA Tm.d l))), (.t 18, some (.one (iA l.length))), (.t 19, some (.one (iA m)))])
      (fun m => m ≤ l.length) (fun m => l.length - m) 0 (by omega) ((Wk.nilOwn (d := 5) (E := 26) (m := 3) rfl).trans fgs) ?_
    intro m hm
    by_cases hml : m < l.length
    · obtain ⟨x, hx⟩ := get_of_lt hml
      have hsn := snoc (ren k) hx
      have hxs := size_at hx
      (refine wlk ?_)
      (refine SqA.b1 (op_call none rfl rfl rfl (by kernel_rfl) (FnD.use (ih x (List.mem_of_getElem? hx) (okvs_at hok hx) (by omega))) rfl rfl rfl rfl rfl rfl) rfl rfl ?_)
      (refine wlk ?_)
      (refine SqA.b1 (op_bsT (T := TB) (f := Tm.d) [ren k x] rfl rfl rfl rfl rfl rfl rfl rfl rfl rfl rfl) rfl rfl ?_)
      (refine wlk ?_)
      exact ⟨m + 1, by omega, fgs, by omega⟩
    · have : m = l.length := by omega
      subst this
      refine dwp_wk (Wk.freezeAt (d := 5) rfl) ?_
      (refine wlk ?_)
      (refine wfC ?_)
      exact Xt (b := ⟨false, n, (l.take l.length).map (ren k)⟩) (by simp [ren, rens_eq])
theorem timess_upto {v : Int} {l : List Tm} (h : ∀ j x, j < l.length → l[j]? = some x → times v x = 0) : timess v l = 0 := timess_zero.2 (any_upto h)
set_option maxHeartbeats 4000000 in
set_option maxRecDepth 100000 in
theorem boccurs (v : Int) : ∀ t : Tm, t.okv = true → t.size ≤ 2000000000000 → FnD Try.prog 98 [iA v, tA t] (.one (bA (decide (times v t ≠ 0)))) := by
  refine Tm.ind ?_
  intro b n l ih hok hsz
  have hll := sizes_len l
  simp only [Tm.size] at hsz
  refine Fn.of Try.func98 rfl Try.ntmps98 rfl (Nat.le_of_ble_eq_true rfl) ?_
  cases b
  case true =>
    have hl := var_form hok rfl
    simp only [Tm.mk.injEq, true_and] at hl
    rw [hl]
    by_cases hn : n = v
    · (refine wlk ?_)
      (refine wfT ?_)
      exact Xb (b := true) (by simp [times, timess, hn])
    · (refine wlk ?_)
      (refine wfT ?_)
      exact Xb (b := false) (by simp [times, timess, hn])
  case false =>
    simp only [Tm.okv] at hok
    (refine wlk ?_)
    refine dwp_loop (fun m : Nat => [(.t 0, some (.one (iA v))), (.t 14, some (.one (lA Tm.d l))), (.t 15, some (.one (iA l.length))), (.t 16, some (.one (iA m)))])
      (fun m => m ≤ l.length ∧ ∀ j x, j < m → l[j]? = some x → times v x = 0) (fun m => l.length - m) 0 ⟨by omega, fun j x h => absurd h (by omega)⟩ fgs ?_
    rintro m ⟨hm, hno⟩
    by_cases hml : m < l.length
    · obtain ⟨x, hx⟩ := get_of_lt hml
      have hxs := size_at hx
      have hc := ih x (List.mem_of_getElem? hx) (okvs_at hok hx) (by omega)
      by_cases hxv : times v x = 0
      · rw [decide_eq_false (by simp [hxv])] at hc
        (refine wlk ?_)
        (refine wlC hc ?_)
        (refine wlk ?_)
        exact ⟨m + 1, ⟨by omega, upto_succ hno hx hxv⟩, fgs, by omega⟩
      · rw [decide_eq_true hxv] at hc
        (refine wlk ?_)
        (refine wlC hc ?_)
        (refine wlk ?_)
        (refine wfT ?_)
        exact Xb (b := true) (decide_eq_true (by
          simp only [times, Bool.false_and, Bool.false_eq_true, if_false, Nat.zero_add]
          intro h
          exact hxv (timess_zero.1 h x (List.mem_of_getElem? hx)))).symm
    · have : m = l.length := by omega
      subst this
      (refine wlk ?_)
      (refine wfT ?_)
      exact Xb (b := false) (decide_eq_false (by
        simp only [times, Bool.false_and, Bool.false_eq_true, if_false, Nat.zero_add]
        exact fun h => h (timess_upto hno))).symm
set_option maxHeartbeats 4000000 in
set_option maxRecDepth 100000 in
theorem bbound (s : List Pr) (v : Int) (y : Tm) (hsl : s.length ≤ 1000000) (hs : ∀ p ∈ s, p.2.size ≤ 2000000000000) : FnD Try.prog 99 [lA Pr.d s, iA v, tA y] (.one (lA Pr.d (bound s v y))) := by
  refine Fn.of Try.func99 rfl Try.ntmps99 rfl (Nat.le_of_ble_eq_true rfl) ?_
  (refine wlk ?_)
  (refine SqA.b1 (op_bsT (T := TB) (f := Pr.d) [((v, y) : Pr)] rfl rfl rfl rfl rfl rfl rfl rfl rfl rfl rfl) rfl rfl ?_)
  (refine wlk ?_)
  refine dwp_loop (fun k : Nat => [(.t 7, some (.one (lA Pr.d [((v, y) : Pr)]))), (.t 15, some (.one (lA Pr.d s))), (.t 16, some (.one (iA s.length))), (.t 17, some (.one (iA k))),
      (.t 8, some (.one (.c (.own 42 4 (((s.take k).map (fun p => ((p.1, app [(v, y)] p.2) : Pr))).map Pr.d)))))])
      (fun k => k ≤ s.length) (fun k => s.length - k) 0 (by omega) ((Wk.nilOwn (d := 8) (E := 42) (m := 4) rfl).trans fgs) ?_
  intro k hk
  by_cases hkl : k < s.length
  · obtain ⟨x, hx⟩ := get_of_lt hkl
    have hsn := bound_snoc (v := v) (y := y) hx
    have hxs := hs x (List.mem_of_getElem? hx)
    (refine wlk ?_)
    (refine SqA.b1 (op_call none rfl rfl rfl (by kernel_rfl) (FnD.use (bapply [((v, y) : Pr)] x.2 hxs)) rfl rfl rfl rfl rfl rfl) rfl rfl ?_)
    (refine wlk ?_)
    (refine SqA.b1 (op_bsT (T := TB) (f := Pr.d) [((x.1, app [(v, y)] x.2) : Pr)] rfl rfl rfl rfl rfl rfl rfl rfl rfl rfl rfl) rfl rfl ?_)
    (refine wlk ?_)
    exact ⟨k + 1, by omega, fgs, by omega⟩
  · have : k = s.length := by omega
    subst this
    have h0 : [((v, y) : Pr)][0]? = some (v, y) := rfl
    have h1 : (s.take s.length).map (fun p => ((p.1, app [(v, y)] p.2) : Pr)) ++ [((v, y) : Pr)] = bound s v y := by simp [bound]
    have h2 : (bound s v y).length ≤ 2000000 := by simp [bound]; omega
    (refine wlk ?_)
    (refine SqA.b1 (op_bsT (T := TB) (f := Pr.d) [((v, y) : Pr)] rfl rfl rfl rfl rfl rfl rfl rfl rfl rfl rfl) rfl rfl ?_)
    (refine wlk ?_)
    refine fin_wk (fun n => Wk.freezeAt (d := 6) rfl) ?_
    (refine wfT ?_)
    exact rfl
end Go.Proofs.Ytmanhdacnkpclaa
/- What functions do: the program's Unify, More, Match. -/
namespace Go.Proofs.Ytmanhdacnkpclaa
set_option linter.all false
open Go.RowKit
theorem snocz {l l' : List Tm} {k : Nat} {p q : Tm} (hp : l[k]? = some p) (hq : l'[k]? = some q) : (l.zip l').take k ++ [(p, q)] = (l.zip l').take (k + 1) := by
  have h : (l.zip l')[k]? = some (p, q) := by rw [List.getElem?_zip_eq_some]; exact ⟨hp, hq⟩
  rw [List.take_add_one, h]; rfl
set_option maxHeartbeats 32000000 in
set_option maxRecDepth 100000 in
theorem bunify {a b : Tm} (ha : Old a) (hb : Old b) : FnD Try.prog 54 [tA a, tA b] (.tup (resU (unify a b))) := by
  refine Fn.of Try.func54 rfl Try.ntmps54 rfl (Nat.le_of_ble_eq_true rfl) ?_
  have hB := bigU_eq
  (refine wlk ?_)
  (refine SqA.b1 (op_bsT (T := TB) (f := Tw.d) [(a, b)] rfl rfl rfl rfl rfl rfl rfl rfl rfl rfl rfl) rfl rfl ?_)
  (refine wlk ?_)
  refine dwp_loop (fun x : List Pr × List (Tm × Tm) => [(.t 6, some (.one (lA Pr.d x.1))), (.t 7, some (.one (lA Tw.d x.2)))])
    (fun x => UInv a x.1 x.2 ∧ ∃ f, muU x.1 x.2 ≤ f ∧ unifyF f x.1 x.2 = unify a b) (fun x => muU x.1 x.2) ([], [(a, b)]) ⟨UInv.start ha hb, _, (UInv.start ha hb).mu_le, rfl⟩ ((Wk.nilArr (d := 6) rfl).trans fgs) ?_
  rintro ⟨s, todo⟩ ⟨hi, f, hf, hu⟩
  dsimp only at hi hf hu ⊢
  cases todo with
  | nil =>
    have h0 : ([] : List (Tm × Tm)).length = 0 := rfl
    have hu' : unify a b = some s := by rw [← hu]; cases f <;> rfl
    rw [hu']
    (refine wlk ?_)
    (refine wfTT ?_)
    exact rfl
  | cons e todo =>
    obtain ⟨c, d⟩ := e
    cases f with
    | zero =>
      have h1 : 1 ≤ wt (fun _ => 1) (app s c) := by rw [size_wt hi.idem.1 (hi.ok (c, d) (by simp)).1]; exact size_pos _
      simp only [muU, sumU, List.map_cons, List.sum_cons] at hf
      omega
    | succ f =>
      obtain ⟨⟨z1, z2⟩, z3, z4⟩ := hi.esize (e := (c, d)) (by simp)
      have hps := fun p (hp : p ∈ s) => hi.psize hp
      have hsl := hi.len_le
      have htl := hi.todo_le
      have hab := hi.ok (c, d) (by simp)
      have ka := app_okv hi.idem.1 c hab.1
      have kb := app_okv hi.idem.1 d hab.2
      have hstep : ∀ s' todo', UWay s c d todo s' todo' → unifyF f s' todo' = unify a b → (UInv a s' todo' ∧ ∃ f, muU s' todo' ≤ f ∧ unifyF f s' todo' = unify a b) ∧ muU s' todo' < muU s ((c, d) :: todo) := fun s' todo' hw hu' => by
        obtain ⟨g1, g2⟩ := hi.step hw
        exact ⟨⟨g1, f, by omega, hu'⟩, g2⟩
      have hbig : ∀ s' todo', UWay s c d todo s' todo' → todo'.length ≤ bigU := fun s' todo' hw => (hi.step hw).1.todo_le
      have capx := bapply s c (by simp only at z1; omega)
      have capy := bapply s d (by simp only at z2; omega)
      have hu1 : unifyF (f + 1) s ((c, d) :: todo) = match ustep s c d todo with | none => none | some (s', todo') => unifyF f s' todo' := by
        simp only [unifyF]
        cases ustep s c d todo <;> rfl
      have hway := fun s' todo' => ustep_way (todo := todo) (todo' := todo') (s' := s') ka kb
      rw [hu1] at hu
      have hus : ustep s c d todo = (if (app s c).same (app s d) then some (s, todo)
        else if (app s c).var then (if times (app s c).n (app s d) ≠ 0 then none else some (bound s (app s c).n (app s d), todo))
        else if (app s d).var then (if times (app s d).n (app s c) ≠ 0 then none else some (bound s (app s d).n (app s c), todo))
        else if (app s c).n ≠ (app s d).n ∨ (app s c).args.length ≠ (app s d).args.length then none
        else some (s, (app s c).args.zip (app s d).args ++ todo)) := rfl
      rw [hus] at hway hu
      simp only [List.length_cons] at htl
      simp only at z1 z2 z3 z4
      have e0 : ((c, d) :: todo)[0]? = some (c, d) := rfl
      have e1 : 0 < ((c, d) :: todo).length := by simp
      have e2 : 1 ≤ ((c, d) :: todo).length := by simp
      clear hu1 hus
      generalize app s c = x at *
      generalize app s d = y at *
      have csame := psame x y
      have cox := boccurs x.n y kb (by omega)
      have coy := boccurs y.n x ka (by omega)
      have zl1 := sizes_len x.args
      have zl2 := sizes_len y.args
      have zs1 : x.size = 1 + Tm.sizes x.args := by cases x; rfl
      have zs2 : y.size = 1 + Tm.sizes y.args := by cases y; rfl
      have cbx := bbound s x.n y (by omega) (fun p hp => by have := hps p hp; omega)
      have cby := bbound s y.n x (by omega) (fun p hp => by have := hps p hp; omega)
      cases hxy : x.same y
      rotate_left
      · rw [hxy] at csame
        simp only [hxy, if_true] at hway hu
        obtain ⟨j1, j2⟩ := hstep _ _ (hway _ _ rfl) hu
        (refine wlk ?_)
        (refine wlC capx ?_)
        (refine wlk ?_)
        (refine wlC capy ?_)
        (refine wlk ?_)
        (refine wlC csame ?_)
        (refine wlk ?_)
        exact ⟨(s, todo), j1, fgs, j2⟩
      rw [hxy] at csame
      simp only [hxy, Bool.false_eq_true, if_false] at hway hu
      obtain ⟨vx, nx, lx⟩ := x
      obtain ⟨vy, ny, ly⟩ := y
      simp only at *
      cases vx
      · cases vy
        · simp only [Bool.false_eq_true, if_false] at hway hu
          by_cases hn : nx = ny
          rotate_left
          · rw [if_pos (.inl hn)] at hu
            rw [← hu]
            (refine wlk ?_)
            (refine wlC capx ?_)
            (refine wlk ?_)
            (refine wlC capy ?_)
            (refine wlk ?_)
            (refine wlC csame ?_)
            (refine wlk ?_)
            refine fin_wk (fun n => Wk.nilArr (d := 4) rfl) ?_
            (refine wfTT ?_)
            exact rfl
          by_cases hl : lx.length = ly.length
          rotate_left
          · rw [if_pos (.inr hl)] at hu
            rw [← hu]
            (refine wlk ?_)
            (refine wlC capx ?_)
            (refine wlk ?_)
            (refine wlC capy ?_)
            (refine wlk ?_)
            (refine wlC csame ?_)
            (refine wlk ?_)
            refine fin_wk (fun n => Wk.nilArr (d := 4) rfl) ?_
            (refine wfTT ?_)
            exact rfl
          rw [if_neg (by simp [hn, hl])] at hway hu
          have hw := hway _ _ rfl
          obtain ⟨j1, j2⟩ := hstep _ _ hw hu
          have hbg := hbig _ _ hw
          have hzl : (lx.zip ly).length = lx.length := by simp; omega
          rw [List.length_append, hzl] at hbg
          (refine wlk ?_)
          (refine wlC capx ?_)
          (refine wlk ?_)
          (refine wlC capy ?_)
          (refine wlk ?_)
          (refine wlC csame ?_)
          (refine wlk ?_)
          refine dwp_loop (fun k : Nat => [(.t 6, some (.one (lA Pr.d s))), (.t 7, some (.one (lA Tw.d todo))), (.t 8, some (.one (.c (.ptr 8 0)))), (.b 8, some (.box (tA ⟨false, nx, lx⟩).cells)), (.t 9, some (.one (.c (.ptr 9 0)))), (.b 9, some (.box (tA ⟨false, ny, ly⟩).cells)),
              (.t 10, some (.one (.c (.own 111 6 (((lx.zip ly).take k).map Tw.d))))), (.t 35, some (.one (iA lx.length))), (.t 36, some (.one (iA k)))])
            (fun k => k ≤ lx.length) (fun k => lx.length - k) 0 (by omega) ((Wk.nilOwn (d := 10) (E := 111) (m := 6) rfl).trans fgs) ?_
          intro k hk
          by_cases hkl : k < lx.length
          · obtain ⟨p, hp⟩ := get_of_lt hkl
            obtain ⟨q, hq⟩ := get_of_lt (s := ly) (k := k) (by omega)
            have hsn := snocz hp hq
            (refine wlk ?_)
            (refine SqA.b1 (op_bsT (T := TB) (f := Tw.d) [(p, q)] rfl rfl rfl rfl rfl rfl rfl rfl rfl rfl rfl) rfl rfl ?_)
            (refine wlk ?_)
            exact ⟨k + 1, by omega, fgs, by omega⟩
          · have : k = lx.length := by omega
            subst this
            have hz : (lx.zip ly).take lx.length ++ todo = lx.zip ly ++ todo := by rw [List.take_of_length_le (by simp; omega)]
            (refine wlk ?_)
            exact ⟨(s, lx.zip ly ++ todo), j1, (Wk.freezeAt (d := 7) rfl).trans fgs, j2⟩
        · simp only [Bool.false_eq_true, if_false, if_true] at hway hu
          by_cases ho : times ny ⟨false, nx, lx⟩ = 0
          · rw [decide_eq_false (by simp [ho])] at coy
            rw [if_neg (by simp [ho])] at hway hu
            obtain ⟨j1, j2⟩ := hstep _ _ (hway _ _ rfl) hu
            (refine wlk ?_)
            (refine wlC capx ?_)
            (refine wlk ?_)
            (refine wlC capy ?_)
            (refine wlk ?_)
            (refine wlC csame ?_)
            (refine wlk ?_)
            (refine wlC coy ?_)
            (refine wlk ?_)
            (refine wlC cby ?_)
            (refine wlk ?_)
            exact ⟨(bound s ny ⟨false, nx, lx⟩, todo), j1, fgs, j2⟩
          · rw [decide_eq_true ho] at coy
            rw [if_pos ho] at hu
            rw [← hu]
            (refine wlk ?_)
            (refine wlC capx ?_)
            (refine wlk ?_)
            (refine wlC capy ?_)
            (refine wlk ?_)
            (refine wlC csame ?_)
            (refine wlk ?_)
            (refine wlC coy ?_)
            (refine wlk ?_)
            refine fin_wk (fun n => Wk.nilArr (d := 4) rfl) ?_
            (refine wfTT ?_)
            exact rfl
      · simp only [if_true] at hway hu
        by_cases ho : times nx ⟨vy, ny, ly⟩ = 0
        · rw [decide_eq_false (by simp [ho])] at cox
          rw [if_neg (by simp [ho])] at hway hu
          obtain ⟨j1, j2⟩ := hstep _ _ (hway _ _ rfl) hu
          cases vy <;> (
            (refine wlk ?_)
            (refine wlC capx ?_)
            (refine wlk ?_)
            (refine wlC capy ?_)
            (refine wlk ?_)
            (refine wlC csame ?_)
            (refine wlk ?_)
            (refine wlC cox ?_)
            (refine wlk ?_)
            (refine wlC cbx ?_)
            (refine wlk ?_)
            exact ⟨(bound s nx _, todo), j1, fgs, j2⟩)
        · rw [decide_eq_true ho] at cox
          rw [if_pos ho] at hu
          rw [← hu]
          cases vy <;> (
            (refine wlk ?_)
            (refine wlC capx ?_)
            (refine wlk ?_)
            (refine wlC capy ?_)
            (refine wlk ?_)
            (refine wlC csame ?_)
            (refine wlk ?_)
            (refine wlC cox ?_)
            (refine wlk ?_)
            refine fin_wk (fun n => Wk.nilArr (d := 4) rfl) ?_
            (refine wfTT ?_)
            exact rfl)
set_option maxHeartbeats 8000000 in
set_option maxRecDepth 100000 in
theorem bmore : ∀ (p t : Tm) (s : List Pr), s.length + p.size ≤ 2000000000000 → FnD Try.prog 59 [lA Pr.d s, tA p, tA t] (.tup [lA Pr.d (moreR s p t).1, bA (moreR s p t).2]) := by
  refine Tm.ind ?_
  rintro v n l ih ⟨vt, nt, lt⟩ s hsz
  refine Fn.of Try.func59 rfl Try.ntmps59 rfl (Nat.le_of_ble_eq_true rfl) ?_
  have hll := sizes_len l
  simp only [Tm.size] at hsz
  cases v
  case true =>
    have hm : moreR s ⟨true, n, l⟩ ⟨vt, nt, lt⟩ = match findS s n with | some u => (s, u.same ⟨vt, nt, lt⟩) | none => (s ++ [(n, ⟨vt, nt, lt⟩)], true) := by rw [moreR]; cases findS s n <;> rfl
    have hc := bfind s n
    rw [hm]
    generalize findS s n = r at hc hm
    cases r with
    | some u =>
      have hs := psame u ⟨vt, nt, lt⟩
      (refine wlk ?_)
      (refine wlC hc ?_)
      (refine wlk ?_)
      (refine wlC hs ?_)
      (refine wlk ?_)
      (refine wfTT ?_)
      exact rfl
    | none =>
      have h1 : s.take s.length ++ [((n, ⟨vt, nt, lt⟩) : Pr)] = s ++ [((n, ⟨vt, nt, lt⟩) : Pr)] := by simp
      have h2 : (s ++ [((n, ⟨vt, nt, lt⟩) : Pr)]).length ≤ 2000000000000 := by simp; omega
      (refine wlk ?_)
      (refine wlC hc ?_)
      (refine wlk ?_)
      (refine SqA.b1 (op_bsT (T := TB) (f := Pr.d) [((n, ⟨vt, nt, lt⟩) : Pr)] rfl rfl rfl rfl rfl rfl rfl rfl rfl rfl rfl) rfl rfl ?_)
      (refine wlk ?_)
      refine fin_wk (fun n => Wk.freezeAt (d := 6) rfl) ?_
      (refine wfTT ?_)
      exact rfl
  case false =>
    rw [moreR_sym]
    cases vt
    rotate_left
    · (refine wlk ?_)
      refine fin_wk (fun n => Wk.nilArr (d := 6) rfl) ?_
      (refine wfTT ?_)
      exact Xmo (r := ([], false)) (by simp)
    by_cases hn : nt = n
    rotate_left
    · (refine wlk ?_)
      refine fin_wk (fun n => Wk.nilArr (d := 6) rfl) ?_
      (refine wfTT ?_)
      exact Xmo (r := ([], false)) (by simp [hn])
    by_cases hl : lt.length = l.length
    rotate_left
    · (refine wlk ?_)
      refine fin_wk (fun n => Wk.nilArr (d := 6) rfl) ?_
      (refine wfTT ?_)
      exact Xmo (r := ([], false)) (by simp [hl])
    rw [if_neg (by simp [hn, hl])]
    (refine wlk ?_)
    refine dwp_loop (fun x : Nat × List Pr => [(.t 0, some (.one (lA Pr.d x.2))), (.t 4, some (.one (.c (.ptr 4 0)))), (.b 4, some (.box (tA ⟨false, n, l⟩).cells)), (.t 5, some (.one (.c (.ptr 5 0)))), (.b 5, some (.box (tA ⟨false, nt, lt⟩).cells)),
      (.t 59, some (.one (iA lt.length))), (.t 60, some (.one (iA x.1)))])
      (fun x => x.1 ≤ l.length ∧ moresR s l lt = moresR x.2 (l.drop x.1) (lt.drop x.1) ∧ x.2.length ≤ s.length + Tm.sizes (l.take x.1)) (fun x => l.length - x.1) (0, s) ⟨by omega, rfl, by simp⟩ fgs ?_
    rintro ⟨k, s'⟩ ⟨hk, hm, hlen⟩
    simp only at hk hm hlen
    by_cases hkl : k < l.length
    · obtain ⟨x, hx⟩ := get_of_lt hkl
      obtain ⟨y, hy⟩ := get_of_lt (s := lt) (k := k) (by omega)
      have h1 := sizes_take_succ l k x hx
      have h2 := sizes_take_le l (k + 1)
      have hc := ih x (List.mem_of_getElem? hx) y s' (by omega)
      have hml := moreR_len x s' y
      rw [moresR_at hx hy] at hm
      generalize moreR s' x y = r at hc hm hml
      obtain ⟨r, b⟩ := r
      simp only at hc hm hml
      cases b
      · (refine wlk ?_)
        (refine wlC hc ?_)
        (refine wlk ?_)
        refine fin_wk (fun n => Wk.nilArr (d := 6) rfl) ?_
        (refine wfTT ?_)
        exact Xmo (r := ([], false)) hm.symm
      · (refine wlk ?_)
        (refine wlC hc ?_)
        (refine wlk ?_)
        exact ⟨(k + 1, r), ⟨by simp only; omega, hm, by simp only; omega⟩, fgs, by simp only; omega⟩
    · have : k = l.length := by omega
      subst this
      rw [List.drop_length, ← hl, List.drop_length] at hm
      (refine wlk ?_)
      (refine wfTT ?_)
      exact Xmo (r := (s', true)) (by rw [hm]; rfl)
set_option maxRecDepth 100000 in
theorem bmatch (p t : Tm) (hsz : p.size ≤ 2000000000000) : FnD Try.prog 58 [tA p, tA t] (.tup [lA Pr.d (matchR p t).1, bA (matchR p t).2]) := by
  have hc := FnD.nil (bmore p t [] (by simpa using hsz)) 0 rfl
  have hm : matchR p t = match moreR [] p t with | (r, true) => (r, true) | (_, false) => ([], false) := by unfold matchR; rfl
  refine Fn.of Try.func58 rfl Try.ntmps58 rfl (Nat.le_of_ble_eq_true rfl) ?_
  rw [hm]
  generalize moreR [] p t = r at hc
  obtain ⟨r, b⟩ := r
  cases b
  · (refine wlk ?_)
    (refine wlC hc ?_)
    (refine wlk ?_)
    refine fin_wk (fun n => Wk.nilArr (d := 4) rfl) ?_
    (refine wfTT ?_)
    exact rfl
  · (refine wlk ?_)
    (refine wlC hc ?_)
    (refine wlk ?_)
    (refine wfTT ?_)
    exact rfl
end Go.Proofs.Ytmanhdacnkpclaa
namespace Go.Proofs.Ytmanhdacnkpclaa
set_option linter.all false
open Go.RowKit
theorem lt_same {a b : Lt} : a.same b = (a.neg == b.neg && (a.left.same b.left && a.right.same b.right)) := rfl
set_option maxHeartbeats 4000000 in
set_option maxRecDepth 100000 in
theorem rsameLit (a b : Lt) : FnD Try.prog 108 [ltA a, ltA b] (.one (bA (a.same b))) := by
  obtain ⟨an, al, ar⟩ := a
  obtain ⟨bn, bl, br⟩ := b
  have h1 := rsame al bl
  have h2 := rsame ar br
  rw [lt_same]
  dsimp only
  generalize al.same bl = e1 at *
  generalize ar.same br = e2 at *
  refine Fn.of Try.func108 rfl Try.ntmps108 rfl (Nat.le_of_ble_eq_true rfl) ?_
  cases an <;> cases bn
  rotate_left 1
  · (refine wlk ?_)
    (refine wfT ?_)
    rfl
  · (refine wlk ?_)
    (refine wfT ?_)
    rfl
  all_goals (cases e1; · ((refine wlk ?_); (refine wlC h1 ?_); (refine wlk ?_); (refine wfT ?_); rfl))
  all_goals (cases e2 <;> ((refine wlk ?_); (refine wlC h1 ?_); (refine wlk ?_); (refine wlC h2 ?_); (refine wlk ?_); (refine wfT ?_); rfl))
set_option maxHeartbeats 4000000 in
set_option maxRecDepth 100000 in
theorem psameLit (a b : Lt) : FnD Try.prog 153 [ltA a, ltA b] (.one (bA (a.same b))) := by
  obtain ⟨an, al, ar⟩ := a
  obtain ⟨bn, bl, br⟩ := b
  have h1 := psame al bl
  have h2 := psame ar br
  rw [lt_same]
  dsimp only
  generalize al.same bl = e1 at *
  generalize ar.same br = e2 at *
  refine Fn.of Try.func153 rfl Try.ntmps153 rfl (Nat.le_of_ble_eq_true rfl) ?_
  cases an <;> cases bn
  rotate_left 1
  · (refine wlk ?_)
    (refine wfT ?_)
    rfl
  · (refine wlk ?_)
    (refine wfT ?_)
    rfl
  all_goals (cases e1; · ((refine wlk ?_); (refine wlC h1 ?_); (refine wlk ?_); (refine wfT ?_); rfl))
  all_goals (cases e2 <;> ((refine wlk ?_); (refine wlC h1 ?_); (refine wlk ?_); (refine wlC h2 ?_); (refine wlk ?_); (refine wfT ?_); rfl))
theorem clSame_ext {a b : List Lt} (hl : a.length = b.length) (h : ∀ (j : Nat) x, j < a.length → a[j]? = some x → b[j]? = some x) : a = b := by
  refine List.ext_getElem? fun i => ?_
  by_cases hi : i < a.length
  · obtain ⟨x, hx⟩ := get_of_lt hi
    rw [hx, h i x hi hx]
  · rw [List.getElem?_eq_none (by omega), List.getElem?_eq_none (by omega)]
theorem clSame_no {a b : List Lt} (h : a ≠ b) : false = clSame a b := by
  cases e : clSame a b
  · rfl
  · exact absurd (clSame_iff.1 e) h
theorem clSame_yes {a b : List Lt} (h : a = b) : true = clSame a b := (clSame_iff.2 h).symm
theorem ne_at {α : Type} {a b : List α} {k : Nat} {x y : α} (hx : a[k]? = some x) (hy : b[k]? = some y) (h : x ≠ y) : a ≠ b := fun e => by
  rw [e, hy] at hx; injection hx with hx; exact h hx.symm
set_option maxHeartbeats 4000000 in
set_option maxRecDepth 100000 in
theorem rsameClause (a b : List Lt) : FnD Try.prog 70 [lA Lt.d a, lA Lt.d b] (.one (bA (clSame a b))) := by
  refine Fn.of Try.func70 rfl Try.ntmps70 rfl (Nat.le_of_ble_eq_true rfl) ?_
  refine dwp_len (t := 0) (ds := a.map Lt.d) rfl fun hbl => ?_
  rw [List.length_map] at hbl
  by_cases hl : a.length = b.length
  rotate_left
  · (refine wlk ?_)
    (refine wfT ?_)
    exact Xb (b := false) (clSame_no fun e => hl (by rw [e]))
  (refine wlk ?_)
  refine dwp_loop (fun k : Nat => [(.t 0, some (.one (lA Lt.d a))), (.t 1, some (.one (lA Lt.d b))), (.t 12, some (.one (iA a.length))), (.t 13, some (.one (iA k)))])
    (fun k => k ≤ a.length ∧ ∀ (j : Nat) x, j < k → a[j]? = some x → b[j]? = some x) (fun k => a.length - k) 0 ⟨by omega, fun j x h => absurd h (by omega)⟩ fgs ?_
  rintro k ⟨hk, hno⟩
  by_cases hkl : k < a.length
  · obtain ⟨x, hx⟩ := get_of_lt hkl
    obtain ⟨y, hy⟩ := get_of_lt (s := b) (k := k) (by omega)
    have hc := rsameLit x y
    cases e : x.same y
    · rw [e] at hc
      (refine wlk ?_)
      (refine wlC hc ?_)
      (refine wlk ?_)
      (refine wfT ?_)
      exact Xb (b := false) (clSame_no (ne_at hx hy fun h => by rw [Lt.same_iff.2 h] at e; cases e))
    · rw [e] at hc
      (refine wlk ?_)
      (refine wlC hc ?_)
      (refine wlk ?_)
      exact ⟨k + 1, ⟨by omega, upto_succI hno hx (by rw [hy, Lt.same_iff.1 e])⟩, fgs, by omega⟩
  · have : k = a.length := by omega
    subst this
    (refine wlk ?_)
    (refine wfT ?_)
    exact Xb (b := true) (clSame_yes (clSame_ext hl hno))
set_option maxHeartbeats 4000000 in
set_option maxRecDepth 100000 in
theorem eqfL (a b : List Lt) : FnD Try.prog 152 [lA Lt.d a, lA Lt.d b, .c (.val (.func (.func 153) #[] #[]))] (.one (bA (clSame a b))) := by
  refine Fn.of Try.func152 rfl Try.ntmps152 rfl (Nat.le_of_ble_eq_true rfl) ?_
  refine dwp_len (t := 0) (ds := a.map Lt.d) rfl fun hbl => ?_
  rw [List.length_map] at hbl
  by_cases hl : a.length = b.length
  rotate_left
  · (refine wlk ?_)
    (refine wfT ?_)
    exact Xb (b := false) (clSame_no fun e => hl (by rw [e]))
  (refine wlk ?_)
  refine dwp_loop (fun k : Nat => [(.t 1, some (.one (lA Lt.d b))), (.t 2, some (.one (.c (.val (.func (.func 153) #[] #[]))))), (.t 15, some (.one (lA Lt.d a))), (.t 16, some (.one (iA a.length))), (.t 17, some (.one (iA k)))])
    (fun k => k ≤ a.length ∧ ∀ (j : Nat) x, j < k → a[j]? = some x → b[j]? = some x) (fun k => a.length - k) 0 ⟨by omega, fun j x h => absurd h (by omega)⟩ fgs ?_
  rintro k ⟨hk, hno⟩
  by_cases hkl : k < a.length
  · obtain ⟨x, hx⟩ := get_of_lt hkl
    obtain ⟨y, hy⟩ := get_of_lt (s := b) (k := k) (by omega)
    have hc := psameLit x y
    cases e : x.same y
    · rw [e] at hc
      (refine wlk ?_)
      (refine wlC hc ?_)
      (refine wlk ?_)
      (refine wfT ?_)
      exact Xb (b := false) (clSame_no (ne_at hx hy fun h => by rw [Lt.same_iff.2 h] at e; cases e))
    · rw [e] at hc
      (refine wlk ?_)
      (refine wlC hc ?_)
      (refine wlk ?_)
      exact ⟨k + 1, ⟨by omega, upto_succI hno hx (by rw [hy, Lt.same_iff.1 e])⟩, fgs, by omega⟩
  · have : k = a.length := by omega
    subst this
    (refine wlk ?_)
    (refine wfT ?_)
    exact Xb (b := true) (clSame_yes (clSame_ext hl hno))
set_option maxRecDepth 100000 in
theorem psameClause (a b : List Lt) : FnD Try.prog 125 [lA Lt.d a, lA Lt.d b] (.one (bA (clSame a b))) := by
  refine Fn.of Try.func125 rfl Try.ntmps125 rfl (Nat.le_of_ble_eq_true rfl) ?_
  (refine wlk ?_)
  (refine SqA.b1 (op_call none rfl rfl rfl (by kernel_rfl) (FnD.use (eqfL a b)) rfl rfl rfl rfl rfl rfl) rfl rfl ?_)
  (refine wlk ?_)
  (refine wfT ?_)
  rfl
set_option maxHeartbeats 4000000 in
set_option maxRecDepth 100000 in
theorem papplyC (s : List Pr) (c : List Lt) (hl : c.length ≤ 1000000000) (hz : clSz c) : FnD Try.prog 139 [lA Pr.d s, lA Lt.d c] (.one (lA Lt.d (each (app s) c))) := by
  refine Fn.of Try.func139 rfl Try.ntmps139 rfl (Nat.le_of_ble_eq_true rfl) ?_
  (refine wlk ?_)
  refine dwp_loop (fun k : Nat => [(.t 0, some (.one (lA Pr.d s))), (.t 5, some (.one (.c (.own 59 7 ((each (app s) (c.take k)).map Lt.d))))), (.t 8, some (.one (lA Lt.d c))), (.t 9, some (.one (iA c.length))), (.t 10, some (.one (iA k)))])
    (fun k => k ≤ c.length) (fun k => c.length - k) 0 (by omega) ((Wk.nilOwn (d := 5) (E := 59) (m := 7) rfl).trans fgs) ?_
  intro k hk
  by_cases hkl : k < c.length
  · obtain ⟨⟨ng, xl, xr⟩, hx⟩ := get_of_lt hkl
    have hzx := hz _ (List.mem_of_getElem? hx)
    dsimp only at hzx
    have h1 := bapply s xl (by omega)
    have h2 := bapply s xr (by omega)
    have hsn := each_snoc (g := app s) hx
    have hel : (each (app s) (c.take (k + 1))).length ≤ 1000000000 := by rw [each_len, List.length_take]; omega
    (refine wlk ?_)
    (refine wlC h1 ?_)
    (refine wlk ?_)
    (refine wlC h2 ?_)
    (refine wlk ?_)
    (refine SqA.b1 (op_bsT (T := TB) (f := Lt.d) [(⟨ng, app s xl, app s xr⟩ : Lt)] rfl rfl rfl rfl rfl rfl rfl rfl rfl rfl rfl) rfl rfl ?_)
    (refine wlk ?_)
    exact ⟨k + 1, by omega, fgs, by omega⟩
  · have : k = c.length := by omega
    subst this
    rw [List.take_length]
    (refine wlk ?_)
    refine fin_wk (fun n => Wk.freezeAt (d := 4) rfl) ?_
    (refine wfT ?_)
    rfl
set_option maxHeartbeats 4000000 in
set_option maxRecDepth 100000 in
theorem prenameC (kk : Int) (h0 : 0 ≤ kk) (h1k : kk ≤ 1000) (c : List Lt) (hl : c.length ≤ 1000000000) (hz : clSz c) (hk : clOkv c) : FnD Try.prog 114 [lA Lt.d c, iA kk] (.one (lA Lt.d (each (ren kk) c))) := by
  refine Fn.of Try.func114 rfl Try.ntmps114 rfl (Nat.le_of_ble_eq_true rfl) ?_
  (refine wlk ?_)
  refine dwp_loop (fun k : Nat => [(.t 1, some (.one (iA kk))), (.t 5, some (.one (.c (.own 59 7 ((each (ren kk) (c.take k)).map Lt.d))))), (.t 8, some (.one (lA Lt.d c))), (.t 9, some (.one (iA c.length))), (.t 10, some (.one (iA k)))])
    (fun k => k ≤ c.length) (fun k => c.length - k) 0 (by omega) ((Wk.nilOwn (d := 5) (E := 59) (m := 7) rfl).trans fgs) ?_
  intro k hk'
  by_cases hkl : k < c.length
  · obtain ⟨⟨ng, xl, xr⟩, hx⟩ := get_of_lt hkl
    have hzx := hz _ (List.mem_of_getElem? hx)
    have hkx := hk _ (List.mem_of_getElem? hx)
    dsimp only at hzx hkx
    have h1 := brename kk h0 h1k xl hkx.1 (by omega)
    have h2 := brename kk h0 h1k xr hkx.2 (by omega)
    have hsn := each_snoc (g := ren kk) hx
    have hel : (each (ren kk) (c.take (k + 1))).length ≤ 1000000000 := by rw [each_len, List.length_take]; omega
    (refine wlk ?_)
    (refine wlC h1 ?_)
    (refine wlk ?_)
    (refine wlC h2 ?_)
    (refine wlk ?_)
    (refine SqA.b1 (op_bsT (T := TB) (f := Lt.d) [(⟨ng, ren kk xl, ren kk xr⟩ : Lt)] rfl rfl rfl rfl rfl rfl rfl rfl rfl rfl rfl) rfl rfl ?_)
    (refine wlk ?_)
    exact ⟨k + 1, by omega, fgs, by omega⟩
  · have : k = c.length := by omega
    subst this
    rw [List.take_length]
    (refine wlk ?_)
    refine fin_wk (fun n => Wk.freezeAt (d := 4) rfl) ?_
    (refine wfT ?_)
    rfl
def idxP {α : Type} (p : α → Bool) : Nat → List α → Int
  | _, [] => -1
  | i, x :: l => if p x then (i : Int) else idxP p (i + 1) l
theorem idxP_at {α : Type} {p : α → Bool} : ∀ {l : List α} {i k : Nat} {v : α}, (∀ j x, j < k → l[j]? = some x → p x = false) → l[k]? = some v → p v = true → idxP p i l = ((i + k : Nat) : Int)
  | [], i, k, v, _, h, _ => by simp at h
  | x :: l, i, 0, v, _, h, hv => by simp at h; subst h; simp [idxP, hv]
  | x :: l, i, k + 1, v, hno, h, hv => by
    have h0 := hno 0 x (by omega) rfl
    have := idxP_at (p := p) (l := l) (i := i + 1) (k := k) (v := v) (fun j y hj hy => hno (j + 1) y (by omega) (by simpa using hy)) (by simpa using h) hv
    simp only [idxP, h0, Bool.false_eq_true, if_false]
    rw [this]
    congr 1; omega
theorem idxP_no {α : Type} {p : α → Bool} : ∀ {l : List α} {i : Nat}, (∀ x ∈ l, p x = false) → idxP p i l = -1
  | [], _, _ => rfl
  | x :: l, i, h => by
    simp only [idxP, h x (by simp), Bool.false_eq_true, if_false]
    exact idxP_no fun y hy => h y (by simp [hy])
theorem idxP_any {α : Type} {p : α → Bool} : ∀ {l : List α} {i : Nat}, l.any p = true → 0 ≤ idxP p i l
  | [], _, h => by simp at h
  | x :: l, i, h => by
    simp only [idxP]
    split
    · omega
    · rename_i hne
      simp only [List.any_cons, Bool.or_eq_true] at h
      rcases h with h | h
      · exact absurd h hne
      · exact idxP_any h
theorem any_no {α : Type} {p : α → Bool} {l : List α} (h : l.any p = false) : ∀ x ∈ l, p x = false := fun x hx => by
  have := List.any_eq_false.1 h x hx
  simpa using this
set_option maxHeartbeats 4000000 in
set_option maxRecDepth 100000 in
theorem idxFL (f : FuncId) (fc : List FC) (p : Lt → Bool) (hf : enters Try.prog f = true) (l : List Lt) (hp : ∀ x ∈ l, FnD Try.prog f [ltA x, .c (.fp fc)] (.one (bA (p x)))) :
    FnD Try.prog 165 [lA Lt.d l, .c (.fnv f [fc])] (.one (iA (idxP p 0 l))) := by
  refine Fn.of Try.func165 rfl Try.ntmps165 rfl (Nat.le_of_ble_eq_true rfl) ?_
  refine dwp_len (t := 0) rfl fun hbl => ?_
  rw [List.length_map] at hbl
  (refine wlk ?_)
  refine dwp_loop (fun k : Nat => [(.t 0, some (.one (lA Lt.d l))), (.t 1, some (.one (.c (.fnv f [fc])))), (.t 7, some (.one (iA l.length))), (.t 8, some (.one (iA k)))])
    (fun k => k ≤ l.length ∧ ∀ j x, j < k → l[j]? = some x → p x = false) (fun k => l.length - k) 0 ⟨by omega, fun j x h => absurd h (by omega)⟩ fgs ?_
  rintro k ⟨hk, hno⟩
  by_cases hkl : k < l.length
  · obtain ⟨x, hx⟩ := get_of_lt hkl
    have hc := hp x (List.mem_of_getElem? hx)
    cases e : p x
    · rw [e] at hc
      (refine wlk ?_)
      (refine SqA.b1 (op_callV none rfl rfl rfl hf (FnD.use (hc)) rfl rfl rfl rfl rfl rfl) rfl rfl ?_)
      (refine wlk ?_)
      exact ⟨k + 1, ⟨by omega, upto_succ hno hx e⟩, fgs, by omega⟩
    · rw [e] at hc
      (refine wlk ?_)
      (refine SqA.b1 (op_callV none rfl rfl rfl hf (FnD.use (hc)) rfl rfl rfl rfl rfl rfl) rfl rfl ?_)
      (refine wlk ?_)
      (refine wfT ?_)
      exact Xi (b := k) (by rw [idxP_at hno hx e, Nat.zero_add])
  · have : k = l.length := by omega
    subst this
    (refine wlk ?_)
    (refine wfT ?_)
    exact Xi (b := -1) (by rw [idxP_no (any_upto hno)])
set_option maxRecDepth 100000 in
theorem contFL (f : FuncId) (fc : List FC) (p : Lt → Bool) (hf : enters Try.prog f = true) (l : List Lt) (hp : ∀ x ∈ l, FnD Try.prog f [ltA x, .c (.fp fc)] (.one (bA (p x)))) :
    FnD Try.prog 159 [lA Lt.d l, .c (.fnv f [fc])] (.one (bA (l.any p))) := by
  refine Fn.of Try.func159 rfl Try.ntmps159 rfl (Nat.le_of_ble_eq_true rfl) ?_
  have hc := idxFL f fc p hf l hp
  cases e : l.any p
  · have h0 := idxP_no (p := p) (i := 0) (any_no e)
    (refine wlk ?_)
    (refine wlC hc ?_)
    (refine wlk ?_)
    (refine wfT ?_)
    rfl
  · have h0 := idxP_any (p := p) (i := 0) e
    (refine wlk ?_)
    (refine wlC hc ?_)
    (refine wlk ?_)
    (refine wfT ?_)
    rfl
set_option maxHeartbeats 4000000 in
set_option maxRecDepth 100000 in
theorem idxFC (f : FuncId) (fc : List FC) (p : List Lt → Bool) (hf : enters Try.prog f = true) (l : List (List Lt)) (hp : ∀ x ∈ l, FnD Try.prog f [lA Lt.d x, .c (.fp fc)] (.one (bA (p x)))) :
    FnD Try.prog 161 [lA Cl.d l, .c (.fnv f [fc])] (.one (iA (idxP p 0 l))) := by
  refine Fn.of Try.func161 rfl Try.ntmps161 rfl (Nat.le_of_ble_eq_true rfl) ?_
  refine dwp_len (t := 0) rfl fun hbl => ?_
  rw [List.length_map] at hbl
  (refine wlk ?_)
  refine dwp_loop (fun k : Nat => [(.t 0, some (.one (lA Cl.d l))), (.t 1, some (.one (.c (.fnv f [fc])))), (.t 7, some (.one (iA l.length))), (.t 8, some (.one (iA k)))])
    (fun k => k ≤ l.length ∧ ∀ j x, j < k → l[j]? = some x → p x = false) (fun k => l.length - k) 0 ⟨by omega, fun j x h => absurd h (by omega)⟩ fgs ?_
  rintro k ⟨hk, hno⟩
  by_cases hkl : k < l.length
  · obtain ⟨x, hx⟩ := get_of_lt hkl
    have hc := hp x (List.mem_of_getElem? hx)
    cases e : p x
    · rw [e] at hc
      (refine wlk ?_)
      (refine SqA.b1 (op_callV none rfl rfl rfl hf (FnD.use (hc)) rfl rfl rfl rfl rfl rfl) rfl rfl ?_)
      (refine wlk ?_)
      exact ⟨k + 1, ⟨by omega, upto_succ hno hx e⟩, fgs, by omega⟩
    · rw [e] at hc
      (refine wlk ?_)
      (refine SqA.b1 (op_callV none rfl rfl rfl hf (FnD.use (hc)) rfl rfl rfl rfl rfl rfl) rfl rfl ?_)
      (refine wlk ?_)
      (refine wfT ?_)
      exact Xi (b := k) (by rw [idxP_at hno hx e, Nat.zero_add])
  · have : k = l.length := by omega
    subst this
    (refine wlk ?_)
    (refine wfT ?_)
    exact Xi (b := -1) (by rw [idxP_no (any_upto hno)])
set_option maxRecDepth 100000 in
theorem contFC (f : FuncId) (fc : List FC) (p : List Lt → Bool) (hf : enters Try.prog f = true) (l : List (List Lt)) (hp : ∀ x ∈ l, FnD Try.prog f [lA Lt.d x, .c (.fp fc)] (.one (bA (p x)))) :
    FnD Try.prog 143 [lA Cl.d l, .c (.fnv f [fc])] (.one (bA (l.any p))) := by
  refine Fn.of Try.func143 rfl Try.ntmps143 rfl (Nat.le_of_ble_eq_true rfl) ?_
  have hc := idxFC f fc p hf l hp
  cases e : l.any p
  · have h0 := idxP_no (p := p) (i := 0) (any_no e)
    (refine wlk ?_)
    (refine wlC hc ?_)
    (refine wlk ?_)
    (refine wfT ?_)
    rfl
  · have h0 := idxP_any (p := p) (i := 0) e
    (refine wlk ?_)
    (refine wlC hc ?_)
    (refine wlk ?_)
    (refine wfT ?_)
    rfl
set_option maxHeartbeats 4000000 in
set_option maxRecDepth 100000 in
theorem idxFI1 (f : FuncId) (fc : List FC) (p : Int → Bool) (hf : enters Try.prog f = true) (l : List Int) (hp : ∀ x ∈ l, FnD Try.prog f [iA x, .c (.fp fc)] (.one (bA (p x)))) :
    FnD Try.prog 157 [lA Int.d l, .c (.fnv f [fc])] (.one (iA (idxP p 0 l))) := by
  refine Fn.of Try.func157 rfl Try.ntmps157 rfl (Nat.le_of_ble_eq_true rfl) ?_
  refine dwp_len (t := 0) rfl fun hbl => ?_
  rw [List.length_map] at hbl
  (refine wlk ?_)
  refine dwp_loop (fun k : Nat => [(.t 0, some (.one (lA Int.d l))), (.t 1, some (.one (.c (.fnv f [fc])))), (.t 7, some (.one (iA l.length))), (.t 8, some (.one (iA k)))])
    (fun k => k ≤ l.length ∧ ∀ j x, j < k → l[j]? = some x → p x = false) (fun k => l.length - k) 0 ⟨by omega, fun j x h => absurd h (by omega)⟩ fgs ?_
  rintro k ⟨hk, hno⟩
  by_cases hkl : k < l.length
  · obtain ⟨x, hx⟩ := get_of_lt hkl
    have hc := hp x (List.mem_of_getElem? hx)
    cases e : p x
    · rw [e] at hc
      (refine wlk ?_)
      (refine SqA.b1 (op_callV none rfl rfl rfl hf (FnD.use (hc)) rfl rfl rfl rfl rfl rfl) rfl rfl ?_)
      (refine wlk ?_)
      exact ⟨k + 1, ⟨by omega, upto_succ hno hx e⟩, fgs, by omega⟩
    · rw [e] at hc
      (refine wlk ?_)
      (refine SqA.b1 (op_callV none rfl rfl rfl hf (FnD.use (hc)) rfl rfl rfl rfl rfl rfl) rfl rfl ?_)
      (refine wlk ?_)
      (refine wfT ?_)
      exact Xi (b := k) (by rw [idxP_at hno hx e, Nat.zero_add])
  · have : k = l.length := by omega
    subst this
    (refine wlk ?_)
    (refine wfT ?_)
    exact Xi (b := -1) (by rw [idxP_no (any_upto hno)])
set_option maxRecDepth 100000 in
theorem contFI1 (f : FuncId) (fc : List FC) (p : Int → Bool) (hf : enters Try.prog f = true) (l : List Int) (hp : ∀ x ∈ l, FnD Try.prog f [iA x, .c (.fp fc)] (.one (bA (p x)))) :
    FnD Try.prog 135 [lA Int.d l, .c (.fnv f [fc])] (.one (bA (l.any p))) := by
  refine Fn.of Try.func135 rfl Try.ntmps135 rfl (Nat.le_of_ble_eq_true rfl) ?_
  have hc := idxFI1 f fc p hf l hp
  cases e : l.any p
  · have h0 := idxP_no (p := p) (i := 0) (any_no e)
    (refine wlk ?_)
    (refine wlC hc ?_)
    (refine wlk ?_)
    (refine wfT ?_)
    rfl
  · have h0 := idxP_any (p := p) (i := 0) e
    (refine wlk ?_)
    (refine wlC hc ?_)
    (refine wlk ?_)
    (refine wfT ?_)
    rfl
def ltF (l : Lt) : List FC := [.val (.bool l.neg), .val (.bool l.left.var), .val (.int .i64 l.left.n), .arr (l.left.args.map Tm.d), .val (.bool l.right.var), .val (.int .i64 l.right.n), .arr (l.right.args.map Tm.d)]
set_option maxRecDepth 100000 in
theorem phas1 (x l : Lt) : FnD Try.prog 160 [ltA x, .c (.fp (ltF l))] (.one (bA (x.same l))) := by
  refine Fn.of Try.func160 rfl Try.ntmps160 rfl (Nat.le_of_ble_eq_true rfl) ?_
  (refine wlk ?_)
  (refine SqA.b1 (op_call none rfl rfl rfl (by kernel_rfl) (FnD.use (psameLit x l)) rfl rfl rfl rfl rfl rfl) rfl rfl ?_)
  (refine wlk ?_)
  (refine wfT ?_)
  rfl
set_option maxRecDepth 100000 in
theorem phas (c : List Lt) (l : Lt) : FnD Try.prog 140 [lA Lt.d c, ltA l] (.one (bA (c.any fun x => x.same l))) := by
  refine Fn.of Try.func140 rfl Try.ntmps140 rfl (Nat.le_of_ble_eq_true rfl) ?_
  (refine wlR ?_)
  refine dwp_wk (Wk.frzF (t := 3) (j := 3) (fs := ltF l) rfl rfl rfl rfl rfl) ?_
  (refine wlk ?_)
  (refine SqA.b1 (op_mkFn rfl rfl rfl) rfl rfl ?_)
  (refine wlk ?_)
  (refine SqA.b1 (op_call none rfl rfl rfl (by kernel_rfl) (FnD.use (contFL 160 (ltF l) (fun x => x.same l) (by kernel_rfl) c fun x _ => phas1 x l)) rfl rfl rfl rfl rfl rfl) rfl rfl ?_)
  (refine wlk ?_)
  (refine wfT ?_)
  rfl
end Go.Proofs.Ytmanhdacnkpclaa
/- Keeping clauses, step by step, plainly. -/
namespace Go.Proofs.Ytmanhdacnkpclaa
set_option linter.all false
theorem orients_app : ∀ (a b : List Lt), orients (a ++ b) = (orients a).bind fun x => (orients b).map fun y => x ++ y
  | [], b => by cases h : orients b <;> simp [orients, h]
  | l :: a, b => by
    simp only [List.cons_append, orients]
    rw [orients_app a b]
    split
    · split
      · rfl
      · rfl
    · cases orients a <;> cases orients b <;> simp
theorem split_at {α : Type} {c : List α} {k : Nat} {x : α} (h : c[k]? = some x) : c = c.take k ++ x :: c.drop (k + 1) := by rw [← drop_of h, List.take_append_drop]
theorem orients_none_at {c o : List Lt} {k : Nat} {x : Lt} (h : orients (c.take k) = some o) (hx : c[k]? = some x) (hs : x.left.same x.right = true) (hn : x.neg = false) : orients c = none := by
  rw [split_at hx, orients_app, h]
  simp [orients, hs, hn]
theorem orients_skip {c o : List Lt} {k : Nat} {x : Lt} (h : orients (c.take k) = some o) (hx : c[k]? = some x) (hs : x.left.same x.right = true) (hn : x.neg = true) : orients (c.take (k + 1)) = some o := by
  rw [take_succ_of hx, orients_app, h]
  simp [orients, hs, hn]
theorem orients_more {c o : List Lt} {k : Nat} {x : Lt} (h : orients (c.take k) = some o) (hx : c[k]? = some x) (hs : x.left.same x.right = false) : orients (c.take (k + 1)) = some (o ++ [orient1 x]) := by
  rw [take_succ_of hx, orients_app, h]
  simp [orients, hs]
theorem dedup_app : ∀ (a b o : List Lt), dedup o (a ++ b) = (dedup o a).bind fun o' => dedup o' b
  | [], b, o => rfl
  | l :: a, b, o => by
    simp only [List.cons_append, dedup]
    split
    · exact dedup_app a b o
    · split
      · rfl
      · exact dedup_app a b _
theorem dedup_skip {c o : List Lt} {k : Nat} {x : Lt} (h : dedup [] (c.take k) = some o) (hx : c[k]? = some x) (hs : hasS o x = true) : dedup [] (c.take (k + 1)) = some o := by
  rw [take_succ_of hx, dedup_app, h]
  simp [dedup, hs]
theorem dedup_more {c o : List Lt} {k : Nat} {x : Lt} (h : dedup [] (c.take k) = some o) (hx : c[k]? = some x) (hs : hasS o x = false) (hn : hasN o x = false) : dedup [] (c.take (k + 1)) = some (o ++ [x]) := by
  rw [take_succ_of hx, dedup_app, h]
  simp [dedup, hs, hn]
theorem dedup_none_at {c o : List Lt} {k : Nat} {x : Lt} (h : dedup [] (c.take k) = some o) (hx : c[k]? = some x) (hs : hasS o x = false) (hn : hasN o x = true) : dedup [] c = none := by
  rw [split_at hx, dedup_app, h]
  simp [dedup, hs, hn]
theorem numbF_snoc : ∀ (vs : List Int) (i : Nat) (v : Int), numbF i (vs ++ [v]) = numbF i vs ++ [(v, ⟨true, ((i + vs.length : Nat) : Int), []⟩)]
  | [], i, v => by simp [numbF]
  | u :: vs, i, v => by
    simp only [List.cons_append, numbF, numbF_snoc vs (i + 1) v, List.length_cons]
    rw [show i + 1 + vs.length = i + (vs.length + 1) by omega]
theorem numb_snoc {vs : List Int} {k : Nat} {v : Int} (h : vs[k]? = some v) : numb (vs.take k) ++ [(v, ⟨true, (k : Int), []⟩)] = numb (vs.take (k + 1)) := by
  have hk := (List.getElem?_eq_some_iff.1 h).1
  have := numbF_snoc (vs.take k) 0 v
  rw [← take_succ_of h] at this
  unfold numb
  rw [this]
  have e : (vs.take k).length = k := by rw [List.length_take]; omega
  rw [e, Nat.zero_add]
theorem numb_len (vs : List Int) : (numb vs).length = vs.length := by
  unfold numb
  have : ∀ (vs : List Int) (i : Nat), (numbF i vs).length = vs.length := by
    intro vs
    induction vs with
    | nil => intro i; rfl
    | cons v vs ih => intro i; simp [numbF, ih]
  exact this vs 0
theorem hasS_eq (o : List Lt) (l : Lt) : hasS o l = ((o.any fun x => x.same l) || o.any fun x => x.same ⟨l.neg, l.right, l.left⟩) := by
  unfold hasS
  induction o with
  | nil => rfl
  | cons y o ih =>
    simp only [List.any_cons, ih]
    have : (like l y && (y.neg == l.neg)) = (y.same l || y.same ⟨l.neg, l.right, l.left⟩) := by
      rw [Bool.eq_iff_iff]
      simp only [Bool.and_eq_true, Bool.or_eq_true, like_iff, beq_iff_eq, Lt.same_iff]
      obtain ⟨yn, yl, yr⟩ := y
      obtain ⟨ln, ll, lr⟩ := l
      simp only [Lt.mk.injEq]
      constructor
      · rintro ⟨⟨h1, h2⟩ | ⟨h1, h2⟩, h3⟩
        · exact .inl ⟨h3, h1.symm, h2.symm⟩
        · exact .inr ⟨h3, h2.symm, h1.symm⟩
      · rintro (⟨h3, h1, h2⟩ | ⟨h3, h1, h2⟩)
        · exact ⟨.inl ⟨h1.symm, h2.symm⟩, h3⟩
        · exact ⟨.inr ⟨h2.symm, h1.symm⟩, h3⟩
    rw [this]
    cases y.same l <;> cases y.same ⟨l.neg, l.right, l.left⟩ <;> simp
theorem hasN_eq (o : List Lt) (l : Lt) : hasN o l = ((o.any fun x => x.same ⟨!l.neg, l.left, l.right⟩) || o.any fun x => x.same ⟨!l.neg, l.right, l.left⟩) := by
  unfold hasN
  induction o with
  | nil => rfl
  | cons y o ih =>
    simp only [List.any_cons, ih]
    have : (like l y && (y.neg != l.neg)) = (y.same ⟨!l.neg, l.left, l.right⟩ || y.same ⟨!l.neg, l.right, l.left⟩) := by
      rw [Bool.eq_iff_iff]
      simp only [Bool.and_eq_true, Bool.or_eq_true, like_iff, bne_iff_ne, ne_eq, Lt.same_iff]
      obtain ⟨yn, yl, yr⟩ := y
      obtain ⟨ln, ll, lr⟩ := l
      simp only [Lt.mk.injEq]
      have hb : (¬ yn = ln) ↔ yn = !ln := by cases yn <;> cases ln <;> simp
      rw [hb]
      constructor
      · rintro ⟨⟨h1, h2⟩ | ⟨h1, h2⟩, h3⟩
        · exact .inl ⟨h3, h1.symm, h2.symm⟩
        · exact .inr ⟨h3, h2.symm, h1.symm⟩
      · rintro (⟨h3, h1, h2⟩ | ⟨h3, h1, h2⟩)
        · exact ⟨.inl ⟨h1.symm, h2.symm⟩, h3⟩
        · exact ⟨.inr ⟨h2.symm, h1.symm⟩, h3⟩
    rw [this]
    cases y.same ⟨!l.neg, l.left, l.right⟩ <;> cases y.same ⟨!l.neg, l.right, l.left⟩ <;> simp
theorem compare_less {a b : Tm} (ha : a.okv = true) (hb : b.okv = true) : compare a b = 1 ↔ above b a = true := by
  rw [← compare_more hb, compare_flip ha hb]
  by_cases h1 : compare a b = 1
  · simp [h1]
  · by_cases h3 : compare a b = 3
    · simp [h3]
    · simp [h1, h3]
theorem norm_n1 {c : List Lt} (h : orients c = none) : norm c = ([], 6) := by unfold norm; rw [h]
theorem norm_n2 {c o : List Lt} (h : orients c = some o) (hd : dedup [] (each (app (numb (clVars [] o))) o) = none) : norm c = ([], 6) := by unfold norm; rw [h]; dsimp only; rw [hd]
theorem norm_n3 {c o d : List Lt} (h : orients c = some o) (hd : dedup [] (each (app (numb (clVars [] o))) o) = some d) : norm c = if 4 < d.length ∨ 5 < (clVars [] o).length ∨ bigCl d = true then ([], 4) else (d, 0) := by unfold norm; rw [h]; dsimp only; rw [hd]
theorem bigCl_at {d : List Lt} {k : Nat} {x : Lt} (hx : d[k]? = some x) (h : 12 < x.left.size ∨ 12 < x.right.size) : bigCl d = true := List.any_eq_true.2 ⟨x, List.mem_of_getElem? hx, decide_eq_true h⟩
theorem bigCl_yes {d : List Lt} (h : ∀ (j : Nat) x, j < d.length → d[j]? = some x → x.left.size ≤ 12 ∧ x.right.size ≤ 12) : ¬ bigCl d = true := fun hb => by
  obtain ⟨x, hx, hh⟩ := List.any_eq_true.1 hb
  have := any_upto h x hx
  simp only [decide_eq_true_eq] at hh
  omega
end Go.Proofs.Ytmanhdacnkpclaa
/- Keeping clauses: what the walks need. -/
namespace Go.Proofs.Ytmanhdacnkpclaa
set_option linter.all false
open Go.RowKit
theorem w64 {n : Nat} (h : n ≤ 4000000000000000000) : wrap64 (n : Int) = n := by unfold wrap64; omega
theorem orients_sz {c o : List Lt} (h : orients c = some o) (hc : clSz c) : clSz o := fun l hl => by
  obtain ⟨k, hk, _, rfl⟩ := orients_mem h l hl
  have := hc k hk
  rcases orient1_two k with ⟨e1, e2⟩ | ⟨e1, e2⟩ <;> rw [e1, e2] <;> omega
theorem numb_sz {o : List Lt} (hk : clOkv o) (hc : clSz o) : clSz (each (app (numb (clVars [] o))) o) := fun l hl => by
  simp only [each, List.mem_map] at hl
  obtain ⟨x, hx, rfl⟩ := hl
  have h1 := size_numb (vs := clVars [] o) x.left (hk x hx).1 fun v hv => mem_clVars o [] hk x hx (.inl hv)
  have h2 := size_numb (vs := clVars [] o) x.right (hk x hx).2 fun v hv => mem_clVars o [] hk x hx (.inr hv)
  have := hc x hx
  dsimp only
  omega
theorem Xn {c : List Lt} {e : Int} {r : List Lt × Int} (h : (c, e) = r) : (.tup [lA Lt.d c, iA e] : X) = .tup [lA Lt.d r.1, iA r.2] := by rw [← h]
end Go.Proofs.Ytmanhdacnkpclaa
namespace Go.Proofs.Ytmanhdacnkpclaa
set_option linter.all false
open Go.RowKit
theorem unit_no {c : List Lt} (h : c.length ≠ 1) : unit c = false := by
  match c, h with
  | [], _ => rfl
  | [l], h => simp at h
  | _ :: _ :: _, _ => rfl
set_option maxRecDepth 100000 in
theorem punit (c : List Lt) : FnD Try.prog 61 [lA Lt.d c] (.one (bA (unit c))) := by
  refine Fn.of Try.func61 rfl Try.ntmps61 rfl (Nat.le_of_ble_eq_true rfl) ?_
  by_cases h1 : c.length = 1
  · obtain ⟨⟨ng, xl, xr⟩, rfl⟩ : ∃ l, c = [l] := by
      match c, h1 with
      | [l], _ => exact ⟨l, rfl⟩
    have h0 : [(⟨ng, xl, xr⟩ : Lt)][0]? = some ⟨ng, xl, xr⟩ := rfl
    (refine wlk ?_)
    (refine wfT ?_)
    rfl
  · (refine wlk ?_)
    (refine wfT ?_)
    exact Xb (b := false) (unit_no h1).symm
def rightC (s : List Int) (l : List (List Lt)) : Bool := decide (wrongSig s = 0) && (decide (l.length ≤ 8) && l.all fun c => decide (wrongCl s c = 0))
theorem right_of {s : List Int} {l : List (List Lt)} (h : rightC s l = true) : wrongSig s = 0 ∧ l.length ≤ 8 ∧ ∀ c ∈ l, COk s c := by
  simp only [rightC, Bool.and_eq_true, decide_eq_true_eq, List.all_eq_true] at h
  exact ⟨h.1, h.2.1, fun c hc => cok_of h.1 (h.2.2 c hc)⟩
set_option maxRecDepth 100000 in
theorem rright (s : List Int) (l : List (List Lt)) : FnD Try.prog 60 [lA Int.d s, lA Cl.d l] (.one (bA (rightC s l))) := by
  refine Fn.of Try.func60 rfl Try.ntmps60 rfl (Nat.le_of_ble_eq_true rfl) ?_
  have hs := rwrongSig s
  by_cases h0 : wrongSig s = 0
  rotate_left
  · (refine wlk ?_)
    (refine wlC hs ?_)
    (refine wlk ?_)
    (refine wfT ?_)
    exact Xb (b := false) (by simp [rightC, h0])
  by_cases h8 : l.length ≤ 8
  rotate_left
  · (refine wlk ?_)
    (refine wlC hs ?_)
    (refine wlk ?_)
    (refine wfT ?_)
    exact Xb (b := false) (by simp [rightC, h8])
  (refine wlk ?_)
  (refine wlC hs ?_)
  (refine wlk ?_)
  refine dwp_loop (fun k : Nat => [(.t 0, some (.one (lA Int.d s))), (.t 15, some (.one (lA Cl.d l))), (.t 16, some (.one (iA l.length))), (.t 17, some (.one (iA k)))])
    (fun k => k ≤ l.length ∧ ∀ j x, j < k → l[j]? = some x → wrongCl s x = 0) (fun k => l.length - k) 0 ⟨by omega, fun j x h => absurd h (by omega)⟩ fgs ?_
  rintro k ⟨hk, hno⟩
  by_cases hkl : k < l.length
  · obtain ⟨x, hx⟩ := get_of_lt hkl
    have hc := rwrongCl s x
    by_cases e : wrongCl s x = 0
    · (refine wlk ?_)
      (refine wlC hc ?_)
      (refine wlk ?_)
      exact ⟨k + 1, ⟨by omega, upto_succ hno hx e⟩, fgs, by omega⟩
    · (refine wlk ?_)
      (refine wlC hc ?_)
      (refine wlk ?_)
      (refine wfT ?_)
      exact Xb (b := false) (by
        have : (l.all fun c => decide (wrongCl s c = 0)) = false := List.all_eq_false.2 ⟨x, List.mem_of_getElem? hx, by simp [e]⟩
        simp [rightC, this])
  · have : k = l.length := by omega
    subst this
    (refine wlk ?_)
    (refine wfT ?_)
    exact Xb (b := true) (by
      have : (l.all fun c => decide (wrongCl s c = 0)) = true := List.all_eq_true.2 fun x hx => decide_eq_true (any_upto hno x hx)
      simp [rightC, h0, h8, this])
section
variable {n : Nat} {o : Oper} {σ : St}
theorem op_idx2B {d j q k : Nat} {s i : Operand} {kk : IntKind} {zi : Int} (hd : o.dst = some d) (ho : o.op = .indexAddr 111 s i) (hs : St.ev σ s = some (.one (.c (.ptr j q)))) (hi : St.ev σ i = some (.one (.c (.val (.int kk zi))))) (hz : zi = (k : Int)) (hk : k < 2) :
    Op1 Try.prog n o ⟨(opKey s ++ opKey i) ++ (X.one (.c (.ptr j (q + k * 3)))).ids.map Key.b, [.t d], []⟩ σ [(.t d, some (.one (.c (.ptr j (q + k * 3)))))] := op_idxB hd ho ar2 ar2E hs hi hz hk (by omega)
end
set_option maxRecDepth 100000 in
theorem pdown1 (vs : List Int) (v : Int) : FnD Try.prog 136 [iA v, .c (.fp [.arr (vs.map Int.d)])] (.one (bA (!vs.contains v))) := by
  refine Fn.of Try.func136 rfl Try.ntmps136 rfl (Nat.le_of_ble_eq_true rfl) ?_
  (refine wlk ?_)
  (refine SqA.b1 (op_call none rfl rfl rfl (by kernel_rfl) (FnD.use (ccontI vs v)) rfl rfl rfl rfl rfl rfl) rfl rfl ?_)
  (refine wlk ?_)
  (refine wfT ?_)
  rfl
theorem try1_of_match {t : Tm} {w : Tm × Tm} {s : List Pr} (h : matchR w.1 t = (s, true)) : try1 t w = if (vars [] w.2).any (fun v => !(vars [] w.1).contains v) then none else if above t (app s w.2) then some (app s w.2) else none := by
  unfold try1; rw [h]
theorem try1_of_no {t : Tm} {w : Tm × Tm} {s : List Pr} (h : matchR w.1 t = (s, false)) : try1 t w = none := by
  unfold try1; rw [h]
theorem down1_step {us : List (List Lt)} {t : Tm} {u : List Lt} {k : Nat} (h : ∀ j x, j < k → us[j]? = some x → firstS (try1 t) (wayOf x) = none) (hu : us[k]? = some u) {r : Tm} (hr : firstS (try1 t) (wayOf u) = some r) : down1 us t = some r := firstS_hit h hu hr
set_option maxHeartbeats 40000000 in
set_option maxRecDepth 100000 in
theorem pdown {S : List Int} {us : List (List Lt)} (hu : UsSz S us) (t : Tm) (ht : t.ar S = true) (hz : t.size ≤ 12) : FnD Try.prog 103 [tA t, lA Cl.d us] (.tup (resF (down1 us t))) := by
  refine Fn.of Try.func103 rfl Try.ntmps103 rfl (Nat.le_of_ble_eq_true rfl) ?_
  have hk := Tm.ar_okv t ht
  refine dwp_len (t := 1) (ds := us.map Cl.d) rfl fun hbl => ?_
  rw [List.length_map] at hbl
  (refine wlk ?_)
  refine dwp_loop (fun k : Nat => [(.t 2, some (.one (.c (.ptr 2 0)))), (.b 2, some (.box (tA t).cells)), (.t 4, some (.one (.c (.ptr 4 0)))), (.b 4, some (.box [.val (.bool false), .val (.int .i64 0), .val (.slice none 0 0)])),
      (.t 14, some (.one (lA Cl.d us))), (.t 15, some (.one (iA us.length))), (.t 16, some (.one (iA k)))])
    (fun k => k ≤ us.length ∧ ∀ j x, j < k → us[j]? = some x → firstS (try1 t) (wayOf x) = none) (fun k => us.length - k) 0 ⟨by omega, fun j x h => absurd h (by omega)⟩ fgs ?_
  rintro k ⟨hkk, hno⟩
  by_cases hkl : k < us.length
  · obtain ⟨u, hx⟩ := get_of_lt hkl
    obtain ⟨⟨ng, xl, xr⟩, rfl, hng, hwf, hsz⟩ := hu.one (List.mem_of_getElem? hx)
    dsimp only at hng hwf hsz
    subst hng
    have h0 : [(⟨false, xl, xr⟩ : Lt)][0]? = some ⟨false, xl, xr⟩ := rfl
    have hwo : wayOf [(⟨false, xl, xr⟩ : Lt)] = [(xl, xr), (xr, xl)] := rfl
    (refine wlk ?_)
    (refine SqA.b1 (op_bsT (T := TB) (f := Tw.d) [((xl, xr) : Tm × Tm), (xr, xl)] rfl rfl rfl rfl rfl rfl rfl rfl rfl rfl rfl) rfl rfl ?_)
    (refine wlk ?_)
    refine dwp_loop (fun j : Nat => [(.t 2, some (.one (.c (.ptr 2 0)))), (.b 2, some (.box (tA t).cells)), (.t 4, some (.one (.c (.ptr 4 0)))), (.b 4, some (.box [.val (.bool false), .val (.int .i64 0), .val (.slice none 0 0)])),
        (.t 14, some (.one (lA Cl.d us))), (.t 15, some (.one (iA us.length))), (.t 16, some (.one (iA k))), (.t 38, some (.one (lA Tw.d [((xl, xr) : Tm × Tm), (xr, xl)]))), (.t 39, some (.one (iA (2 : Nat)))), (.t 40, some (.one (iA j)))])
      (fun j => j ≤ 2 ∧ ∀ i w, i < j → [((xl, xr) : Tm × Tm), (xr, xl)][i]? = some w → try1 t w = none) (fun j => 2 - j) 0 ⟨by omega, fun j x h => absurd h (by omega)⟩ fgs ?_
    rintro j ⟨hj, hnj⟩
    by_cases hj2 : j < 2
    · obtain ⟨⟨a, b⟩, hw, ha, hb, haz, hbz⟩ : ∃ w : Tm × Tm, [((xl, xr) : Tm × Tm), (xr, xl)][j]? = some w ∧ w.1.wf S = true ∧ w.2.wf S = true ∧ w.1.size ≤ 12 ∧ w.2.size ≤ 12 := by
        rcases (show j = 0 ∨ j = 1 by omega) with rfl | rfl
        · exact ⟨(xl, xr), rfl, hwf.1, hwf.2, hsz.1, hsz.2⟩
        · exact ⟨(xr, xl), rfl, hwf.2, hwf.1, hsz.2, hsz.1⟩
      dsimp only at ha hb haz hbz
      have g1 := bmatch a t (by omega)
      cases hm : matchR a t with
      | mk s ok =>
        rw [hm] at g1
        cases ok
        · (refine wlk ?_)
          (refine SqA.b1 (op_idx2B (k := 0) rfl rfl rfl rfl rfl (by decide)) rfl rfl ?_)
          (refine wlk ?_)
          (refine wlC g1 ?_)
          (refine wlk ?_)
          exact ⟨j + 1, ⟨by omega, upto_succ hnj hw (try1_of_no hm)⟩, fgs, by omega⟩
        · have hsa : subAr S s := by have := matchR_ar (p := a) ht; rw [hm] at this; exact this
          have hss : ∀ q ∈ s, q.2.size ≤ 12 := by have := matchR_size (p := a) hz; rw [hm] at this; exact this
          have hrz := app_small hss (Tm.wf_okv b hb) hbz
          have hra : (app s b).ar S = true := app_ar hsa b (Tm.wf_ar b hb)
          have g2 := FnD.nil (pvars a [] (by simp; omega)) 0 rfl
          have g3 := FnD.nil (pvars b [] (by simp; omega)) 0 rfl
          have g4 := contFI1 136 [.arr ((vars [] a).map Int.d)] (fun v => !(vars [] a).contains v) (by kernel_rfl) (vars [] b) fun v _ => pdown1 (vars [] a) v
          have g5 := bapply s b (by omega)
          have g6 := pcompare t (app s b) (by omega) (by omega) hk (Tm.ar_okv _ hra)
          have h3 := compare_more (b := app s b) hk
          have htry := try1_of_match (w := (a, b)) hm
          dsimp only at htry
          cases hany : ((vars [] b).any fun v => !(vars [] a).contains v)
          rotate_left
          · rw [hany] at g4 htry
            rw [if_pos rfl] at htry
            (refine wlk ?_)
            (refine SqA.b1 (op_idx2B (k := 0) rfl rfl rfl rfl rfl (by decide)) rfl rfl ?_)
            (refine wlk ?_)
            (refine wlC g1 ?_)
            (refine wlk ?_)
            (refine SqA.b1 (op_idx2B (k := 0) rfl rfl rfl rfl rfl (by decide)) rfl rfl ?_)
            (refine wlk ?_)
            (refine wlC g2 ?_)
            (refine wlE ?_)
            refine dwp_wk (Wk.frzF (t := 12) (j := 12) (fs := [.arr ((vars [] a).map Int.d)]) rfl rfl rfl rfl rfl) ?_
            (refine wlk ?_)
            (refine SqA.b1 (op_idx2B (k := 1) rfl rfl rfl rfl rfl (by decide)) rfl rfl ?_)
            (refine wlk ?_)
            (refine wlC g3 ?_)
            (refine wlk ?_)
            (refine SqA.b1 (op_mkFn rfl rfl rfl) rfl rfl ?_)
            (refine wlk ?_)
            (refine wlC g4 ?_)
            (refine wlk ?_)
            exact ⟨j + 1, ⟨by omega, upto_succ hnj hw htry⟩, fgs, by omega⟩
          · rw [hany] at g4 htry
            rw [if_neg (by simp)] at htry
            by_cases ha3 : above t (app s b) = true
            · rw [if_pos ha3] at htry
              have hc3 := h3.2 ha3
              have hr := down1_step hno hx (firstS_hit (f := try1 t) hnj hw htry)
              rw [hr]
              (refine wlk ?_)
              (refine SqA.b1 (op_idx2B (k := 0) rfl rfl rfl rfl rfl (by decide)) rfl rfl ?_)
              (refine wlk ?_)
              (refine wlC g1 ?_)
              (refine wlk ?_)
              (refine SqA.b1 (op_idx2B (k := 0) rfl rfl rfl rfl rfl (by decide)) rfl rfl ?_)
              (refine wlk ?_)
              (refine wlC g2 ?_)
              (refine wlE ?_)
              refine dwp_wk (Wk.frzF (t := 12) (j := 12) (fs := [.arr ((vars [] a).map Int.d)]) rfl rfl rfl rfl rfl) ?_
              (refine wlk ?_)
              (refine SqA.b1 (op_idx2B (k := 1) rfl rfl rfl rfl rfl (by decide)) rfl rfl ?_)
              (refine wlk ?_)
              (refine wlC g3 ?_)
              (refine wlk ?_)
              (refine SqA.b1 (op_mkFn rfl rfl rfl) rfl rfl ?_)
              (refine wlk ?_)
              (refine wlC g4 ?_)
              (refine wlk ?_)
              (refine SqA.b1 (op_idx2B (k := 1) rfl rfl rfl rfl rfl (by decide)) rfl rfl ?_)
              (refine wlk ?_)
              (refine wlC g5 ?_)
              (refine wlk ?_)
              (refine wlC g6 ?_)
              (refine wlk ?_)
              (refine wfCT ?_)
              rfl
            · rw [if_neg ha3] at htry
              have hc3 : ¬ compare t (app s b) = 3 := fun h => ha3 (h3.1 h)
              (refine wlk ?_)
              (refine SqA.b1 (op_idx2B (k := 0) rfl rfl rfl rfl rfl (by decide)) rfl rfl ?_)
              (refine wlk ?_)
              (refine wlC g1 ?_)
              (refine wlk ?_)
              (refine SqA.b1 (op_idx2B (k := 0) rfl rfl rfl rfl rfl (by decide)) rfl rfl ?_)
              (refine wlk ?_)
              (refine wlC g2 ?_)
              (refine wlE ?_)
              refine dwp_wk (Wk.frzF (t := 12) (j := 12) (fs := [.arr ((vars [] a).map Int.d)]) rfl rfl rfl rfl rfl) ?_
              (refine wlk ?_)
              (refine SqA.b1 (op_idx2B (k := 1) rfl rfl rfl rfl rfl (by decide)) rfl rfl ?_)
              (refine wlk ?_)
              (refine wlC g3 ?_)
              (refine wlk ?_)
              (refine SqA.b1 (op_mkFn rfl rfl rfl) rfl rfl ?_)
              (refine wlk ?_)
              (refine wlC g4 ?_)
              (refine wlk ?_)
              (refine SqA.b1 (op_idx2B (k := 1) rfl rfl rfl rfl rfl (by decide)) rfl rfl ?_)
              (refine wlk ?_)
              (refine wlC g5 ?_)
              (refine wlk ?_)
              (refine wlC g6 ?_)
              (refine wlk ?_)
              exact ⟨j + 1, ⟨by omega, upto_succ hnj hw htry⟩, fgs, by omega⟩
    · have : j = 2 := by omega
      subst this
      have hwn : firstS (try1 t) (wayOf [(⟨false, xl, xr⟩ : Lt)]) = none := by
        rw [hwo]; exact firstS_none.2 fun w hw => any_upto (l := [((xl, xr) : Tm × Tm), (xr, xl)]) hnj w hw
      (refine wlk ?_)
      exact ⟨k + 1, ⟨by omega, upto_succ hno hx hwn⟩, fgs, by omega⟩
  · have : k = us.length := by omega
    subst this
    have hr : down1 us t = none := firstS_none.2 fun x hx => any_upto hno x hx
    rw [hr]
    (refine wlk ?_)
    refine fin_wk (fun n => Wk.nilArrB (j := 4) (q := 2) rfl rfl rfl) ?_
    (refine wfCT ?_)
    rfl
end Go.Proofs.Ytmanhdacnkpclaa
