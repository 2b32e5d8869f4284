/- What functions do: the program's bindings. -/
import Derived.Test.YtmanhdacnkpclaaGreatzs14
import Derived.Test.YtmanhdacnkpclaaGreatzs10
import Derived.Test.YtmanhdacnkpclaaGreatzs08
import Derived.Test.YtmanhdacnkpclaaGreatzs06
/- What functions do: the program's bindings. -/
namespace Go.Proofs.YtmanhdacnkpclaaGreat
set_option linter.all false
open Go.RowKit
def resF : Option Tm → List A1
  | some u => [tA u, bA true]
  | none => [tA ⟨false, 0, []⟩, bA false]
set_option maxRecDepth 100000 in
theorem bfind (s : List Pr) (n : Int) : FnD Tryz.prog 138 [lA Pr.d s, iA n] (.tup (resF (findS s n))) := by
  refine Fn.of Tryz.func138 rfl Tryz.ntmps138 rfl (Nat.le_of_ble_eq_true rfl) ?_
  refine dwp_len (t := 0) (ds := s.map Pr.d) rfl fun hbl => ?_
  rw [List.length_map] at hbl
  (refine wlk ?_)
  refine dwp_loop (fun k : Nat => [(.t 1, some (.one (iA n))), (.t 8, some (.one (lA Pr.d s))), (.t 9, some (.one (iA s.length))), (.t 10, some (.one (iA k))), (.t 4, some (.one (.c (.ptr 4 0)))),
    (.b 4, some (.box [.val (.bool false), .val (.int .i64 0), .val (.slice none 0 0)]))]) (fun k => k ≤ s.length ∧ ∀ j p, j < k → s[j]? = some p → p.1 ≠ n) (fun k => s.length - k) 0 ⟨by omega, fun j p h => absurd h (by omega)⟩ fgs ?_
  rintro k ⟨hk, hno⟩
  by_cases hkl : k < s.length
  · obtain ⟨x, hx⟩ := get_of_lt hkl
    by_cases hxn : x.1 = n
    · (refine wlk ?_)
      (refine wfCT ?_)
      rw [findS_at hno hx hxn]; rfl
    · (refine wlk ?_)
      exact ⟨k + 1, ⟨by omega, upto_succ hno hx hxn⟩, fgs, by omega⟩
  · (refine wlk ?_)
    refine fin_wk (fun n => Wk.nilArrB (j := 4) (q := 2) rfl rfl rfl) ?_
    (refine wfCT ?_)
    rw [findS_no hno (by omega)]; rfl
set_option maxHeartbeats 4000000 in
set_option maxRecDepth 100000 in
theorem bapply (s : List Pr) : ∀ t : Tm, t.size ≤ 2000000000000 → FnD Tryz.prog 115 [lA Pr.d s, tA t] (.one (tA (app s t))) := by
  refine Tm.ind ?_
  intro v n l ih hsz
  refine Fn.of Tryz.func115 rfl Tryz.ntmps115 rfl (Nat.le_of_ble_eq_true rfl) ?_
  cases v
  case true =>
    have hc := bfind s n
    have ha := app_var s n l
    generalize findS s n = r at hc ha
    rw [ha]
    cases r <;> ((refine wlk ?_); (refine wlC hc ?_); (refine wlk ?_); (refine wfC ?_); exact rfl)
  case false =>
    have hlen := sizes_len l
    have hsz' : Tm.sizes l ≤ 2000000000000 := by simp [Tm.size] at hsz; omega
    (refine wlk ?_)
    refine dwp_loop (fun k : Nat => [(.t 23, some (.one (lA Tm.d l))), (.t 24, some (.one (iA l.length))), (.t 25, some (.one (iA k))), (.t 0, some (.one (lA Pr.d s))), (.t 3, some (.one (.c (.ptr 3 0)))), (.t 4, some (.one (.c (.ptr 4 0)))),
      (.b 4, some (.box [.val (.bool false), .val (.int .i64 0), .val (.slice none 0 0)])), (.b 3, some (.box (tA ⟨false, n, l⟩).cells)), (.t 7, some (.one (.c (.own 75 3 (((l.take k).map (app s)).map Tm.d)))))])
      (fun k => k ≤ l.length) (fun k => l.length - k) 0 (by omega) ((Wk.nilOwn (d := 7) (E := 75) (m := 3) rfl).trans fgs) ?_
    intro k hk
    by_cases hkl : k < l.length
    · obtain ⟨x, hx⟩ := get_of_lt hkl
      have hsn := snoc (app s) hx
      have hxs := size_at hx
      (refine wlk ?_)
      (refine SqA.b1 (op_call none rfl rfl rfl (by kernel_rfl) (FnD.use (ih x (List.mem_of_getElem? hx) (by omega))) rfl rfl rfl rfl rfl rfl) rfl rfl ?_)
      (refine wlk ?_)
      (refine SqA.b1 (op_bsT (T := TB) (f := Tm.d) [app s x] rfl rfl rfl rfl rfl rfl rfl rfl rfl rfl rfl) rfl rfl ?_)
      (refine wlk ?_)
      exact ⟨k + 1, by omega, fgs, by omega⟩
    · have : k = l.length := by omega
      subst this
      refine dwp_wk (Wk.freezeAt (d := 7) rfl) ?_
      (refine wlk ?_)
      (refine wfC ?_)
      exact Xt (b := ⟨false, n, (l.take l.length).map (app s)⟩) (by simp [app, apps_eq])
set_option maxHeartbeats 4000000 in
set_option maxRecDepth 100000 in
theorem brename (k : Int) (hk0 : 0 ≤ k) (hk1 : k ≤ 1000) : ∀ t : Tm, t.okv = true → t.size ≤ 2000000000000 → FnD Tryz.prog 130 [tA t, iA k] (.one (tA (ren k t))) := by
  refine Tm.ind ?_
  intro v n l ih hok hsz
  refine Fn.of Tryz.func130 rfl Tryz.ntmps130 rfl (Nat.le_of_ble_eq_true rfl) ?_
  cases v
  case true =>
    simp only [Tm.okv, Bool.and_eq_true, decide_eq_true_eq] at hok
    have h0 : (0 : Int) ≤ (Tm.mk true n l).n := hok.1.2
    have h1 : (Tm.mk true n l).n ≤ 1000000 := hok.2
    (refine wlk ?_)
    (refine wfC ?_)
    exact rfl
  case false =>
    simp only [Tm.okv] at hok
    have hll := sizes_len l
    simp only [Tm.size] at hsz
    (refine wlk ?_)
    refine dwp_loop (fun m : Nat => [(.t 1, some (.one (iA k))), (.t 4, some (.one (.c (.ptr 4 0)))), (.b 4, some (.box [.val (.bool false), .val (.int .i64 0), .val (.slice none 0 0)])), (.t 2, some (.one (.c (.ptr 2 0)))), (.b 2, some (.box (tA ⟨false, n, l⟩).cells)),
      (.t 5, some (.one (.c (.own 75 3 (((l.take m).map (ren k)).map Tm.d))))), (.t 17, some (.one (lA Tm.d l))), (.t 18, some (.one (iA l.length))), (.t 19, some (.one (iA m)))])
      (fun m => m ≤ l.length) (fun m => l.length - m) 0 (by omega) ((Wk.nilOwn (d := 5) (E := 75) (m := 3) rfl).trans fgs) ?_
    intro m hm
    by_cases hml : m < l.length
    · obtain ⟨x, hx⟩ := get_of_lt hml
      have hsn := snoc (ren k) hx
      have hxs := size_at hx
      (refine wlk ?_)
      (refine SqA.b1 (op_call none rfl rfl rfl (by kernel_rfl) (FnD.use (ih x (List.mem_of_getElem? hx) (okvs_at hok hx) (by omega))) rfl rfl rfl rfl rfl rfl) rfl rfl ?_)
      (refine wlk ?_)
      (refine SqA.b1 (op_bsT (T := TB) (f := Tm.d) [ren k x] rfl rfl rfl rfl rfl rfl rfl rfl rfl rfl rfl) rfl rfl ?_)
      (refine wlk ?_)
      exact ⟨m + 1, by omega, fgs, by omega⟩
    · have : m = l.length := by omega
      subst this
      refine dwp_wk (Wk.freezeAt (d := 5) rfl) ?_
      (refine wlk ?_)
      (refine wfC ?_)
      exact Xt (b := ⟨false, n, (l.take l.length).map (ren k)⟩) (by simp [ren, rens_eq])
theorem timess_upto {v : Int} {l : List Tm} (h : ∀ j x, j < l.length → l[j]? = some x → times v x = 0) : timess v l = 0 := timess_zero.2 (any_upto h)
set_option maxHeartbeats 4000000 in
set_option maxRecDepth 100000 in
theorem boccurs (v : Int) : ∀ t : Tm, t.okv = true → t.size ≤ 2000000000000 → FnD Tryz.prog 125 [iA v, tA t] (.one (bA (decide (times v t ≠ 0)))) := by
  refine Tm.ind ?_
  intro b n l ih hok hsz
  have hll := sizes_len l
  simp only [Tm.size] at hsz
  refine Fn.of Tryz.func125 rfl Tryz.ntmps125 rfl (Nat.le_of_ble_eq_true rfl) ?_
  cases b
  case true =>
    have hl := var_form hok rfl
    simp only [Tm.mk.injEq, true_and] at hl
    rw [hl]
    by_cases hn : n = v
    · (refine wlk ?_)
      (refine wfT ?_)
      exact Xb (b := true) (by simp [times, timess, hn])
    · (refine wlk ?_)
      (refine wfT ?_)
      exact Xb (b := false) (by simp [times, timess, hn])
  case false =>
    simp only [Tm.okv] at hok
    (refine wlk ?_)
    refine dwp_loop (fun m : Nat => [(.t 0, some (.one (iA v))), (.t 14, some (.one (lA Tm.d l))), (.t 15, some (.one (iA l.length))), (.t 16, some (.one (iA m)))])
      (fun m => m ≤ l.length ∧ ∀ j x, j < m → l[j]? = some x → times v x = 0) (fun m => l.length - m) 0 ⟨by omega, fun j x h => absurd h (by omega)⟩ fgs ?_
    rintro m ⟨hm, hno⟩
    by_cases hml : m < l.length
    · obtain ⟨x, hx⟩ := get_of_lt hml
      have hxs := size_at hx
      have hc := ih x (List.mem_of_getElem? hx) (okvs_at hok hx) (by omega)
      by_cases hxv : times v x = 0
      · rw [decide_eq_false (by simp [hxv])] at hc
        (refine wlk ?_)
        (refine wlC hc ?_)
        (refine wlk ?_)
        exact ⟨m + 1, ⟨by omega, upto_succ hno hx hxv⟩, fgs, by omega⟩
      · rw [decide_eq_true hxv] at hc
        (refine wlk ?_)
        (refine wlC hc ?_)
        (refine wlk ?_)
        (refine wfT ?_)
        exact Xb (b := true) (decide_eq_true (by
          simp only [times, Bool.false_and, Bool.false_eq_true, if_false, Nat.zero_add]
          intro h
          exact hxv (timess_zero.1 h x (List.mem_of_getElem? hx)))).symm
    · have : m = l.length := by omega
      subst this
      (refine wlk ?_)
      (refine wfT ?_)
      exact Xb (b := false) (decide_eq_false (by
        simp only [times, Bool.false_and, Bool.false_eq_true, if_false, Nat.zero_add]
        exact fun h => h (timess_upto hno))).symm
set_option maxHeartbeats 4000000 in
set_option maxRecDepth 100000 in
theorem bbound (s : List Pr) (v : Int) (y : Tm) (hsl : s.length ≤ 1000000) (hs : ∀ p ∈ s, p.2.size ≤ 2000000000000) : FnD Tryz.prog 126 [lA Pr.d s, iA v, tA y] (.one (lA Pr.d (bound s v y))) := by
  refine Fn.of Tryz.func126 rfl Tryz.ntmps126 rfl (Nat.le_of_ble_eq_true rfl) ?_
  (refine wlk ?_)
  (refine SqA.b1 (op_bsT (T := TB) (f := Pr.d) [((v, y) : Pr)] rfl rfl rfl rfl rfl rfl rfl rfl rfl rfl rfl) rfl rfl ?_)
  (refine wlk ?_)
  refine dwp_loop (fun k : Nat => [(.t 7, some (.one (lA Pr.d [((v, y) : Pr)]))), (.t 15, some (.one (lA Pr.d s))), (.t 16, some (.one (iA s.length))), (.t 17, some (.one (iA k))),
      (.t 8, some (.one (.c (.own 109 4 (((s.take k).map (fun p => ((p.1, app [(v, y)] p.2) : Pr))).map Pr.d)))))])
      (fun k => k ≤ s.length) (fun k => s.length - k) 0 (by omega) ((Wk.nilOwn (d := 8) (E := 109) (m := 4) rfl).trans fgs) ?_
  intro k hk
  by_cases hkl : k < s.length
  · obtain ⟨x, hx⟩ := get_of_lt hkl
    have hsn := bound_snoc (v := v) (y := y) hx
    have hxs := hs x (List.mem_of_getElem? hx)
    (refine wlk ?_)
    (refine SqA.b1 (op_call none rfl rfl rfl (by kernel_rfl) (FnD.use (bapply [((v, y) : Pr)] x.2 hxs)) rfl rfl rfl rfl rfl rfl) rfl rfl ?_)
    (refine wlk ?_)
    (refine SqA.b1 (op_bsT (T := TB) (f := Pr.d) [((x.1, app [(v, y)] x.2) : Pr)] rfl rfl rfl rfl rfl rfl rfl rfl rfl rfl rfl) rfl rfl ?_)
    (refine wlk ?_)
    exact ⟨k + 1, by omega, fgs, by omega⟩
  · have : k = s.length := by omega
    subst this
    have h0 : [((v, y) : Pr)][0]? = some (v, y) := rfl
    have h1 : (s.take s.length).map (fun p => ((p.1, app [(v, y)] p.2) : Pr)) ++ [((v, y) : Pr)] = bound s v y := by simp [bound]
    have h2 : (bound s v y).length ≤ 2000000 := by simp [bound]; omega
    (refine wlk ?_)
    (refine SqA.b1 (op_bsT (T := TB) (f := Pr.d) [((v, y) : Pr)] rfl rfl rfl rfl rfl rfl rfl rfl rfl rfl rfl) rfl rfl ?_)
    (refine wlk ?_)
    refine fin_wk (fun n => Wk.freezeAt (d := 6) rfl) ?_
    (refine wfT ?_)
    exact rfl
end Go.Proofs.YtmanhdacnkpclaaGreat
/- What functions do: the program's Unify, More, Match. -/
namespace Go.Proofs.YtmanhdacnkpclaaGreat
set_option linter.all false
open Go.RowKit
theorem snocz {l l' : List Tm} {k : Nat} {p q : Tm} (hp : l[k]? = some p) (hq : l'[k]? = some q) : (l.zip l').take k ++ [(p, q)] = (l.zip l').take (k + 1) := by
  have h : (l.zip l')[k]? = some (p, q) := by rw [List.getElem?_zip_eq_some]; exact ⟨hp, hq⟩
  rw [List.take_add_one, h]; rfl
set_option maxHeartbeats 32000000 in
set_option maxRecDepth 100000 in
theorem bunify {a b : Tm} (ha : Old a) (hb : Old b) : FnD Tryz.prog 90 [tA a, tA b] (.tup (resU (unify a b))) := by
  refine Fn.of Tryz.func90 rfl Tryz.ntmps90 rfl (Nat.le_of_ble_eq_true rfl) ?_
  have hB := bigU_eq
  (refine wlk ?_)
  (refine SqA.b1 (op_bsT (T := TB) (f := Tw.d) [(a, b)] rfl rfl rfl rfl rfl rfl rfl rfl rfl rfl rfl) rfl rfl ?_)
  (refine wlk ?_)
  refine dwp_loop (fun x : List Pr × List (Tm × Tm) => [(.t 6, some (.one (lA Pr.d x.1))), (.t 7, some (.one (lA Tw.d x.2)))])
    (fun x => UInv a x.1 x.2 ∧ ∃ f, muU x.1 x.2 ≤ f ∧ unifyF f x.1 x.2 = unify a b) (fun x => muU x.1 x.2) ([], [(a, b)]) ⟨UInv.start ha hb, _, (UInv.start ha hb).mu_le, rfl⟩ ((Wk.nilArr (d := 6) rfl).trans fgs) ?_
  rintro ⟨s, todo⟩ ⟨hi, f, hf, hu⟩
  dsimp only at hi hf hu ⊢
  cases todo with
  | nil =>
    have h0 : ([] : List (Tm × Tm)).length = 0 := rfl
    have hu' : unify a b = some s := by rw [← hu]; cases f <;> rfl
    rw [hu']
    (refine wlk ?_)
    (refine wfTT ?_)
    exact rfl
  | cons e todo =>
    obtain ⟨c, d⟩ := e
    cases f with
    | zero =>
      have h1 : 1 ≤ wt (fun _ => 1) (app s c) := by rw [size_wt hi.idem.1 (hi.ok (c, d) (by simp)).1]; exact size_pos _
      simp only [muU, sumU, List.map_cons, List.sum_cons] at hf
      omega
    | succ f =>
      obtain ⟨⟨z1, z2⟩, z3, z4⟩ := hi.esize (e := (c, d)) (by simp)
      have hps := fun p (hp : p ∈ s) => hi.psize hp
      have hsl := hi.len_le
      have htl := hi.todo_le
      have hab := hi.ok (c, d) (by simp)
      have ka := app_okv hi.idem.1 c hab.1
      have kb := app_okv hi.idem.1 d hab.2
      have hstep : ∀ s' todo', UWay s c d todo s' todo' → unifyF f s' todo' = unify a b → (UInv a s' todo' ∧ ∃ f, muU s' todo' ≤ f ∧ unifyF f s' todo' = unify a b) ∧ muU s' todo' < muU s ((c, d) :: todo) := fun s' todo' hw hu' => by
        obtain ⟨g1, g2⟩ := hi.step hw
        exact ⟨⟨g1, f, by omega, hu'⟩, g2⟩
      have hbig : ∀ s' todo', UWay s c d todo s' todo' → todo'.length ≤ bigU := fun s' todo' hw => (hi.step hw).1.todo_le
      have capx := bapply s c (by simp only at z1; omega)
      have capy := bapply s d (by simp only at z2; omega)
      have hu1 : unifyF (f + 1) s ((c, d) :: todo) = match ustep s c d todo with | none => none | some (s', todo') => unifyF f s' todo' := by
        simp only [unifyF]
        cases ustep s c d todo <;> rfl
      have hway := fun s' todo' => ustep_way (todo := todo) (todo' := todo') (s' := s') ka kb
      rw [hu1] at hu
      have hus : ustep s c d todo = (if (app s c).same (app s d) then some (s, todo)
        else if (app s c).var then (if times (app s c).n (app s d) ≠ 0 then none else some (bound s (app s c).n (app s d), todo))
        else if (app s d).var then (if times (app s d).n (app s c) ≠ 0 then none else some (bound s (app s d).n (app s c), todo))
        else if (app s c).n ≠ (app s d).n ∨ (app s c).args.length ≠ (app s d).args.length then none
        else some (s, (app s c).args.zip (app s d).args ++ todo)) := rfl
      rw [hus] at hway hu
      simp only [List.length_cons] at htl
      simp only at z1 z2 z3 z4
      have e0 : ((c, d) :: todo)[0]? = some (c, d) := rfl
      have e1 : 0 < ((c, d) :: todo).length := by simp
      have e2 : 1 ≤ ((c, d) :: todo).length := by simp
      clear hu1 hus
      generalize app s c = x at *
      generalize app s d = y at *
      have csame := psame x y
      have cox := boccurs x.n y kb (by omega)
      have coy := boccurs y.n x ka (by omega)
      have zl1 := sizes_len x.args
      have zl2 := sizes_len y.args
      have zs1 : x.size = 1 + Tm.sizes x.args := by cases x; rfl
      have zs2 : y.size = 1 + Tm.sizes y.args := by cases y; rfl
      have cbx := bbound s x.n y (by omega) (fun p hp => by have := hps p hp; omega)
      have cby := bbound s y.n x (by omega) (fun p hp => by have := hps p hp; omega)
      cases hxy : x.same y
      rotate_left
      · rw [hxy] at csame
        simp only [hxy, if_true] at hway hu
        obtain ⟨j1, j2⟩ := hstep _ _ (hway _ _ rfl) hu
        (refine wlk ?_)
        (refine wlC capx ?_)
        (refine wlk ?_)
        (refine wlC capy ?_)
        (refine wlk ?_)
        (refine wlC csame ?_)
        (refine wlk ?_)
        exact ⟨(s, todo), j1, fgs, j2⟩
      rw [hxy] at csame
      simp only [hxy, Bool.false_eq_true, if_false] at hway hu
      obtain ⟨vx, nx, lx⟩ := x
      obtain ⟨vy, ny, ly⟩ := y
      simp only at *
      cases vx
      · cases vy
        · simp only [Bool.false_eq_true, if_false] at hway hu
          by_cases hn : nx = ny
          rotate_left
          · rw [if_pos (.inl hn)] at hu
            rw [← hu]
            (refine wlk ?_)
            (refine wlC capx ?_)
            (refine wlk ?_)
            (refine wlC capy ?_)
            (refine wlk ?_)
            (refine wlC csame ?_)
            (refine wlk ?_)
            refine fin_wk (fun n => Wk.nilArr (d := 4) rfl) ?_
            (refine wfTT ?_)
            exact rfl
          by_cases hl : lx.length = ly.length
          rotate_left
          · rw [if_pos (.inr hl)] at hu
            rw [← hu]
            (refine wlk ?_)
            (refine wlC capx ?_)
            (refine wlk ?_)
            (refine wlC capy ?_)
            (refine wlk ?_)
            (refine wlC csame ?_)
            (refine wlk ?_)
            refine fin_wk (fun n => Wk.nilArr (d := 4) rfl) ?_
            (refine wfTT ?_)
            exact rfl
          rw [if_neg (by simp [hn, hl])] at hway hu
          have hw := hway _ _ rfl
          obtain ⟨j1, j2⟩ := hstep _ _ hw hu
          have hbg := hbig _ _ hw
          have hzl : (lx.zip ly).length = lx.length := by simp; omega
          rw [List.length_append, hzl] at hbg
          (refine wlk ?_)
          (refine wlC capx ?_)
          (refine wlk ?_)
          (refine wlC capy ?_)
          (refine wlk ?_)
          (refine wlC csame ?_)
          (refine wlk ?_)
          refine dwp_loop (fun k : Nat => [(.t 6, some (.one (lA Pr.d s))), (.t 7, some (.one (lA Tw.d todo))), (.t 8, some (.one (.c (.ptr 8 0)))), (.b 8, some (.box (tA ⟨false, nx, lx⟩).cells)), (.t 9, some (.one (.c (.ptr 9 0)))), (.b 9, some (.box (tA ⟨false, ny, ly⟩).cells)),
              (.t 10, some (.one (.c (.own 128 6 (((lx.zip ly).take k).map Tw.d))))), (.t 35, some (.one (iA lx.length))), (.t 36, some (.one (iA k)))])
            (fun k => k ≤ lx.length) (fun k => lx.length - k) 0 (by omega) ((Wk.nilOwn (d := 10) (E := 128) (m := 6) rfl).trans fgs) ?_
          intro k hk
          by_cases hkl : k < lx.length
          · obtain ⟨p, hp⟩ := get_of_lt hkl
            obtain ⟨q, hq⟩ := get_of_lt (s := ly) (k := k) (by omega)
            have hsn := snocz hp hq
            (refine wlk ?_)
            (refine SqA.b1 (op_bsT (T := TB) (f := Tw.d) [(p, q)] rfl rfl rfl rfl rfl rfl rfl rfl rfl rfl rfl) rfl rfl ?_)
            (refine wlk ?_)
            exact ⟨k + 1, by omega, fgs, by omega⟩
          · have : k = lx.length := by omega
            subst this
            have hz : (lx.zip ly).take lx.length ++ todo = lx.zip ly ++ todo := by rw [List.take_of_length_le (by simp; omega)]
            (refine wlk ?_)
            exact ⟨(s, lx.zip ly ++ todo), j1, (Wk.freezeAt (d := 7) rfl).trans fgs, j2⟩
        · simp only [Bool.false_eq_true, if_false, if_true] at hway hu
          by_cases ho : times ny ⟨false, nx, lx⟩ = 0
          · rw [decide_eq_false (by simp [ho])] at coy
            rw [if_neg (by simp [ho])] at hway hu
            obtain ⟨j1, j2⟩ := hstep _ _ (hway _ _ rfl) hu
            (refine wlk ?_)
            (refine wlC capx ?_)
            (refine wlk ?_)
            (refine wlC capy ?_)
            (refine wlk ?_)
            (refine wlC csame ?_)
            (refine wlk ?_)
            (refine wlC coy ?_)
            (refine wlk ?_)
            (refine wlC cby ?_)
            (refine wlk ?_)
            exact ⟨(bound s ny ⟨false, nx, lx⟩, todo), j1, fgs, j2⟩
          · rw [decide_eq_true ho] at coy
            rw [if_pos ho] at hu
            rw [← hu]
            (refine wlk ?_)
            (refine wlC capx ?_)
            (refine wlk ?_)
            (refine wlC capy ?_)
            (refine wlk ?_)
            (refine wlC csame ?_)
            (refine wlk ?_)
            (refine wlC coy ?_)
            (refine wlk ?_)
            refine fin_wk (fun n => Wk.nilArr (d := 4) rfl) ?_
            (refine wfTT ?_)
            exact rfl
      · simp only [if_true] at hway hu
        by_cases ho : times nx ⟨vy, ny, ly⟩ = 0
        · rw [decide_eq_false (by simp [ho])] at cox
          rw [if_neg (by simp [ho])] at hway hu
          obtain ⟨j1, j2⟩ := hstep _ _ (hway _ _ rfl) hu
          cases vy <;> (
            (refine wlk ?_)
            (refine wlC capx ?_)
            (refine wlk ?_)
            (refine wlC capy ?_)
            (refine wlk ?_)
            (refine wlC csame ?_)
            (refine wlk ?_)
            (refine wlC cox ?_)
            (refine wlk ?_)
            (refine wlC cbx ?_)
            (refine wlk ?_)
            exact ⟨(bound s nx _, todo), j1, fgs, j2⟩)
        · rw [decide_eq_true ho] at cox
          rw [if_pos ho] at hu
          rw [← hu]
          cases vy <;> (
            (refine wlk ?_)
            (refine wlC capx ?_)
            (refine wlk ?_)
            (refine wlC capy ?_)
            (refine wlk ?_)
            (refine wlC csame ?_)
            (refine wlk ?_)
            (refine wlC cox ?_)
            (refine wlk ?_)
            refine fin_wk (fun n => Wk.nilArr (d := 4) rfl) ?_
            (refine wfTT ?_)
            exact rfl)
set_option maxHeartbeats 8000000 in
set_option maxRecDepth 100000 in
theorem bmore : ∀ (p t : Tm) (s : List Pr), s.length + p.size ≤ 2000000000000 → FnD Tryz.prog 143 [lA Pr.d s, tA p, tA t] (.tup [lA Pr.d (moreR s p t).1, bA (moreR s p t).2]) := by
  refine Tm.ind ?_
  rintro v n l ih ⟨vt, nt, lt⟩ s hsz
  refine Fn.of Tryz.func143 rfl Tryz.ntmps143 rfl (Nat.le_of_ble_eq_true rfl) ?_
  have hll := sizes_len l
  simp only [Tm.size] at hsz
  cases v
  case true =>
    have hm : moreR s ⟨true, n, l⟩ ⟨vt, nt, lt⟩ = match findS s n with | some u => (s, u.same ⟨vt, nt, lt⟩) | none => (s ++ [(n, ⟨vt, nt, lt⟩)], true) := by rw [moreR]; cases findS s n <;> rfl
    have hc := bfind s n
    rw [hm]
    generalize findS s n = r at hc hm
    cases r with
    | some u =>
      have hs := psame u ⟨vt, nt, lt⟩
      (refine wlk ?_)
      (refine wlC hc ?_)
      (refine wlk ?_)
      (refine wlC hs ?_)
      (refine wlk ?_)
      (refine wfTT ?_)
      exact rfl
    | none =>
      have h1 : s.take s.length ++ [((n, ⟨vt, nt, lt⟩) : Pr)] = s ++ [((n, ⟨vt, nt, lt⟩) : Pr)] := by simp
      have h2 : (s ++ [((n, ⟨vt, nt, lt⟩) : Pr)]).length ≤ 2000000000000 := by simp; omega
      (refine wlk ?_)
      (refine wlC hc ?_)
      (refine wlk ?_)
      (refine SqA.b1 (op_bsT (T := TB) (f := Pr.d) [((n, ⟨vt, nt, lt⟩) : Pr)] rfl rfl rfl rfl rfl rfl rfl rfl rfl rfl rfl) rfl rfl ?_)
      (refine wlk ?_)
      refine fin_wk (fun n => Wk.freezeAt (d := 6) rfl) ?_
      (refine wfTT ?_)
      exact rfl
  case false =>
    rw [moreR_sym]
    cases vt
    rotate_left
    · (refine wlk ?_)
      refine fin_wk (fun n => Wk.nilArr (d := 6) rfl) ?_
      (refine wfTT ?_)
      exact Xmo (r := ([], false)) (by simp)
    by_cases hn : nt = n
    rotate_left
    · (refine wlk ?_)
      refine fin_wk (fun n => Wk.nilArr (d := 6) rfl) ?_
      (refine wfTT ?_)
      exact Xmo (r := ([], false)) (by simp [hn])
    by_cases hl : lt.length = l.length
    rotate_left
    · (refine wlk ?_)
      refine fin_wk (fun n => Wk.nilArr (d := 6) rfl) ?_
      (refine wfTT ?_)
      exact Xmo (r := ([], false)) (by simp [hl])
    rw [if_neg (by simp [hn, hl])]
    (refine wlk ?_)
    refine dwp_loop (fun x : Nat × List Pr => [(.t 0, some (.one (lA Pr.d x.2))), (.t 4, some (.one (.c (.ptr 4 0)))), (.b 4, some (.box (tA ⟨false, n, l⟩).cells)), (.t 5, some (.one (.c (.ptr 5 0)))), (.b 5, some (.box (tA ⟨false, nt, lt⟩).cells)),
      (.t 59, some (.one (iA lt.length))), (.t 60, some (.one (iA x.1)))])
      (fun x => x.1 ≤ l.length ∧ moresR s l lt = moresR x.2 (l.drop x.1) (lt.drop x.1) ∧ x.2.length ≤ s.length + Tm.sizes (l.take x.1)) (fun x => l.length - x.1) (0, s) ⟨by omega, rfl, by simp⟩ fgs ?_
    rintro ⟨k, s'⟩ ⟨hk, hm, hlen⟩
    simp only at hk hm hlen
    by_cases hkl : k < l.length
    · obtain ⟨x, hx⟩ := get_of_lt hkl
      obtain ⟨y, hy⟩ := get_of_lt (s := lt) (k := k) (by omega)
      have h1 := sizes_take_succ l k x hx
      have h2 := sizes_take_le l (k + 1)
      have hc := ih x (List.mem_of_getElem? hx) y s' (by omega)
      have hml := moreR_len x s' y
      rw [moresR_at hx hy] at hm
      generalize moreR s' x y = r at hc hm hml
      obtain ⟨r, b⟩ := r
      simp only at hc hm hml
      cases b
      · (refine wlk ?_)
        (refine wlC hc ?_)
        (refine wlk ?_)
        refine fin_wk (fun n => Wk.nilArr (d := 6) rfl) ?_
        (refine wfTT ?_)
        exact Xmo (r := ([], false)) hm.symm
      · (refine wlk ?_)
        (refine wlC hc ?_)
        (refine wlk ?_)
        exact ⟨(k + 1, r), ⟨by simp only; omega, hm, by simp only; omega⟩, fgs, by simp only; omega⟩
    · have : k = l.length := by omega
      subst this
      rw [List.drop_length, ← hl, List.drop_length] at hm
      (refine wlk ?_)
      (refine wfTT ?_)
      exact Xmo (r := (s', true)) (by rw [hm]; rfl)
set_option maxRecDepth 100000 in
theorem bmatch (p t : Tm) (hsz : p.size ≤ 2000000000000) : FnD Tryz.prog 140 [tA p, tA t] (.tup [lA Pr.d (matchR p t).1, bA (matchR p t).2]) := by
  have hc := FnD.nil (bmore p t [] (by simpa using hsz)) 0 rfl
  have hm : matchR p t = match moreR [] p t with | (r, true) => (r, true) | (_, false) => ([], false) := by unfold matchR; rfl
  refine Fn.of Tryz.func140 rfl Tryz.ntmps140 rfl (Nat.le_of_ble_eq_true rfl) ?_
  rw [hm]
  generalize moreR [] p t = r at hc
  obtain ⟨r, b⟩ := r
  cases b
  · (refine wlk ?_)
    (refine wlC hc ?_)
    (refine wlk ?_)
    refine fin_wk (fun n => Wk.nilArr (d := 4) rfl) ?_
    (refine wfTT ?_)
    exact rfl
  · (refine wlk ?_)
    (refine wlC hc ?_)
    (refine wlk ?_)
    (refine wfTT ?_)
    exact rfl
end Go.Proofs.YtmanhdacnkpclaaGreat
namespace Go.Proofs.YtmanhdacnkpclaaGreat
set_option linter.all false
set_option maxRecDepth 1000000
set_option maxHeartbeats 32000000
open Go.RowKit
theorem lt_same {a b : Lt} : a.same b = (a.neg == b.neg && (a.left.same b.left && a.right.same b.right)) := rfl
theorem rsameLit (a b : Lt) : FnD Tryz.prog 41 [ltA a, ltA b] (.one (bA (a.same b))) := by
  obtain ⟨an, al, ar⟩ := a
  obtain ⟨bn, bl, br⟩ := b
  have h1 := rsame al bl
  have h2 := rsame ar br
  rw [lt_same]
  dsimp only
  generalize al.same bl = e1 at *
  generalize ar.same br = e2 at *
  refine Fn.of Tryz.func41 rfl Tryz.ntmps41 rfl (Nat.le_of_ble_eq_true rfl) ?_
  cases an <;> cases bn
  rotate_left 1
  · (refine wlk ?_)
    (refine wfT ?_)
    rfl
  · (refine wlk ?_)
    (refine wfT ?_)
    rfl
  all_goals (cases e1; · ((refine wlk ?_); (refine wlC h1 ?_); (refine wlk ?_); (refine wfT ?_); rfl))
  all_goals (cases e2 <;> ((refine wlk ?_); (refine wlC h1 ?_); (refine wlk ?_); (refine wlC h2 ?_); (refine wlk ?_); (refine wfT ?_); rfl))
theorem psameLit (a b : Lt) : FnD Tryz.prog 68 [ltA a, ltA b] (.one (bA (a.same b))) := by
  obtain ⟨an, al, ar⟩ := a
  obtain ⟨bn, bl, br⟩ := b
  have h1 := psame al bl
  have h2 := psame ar br
  rw [lt_same]
  dsimp only
  generalize al.same bl = e1 at *
  generalize ar.same br = e2 at *
  refine Fn.of Tryz.func68 rfl Tryz.ntmps68 rfl (Nat.le_of_ble_eq_true rfl) ?_
  cases an <;> cases bn
  rotate_left 1
  · (refine wlk ?_)
    (refine wfT ?_)
    rfl
  · (refine wlk ?_)
    (refine wfT ?_)
    rfl
  all_goals (cases e1; · ((refine wlk ?_); (refine wlC h1 ?_); (refine wlk ?_); (refine wfT ?_); rfl))
  all_goals (cases e2 <;> ((refine wlk ?_); (refine wlC h1 ?_); (refine wlk ?_); (refine wlC h2 ?_); (refine wlk ?_); (refine wfT ?_); rfl))
theorem clSame_ext {a b : List Lt} (hl : a.length = b.length) (h : ∀ (j : Nat) x, j < a.length → a[j]? = some x → b[j]? = some x) : a = b := by
  refine List.ext_getElem? fun i => ?_
  by_cases hi : i < a.length
  · obtain ⟨x, hx⟩ := get_of_lt hi
    rw [hx, h i x hi hx]
  · rw [List.getElem?_eq_none (by omega), List.getElem?_eq_none (by omega)]
theorem clSame_no {a b : List Lt} (h : a ≠ b) : false = clSame a b := by
  cases e : clSame a b
  · rfl
  · exact absurd (clSame_iff.1 e) h
theorem clSame_yes {a b : List Lt} (h : a = b) : true = clSame a b := (clSame_iff.2 h).symm
theorem ne_at {α : Type} {a b : List α} {k : Nat} {x y : α} (hx : a[k]? = some x) (hy : b[k]? = some y) (h : x ≠ y) : a ≠ b := fun e => by
  rw [e, hy] at hx; injection hx with hx; exact h hx.symm
theorem rsameClause (a b : List Lt) : FnD Tryz.prog 19 [lA Lt.d a, lA Lt.d b] (.one (bA (clSame a b))) := by
  refine Fn.of Tryz.func19 rfl Tryz.ntmps19 rfl (Nat.le_of_ble_eq_true rfl) ?_
  refine dwp_len (t := 0) (ds := a.map Lt.d) rfl fun hbl => ?_
  rw [List.length_map] at hbl
  by_cases hl : a.length = b.length
  rotate_left
  · (refine wlk ?_)
    (refine wfT ?_)
    exact Xb (b := false) (clSame_no fun e => hl (by rw [e]))
  (refine wlk ?_)
  refine dwp_loop (fun k : Nat => [(.t 0, some (.one (lA Lt.d a))), (.t 1, some (.one (lA Lt.d b))), (.t 12, some (.one (iA a.length))), (.t 13, some (.one (iA k)))])
    (fun k => k ≤ a.length ∧ ∀ (j : Nat) x, j < k → a[j]? = some x → b[j]? = some x) (fun k => a.length - k) 0 ⟨by omega, fun j x h => absurd h (by omega)⟩ fgs ?_
  rintro k ⟨hk, hno⟩
  by_cases hkl : k < a.length
  · obtain ⟨x, hx⟩ := get_of_lt hkl
    obtain ⟨y, hy⟩ := get_of_lt (s := b) (k := k) (by omega)
    have hc := rsameLit x y
    cases e : x.same y
    · rw [e] at hc
      (refine wlk ?_)
      (refine wlC hc ?_)
      (refine wlk ?_)
      (refine wfT ?_)
      exact Xb (b := false) (clSame_no (ne_at hx hy fun h => by rw [Lt.same_iff.2 h] at e; cases e))
    · rw [e] at hc
      (refine wlk ?_)
      (refine wlC hc ?_)
      (refine wlk ?_)
      exact ⟨k + 1, ⟨by omega, upto_succI hno hx (by rw [hy, Lt.same_iff.1 e])⟩, fgs, by omega⟩
  · have : k = a.length := by omega
    subst this
    (refine wlk ?_)
    (refine wfT ?_)
    exact Xb (b := true) (clSame_yes (clSame_ext hl hno))
theorem eqfL (a b : List Lt) : FnD Tryz.prog 67 [lA Lt.d a, lA Lt.d b, .c (.val (.func (.func 68) #[] #[]))] (.one (bA (clSame a b))) := by
  refine Fn.of Tryz.func67 rfl Tryz.ntmps67 rfl (Nat.le_of_ble_eq_true rfl) ?_
  refine dwp_len (t := 0) (ds := a.map Lt.d) rfl fun hbl => ?_
  rw [List.length_map] at hbl
  by_cases hl : a.length = b.length
  rotate_left
  · (refine wlk ?_)
    (refine wfT ?_)
    exact Xb (b := false) (clSame_no fun e => hl (by rw [e]))
  (refine wlk ?_)
  refine dwp_loop (fun k : Nat => [(.t 1, some (.one (lA Lt.d b))), (.t 2, some (.one (.c (.val (.func (.func 68) #[] #[]))))), (.t 15, some (.one (lA Lt.d a))), (.t 16, some (.one (iA a.length))), (.t 17, some (.one (iA k)))])
    (fun k => k ≤ a.length ∧ ∀ (j : Nat) x, j < k → a[j]? = some x → b[j]? = some x) (fun k => a.length - k) 0 ⟨by omega, fun j x h => absurd h (by omega)⟩ fgs ?_
  rintro k ⟨hk, hno⟩
  by_cases hkl : k < a.length
  · obtain ⟨x, hx⟩ := get_of_lt hkl
    obtain ⟨y, hy⟩ := get_of_lt (s := b) (k := k) (by omega)
    have hc := psameLit x y
    cases e : x.same y
    · rw [e] at hc
      (refine wlk ?_)
      (refine wlC hc ?_)
      (refine wlk ?_)
      (refine wfT ?_)
      exact Xb (b := false) (clSame_no (ne_at hx hy fun h => by rw [Lt.same_iff.2 h] at e; cases e))
    · rw [e] at hc
      (refine wlk ?_)
      (refine wlC hc ?_)
      (refine wlk ?_)
      exact ⟨k + 1, ⟨by omega, upto_succI hno hx (by rw [hy, Lt.same_iff.1 e])⟩, fgs, by omega⟩
  · have : k = a.length := by omega
    subst this
    (refine wlk ?_)
    (refine wfT ?_)
    exact Xb (b := true) (clSame_yes (clSame_ext hl hno))
theorem psameClause (a b : List Lt) : FnD Tryz.prog 33 [lA Lt.d a, lA Lt.d b] (.one (bA (clSame a b))) := by
  refine Fn.of Tryz.func33 rfl Tryz.ntmps33 rfl (Nat.le_of_ble_eq_true rfl) ?_
  (refine wlk ?_)
  (refine SqA.b1 (op_call none rfl rfl rfl (by kernel_rfl) (FnD.use (eqfL a b)) rfl rfl rfl rfl rfl rfl) rfl rfl ?_)
  (refine wlk ?_)
  (refine wfT ?_)
  rfl
theorem rlike (a b : Lt) : FnD Tryz.prog 84 [ltA a, ltA b] (.one (bA (like a b))) := by
  obtain ⟨an, al, ar⟩ := a
  obtain ⟨bn, bl, br⟩ := b
  have h1 := rsame al bl
  have h2 := rsame ar br
  have h3 := rsame al br
  have h4 := rsame ar bl
  have hl : like ⟨an, al, ar⟩ ⟨bn, bl, br⟩ = ((al.same bl && ar.same br) || (al.same br && ar.same bl)) := rfl
  rw [hl]
  generalize al.same bl = e1 at *
  generalize ar.same br = e2 at *
  generalize al.same br = e3 at *
  generalize ar.same bl = e4 at *
  refine Fn.of Tryz.func84 rfl Tryz.ntmps84 rfl (Nat.le_of_ble_eq_true rfl) ?_
  cases e1
  · cases e3
    · (refine wlk ?_)
      (refine wlC h1 ?_)
      (refine wlk ?_)
      (refine wlC h3 ?_)
      (refine wlk ?_)
      (refine wfT ?_)
      rfl
    · cases e4 <;> ((refine wlk ?_); (refine wlC h1 ?_); (refine wlk ?_); (refine wlC h3 ?_); (refine wlk ?_); (refine wlC h4 ?_); (refine wlk ?_); (refine wfT ?_); rfl)
  · cases e2
    · cases e3
      · (refine wlk ?_)
        (refine wlC h1 ?_)
        (refine wlk ?_)
        (refine wlC h2 ?_)
        (refine wlk ?_)
        (refine wlC h3 ?_)
        (refine wlk ?_)
        (refine wfT ?_)
        rfl
      · cases e4 <;> ((refine wlk ?_); (refine wlC h1 ?_); (refine wlk ?_); (refine wlC h2 ?_); (refine wlk ?_); (refine wlC h3 ?_); (refine wlk ?_); (refine wlC h4 ?_); (refine wlk ?_); (refine wfT ?_); rfl)
    · (refine wlk ?_)
      (refine wlC h1 ?_)
      (refine wlk ?_)
      (refine wlC h2 ?_)
      (refine wlk ?_)
      (refine wfT ?_)
      rfl
theorem papplyC (s : List Pr) (c : List Lt) (hl : c.length ≤ 1000000000) (hz : clSz c) : FnD Tryz.prog 77 [lA Pr.d s, lA Lt.d c] (.one (lA Lt.d (each (app s) c))) := by
  refine Fn.of Tryz.func77 rfl Tryz.ntmps77 rfl (Nat.le_of_ble_eq_true rfl) ?_
  (refine wlk ?_)
  refine dwp_loop (fun k : Nat => [(.t 0, some (.one (lA Pr.d s))), (.t 5, some (.one (.c (.own 77 7 ((each (app s) (c.take k)).map Lt.d))))), (.t 8, some (.one (lA Lt.d c))), (.t 9, some (.one (iA c.length))), (.t 10, some (.one (iA k)))])
    (fun k => k ≤ c.length) (fun k => c.length - k) 0 (by omega) ((Wk.nilOwn (d := 5) (E := 77) (m := 7) rfl).trans fgs) ?_
  intro k hk
  by_cases hkl : k < c.length
  · obtain ⟨⟨ng, xl, xr⟩, hx⟩ := get_of_lt hkl
    have hzx := hz _ (List.mem_of_getElem? hx)
    dsimp only at hzx
    have h1 := bapply s xl (by omega)
    have h2 := bapply s xr (by omega)
    have hsn := each_snoc (g := app s) hx
    have hel : (each (app s) (c.take (k + 1))).length ≤ 1000000000 := by rw [each_len, List.length_take]; omega
    (refine wlk ?_)
    (refine wlC h1 ?_)
    (refine wlk ?_)
    (refine wlC h2 ?_)
    (refine wlk ?_)
    (refine SqA.b1 (op_bsT (T := TB) (f := Lt.d) [(⟨ng, app s xl, app s xr⟩ : Lt)] rfl rfl rfl rfl rfl rfl rfl rfl rfl rfl rfl) rfl rfl ?_)
    (refine wlk ?_)
    exact ⟨k + 1, by omega, fgs, by omega⟩
  · have : k = c.length := by omega
    subst this
    rw [List.take_length]
    (refine wlk ?_)
    refine fin_wk (fun n => Wk.freezeAt (d := 4) rfl) ?_
    (refine wfT ?_)
    rfl
theorem prenameC (kk : Int) (h0 : 0 ≤ kk) (h1k : kk ≤ 1000) (c : List Lt) (hl : c.length ≤ 1000000000) (hz : clSz c) (hk : clOkv c) : FnD Tryz.prog 95 [lA Lt.d c, iA kk] (.one (lA Lt.d (each (ren kk) c))) := by
  refine Fn.of Tryz.func95 rfl Tryz.ntmps95 rfl (Nat.le_of_ble_eq_true rfl) ?_
  (refine wlk ?_)
  refine dwp_loop (fun k : Nat => [(.t 1, some (.one (iA kk))), (.t 5, some (.one (.c (.own 77 7 ((each (ren kk) (c.take k)).map Lt.d))))), (.t 8, some (.one (lA Lt.d c))), (.t 9, some (.one (iA c.length))), (.t 10, some (.one (iA k)))])
    (fun k => k ≤ c.length) (fun k => c.length - k) 0 (by omega) ((Wk.nilOwn (d := 5) (E := 77) (m := 7) rfl).trans fgs) ?_
  intro k hk'
  by_cases hkl : k < c.length
  · obtain ⟨⟨ng, xl, xr⟩, hx⟩ := get_of_lt hkl
    have hzx := hz _ (List.mem_of_getElem? hx)
    have hkx := hk _ (List.mem_of_getElem? hx)
    dsimp only at hzx hkx
    have h1 := brename kk h0 h1k xl hkx.1 (by omega)
    have h2 := brename kk h0 h1k xr hkx.2 (by omega)
    have hsn := each_snoc (g := ren kk) hx
    have hel : (each (ren kk) (c.take (k + 1))).length ≤ 1000000000 := by rw [each_len, List.length_take]; omega
    (refine wlk ?_)
    (refine wlC h1 ?_)
    (refine wlk ?_)
    (refine wlC h2 ?_)
    (refine wlk ?_)
    (refine SqA.b1 (op_bsT (T := TB) (f := Lt.d) [(⟨ng, ren kk xl, ren kk xr⟩ : Lt)] rfl rfl rfl rfl rfl rfl rfl rfl rfl rfl rfl) rfl rfl ?_)
    (refine wlk ?_)
    exact ⟨k + 1, by omega, fgs, by omega⟩
  · have : k = c.length := by omega
    subst this
    rw [List.take_length]
    (refine wlk ?_)
    refine fin_wk (fun n => Wk.freezeAt (d := 4) rfl) ?_
    (refine wfT ?_)
    rfl
def idxP {α : Type} (p : α → Bool) : Nat → List α → Int
  | _, [] => -1
  | i, x :: l => if p x then (i : Int) else idxP p (i + 1) l
theorem idxP_at {α : Type} {p : α → Bool} : ∀ {l : List α} {i k : Nat} {v : α}, (∀ j x, j < k → l[j]? = some x → p x = false) → l[k]? = some v → p v = true → idxP p i l = ((i + k : Nat) : Int)
  | [], i, k, v, _, h, _ => by simp at h
  | x :: l, i, 0, v, _, h, hv => by simp at h; subst h; simp [idxP, hv]
  | x :: l, i, k + 1, v, hno, h, hv => by
    have h0 := hno 0 x (by omega) rfl
    have := idxP_at (p := p) (l := l) (i := i + 1) (k := k) (v := v) (fun j y hj hy => hno (j + 1) y (by omega) (by simpa using hy)) (by simpa using h) hv
    simp only [idxP, h0, Bool.false_eq_true, if_false]
    rw [this]
    congr 1; omega
theorem idxP_no {α : Type} {p : α → Bool} : ∀ {l : List α} {i : Nat}, (∀ x ∈ l, p x = false) → idxP p i l = -1
  | [], _, _ => rfl
  | x :: l, i, h => by
    simp only [idxP, h x (by simp), Bool.false_eq_true, if_false]
    exact idxP_no fun y hy => h y (by simp [hy])
theorem idxP_any {α : Type} {p : α → Bool} : ∀ {l : List α} {i : Nat}, l.any p = true → 0 ≤ idxP p i l
  | [], _, h => by simp at h
  | x :: l, i, h => by
    simp only [idxP]
    split
    · omega
    · rename_i hne
      simp only [List.any_cons, Bool.or_eq_true] at h
      rcases h with h | h
      · exact absurd h hne
      · exact idxP_any h
theorem any_no {α : Type} {p : α → Bool} {l : List α} (h : l.any p = false) : ∀ x ∈ l, p x = false := fun x hx => by
  have := List.any_eq_false.1 h x hx
  simpa using this
theorem idxFL (f : FuncId) (fc : List FC) (p : Lt → Bool) (hf : enters Tryz.prog f = true) (l : List Lt) (hp : ∀ x ∈ l, FnD Tryz.prog f [ltA x, .c (.fp fc)] (.one (bA (p x)))) :
    FnD Tryz.prog 139 [lA Lt.d l, .c (.fnv f [fc])] (.one (iA (idxP p 0 l))) := by
  refine Fn.of Tryz.func139 rfl Tryz.ntmps139 rfl (Nat.le_of_ble_eq_true rfl) ?_
  refine dwp_len (t := 0) rfl fun hbl => ?_
  rw [List.length_map] at hbl
  (refine wlk ?_)
  refine dwp_loop (fun k : Nat => [(.t 0, some (.one (lA Lt.d l))), (.t 1, some (.one (.c (.fnv f [fc])))), (.t 7, some (.one (iA l.length))), (.t 8, some (.one (iA k)))])
    (fun k => k ≤ l.length ∧ ∀ j x, j < k → l[j]? = some x → p x = false) (fun k => l.length - k) 0 ⟨by omega, fun j x h => absurd h (by omega)⟩ fgs ?_
  rintro k ⟨hk, hno⟩
  by_cases hkl : k < l.length
  · obtain ⟨x, hx⟩ := get_of_lt hkl
    have hc := hp x (List.mem_of_getElem? hx)
    cases e : p x
    · rw [e] at hc
      (refine wlk ?_)
      (refine SqA.b1 (op_callV none rfl rfl rfl hf (FnD.use (hc)) rfl rfl rfl rfl rfl rfl) rfl rfl ?_)
      (refine wlk ?_)
      exact ⟨k + 1, ⟨by omega, upto_succ hno hx e⟩, fgs, by omega⟩
    · rw [e] at hc
      (refine wlk ?_)
      (refine SqA.b1 (op_callV none rfl rfl rfl hf (FnD.use (hc)) rfl rfl rfl rfl rfl rfl) rfl rfl ?_)
      (refine wlk ?_)
      (refine wfT ?_)
      exact Xi (b := k) (by rw [idxP_at hno hx e, Nat.zero_add])
  · have : k = l.length := by omega
    subst this
    (refine wlk ?_)
    (refine wfT ?_)
    exact Xi (b := -1) (by rw [idxP_no (any_upto hno)])
theorem contFL (f : FuncId) (fc : List FC) (p : Lt → Bool) (hf : enters Tryz.prog f = true) (l : List Lt) (hp : ∀ x ∈ l, FnD Tryz.prog f [ltA x, .c (.fp fc)] (.one (bA (p x)))) :
    FnD Tryz.prog 116 [lA Lt.d l, .c (.fnv f [fc])] (.one (bA (l.any p))) := by
  refine Fn.of Tryz.func116 rfl Tryz.ntmps116 rfl (Nat.le_of_ble_eq_true rfl) ?_
  have hc := idxFL f fc p hf l hp
  cases e : l.any p
  · have h0 := idxP_no (p := p) (i := 0) (any_no e)
    (refine wlk ?_)
    (refine wlC hc ?_)
    (refine wlk ?_)
    (refine wfT ?_)
    rfl
  · have h0 := idxP_any (p := p) (i := 0) e
    (refine wlk ?_)
    (refine wlC hc ?_)
    (refine wlk ?_)
    (refine wfT ?_)
    rfl
theorem idxFC (f : FuncId) (fc : List FC) (p : List Lt → Bool) (hf : enters Tryz.prog f = true) (l : List (List Lt)) (hp : ∀ x ∈ l, FnD Tryz.prog f [lA Lt.d x, .c (.fp fc)] (.one (bA (p x)))) :
    FnD Tryz.prog 66 [lA Cl.d l, .c (.fnv f [fc])] (.one (iA (idxP p 0 l))) := by
  refine Fn.of Tryz.func66 rfl Tryz.ntmps66 rfl (Nat.le_of_ble_eq_true rfl) ?_
  refine dwp_len (t := 0) rfl fun hbl => ?_
  rw [List.length_map] at hbl
  (refine wlk ?_)
  refine dwp_loop (fun k : Nat => [(.t 0, some (.one (lA Cl.d l))), (.t 1, some (.one (.c (.fnv f [fc])))), (.t 7, some (.one (iA l.length))), (.t 8, some (.one (iA k)))])
    (fun k => k ≤ l.length ∧ ∀ j x, j < k → l[j]? = some x → p x = false) (fun k => l.length - k) 0 ⟨by omega, fun j x h => absurd h (by omega)⟩ fgs ?_
  rintro k ⟨hk, hno⟩
  by_cases hkl : k < l.length
  · obtain ⟨x, hx⟩ := get_of_lt hkl
    have hc := hp x (List.mem_of_getElem? hx)
    cases e : p x
    · rw [e] at hc
      (refine wlk ?_)
      (refine SqA.b1 (op_callV none rfl rfl rfl hf (FnD.use (hc)) rfl rfl rfl rfl rfl rfl) rfl rfl ?_)
      (refine wlk ?_)
      exact ⟨k + 1, ⟨by omega, upto_succ hno hx e⟩, fgs, by omega⟩
    · rw [e] at hc
      (refine wlk ?_)
      (refine SqA.b1 (op_callV none rfl rfl rfl hf (FnD.use (hc)) rfl rfl rfl rfl rfl rfl) rfl rfl ?_)
      (refine wlk ?_)
      (refine wfT ?_)
      exact Xi (b := k) (by rw [idxP_at hno hx e, Nat.zero_add])
  · have : k = l.length := by omega
    subst this
    (refine wlk ?_)
    (refine wfT ?_)
    exact Xi (b := -1) (by rw [idxP_no (any_upto hno)])
theorem contFC (f : FuncId) (fc : List FC) (p : List Lt → Bool) (hf : enters Tryz.prog f = true) (l : List (List Lt)) (hp : ∀ x ∈ l, FnD Tryz.prog f [lA Lt.d x, .c (.fp fc)] (.one (bA (p x)))) :
    FnD Tryz.prog 31 [lA Cl.d l, .c (.fnv f [fc])] (.one (bA (l.any p))) := by
  refine Fn.of Tryz.func31 rfl Tryz.ntmps31 rfl (Nat.le_of_ble_eq_true rfl) ?_
  have hc := idxFC f fc p hf l hp
  cases e : l.any p
  · have h0 := idxP_no (p := p) (i := 0) (any_no e)
    (refine wlk ?_)
    (refine wlC hc ?_)
    (refine wlk ?_)
    (refine wfT ?_)
    rfl
  · have h0 := idxP_any (p := p) (i := 0) e
    (refine wlk ?_)
    (refine wlC hc ?_)
    (refine wlk ?_)
    (refine wfT ?_)
    rfl
theorem idxFI1 (f : FuncId) (fc : List FC) (p : Int → Bool) (hf : enters Tryz.prog f = true) (l : List Int) (hp : ∀ x ∈ l, FnD Tryz.prog f [iA x, .c (.fp fc)] (.one (bA (p x)))) :
    FnD Tryz.prog 123 [lA Int.d l, .c (.fnv f [fc])] (.one (iA (idxP p 0 l))) := by
  refine Fn.of Tryz.func123 rfl Tryz.ntmps123 rfl (Nat.le_of_ble_eq_true rfl) ?_
  refine dwp_len (t := 0) rfl fun hbl => ?_
  rw [List.length_map] at hbl
  (refine wlk ?_)
  refine dwp_loop (fun k : Nat => [(.t 0, some (.one (lA Int.d l))), (.t 1, some (.one (.c (.fnv f [fc])))), (.t 7, some (.one (iA l.length))), (.t 8, some (.one (iA k)))])
    (fun k => k ≤ l.length ∧ ∀ j x, j < k → l[j]? = some x → p x = false) (fun k => l.length - k) 0 ⟨by omega, fun j x h => absurd h (by omega)⟩ fgs ?_
  rintro k ⟨hk, hno⟩
  by_cases hkl : k < l.length
  · obtain ⟨x, hx⟩ := get_of_lt hkl
    have hc := hp x (List.mem_of_getElem? hx)
    cases e : p x
    · rw [e] at hc
      (refine wlk ?_)
      (refine SqA.b1 (op_callV none rfl rfl rfl hf (FnD.use (hc)) rfl rfl rfl rfl rfl rfl) rfl rfl ?_)
      (refine wlk ?_)
      exact ⟨k + 1, ⟨by omega, upto_succ hno hx e⟩, fgs, by omega⟩
    · rw [e] at hc
      (refine wlk ?_)
      (refine SqA.b1 (op_callV none rfl rfl rfl hf (FnD.use (hc)) rfl rfl rfl rfl rfl rfl) rfl rfl ?_)
      (refine wlk ?_)
      (refine wfT ?_)
      exact Xi (b := k) (by rw [idxP_at hno hx e, Nat.zero_add])
  · have : k = l.length := by omega
    subst this
    (refine wlk ?_)
    (refine wfT ?_)
    exact Xi (b := -1) (by rw [idxP_no (any_upto hno)])
theorem contFI1 (f : FuncId) (fc : List FC) (p : Int → Bool) (hf : enters Tryz.prog f = true) (l : List Int) (hp : ∀ x ∈ l, FnD Tryz.prog f [iA x, .c (.fp fc)] (.one (bA (p x)))) :
    FnD Tryz.prog 87 [lA Int.d l, .c (.fnv f [fc])] (.one (bA (l.any p))) := by
  refine Fn.of Tryz.func87 rfl Tryz.ntmps87 rfl (Nat.le_of_ble_eq_true rfl) ?_
  have hc := idxFI1 f fc p hf l hp
  cases e : l.any p
  · have h0 := idxP_no (p := p) (i := 0) (any_no e)
    (refine wlk ?_)
    (refine wlC hc ?_)
    (refine wlk ?_)
    (refine wfT ?_)
    rfl
  · have h0 := idxP_any (p := p) (i := 0) e
    (refine wlk ?_)
    (refine wlC hc ?_)
    (refine wlk ?_)
    (refine wfT ?_)
    rfl
def ltF (l : Lt) : List FC := [.val (.bool l.neg), .val (.bool l.left.var), .val (.int .i64 l.left.n), .arr (l.left.args.map Tm.d), .val (.bool l.right.var), .val (.int .i64 l.right.n), .arr (l.right.args.map Tm.d)]
theorem phas1 (x l : Lt) : FnD Tryz.prog 117 [ltA x, .c (.fp (ltF l))] (.one (bA (x.same l))) := by
  refine Fn.of Tryz.func117 rfl Tryz.ntmps117 rfl (Nat.le_of_ble_eq_true rfl) ?_
  (refine wlk ?_)
  (refine SqA.b1 (op_call none rfl rfl rfl (by kernel_rfl) (FnD.use (psameLit x l)) rfl rfl rfl rfl rfl rfl) rfl rfl ?_)
  (refine wlk ?_)
  (refine wfT ?_)
  rfl
theorem phas (c : List Lt) (l : Lt) : FnD Tryz.prog 78 [lA Lt.d c, ltA l] (.one (bA (c.any fun x => x.same l))) := by
  refine Fn.of Tryz.func78 rfl Tryz.ntmps78 rfl (Nat.le_of_ble_eq_true rfl) ?_
  (refine wlR ?_)
  refine dwp_wk (Wk.frzF (t := 3) (j := 3) (fs := ltF l) rfl rfl rfl rfl rfl) ?_
  (refine wlk ?_)
  (refine SqA.b1 (op_mkFn rfl rfl rfl) rfl rfl ?_)
  (refine wlk ?_)
  (refine SqA.b1 (op_call none rfl rfl rfl (by kernel_rfl) (FnD.use (contFL 117 (ltF l) (fun x => x.same l) (by kernel_rfl) c fun x _ => phas1 x l)) rfl rfl rfl rfl rfl rfl) rfl rfl ?_)
  (refine wlk ?_)
  (refine wfT ?_)
  rfl
end Go.Proofs.YtmanhdacnkpclaaGreat
/- Keeping clauses, step by step, plainly. -/
namespace Go.Proofs.YtmanhdacnkpclaaGreat
set_option linter.all false
theorem orients_app : ∀ (a b : List Lt), orients (a ++ b) = (orients a).bind fun x => (orients b).map fun y => x ++ y
  | [], b => by cases h : orients b <;> simp [orients, h]
  | l :: a, b => by
    simp only [List.cons_append, orients]
    rw [orients_app a b]
    split
    · split
      · rfl
      · rfl
    · cases orients a <;> cases orients b <;> simp
theorem split_at {α : Type} {c : List α} {k : Nat} {x : α} (h : c[k]? = some x) : c = c.take k ++ x :: c.drop (k + 1) := by rw [← drop_of h, List.take_append_drop]
theorem orients_none_at {c o : List Lt} {k : Nat} {x : Lt} (h : orients (c.take k) = some o) (hx : c[k]? = some x) (hs : x.left.same x.right = true) (hn : x.neg = false) : orients c = none := by
  rw [split_at hx, orients_app, h]
  simp [orients, hs, hn]
theorem orients_skip {c o : List Lt} {k : Nat} {x : Lt} (h : orients (c.take k) = some o) (hx : c[k]? = some x) (hs : x.left.same x.right = true) (hn : x.neg = true) : orients (c.take (k + 1)) = some o := by
  rw [take_succ_of hx, orients_app, h]
  simp [orients, hs, hn]
theorem orients_more {c o : List Lt} {k : Nat} {x : Lt} (h : orients (c.take k) = some o) (hx : c[k]? = some x) (hs : x.left.same x.right = false) : orients (c.take (k + 1)) = some (o ++ [orient1 x]) := by
  rw [take_succ_of hx, orients_app, h]
  simp [orients, hs]
theorem dedup_app : ∀ (a b o : List Lt), dedup o (a ++ b) = (dedup o a).bind fun o' => dedup o' b
  | [], b, o => rfl
  | l :: a, b, o => by
    simp only [List.cons_append, dedup]
    split
    · exact dedup_app a b o
    · split
      · rfl
      · exact dedup_app a b _
theorem dedup_skip {c o : List Lt} {k : Nat} {x : Lt} (h : dedup [] (c.take k) = some o) (hx : c[k]? = some x) (hs : hasS o x = true) : dedup [] (c.take (k + 1)) = some o := by
  rw [take_succ_of hx, dedup_app, h]
  simp [dedup, hs]
theorem dedup_more {c o : List Lt} {k : Nat} {x : Lt} (h : dedup [] (c.take k) = some o) (hx : c[k]? = some x) (hs : hasS o x = false) (hn : hasN o x = false) : dedup [] (c.take (k + 1)) = some (o ++ [x]) := by
  rw [take_succ_of hx, dedup_app, h]
  simp [dedup, hs, hn]
theorem dedup_none_at {c o : List Lt} {k : Nat} {x : Lt} (h : dedup [] (c.take k) = some o) (hx : c[k]? = some x) (hs : hasS o x = false) (hn : hasN o x = true) : dedup [] c = none := by
  rw [split_at hx, dedup_app, h]
  simp [dedup, hs, hn]
theorem numbF_snoc : ∀ (vs : List Int) (i : Nat) (v : Int), numbF i (vs ++ [v]) = numbF i vs ++ [(v, ⟨true, ((i + vs.length : Nat) : Int), []⟩)]
  | [], i, v => by simp [numbF]
  | u :: vs, i, v => by
    simp only [List.cons_append, numbF, numbF_snoc vs (i + 1) v, List.length_cons]
    rw [show i + 1 + vs.length = i + (vs.length + 1) by omega]
theorem numb_snoc {vs : List Int} {k : Nat} {v : Int} (h : vs[k]? = some v) : numb (vs.take k) ++ [(v, ⟨true, (k : Int), []⟩)] = numb (vs.take (k + 1)) := by
  have hk := (List.getElem?_eq_some_iff.1 h).1
  have := numbF_snoc (vs.take k) 0 v
  rw [← take_succ_of h] at this
  unfold numb
  rw [this]
  have e : (vs.take k).length = k := by rw [List.length_take]; omega
  rw [e, Nat.zero_add]
theorem numb_len (vs : List Int) : (numb vs).length = vs.length := by
  unfold numb
  have : ∀ (vs : List Int) (i : Nat), (numbF i vs).length = vs.length := by
    intro vs
    induction vs with
    | nil => intro i; rfl
    | cons v vs ih => intro i; simp [numbF, ih]
  exact this vs 0
theorem hasS_eq (o : List Lt) (l : Lt) : hasS o l = ((o.any fun x => x.same l) || o.any fun x => x.same ⟨l.neg, l.right, l.left⟩) := by
  unfold hasS
  induction o with
  | nil => rfl
  | cons y o ih =>
    simp only [List.any_cons, ih]
    have : (like l y && (y.neg == l.neg)) = (y.same l || y.same ⟨l.neg, l.right, l.left⟩) := by
      rw [Bool.eq_iff_iff]
      simp only [Bool.and_eq_true, Bool.or_eq_true, like_iff, beq_iff_eq, Lt.same_iff]
      obtain ⟨yn, yl, yr⟩ := y
      obtain ⟨ln, ll, lr⟩ := l
      simp only [Lt.mk.injEq]
      constructor
      · rintro ⟨⟨h1, h2⟩ | ⟨h1, h2⟩, h3⟩
        · exact .inl ⟨h3, h1.symm, h2.symm⟩
        · exact .inr ⟨h3, h2.symm, h1.symm⟩
      · rintro (⟨h3, h1, h2⟩ | ⟨h3, h1, h2⟩)
        · exact ⟨.inl ⟨h1.symm, h2.symm⟩, h3⟩
        · exact ⟨.inr ⟨h2.symm, h1.symm⟩, h3⟩
    rw [this]
    cases y.same l <;> cases y.same ⟨l.neg, l.right, l.left⟩ <;> simp
theorem hasN_eq (o : List Lt) (l : Lt) : hasN o l = ((o.any fun x => x.same ⟨!l.neg, l.left, l.right⟩) || o.any fun x => x.same ⟨!l.neg, l.right, l.left⟩) := by
  unfold hasN
  induction o with
  | nil => rfl
  | cons y o ih =>
    simp only [List.any_cons, ih]
    have : (like l y && (y.neg != l.neg)) = (y.same ⟨!l.neg, l.left, l.right⟩ || y.same ⟨!l.neg, l.right, l.left⟩) := by
      rw [Bool.eq_iff_iff]
      simp only [Bool.and_eq_true, Bool.or_eq_true, like_iff, bne_iff_ne, ne_eq, Lt.same_iff]
      obtain ⟨yn, yl, yr⟩ := y
      obtain ⟨ln, ll, lr⟩ := l
      simp only [Lt.mk.injEq]
      have hb : (¬ yn = ln) ↔ yn = !ln := by cases yn <;> cases ln <;> simp
      rw [hb]
      constructor
      · rintro ⟨⟨h1, h2⟩ | ⟨h1, h2⟩, h3⟩
        · exact .inl ⟨h3, h1.symm, h2.symm⟩
        · exact .inr ⟨h3, h2.symm, h1.symm⟩
      · rintro (⟨h3, h1, h2⟩ | ⟨h3, h1, h2⟩)
        · exact ⟨.inl ⟨h1.symm, h2.symm⟩, h3⟩
        · exact ⟨.inr ⟨h2.symm, h1.symm⟩, h3⟩
    rw [this]
    cases y.same ⟨!l.neg, l.left, l.right⟩ <;> cases y.same ⟨!l.neg, l.right, l.left⟩ <;> simp
theorem compare_less {a b : Tm} (ha : a.okv = true) (hb : b.okv = true) : compare a b = 1 ↔ above b a = true := by
  rw [← compare_more hb, compare_flip ha hb]
  by_cases h1 : compare a b = 1
  · simp [h1]
  · by_cases h3 : compare a b = 3
    · simp [h3]
    · simp [h1, h3]
theorem norm_n1 {c : List Lt} (h : orients c = none) : norm c = ([], 6) := by unfold norm; rw [h]
theorem norm_n2 {c o : List Lt} (h : orients c = some o) (hd : dedup [] (each (app (numb (clVars [] o))) o) = none) : norm c = ([], 6) := by unfold norm; rw [h]; dsimp only; rw [hd]
theorem norm_n3 {c o d : List Lt} (h : orients c = some o) (hd : dedup [] (each (app (numb (clVars [] o))) o) = some d) : norm c = if 4 < d.length ∨ 5 < (clVars [] o).length ∨ bigCl d = true then ([], 4) else (d, 0) := by unfold norm; rw [h]; dsimp only; rw [hd]
theorem bigCl_at {d : List Lt} {k : Nat} {x : Lt} (hx : d[k]? = some x) (h : 12 < x.left.size ∨ 12 < x.right.size) : bigCl d = true := List.any_eq_true.2 ⟨x, List.mem_of_getElem? hx, decide_eq_true h⟩
theorem bigCl_yes {d : List Lt} (h : ∀ (j : Nat) x, j < d.length → d[j]? = some x → x.left.size ≤ 12 ∧ x.right.size ≤ 12) : ¬ bigCl d = true := fun hb => by
  obtain ⟨x, hx, hh⟩ := List.any_eq_true.1 hb
  have := any_upto h x hx
  simp only [decide_eq_true_eq] at hh
  omega
theorem dedup_inv : ∀ {a o d : List Lt}, dedup o a = some d → (∀ y ∈ o, y ∈ d) ∧ (∀ y ∈ a, ∃ z ∈ d, like y z = true ∧ z.neg = y.neg)
  | [], o, d, h => by
    simp only [dedup, Option.some.injEq] at h
    subst h
    exact ⟨fun y hy => hy, fun y hy => (by cases hy)⟩
  | l :: a, o, d, h => by
    simp only [dedup] at h
    split at h
    · rename_i hs
      obtain ⟨h1, h2⟩ := dedup_inv h
      refine ⟨h1, fun y hy => ?_⟩
      rcases List.mem_cons.1 hy with rfl | hy
      · obtain ⟨z, hz, hh⟩ := List.any_eq_true.1 hs
        simp only [Bool.and_eq_true, beq_iff_eq] at hh
        exact ⟨z, h1 z hz, hh⟩
      · exact h2 y hy
    · split at h
      · cases h
      · obtain ⟨h1, h2⟩ := dedup_inv h
        refine ⟨fun y hy => h1 y (List.mem_append_left _ hy), fun y hy => ?_⟩
        rcases List.mem_cons.1 hy with rfl | hy
        · exact ⟨y, h1 y (by simp), like_iff.2 (.inl ⟨rfl, rfl⟩), rfl⟩
        · exact h2 y hy
theorem like_symm {a b : Lt} (h : like a b = true) : like b a = true := by
  rcases like_iff.1 h with ⟨h1, h2⟩ | ⟨h1, h2⟩
  · exact like_iff.2 (.inl ⟨h1.symm, h2.symm⟩)
  · exact like_iff.2 (.inr ⟨h2.symm, h1.symm⟩)
theorem like_trans {a b c : Lt} (h : like a b = true) (h' : like b c = true) : like a c = true := by
  rcases like_iff.1 h with ⟨h1, h2⟩ | ⟨h1, h2⟩ <;> rcases like_iff.1 h' with ⟨g1, g2⟩ | ⟨g1, g2⟩
  · exact like_iff.2 (.inl ⟨h1.trans g1, h2.trans g2⟩)
  · exact like_iff.2 (.inr ⟨h1.trans g1, h2.trans g2⟩)
  · exact like_iff.2 (.inr ⟨h1.trans g2, h2.trans g1⟩)
  · exact like_iff.2 (.inl ⟨h1.trans g2, h2.trans g1⟩)
theorem lone_one {d : List Lt} (h : Lone d) {a b : Lt} (ha : a ∈ d) (hb : b ∈ d) (hl : like a b = true) : a = b := by
  obtain ⟨i, hi, rfl⟩ := List.getElem_of_mem ha
  obtain ⟨j, hj, rfl⟩ := List.getElem_of_mem hb
  have hp := List.pairwise_iff_getElem.1 h
  rcases Nat.lt_trichotomy i j with hij | hij | hij
  · have h1 := like_symm hl
    rw [hp i j hi hj hij] at h1; cases h1
  · subst hij; rfl
  · have := hp j i hj hi hij
    rw [hl] at this; cases this
theorem before_conf {a o : List Lt} (h : dedup [] a = some o) (x : Lt) : (a.any fun y => like x y && (x.neg != y.neg)) = hasN o x := by
  obtain ⟨_, h2⟩ := dedup_inv h
  have h3 := dedup_mem h
  rw [Bool.eq_iff_iff]
  unfold hasN
  simp only [List.any_eq_true, Bool.and_eq_true, bne_iff_ne, ne_eq]
  constructor
  · rintro ⟨y, hy, hl, hn⟩
    obtain ⟨z, hz, hyz, hzn⟩ := h2 y hy
    exact ⟨z, hz, like_trans hl hyz, fun e => hn (e.symm.trans hzn)⟩
  · rintro ⟨z, hz, hl, hn⟩
    rcases h3 z hz with h | h
    · cases h
    · exact ⟨z, h, hl, fun e => hn e.symm⟩
theorem before_excl {a o : List Lt} (h : dedup [] a = some o) {x : Lt} (hN : hasN o x = true) : hasS o x = false := by
  rw [← Bool.not_eq_true]
  intro hS
  have hl := dedup_lone (once := []) List.Pairwise.nil h
  obtain ⟨z, hz, h1⟩ := List.any_eq_true.1 hN
  obtain ⟨y, hy, h2⟩ := List.any_eq_true.1 hS
  simp only [Bool.and_eq_true, bne_iff_ne, ne_eq, beq_iff_eq] at h1 h2
  have := lone_one hl hz hy (like_trans (like_symm h1.1) h2.1)
  subst this
  exact h1.2 h2.2
theorem before_had {a o : List Lt} (h : dedup [] a = some o) {x : Lt} (hN : hasN o x = false) : (a.any fun y => like x y) = hasS o x := by
  have hc := before_conf h x
  rw [hN] at hc
  obtain ⟨_, h2⟩ := dedup_inv h
  have h3 := dedup_mem h
  rw [Bool.eq_iff_iff]
  unfold hasS
  simp only [List.any_eq_true, Bool.and_eq_true, beq_iff_eq]
  constructor
  · rintro ⟨y, hy, hl⟩
    obtain ⟨z, hz, hyz, hzn⟩ := h2 y hy
    refine ⟨z, hz, like_trans hl hyz, ?_⟩
    rw [hzn]
    have := List.any_eq_false.1 hc y hy
    simp only [hl, Bool.true_and, bne_iff_ne, ne_eq, Decidable.not_not] at this
    exact this.symm
  · rintro ⟨z, hz, hl, _⟩
    rcases h3 z hz with h | h
    · cases h
    · exact ⟨z, h, hl⟩
end Go.Proofs.YtmanhdacnkpclaaGreat
/- Keeping clauses: what the walks need. -/
namespace Go.Proofs.YtmanhdacnkpclaaGreat
set_option linter.all false
open Go.RowKit
theorem w64 {n : Nat} (h : n ≤ 4000000000000000000) : wrap64 (n : Int) = n := by unfold wrap64; omega
theorem orients_sz {c o : List Lt} (h : orients c = some o) (hc : clSz c) : clSz o := fun l hl => by
  obtain ⟨k, hk, _, rfl⟩ := orients_mem h l hl
  have := hc k hk
  rcases orient1_two k with ⟨e1, e2⟩ | ⟨e1, e2⟩ <;> rw [e1, e2] <;> omega
theorem numb_sz {o : List Lt} (hk : clOkv o) (hc : clSz o) : clSz (each (app (numb (clVars [] o))) o) := fun l hl => by
  simp only [each, List.mem_map] at hl
  obtain ⟨x, hx, rfl⟩ := hl
  have h1 := size_numb (vs := clVars [] o) x.left (hk x hx).1 fun v hv => mem_clVars o [] hk x hx (.inl hv)
  have h2 := size_numb (vs := clVars [] o) x.right (hk x hx).2 fun v hv => mem_clVars o [] hk x hx (.inr hv)
  have := hc x hx
  dsimp only
  omega
theorem Xn {c : List Lt} {e : Int} {r : List Lt × Int} (h : (c, e) = r) : (.tup [lA Lt.d c, iA e] : X) = .tup [lA Lt.d r.1, iA r.2] := by rw [← h]
end Go.Proofs.YtmanhdacnkpclaaGreat
