/- What functions do: the program's Unify, More, Match. -/
import Derived.Test.YtmanhdacnkpclaaDoorq6E1
namespace Go.Proofs.YtmanhdacnkpclaaDoor
set_option linter.all false
open Go.RowKit

theorem snocz {l l' : List Tm} {k : Nat} {p q : Tm} (hp : l[k]? = some p) (hq : l'[k]? = some q) : (l.zip l').take k ++ [(p, q)] = (l.zip l').take (k + 1) := by
  have h : (l.zip l')[k]? = some (p, q) := by rw [List.getElem?_zip_eq_some]; exact ⟨hp, hq⟩
  rw [List.take_add_one, h]; rfl
set_option maxHeartbeats 32000000 in
set_option maxRecDepth 100000 in
theorem bunify {a b : Tm} (ha : Old a) (hb : Old b) : FnD Tryd.prog 17 [tA a, tA b] (.tup (resU (unify a b))) := by
  refine Fn.of Tryd.func17 rfl Tryd.ntmps17 rfl (Nat.le_of_ble_eq_true rfl) ?_
  have hB := bigU_eq
  (refine wlk ?_)
  (refine SqA.b1 (op_bsT (T := TB) (f := Tw.d) [(a, b)] rfl rfl rfl rfl rfl rfl rfl rfl rfl rfl rfl) rfl rfl ?_)
  (refine wlk ?_)
  refine dwp_loop (fun x : List Pr × List (Tm × Tm) => [(.t 6, some (.one (lA Pr.d x.1))), (.t 7, some (.one (lA Tw.d x.2)))])
    (fun x => UInv a x.1 x.2 ∧ ∃ f, muU x.1 x.2 ≤ f ∧ unifyF f x.1 x.2 = unify a b) (fun x => muU x.1 x.2) ([], [(a, b)]) ⟨UInv.start ha hb, _, (UInv.start ha hb).mu_le, rfl⟩ ((Wk.nilArr (d := 6) rfl).trans fgs) ?_
  rintro ⟨s, todo⟩ ⟨hi, f, hf, hu⟩
  dsimp only at hi hf hu ⊢
  cases todo with
  | nil =>
    have h0 : ([] : List (Tm × Tm)).length = 0 := rfl
    have hu' : unify a b = some s := by rw [← hu]; cases f <;> rfl
    rw [hu']
    (refine wlk ?_)
    (first | (refine finR (.tmp rfl (.tmp rfl .nil)) rfl rfl ?_) | (refine finN (.tmp rfl (.tmp rfl .nil)) rfl rfl ?_))
    exact rfl
  | cons e todo =>
    obtain ⟨c, d⟩ := e
    cases f with
    | zero =>
      have h1 : 1 ≤ wt (fun _ => 1) (app s c) := by rw [size_wt hi.idem.1 (hi.ok (c, d) (by simp)).1]; exact size_pos _
      simp only [muU, sumU, List.map_cons, List.sum_cons] at hf
      omega
    | succ f =>
      obtain ⟨⟨z1, z2⟩, z3, z4⟩ := hi.esize (e := (c, d)) (by simp)
      have hps := fun p (hp : p ∈ s) => hi.psize hp
      have hsl := hi.len_le
      have htl := hi.todo_le
      have hab := hi.ok (c, d) (by simp)
      have ka := app_okv hi.idem.1 c hab.1
      have kb := app_okv hi.idem.1 d hab.2
      have hstep : ∀ s' todo', UWay s c d todo s' todo' → unifyF f s' todo' = unify a b → (UInv a s' todo' ∧ ∃ f, muU s' todo' ≤ f ∧ unifyF f s' todo' = unify a b) ∧ muU s' todo' < muU s ((c, d) :: todo) := fun s' todo' hw hu' => by
        obtain ⟨g1, g2⟩ := hi.step hw
        exact ⟨⟨g1, f, by omega, hu'⟩, g2⟩
      have hbig : ∀ s' todo', UWay s c d todo s' todo' → todo'.length ≤ bigU := fun s' todo' hw => (hi.step hw).1.todo_le
      have capx := bapply s c (by simp only at z1; omega)
      have capy := bapply s d (by simp only at z2; omega)
      have hu1 : unifyF (f + 1) s ((c, d) :: todo) = match ustep s c d todo with | none => none | some (s', todo') => unifyF f s' todo' := by
        simp only [unifyF]
        cases ustep s c d todo <;> rfl
      have hway := fun s' todo' => ustep_way (todo := todo) (todo' := todo') (s' := s') ka kb
      rw [hu1] at hu
      have hus : ustep s c d todo = (if (app s c).same (app s d) then some (s, todo)
        else if (app s c).var then (if times (app s c).n (app s d) ≠ 0 then none else some (bound s (app s c).n (app s d), todo))
        else if (app s d).var then (if times (app s d).n (app s c) ≠ 0 then none else some (bound s (app s d).n (app s c), todo))
        else if (app s c).n ≠ (app s d).n ∨ (app s c).args.length ≠ (app s d).args.length then none
        else some (s, (app s c).args.zip (app s d).args ++ todo)) := rfl
      rw [hus] at hway hu
      simp only [List.length_cons] at htl
      simp only at z1 z2 z3 z4
      have e0 : ((c, d) :: todo)[0]? = some (c, d) := rfl
      have e1 : 0 < ((c, d) :: todo).length := by simp
      have e2 : 1 ≤ ((c, d) :: todo).length := by simp
      clear hu1 hus
      generalize app s c = x at *
      generalize app s d = y at *
      have csame := psame x y
      have cox := boccurs x.n y kb (by omega)
      have coy := boccurs y.n x ka (by omega)
      have zl1 := sizes_len x.args
      have zl2 := sizes_len y.args
      have zs1 : x.size = 1 + Tm.sizes x.args := by cases x; rfl
      have zs2 : y.size = 1 + Tm.sizes y.args := by cases y; rfl
      have cbx := bbound s x.n y (by omega) (fun p hp => by have := hps p hp; omega)
      have cby := bbound s y.n x (by omega) (fun p hp => by have := hps p hp; omega)
      cases hxy : x.same y
      rotate_left
      · rw [hxy] at csame
        simp only [hxy, if_true] at hway hu
        obtain ⟨j1, j2⟩ := hstep _ _ (hway _ _ rfl) hu
        (refine wlk ?_)
        (refine SqA.b1 (op_call none rfl rfl rfl (by kernel_rfl) (FnD.use (capx)) rfl rfl rfl rfl rfl rfl) rfl rfl ?_)
        (refine wlk ?_)
        (refine SqA.b1 (op_call none rfl rfl rfl (by kernel_rfl) (FnD.use (capy)) rfl rfl rfl rfl rfl rfl) rfl rfl ?_)
        (refine wlk ?_)
        (refine SqA.b1 (op_call none rfl rfl rfl (by kernel_rfl) (FnD.use (csame)) rfl rfl rfl rfl rfl rfl) rfl rfl ?_)
        (refine wlk ?_)
        exact ⟨(s, todo), j1, fgs, j2⟩
      rw [hxy] at csame
      simp only [hxy, Bool.false_eq_true, if_false] at hway hu
      obtain ⟨vx, nx, lx⟩ := x
      obtain ⟨vy, ny, ly⟩ := y
      simp only at *
      cases vx
      · cases vy
        · simp only [Bool.false_eq_true, if_false] at hway hu
          by_cases hn : nx = ny
          rotate_left
          · rw [if_pos (.inl hn)] at hu
            rw [← hu]
            (refine wlk ?_)
            (refine SqA.b1 (op_call none rfl rfl rfl (by kernel_rfl) (FnD.use (capx)) rfl rfl rfl rfl rfl rfl) rfl rfl ?_)
            (refine wlk ?_)
            (refine SqA.b1 (op_call none rfl rfl rfl (by kernel_rfl) (FnD.use (capy)) rfl rfl rfl rfl rfl rfl) rfl rfl ?_)
            (refine wlk ?_)
            (refine SqA.b1 (op_call none rfl rfl rfl (by kernel_rfl) (FnD.use (csame)) rfl rfl rfl rfl rfl rfl) rfl rfl ?_)
            (refine wlk ?_)
            refine fin_wk (fun n => Wk.nilArr (d := 4) rfl) ?_
            (first | (refine finR (.tmp rfl (.tmp rfl .nil)) rfl rfl ?_) | (refine finN (.tmp rfl (.tmp rfl .nil)) rfl rfl ?_))
            exact rfl
          by_cases hl : lx.length = ly.length
          rotate_left
          · rw [if_pos (.inr hl)] at hu
            rw [← hu]
            (refine wlk ?_)
            (refine SqA.b1 (op_call none rfl rfl rfl (by kernel_rfl) (FnD.use (capx)) rfl rfl rfl rfl rfl rfl) rfl rfl ?_)
            (refine wlk ?_)
            (refine SqA.b1 (op_call none rfl rfl rfl (by kernel_rfl) (FnD.use (capy)) rfl rfl rfl rfl rfl rfl) rfl rfl ?_)
            (refine wlk ?_)
            (refine SqA.b1 (op_call none rfl rfl rfl (by kernel_rfl) (FnD.use (csame)) rfl rfl rfl rfl rfl rfl) rfl rfl ?_)
            (refine wlk ?_)
            refine fin_wk (fun n => Wk.nilArr (d := 4) rfl) ?_
            (first | (refine finR (.tmp rfl (.tmp rfl .nil)) rfl rfl ?_) | (refine finN (.tmp rfl (.tmp rfl .nil)) rfl rfl ?_))
            exact rfl
          rw [if_neg (by simp [hn, hl])] at hway hu
          have hw := hway _ _ rfl
          obtain ⟨j1, j2⟩ := hstep _ _ hw hu
          have hbg := hbig _ _ hw
          have hzl : (lx.zip ly).length = lx.length := by simp; omega
          rw [List.length_append, hzl] at hbg
          (refine wlk ?_)
          (refine SqA.b1 (op_call none rfl rfl rfl (by kernel_rfl) (FnD.use (capx)) rfl rfl rfl rfl rfl rfl) rfl rfl ?_)
          (refine wlk ?_)
          (refine SqA.b1 (op_call none rfl rfl rfl (by kernel_rfl) (FnD.use (capy)) rfl rfl rfl rfl rfl rfl) rfl rfl ?_)
          (refine wlk ?_)
          (refine SqA.b1 (op_call none rfl rfl rfl (by kernel_rfl) (FnD.use (csame)) rfl rfl rfl rfl rfl rfl) rfl rfl ?_)
          (refine wlk ?_)
          refine dwp_loop (fun k : Nat => [(.t 6, some (.one (lA Pr.d s))), (.t 7, some (.one (lA Tw.d todo))), (.t 8, some (.one (.c (.ptr 8 0)))), (.b 8, some (.box (tA ⟨false, nx, lx⟩).cells)), (.t 9, some (.one (.c (.ptr 9 0)))), (.b 9, some (.box (tA ⟨false, ny, ly⟩).cells)),
              (.t 10, some (.one (.c (.own 92 6 (((lx.zip ly).take k).map Tw.d))))), (.t 35, some (.one (iA lx.length))), (.t 36, some (.one (iA k)))])
            (fun k => k ≤ lx.length) (fun k => lx.length - k) 0 (by omega) ((Wk.nilOwn (d := 10) (E := 92) (m := 6) rfl).trans fgs) ?_
          intro k hk
          by_cases hkl : k < lx.length
          · obtain ⟨p, hp⟩ := get_of_lt hkl
            obtain ⟨q, hq⟩ := get_of_lt (s := ly) (k := k) (by omega)
            have hsn := snocz hp hq
            (refine wlk ?_)
            (refine SqA.b1 (op_bsT (T := TB) (f := Tw.d) [(p, q)] rfl rfl rfl rfl rfl rfl rfl rfl rfl rfl rfl) rfl rfl ?_)
            (refine wlk ?_)
            exact ⟨k + 1, by omega, fgs, by omega⟩
          · have : k = lx.length := by omega
            subst this
            have hz : (lx.zip ly).take lx.length ++ todo = lx.zip ly ++ todo := by rw [List.take_of_length_le (by simp; omega)]
            (refine wlk ?_)
            exact ⟨(s, lx.zip ly ++ todo), j1, (Wk.freezeAt (d := 7) rfl).trans fgs, j2⟩
        · simp only [Bool.false_eq_true, if_false, if_true] at hway hu
          by_cases ho : times ny ⟨false, nx, lx⟩ = 0
          · rw [decide_eq_false (by simp [ho])] at coy
            rw [if_neg (by simp [ho])] at hway hu
            obtain ⟨j1, j2⟩ := hstep _ _ (hway _ _ rfl) hu
            (refine wlk ?_)
            (refine SqA.b1 (op_call none rfl rfl rfl (by kernel_rfl) (FnD.use (capx)) rfl rfl rfl rfl rfl rfl) rfl rfl ?_)
            (refine wlk ?_)
            (refine SqA.b1 (op_call none rfl rfl rfl (by kernel_rfl) (FnD.use (capy)) rfl rfl rfl rfl rfl rfl) rfl rfl ?_)
            (refine wlk ?_)
            (refine SqA.b1 (op_call none rfl rfl rfl (by kernel_rfl) (FnD.use (csame)) rfl rfl rfl rfl rfl rfl) rfl rfl ?_)
            (refine wlk ?_)
            (refine SqA.b1 (op_call none rfl rfl rfl (by kernel_rfl) (FnD.use (coy)) rfl rfl rfl rfl rfl rfl) rfl rfl ?_)
            (refine wlk ?_)
            (refine SqA.b1 (op_call none rfl rfl rfl (by kernel_rfl) (FnD.use (cby)) rfl rfl rfl rfl rfl rfl) rfl rfl ?_)
            (refine wlk ?_)
            exact ⟨(bound s ny ⟨false, nx, lx⟩, todo), j1, fgs, j2⟩
          · rw [decide_eq_true ho] at coy
            rw [if_pos ho] at hu
            rw [← hu]
            (refine wlk ?_)
            (refine SqA.b1 (op_call none rfl rfl rfl (by kernel_rfl) (FnD.use (capx)) rfl rfl rfl rfl rfl rfl) rfl rfl ?_)
            (refine wlk ?_)
            (refine SqA.b1 (op_call none rfl rfl rfl (by kernel_rfl) (FnD.use (capy)) rfl rfl rfl rfl rfl rfl) rfl rfl ?_)
            (refine wlk ?_)
            (refine SqA.b1 (op_call none rfl rfl rfl (by kernel_rfl) (FnD.use (csame)) rfl rfl rfl rfl rfl rfl) rfl rfl ?_)
            (refine wlk ?_)
            (refine SqA.b1 (op_call none rfl rfl rfl (by kernel_rfl) (FnD.use (coy)) rfl rfl rfl rfl rfl rfl) rfl rfl ?_)
            (refine wlk ?_)
            refine fin_wk (fun n => Wk.nilArr (d := 4) rfl) ?_
            (first | (refine finR (.tmp rfl (.tmp rfl .nil)) rfl rfl ?_) | (refine finN (.tmp rfl (.tmp rfl .nil)) rfl rfl ?_))
            exact rfl
      · simp only [if_true] at hway hu
        by_cases ho : times nx ⟨vy, ny, ly⟩ = 0
        · rw [decide_eq_false (by simp [ho])] at cox
          rw [if_neg (by simp [ho])] at hway hu
          obtain ⟨j1, j2⟩ := hstep _ _ (hway _ _ rfl) hu
          cases vy <;> (
            (refine wlk ?_)
            (refine SqA.b1 (op_call none rfl rfl rfl (by kernel_rfl) (FnD.use (capx)) rfl rfl rfl rfl rfl rfl) rfl rfl ?_)
            (refine wlk ?_)
            (refine SqA.b1 (op_call none rfl rfl rfl (by kernel_rfl) (FnD.use (capy)) rfl rfl rfl rfl rfl rfl) rfl rfl ?_)
            (refine wlk ?_)
            (refine SqA.b1 (op_call none rfl rfl rfl (by kernel_rfl) (FnD.use (csame)) rfl rfl rfl rfl rfl rfl) rfl rfl ?_)
            (refine wlk ?_)
            (refine SqA.b1 (op_call none rfl rfl rfl (by kernel_rfl) (FnD.use (cox)) rfl rfl rfl rfl rfl rfl) rfl rfl ?_)
            (refine wlk ?_)
            (refine SqA.b1 (op_call none rfl rfl rfl (by kernel_rfl) (FnD.use (cbx)) rfl rfl rfl rfl rfl rfl) rfl rfl ?_)
            (refine wlk ?_)
            exact ⟨(bound s nx _, todo), j1, fgs, j2⟩)
        · rw [decide_eq_true ho] at cox
          rw [if_pos ho] at hu
          rw [← hu]
          cases vy <;> (
            (refine wlk ?_)
            (refine SqA.b1 (op_call none rfl rfl rfl (by kernel_rfl) (FnD.use (capx)) rfl rfl rfl rfl rfl rfl) rfl rfl ?_)
            (refine wlk ?_)
            (refine SqA.b1 (op_call none rfl rfl rfl (by kernel_rfl) (FnD.use (capy)) rfl rfl rfl rfl rfl rfl) rfl rfl ?_)
            (refine wlk ?_)
            (refine SqA.b1 (op_call none rfl rfl rfl (by kernel_rfl) (FnD.use (csame)) rfl rfl rfl rfl rfl rfl) rfl rfl ?_)
            (refine wlk ?_)
            (refine SqA.b1 (op_call none rfl rfl rfl (by kernel_rfl) (FnD.use (cox)) rfl rfl rfl rfl rfl rfl) rfl rfl ?_)
            (refine wlk ?_)
            refine fin_wk (fun n => Wk.nilArr (d := 4) rfl) ?_
            (first | (refine finR (.tmp rfl (.tmp rfl .nil)) rfl rfl ?_) | (refine finN (.tmp rfl (.tmp rfl .nil)) rfl rfl ?_))
            exact rfl)

end Go.Proofs.YtmanhdacnkpclaaDoor
