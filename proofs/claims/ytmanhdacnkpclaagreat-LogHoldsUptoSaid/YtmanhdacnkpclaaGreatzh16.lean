/- Keeping clauses, step by step, plainly. -/
import Derived.Test.YtmanhdacnkpclaaGreatzh08
import Derived.Test.YtmanhdacnkpclaaGreatzh06
import Derived.Test.YtmanhdacnkpclaaGreatzh15
import Derived.Test.YtmanhdacnkpclaaGreatzh10
import Derived.Test.YtmanhdacnkpclaaGreatzh13
/- Keeping clauses, step by step, plainly. -/
namespace Go.Proofs.YtmanhdacnkpclaaGreat
set_option linter.all false
theorem orients_app : ∀ (a b : List Lt), orients (a ++ b) = (orients a).bind fun x => (orients b).map fun y => x ++ y
  | [], b => by cases h : orients b <;> simp [orients, h]
  | l :: a, b => by
    simp only [List.cons_append, orients]
    rw [orients_app a b]
    split
    · split
      · rfl
      · rfl
    · cases orients a <;> cases orients b <;> simp
theorem split_at {α : Type} {c : List α} {k : Nat} {x : α} (h : c[k]? = some x) : c = c.take k ++ x :: c.drop (k + 1) := by rw [← drop_of h, List.take_append_drop]
theorem orients_none_at {c o : List Lt} {k : Nat} {x : Lt} (h : orients (c.take k) = some o) (hx : c[k]? = some x) (hs : x.left.same x.right = true) (hn : x.neg = false) : orients c = none := by
  rw [split_at hx, orients_app, h]
  simp [orients, hs, hn]
theorem orients_skip {c o : List Lt} {k : Nat} {x : Lt} (h : orients (c.take k) = some o) (hx : c[k]? = some x) (hs : x.left.same x.right = true) (hn : x.neg = true) : orients (c.take (k + 1)) = some o := by
  rw [take_succ_of hx, orients_app, h]
  simp [orients, hs, hn]
theorem orients_more {c o : List Lt} {k : Nat} {x : Lt} (h : orients (c.take k) = some o) (hx : c[k]? = some x) (hs : x.left.same x.right = false) : orients (c.take (k + 1)) = some (o ++ [orient1 x]) := by
  rw [take_succ_of hx, orients_app, h]
  simp [orients, hs]
theorem dedup_app : ∀ (a b o : List Lt), dedup o (a ++ b) = (dedup o a).bind fun o' => dedup o' b
  | [], b, o => rfl
  | l :: a, b, o => by
    simp only [List.cons_append, dedup]
    split
    · exact dedup_app a b o
    · split
      · rfl
      · exact dedup_app a b _
theorem dedup_skip {c o : List Lt} {k : Nat} {x : Lt} (h : dedup [] (c.take k) = some o) (hx : c[k]? = some x) (hs : hasS o x = true) : dedup [] (c.take (k + 1)) = some o := by
  rw [take_succ_of hx, dedup_app, h]
  simp [dedup, hs]
theorem dedup_more {c o : List Lt} {k : Nat} {x : Lt} (h : dedup [] (c.take k) = some o) (hx : c[k]? = some x) (hs : hasS o x = false) (hn : hasN o x = false) : dedup [] (c.take (k + 1)) = some (o ++ [x]) := by
  rw [take_succ_of hx, dedup_app, h]
  simp [dedup, hs, hn]
theorem dedup_none_at {c o : List Lt} {k : Nat} {x : Lt} (h : dedup [] (c.take k) = some o) (hx : c[k]? = some x) (hs : hasS o x = false) (hn : hasN o x = true) : dedup [] c = none := by
  rw [split_at hx, dedup_app, h]
  simp [dedup, hs, hn]
theorem numbF_snoc : ∀ (vs : List Int) (i : Nat) (v : Int), numbF i (vs ++ [v]) = numbF i vs ++ [(v, ⟨true, ((i + vs.length : Nat) : Int), []⟩)]
  | [], i, v => by simp [numbF]
  | u :: vs, i, v => by
    simp only [List.cons_append, numbF, numbF_snoc vs (i + 1) v, List.length_cons]
    rw [show i + 1 + vs.length = i + (vs.length + 1) by omega]
theorem numb_snoc {vs : List Int} {k : Nat} {v : Int} (h : vs[k]? = some v) : numb (vs.take k) ++ [(v, ⟨true, (k : Int), []⟩)] = numb (vs.take (k + 1)) := by
  have hk := (List.getElem?_eq_some_iff.1 h).1
  have := numbF_snoc (vs.take k) 0 v
  rw [← take_succ_of h] at this
  unfold numb
  rw [this]
  have e : (vs.take k).length = k := by rw [List.length_take]; omega
  rw [e, Nat.zero_add]
theorem numb_len (vs : List Int) : (numb vs).length = vs.length := by
  unfold numb
  have : ∀ (vs : List Int) (i : Nat), (numbF i vs).length = vs.length := by
    intro vs
    induction vs with
    | nil => intro i; rfl
    | cons v vs ih => intro i; simp [numbF, ih]
  exact this vs 0
theorem hasS_eq (o : List Lt) (l : Lt) : hasS o l = ((o.any fun x => x.same l) || o.any fun x => x.same ⟨l.neg, l.right, l.left⟩) := by
  unfold hasS
  induction o with
  | nil => rfl
  | cons y o ih =>
    simp only [List.any_cons, ih]
    have : (like l y && (y.neg == l.neg)) = (y.same l || y.same ⟨l.neg, l.right, l.left⟩) := by
      rw [Bool.eq_iff_iff]
      simp only [Bool.and_eq_true, Bool.or_eq_true, like_iff, beq_iff_eq, Lt.same_iff]
      obtain ⟨yn, yl, yr⟩ := y
      obtain ⟨ln, ll, lr⟩ := l
      simp only [Lt.mk.injEq]
      constructor
      · rintro ⟨⟨h1, h2⟩ | ⟨h1, h2⟩, h3⟩
        · exact .inl ⟨h3, h1.symm, h2.symm⟩
        · exact .inr ⟨h3, h2.symm, h1.symm⟩
      · rintro (⟨h3, h1, h2⟩ | ⟨h3, h1, h2⟩)
        · exact ⟨.inl ⟨h1.symm, h2.symm⟩, h3⟩
        · exact ⟨.inr ⟨h2.symm, h1.symm⟩, h3⟩
    rw [this]
    cases y.same l <;> cases y.same ⟨l.neg, l.right, l.left⟩ <;> simp
theorem hasN_eq (o : List Lt) (l : Lt) : hasN o l = ((o.any fun x => x.same ⟨!l.neg, l.left, l.right⟩) || o.any fun x => x.same ⟨!l.neg, l.right, l.left⟩) := by
  unfold hasN
  induction o with
  | nil => rfl
  | cons y o ih =>
    simp only [List.any_cons, ih]
    have : (like l y && (y.neg != l.neg)) = (y.same ⟨!l.neg, l.left, l.right⟩ || y.same ⟨!l.neg, l.right, l.left⟩) := by
      rw [Bool.eq_iff_iff]
      simp only [Bool.and_eq_true, Bool.or_eq_true, like_iff, bne_iff_ne, ne_eq, Lt.same_iff]
      obtain ⟨yn, yl, yr⟩ := y
      obtain ⟨ln, ll, lr⟩ := l
      simp only [Lt.mk.injEq]
      have hb : (¬ yn = ln) ↔ yn = !ln := by cases yn <;> cases ln <;> simp
      rw [hb]
      constructor
      · rintro ⟨⟨h1, h2⟩ | ⟨h1, h2⟩, h3⟩
        · exact .inl ⟨h3, h1.symm, h2.symm⟩
        · exact .inr ⟨h3, h2.symm, h1.symm⟩
      · rintro (⟨h3, h1, h2⟩ | ⟨h3, h1, h2⟩)
        · exact ⟨.inl ⟨h1.symm, h2.symm⟩, h3⟩
        · exact ⟨.inr ⟨h2.symm, h1.symm⟩, h3⟩
    rw [this]
    cases y.same ⟨!l.neg, l.left, l.right⟩ <;> cases y.same ⟨!l.neg, l.right, l.left⟩ <;> simp
theorem compare_less {a b : Tm} (ha : a.okv = true) (hb : b.okv = true) : compare a b = 1 ↔ above b a = true := by
  rw [← compare_more hb, compare_flip ha hb]
  by_cases h1 : compare a b = 1
  · simp [h1]
  · by_cases h3 : compare a b = 3
    · simp [h3]
    · simp [h1, h3]
theorem norm_n1 {c : List Lt} (h : orients c = none) : norm c = ([], 6) := by unfold norm; rw [h]
theorem norm_n2 {c o : List Lt} (h : orients c = some o) (hd : dedup [] (each (app (numb (clVars [] o))) o) = none) : norm c = ([], 6) := by unfold norm; rw [h]; dsimp only; rw [hd]
theorem norm_n3 {c o d : List Lt} (h : orients c = some o) (hd : dedup [] (each (app (numb (clVars [] o))) o) = some d) : norm c = if 4 < d.length ∨ 5 < (clVars [] o).length ∨ bigCl d = true then ([], 4) else (d, 0) := by unfold norm; rw [h]; dsimp only; rw [hd]
theorem bigCl_at {d : List Lt} {k : Nat} {x : Lt} (hx : d[k]? = some x) (h : 12 < x.left.size ∨ 12 < x.right.size) : bigCl d = true := List.any_eq_true.2 ⟨x, List.mem_of_getElem? hx, decide_eq_true h⟩
theorem bigCl_yes {d : List Lt} (h : ∀ (j : Nat) x, j < d.length → d[j]? = some x → x.left.size ≤ 12 ∧ x.right.size ≤ 12) : ¬ bigCl d = true := fun hb => by
  obtain ⟨x, hx, hh⟩ := List.any_eq_true.1 hb
  have := any_upto h x hx
  simp only [decide_eq_true_eq] at hh
  omega
theorem dedup_inv : ∀ {a o d : List Lt}, dedup o a = some d → (∀ y ∈ o, y ∈ d) ∧ (∀ y ∈ a, ∃ z ∈ d, like y z = true ∧ z.neg = y.neg)
  | [], o, d, h => by
    simp only [dedup, Option.some.injEq] at h
    subst h
    exact ⟨fun y hy => hy, fun y hy => (by cases hy)⟩
  | l :: a, o, d, h => by
    simp only [dedup] at h
    split at h
    · rename_i hs
      obtain ⟨h1, h2⟩ := dedup_inv h
      refine ⟨h1, fun y hy => ?_⟩
      rcases List.mem_cons.1 hy with rfl | hy
      · obtain ⟨z, hz, hh⟩ := List.any_eq_true.1 hs
        simp only [Bool.and_eq_true, beq_iff_eq] at hh
        exact ⟨z, h1 z hz, hh⟩
      · exact h2 y hy
    · split at h
      · cases h
      · obtain ⟨h1, h2⟩ := dedup_inv h
        refine ⟨fun y hy => h1 y (List.mem_append_left _ hy), fun y hy => ?_⟩
        rcases List.mem_cons.1 hy with rfl | hy
        · exact ⟨y, h1 y (by simp), like_iff.2 (.inl ⟨rfl, rfl⟩), rfl⟩
        · exact h2 y hy
theorem like_symm {a b : Lt} (h : like a b = true) : like b a = true := by
  rcases like_iff.1 h with ⟨h1, h2⟩ | ⟨h1, h2⟩
  · exact like_iff.2 (.inl ⟨h1.symm, h2.symm⟩)
  · exact like_iff.2 (.inr ⟨h2.symm, h1.symm⟩)
theorem like_trans {a b c : Lt} (h : like a b = true) (h' : like b c = true) : like a c = true := by
  rcases like_iff.1 h with ⟨h1, h2⟩ | ⟨h1, h2⟩ <;> rcases like_iff.1 h' with ⟨g1, g2⟩ | ⟨g1, g2⟩
  · exact like_iff.2 (.inl ⟨h1.trans g1, h2.trans g2⟩)
  · exact like_iff.2 (.inr ⟨h1.trans g1, h2.trans g2⟩)
  · exact like_iff.2 (.inr ⟨h1.trans g2, h2.trans g1⟩)
  · exact like_iff.2 (.inl ⟨h1.trans g2, h2.trans g1⟩)
theorem lone_one {d : List Lt} (h : Lone d) {a b : Lt} (ha : a ∈ d) (hb : b ∈ d) (hl : like a b = true) : a = b := by
  obtain ⟨i, hi, rfl⟩ := List.getElem_of_mem ha
  obtain ⟨j, hj, rfl⟩ := List.getElem_of_mem hb
  have hp := List.pairwise_iff_getElem.1 h
  rcases Nat.lt_trichotomy i j with hij | hij | hij
  · have h1 := like_symm hl
    rw [hp i j hi hj hij] at h1; cases h1
  · subst hij; rfl
  · have := hp j i hj hi hij
    rw [hl] at this; cases this
theorem before_conf {a o : List Lt} (h : dedup [] a = some o) (x : Lt) : (a.any fun y => like x y && (x.neg != y.neg)) = hasN o x := by
  obtain ⟨_, h2⟩ := dedup_inv h
  have h3 := dedup_mem h
  rw [Bool.eq_iff_iff]
  unfold hasN
  simp only [List.any_eq_true, Bool.and_eq_true, bne_iff_ne, ne_eq]
  constructor
  · rintro ⟨y, hy, hl, hn⟩
    obtain ⟨z, hz, hyz, hzn⟩ := h2 y hy
    exact ⟨z, hz, like_trans hl hyz, fun e => hn (e.symm.trans hzn)⟩
  · rintro ⟨z, hz, hl, hn⟩
    rcases h3 z hz with h | h
    · cases h
    · exact ⟨z, h, hl, fun e => hn e.symm⟩
theorem before_excl {a o : List Lt} (h : dedup [] a = some o) {x : Lt} (hN : hasN o x = true) : hasS o x = false := by
  rw [← Bool.not_eq_true]
  intro hS
  have hl := dedup_lone (once := []) List.Pairwise.nil h
  obtain ⟨z, hz, h1⟩ := List.any_eq_true.1 hN
  obtain ⟨y, hy, h2⟩ := List.any_eq_true.1 hS
  simp only [Bool.and_eq_true, bne_iff_ne, ne_eq, beq_iff_eq] at h1 h2
  have := lone_one hl hz hy (like_trans (like_symm h1.1) h2.1)
  subst this
  exact h1.2 h2.2
theorem before_had {a o : List Lt} (h : dedup [] a = some o) {x : Lt} (hN : hasN o x = false) : (a.any fun y => like x y) = hasS o x := by
  have hc := before_conf h x
  rw [hN] at hc
  obtain ⟨_, h2⟩ := dedup_inv h
  have h3 := dedup_mem h
  rw [Bool.eq_iff_iff]
  unfold hasS
  simp only [List.any_eq_true, Bool.and_eq_true, beq_iff_eq]
  constructor
  · rintro ⟨y, hy, hl⟩
    obtain ⟨z, hz, hyz, hzn⟩ := h2 y hy
    refine ⟨z, hz, like_trans hl hyz, ?_⟩
    rw [hzn]
    have := List.any_eq_false.1 hc y hy
    simp only [hl, Bool.true_and, bne_iff_ne, ne_eq, Decidable.not_not] at this
    exact this.symm
  · rintro ⟨z, hz, hl, _⟩
    rcases h3 z hz with h | h
    · cases h
    · exact ⟨z, h, hl⟩
end Go.Proofs.YtmanhdacnkpclaaGreat
/- Keeping clauses: what the walks need. -/
namespace Go.Proofs.YtmanhdacnkpclaaGreat
set_option linter.all false
open Go.RowKit
theorem w64 {n : Nat} (h : n ≤ 4000000000000000000) : wrap64 (n : Int) = n := by unfold wrap64; omega
theorem orients_sz {c o : List Lt} (h : orients c = some o) (hc : clSz c) : clSz o := fun l hl => by
  obtain ⟨k, hk, _, rfl⟩ := orients_mem h l hl
  have := hc k hk
  rcases orient1_two k with ⟨e1, e2⟩ | ⟨e1, e2⟩ <;> rw [e1, e2] <;> omega
theorem numb_sz {o : List Lt} (hk : clOkv o) (hc : clSz o) : clSz (each (app (numb (clVars [] o))) o) := fun l hl => by
  simp only [each, List.mem_map] at hl
  obtain ⟨x, hx, rfl⟩ := hl
  have h1 := size_numb (vs := clVars [] o) x.left (hk x hx).1 fun v hv => mem_clVars o [] hk x hx (.inl hv)
  have h2 := size_numb (vs := clVars [] o) x.right (hk x hx).2 fun v hv => mem_clVars o [] hk x hx (.inr hv)
  have := hc x hx
  dsimp only
  omega
theorem Xn {c : List Lt} {e : Int} {r : List Lt × Int} (h : (c, e) = r) : (.tup [lA Lt.d c, iA e] : X) = .tup [lA Lt.d r.1, iA r.2] := by rw [← h]
end Go.Proofs.YtmanhdacnkpclaaGreat
namespace Go.Proofs.YtmanhdacnkpclaaGreat
set_option linter.all false
set_option maxRecDepth 1000000
set_option maxHeartbeats 32000000
open Go.RowKit
theorem unit_no {c : List Lt} (h : c.length ≠ 1) : unit c = false := by
  match c, h with
  | [], _ => rfl
  | [l], h => simp at h
  | _ :: _ :: _, _ => rfl
theorem punit (c : List Lt) : FnD Tryz.prog 65 [lA Lt.d c] (.one (bA (unit c))) := by
  refine Fn.of Tryz.func65 rfl Tryz.ntmps65 rfl (Nat.le_of_ble_eq_true rfl) ?_
  by_cases h1 : c.length = 1
  · obtain ⟨⟨ng, xl, xr⟩, rfl⟩ : ∃ l, c = [l] := by
      match c, h1 with
      | [l], _ => exact ⟨l, rfl⟩
    have h0 : [(⟨ng, xl, xr⟩ : Lt)][0]? = some ⟨ng, xl, xr⟩ := rfl
    (refine wlk ?_)
    (refine wfT ?_)
    rfl
  · (refine wlk ?_)
    (refine wfT ?_)
    exact Xb (b := false) (unit_no h1).symm
theorem runit (c : List Lt) : FnD Tryz.prog 55 [lA Lt.d c] (.one (bA (unit c))) := by
  refine Fn.of Tryz.func55 rfl Tryz.ntmps55 rfl (Nat.le_of_ble_eq_true rfl) ?_
  by_cases h1 : c.length = 1
  · obtain ⟨⟨ng, xl, xr⟩, rfl⟩ : ∃ l, c = [l] := by
      match c, h1 with
      | [l], _ => exact ⟨l, rfl⟩
    have h0 : [(⟨ng, xl, xr⟩ : Lt)][0]? = some ⟨ng, xl, xr⟩ := rfl
    (refine wlk ?_)
    (refine wfT ?_)
    rfl
  · (refine wlk ?_)
    (refine wfT ?_)
    exact Xb (b := false) (unit_no h1).symm
section
variable {n : Nat} {o : Oper} {σ : St}
theorem op_idx2B {d j q k : Nat} {s i : Operand} {kk : IntKind} {zi : Int} (hd : o.dst = some d) (ho : o.op = .indexAddr 128 s i) (hs : St.ev σ s = some (.one (.c (.ptr j q)))) (hi : St.ev σ i = some (.one (.c (.val (.int kk zi))))) (hz : zi = (k : Int)) (hk : k < 2) :
    Op1 Tryz.prog n o ⟨(opKey s ++ opKey i) ++ (X.one (.c (.ptr j (q + k * 3)))).ids.map Key.b, [.t d], []⟩ σ [(.t d, some (.one (.c (.ptr j (q + k * 3)))))] := op_idxB hd ho ar2 ar2E hs hi hz hk (by omega)
end
theorem pdown1 (vs : List Int) (v : Int) : FnD Tryz.prog 141 [iA v, .c (.fp [.arr (vs.map Int.d)])] (.one (bA (!vs.contains v))) := by
  refine Fn.of Tryz.func141 rfl Tryz.ntmps141 rfl (Nat.le_of_ble_eq_true rfl) ?_
  (refine wlk ?_)
  (refine SqA.b1 (op_call none rfl rfl rfl (by kernel_rfl) (FnD.use (ccontI vs v)) rfl rfl rfl rfl rfl rfl) rfl rfl ?_)
  (refine wlk ?_)
  (refine wfT ?_)
  rfl
theorem try1_of_match {t : Tm} {w : Tm × Tm} {s : List Pr} (h : matchR w.1 t = (s, true)) : try1 t w = if (vars [] w.2).any (fun v => !(vars [] w.1).contains v) then none else if above t (app s w.2) then some (app s w.2) else none := by
  unfold try1; rw [h]
theorem try1_of_no {t : Tm} {w : Tm × Tm} {s : List Pr} (h : matchR w.1 t = (s, false)) : try1 t w = none := by
  unfold try1; rw [h]
theorem down1_step {us : List (List Lt)} {t : Tm} {u : List Lt} {k : Nat} (h : ∀ j x, j < k → us[j]? = some x → firstS (try1 t) (wayOf x) = none) (hu : us[k]? = some u) {r : Tm} (hr : firstS (try1 t) (wayOf u) = some r) : down1 us t = some r := firstS_hit h hu hr
theorem pdown {S : List Int} {us : List (List Lt)} (hu : UsSz S us) (t : Tm) (ht : t.ar S = true) (hz : t.size ≤ 12) : FnD Tryz.prog 121 [tA t, lA Cl.d us] (.tup (resF (down1 us t))) := by
  refine Fn.of Tryz.func121 rfl Tryz.ntmps121 rfl (Nat.le_of_ble_eq_true rfl) ?_
  have hk := Tm.ar_okv t ht
  refine dwp_len (t := 1) (ds := us.map Cl.d) rfl fun hbl => ?_
  rw [List.length_map] at hbl
  (refine wlk ?_)
  refine dwp_loop (fun k : Nat => [(.t 2, some (.one (.c (.ptr 2 0)))), (.b 2, some (.box (tA t).cells)), (.t 4, some (.one (.c (.ptr 4 0)))), (.b 4, some (.box [.val (.bool false), .val (.int .i64 0), .val (.slice none 0 0)])),
      (.t 14, some (.one (lA Cl.d us))), (.t 15, some (.one (iA us.length))), (.t 16, some (.one (iA k)))])
    (fun k => k ≤ us.length ∧ ∀ j x, j < k → us[j]? = some x → firstS (try1 t) (wayOf x) = none) (fun k => us.length - k) 0 ⟨by omega, fun j x h => absurd h (by omega)⟩ fgs ?_
  rintro k ⟨hkk, hno⟩
  by_cases hkl : k < us.length
  · obtain ⟨u, hx⟩ := get_of_lt hkl
    obtain ⟨⟨ng, xl, xr⟩, rfl, hng, hwf, hsz⟩ := hu.one (List.mem_of_getElem? hx)
    dsimp only at hng hwf hsz
    subst hng
    have h0 : [(⟨false, xl, xr⟩ : Lt)][0]? = some ⟨false, xl, xr⟩ := rfl
    have hwo : wayOf [(⟨false, xl, xr⟩ : Lt)] = [(xl, xr), (xr, xl)] := rfl
    (refine wlk ?_)
    (refine SqA.b1 (op_bsT (T := TB) (f := Tw.d) [((xl, xr) : Tm × Tm), (xr, xl)] rfl rfl rfl rfl rfl rfl rfl rfl rfl rfl rfl) rfl rfl ?_)
    (refine wlk ?_)
    refine dwp_loop (fun j : Nat => [(.t 2, some (.one (.c (.ptr 2 0)))), (.b 2, some (.box (tA t).cells)), (.t 4, some (.one (.c (.ptr 4 0)))), (.b 4, some (.box [.val (.bool false), .val (.int .i64 0), .val (.slice none 0 0)])),
        (.t 14, some (.one (lA Cl.d us))), (.t 15, some (.one (iA us.length))), (.t 16, some (.one (iA k))), (.t 38, some (.one (lA Tw.d [((xl, xr) : Tm × Tm), (xr, xl)]))), (.t 39, some (.one (iA (2 : Nat)))), (.t 40, some (.one (iA j)))])
      (fun j => j ≤ 2 ∧ ∀ i w, i < j → [((xl, xr) : Tm × Tm), (xr, xl)][i]? = some w → try1 t w = none) (fun j => 2 - j) 0 ⟨by omega, fun j x h => absurd h (by omega)⟩ fgs ?_
    rintro j ⟨hj, hnj⟩
    by_cases hj2 : j < 2
    · obtain ⟨⟨a, b⟩, hw, ha, hb, haz, hbz⟩ : ∃ w : Tm × Tm, [((xl, xr) : Tm × Tm), (xr, xl)][j]? = some w ∧ w.1.wf S = true ∧ w.2.wf S = true ∧ w.1.size ≤ 12 ∧ w.2.size ≤ 12 := by
        rcases (show j = 0 ∨ j = 1 by omega) with rfl | rfl
        · exact ⟨(xl, xr), rfl, hwf.1, hwf.2, hsz.1, hsz.2⟩
        · exact ⟨(xr, xl), rfl, hwf.2, hwf.1, hsz.2, hsz.1⟩
      dsimp only at ha hb haz hbz
      have g1 := bmatch a t (by omega)
      cases hm : matchR a t with
      | mk s ok =>
        rw [hm] at g1
        cases ok
        · (refine wlk ?_)
          (refine SqA.b1 (op_idx2B (k := 0) rfl rfl rfl rfl rfl (by decide)) rfl rfl ?_)
          (refine wlk ?_)
          (refine wlC g1 ?_)
          (refine wlk ?_)
          exact ⟨j + 1, ⟨by omega, upto_succ hnj hw (try1_of_no hm)⟩, fgs, by omega⟩
        · have hsa : subAr S s := by have := matchR_ar (p := a) ht; rw [hm] at this; exact this
          have hss : ∀ q ∈ s, q.2.size ≤ 12 := by have := matchR_size (p := a) hz; rw [hm] at this; exact this
          have hrz := app_small hss (Tm.wf_okv b hb) hbz
          have hra : (app s b).ar S = true := app_ar hsa b (Tm.wf_ar b hb)
          have g2 := FnD.nil (pvars a [] (by simp; omega)) 0 rfl
          have g3 := FnD.nil (pvars b [] (by simp; omega)) 0 rfl
          have g4 := contFI1 141 [.arr ((vars [] a).map Int.d)] (fun v => !(vars [] a).contains v) (by kernel_rfl) (vars [] b) fun v _ => pdown1 (vars [] a) v
          have g5 := bapply s b (by omega)
          have g6 := pcompare t (app s b) (by omega) (by omega) hk (Tm.ar_okv _ hra)
          have h3 := compare_more (b := app s b) hk
          have htry := try1_of_match (w := (a, b)) hm
          dsimp only at htry
          cases hany : ((vars [] b).any fun v => !(vars [] a).contains v)
          rotate_left
          · rw [hany] at g4 htry
            rw [if_pos rfl] at htry
            (refine wlk ?_)
            (refine SqA.b1 (op_idx2B (k := 0) rfl rfl rfl rfl rfl (by decide)) rfl rfl ?_)
            (refine wlk ?_)
            (refine wlC g1 ?_)
            (refine wlk ?_)
            (refine SqA.b1 (op_idx2B (k := 0) rfl rfl rfl rfl rfl (by decide)) rfl rfl ?_)
            (refine wlk ?_)
            (refine wlC g2 ?_)
            (refine wlE ?_)
            refine dwp_wk (Wk.frzF (t := 12) (j := 12) (fs := [.arr ((vars [] a).map Int.d)]) rfl rfl rfl rfl rfl) ?_
            (refine wlk ?_)
            (refine SqA.b1 (op_idx2B (k := 1) rfl rfl rfl rfl rfl (by decide)) rfl rfl ?_)
            (refine wlk ?_)
            (refine wlC g3 ?_)
            (refine wlk ?_)
            (refine SqA.b1 (op_mkFn rfl rfl rfl) rfl rfl ?_)
            (refine wlk ?_)
            (refine wlC g4 ?_)
            (refine wlk ?_)
            exact ⟨j + 1, ⟨by omega, upto_succ hnj hw htry⟩, fgs, by omega⟩
          · rw [hany] at g4 htry
            rw [if_neg (by simp)] at htry
            by_cases ha3 : above t (app s b) = true
            · rw [if_pos ha3] at htry
              have hc3 := h3.2 ha3
              have hr := down1_step hno hx (firstS_hit (f := try1 t) hnj hw htry)
              rw [hr]
              (refine wlk ?_)
              (refine SqA.b1 (op_idx2B (k := 0) rfl rfl rfl rfl rfl (by decide)) rfl rfl ?_)
              (refine wlk ?_)
              (refine wlC g1 ?_)
              (refine wlk ?_)
              (refine SqA.b1 (op_idx2B (k := 0) rfl rfl rfl rfl rfl (by decide)) rfl rfl ?_)
              (refine wlk ?_)
              (refine wlC g2 ?_)
              (refine wlE ?_)
              refine dwp_wk (Wk.frzF (t := 12) (j := 12) (fs := [.arr ((vars [] a).map Int.d)]) rfl rfl rfl rfl rfl) ?_
              (refine wlk ?_)
              (refine SqA.b1 (op_idx2B (k := 1) rfl rfl rfl rfl rfl (by decide)) rfl rfl ?_)
              (refine wlk ?_)
              (refine wlC g3 ?_)
              (refine wlk ?_)
              (refine SqA.b1 (op_mkFn rfl rfl rfl) rfl rfl ?_)
              (refine wlk ?_)
              (refine wlC g4 ?_)
              (refine wlk ?_)
              (refine SqA.b1 (op_idx2B (k := 1) rfl rfl rfl rfl rfl (by decide)) rfl rfl ?_)
              (refine wlk ?_)
              (refine wlC g5 ?_)
              (refine wlk ?_)
              (refine wlC g6 ?_)
              (refine wlk ?_)
              (refine wfCT ?_)
              rfl
            · rw [if_neg ha3] at htry
              have hc3 : ¬ compare t (app s b) = 3 := fun h => ha3 (h3.1 h)
              (refine wlk ?_)
              (refine SqA.b1 (op_idx2B (k := 0) rfl rfl rfl rfl rfl (by decide)) rfl rfl ?_)
              (refine wlk ?_)
              (refine wlC g1 ?_)
              (refine wlk ?_)
              (refine SqA.b1 (op_idx2B (k := 0) rfl rfl rfl rfl rfl (by decide)) rfl rfl ?_)
              (refine wlk ?_)
              (refine wlC g2 ?_)
              (refine wlE ?_)
              refine dwp_wk (Wk.frzF (t := 12) (j := 12) (fs := [.arr ((vars [] a).map Int.d)]) rfl rfl rfl rfl rfl) ?_
              (refine wlk ?_)
              (refine SqA.b1 (op_idx2B (k := 1) rfl rfl rfl rfl rfl (by decide)) rfl rfl ?_)
              (refine wlk ?_)
              (refine wlC g3 ?_)
              (refine wlk ?_)
              (refine SqA.b1 (op_mkFn rfl rfl rfl) rfl rfl ?_)
              (refine wlk ?_)
              (refine wlC g4 ?_)
              (refine wlk ?_)
              (refine SqA.b1 (op_idx2B (k := 1) rfl rfl rfl rfl rfl (by decide)) rfl rfl ?_)
              (refine wlk ?_)
              (refine wlC g5 ?_)
              (refine wlk ?_)
              (refine wlC g6 ?_)
              (refine wlk ?_)
              exact ⟨j + 1, ⟨by omega, upto_succ hnj hw htry⟩, fgs, by omega⟩
    · have : j = 2 := by omega
      subst this
      have hwn : firstS (try1 t) (wayOf [(⟨false, xl, xr⟩ : Lt)]) = none := by
        rw [hwo]; exact firstS_none.2 fun w hw => any_upto (l := [((xl, xr) : Tm × Tm), (xr, xl)]) hnj w hw
      (refine wlk ?_)
      exact ⟨k + 1, ⟨by omega, upto_succ hno hx hwn⟩, fgs, by omega⟩
  · have : k = us.length := by omega
    subst this
    have hr : down1 us t = none := firstS_none.2 fun x hx => any_upto hno x hx
    rw [hr]
    (refine wlk ?_)
    refine fin_wk (fun n => Wk.nilArrB (j := 4) (q := 2) rfl rfl rfl) ?_
    (refine wfCT ?_)
    rfl
theorem rabove (t u : Tm) (hsz : t.size ≤ 4398046511104) (hsz' : u.size ≤ 4398046511104) : FnD Tryz.prog 80 [tA t, tA u] (.one (bA (above t u))) := by
  refine Fn.ofElder fun who w vs hl ha => ?_
  obtain ⟨x, y, rfl, hx, hy⟩ := A1m.two hl ha
  exact rabove_any t u w (Fz who) x y hx.rdt hy.rdt hsz hsz'
theorem op_sliceHiT {P : Program} {n : Nat} {o : Oper} {σ : St} {T : Tabs P} {α : Type} {f : α → D} {m : Nat} {g : α → List FC} [FCs f m g] {l : List α} {d t E b : Nat} {zi : Int} {s i : Operand} (hd : o.dst = some d) (ho : o.op = .slice t s none (some i) none) (hT : T.sl t = some (E, m, b)) (hs : St.ev σ s = some (.one (.c (.arr (l.map f)))))
    (hi0 : St.ev σ i = some (.one (.c (.val (.int .i64 zi))))) (h0 : 0 ≤ zi) (hkk : zi.toNat ≤ l.length) : Op1 P n o ⟨(opKey s ++ opKey i) ++ [], [.t d], []⟩ σ [(.t d, some (.one (.c (.arr ((l.take zi.toNat).map f)))))] := by
  obtain ⟨z, hz⟩ := T.sl_ok hT
  obtain ⟨k, rfl⟩ := Int.eq_ofNat_of_zero_le h0
  have hk : k ≤ l.length := by simpa using hkk
  rw [Int.toNat_natCast]
  have := op_slice (o := o) (n := n) (σ := σ) (l := 0) (h := k) (lo := none) (hi := some i) (rs := (l.take k).map f) hd ho hz hs rfl hi0 (Nat.zero_le _) (by simpa using hk) (FCs.lenL l) (by
    simp [List.map_take])
  simpa [X.ids, A1.ids, CV.ids] using this
theorem rnorm1 (by_ : List Pr) (hl : by_.length ≤ 4000000000000) (t : Tm) (hz : t.size ≤ 2000000000000) : FnD Tryz.prog 82 [tA t, .c (.fp [.arr (by_.map Pr.d)])] (.one (tA (app by_ t))) := by
  refine Fn.of Tryz.func82 rfl Tryz.ntmps82 rfl (Nat.le_of_ble_eq_true rfl) ?_
  (refine wlk ?_)
  (refine SqA.b1 (op_call none rfl rfl rfl (by kernel_rfl) (FnD.use (ap by_ hl t hz)) rfl rfl rfl rfl rfl rfl) rfl rfl ?_)
  (refine wlk ?_)
  (refine wfC ?_)
  rfl
def bigS (l : Lt) : Bool := decide (12 < l.left.size) || decide (12 < l.right.size)
theorem bigCl_eq (d : List Lt) : bigCl d = d.any bigS := by
  unfold bigCl
  congr 1; funext l
  unfold bigS
  rw [Bool.eq_iff_iff]; simp
theorem any_snoc {α : Type} {p : α → Bool} {l : List α} {k : Nat} {x : α} (h : l[k]? = some x) : (l.take (k + 1)).any p = ((l.take k).any p || p x) := by rw [take_succ_of h]; simp
theorem any_hit {α : Type} {p : α → Bool} {l : List α} {k : Nat} {x : α} (h : l[k]? = some x) (hp : p x = true) : l.any p = true := List.any_eq_true.2 ⟨x, List.mem_of_getElem? h, hp⟩
theorem rnorm (c : List Lt) (hk : clOkv c) (hf : clFew c) (hz : clSz c) (hl : c.length ≤ 1000) : FnD Tryz.prog 45 [lA Lt.d c] (.tup [lA Lt.d (norm c).1, iA (norm c).2]) := by
  refine Fn.of Tryz.func45 rfl Tryz.ntmps45 rfl (Nat.le_of_ble_eq_true rfl) ?_
  (refine wlk ?_)
  refine dwp_loop (fun p : Nat × List Lt => [(.t 4, some (.one (.c (.own 77 7 (p.2.map Lt.d))))), (.t 20, some (.one (lA Lt.d c))), (.t 21, some (.one (iA c.length))), (.t 22, some (.one (iA p.1)))])
    (fun p => p.1 ≤ c.length ∧ orients (c.take p.1) = some p.2) (fun p => c.length - p.1) (0, []) ⟨by simp only; omega, rfl⟩ ((Wk.nilOwn (d := 4) (E := 77) (m := 7) rfl).trans fgs) ?_
  rintro ⟨k, o⟩ ⟨hkk, ho⟩
  dsimp only at hkk ho ⊢
  by_cases hkl : k < c.length
  · obtain ⟨⟨ng, xl, xr⟩, hx⟩ := get_of_lt hkl
    have hm := List.mem_of_getElem? hx
    have hkx := hk _ hm
    have hzx := hz _ hm
    dsimp only at hkx hzx
    have hol := orients_len ho
    rw [List.length_take] at hol
    have hsm := rsame xl xr
    have hab := rabove xr xl (by omega) (by omega)
    cases hs : xl.same xr
    · rw [hs] at hsm
      have hmo := orients_more ho hx hs
      cases ha : above xr xl
      · have hor : orient1 ⟨ng, xl, xr⟩ = ⟨ng, xl, xr⟩ := if_neg (by simp [ha])
        rw [hor] at hmo
        rw [ha] at hab
        have hrl : (o ++ [(⟨ng, xl, xr⟩ : Lt)]).length ≤ 1001 := by simp; omega
        have hr1 : o ++ [(⟨ng, xl, xr⟩ : Lt)] = o ++ [⟨ng, xl, xr⟩] := rfl
        (refine wlk ?_)
        (refine wlC hsm ?_)
        (refine wlk ?_)
        (refine wlC hab ?_)
        (refine wlk ?_)
        (refine SqA.b1 (op_bsT (T := TB) (f := Lt.d) [(⟨ng, xl, xr⟩ : Lt)] rfl rfl rfl rfl rfl rfl rfl rfl rfl rfl rfl) rfl rfl ?_)
        (refine wlk ?_)
        exact ⟨(k + 1, o ++ [⟨ng, xl, xr⟩]), ⟨by simp only; omega, hmo⟩, fgs, by simp only; omega⟩
      · have hor : orient1 ⟨ng, xl, xr⟩ = ⟨ng, xr, xl⟩ := if_pos ha
        rw [hor] at hmo
        rw [ha] at hab
        have hrl : (o ++ [(⟨ng, xr, xl⟩ : Lt)]).length ≤ 1001 := by simp; omega
        have hr1 : o ++ [(⟨ng, xr, xl⟩ : Lt)] = o ++ [⟨ng, xr, xl⟩] := rfl
        (refine wlk ?_)
        (refine wlC hsm ?_)
        (refine wlk ?_)
        (refine wlC hab ?_)
        (refine wlk ?_)
        (refine SqA.b1 (op_bsT (T := TB) (f := Lt.d) [(⟨ng, xr, xl⟩ : Lt)] rfl rfl rfl rfl rfl rfl rfl rfl rfl rfl rfl) rfl rfl ?_)
        (refine wlk ?_)
        exact ⟨(k + 1, o ++ [⟨ng, xr, xl⟩]), ⟨by simp only; omega, hmo⟩, fgs, by simp only; omega⟩
    · rw [hs] at hsm
      cases ng
      · (refine wlk ?_)
        (refine wlC hsm ?_)
        (refine wlk ?_)
        refine fin_wk (fun n => Wk.nilArr (d := 2) rfl) ?_
        (refine wfTT ?_)
        exact Xn (c := []) (e := 6) (norm_n1 (orients_none_at ho hx hs rfl)).symm
      · (refine wlk ?_)
        (refine wlC hsm ?_)
        (refine wlk ?_)
        exact ⟨(k + 1, o), ⟨by simp only; omega, orients_skip ho hx hs rfl⟩, fgs, by simp only; omega⟩
  have : k = c.length := by omega
  subst this
  rw [List.take_length] at ho
  have hol := orients_len ho
  have hko := orients_okv ho hk
  have hfo := orients_few ho hf
  have hzo := orients_sz ho hz
  have hvs := rclVars o hko hfo hzo
  have hv10 := clVars_ten hfo
  have hzq := numb_sz hko hzo
  have hap := rEach1 82 [.arr ((numb (clVars [] o)).map Pr.d)] (app (numb (clVars [] o))) (by kernel_rfl) o (by omega) fun x hx => by
    have h1 := hzo x hx
    have h2 := numb_len (clVars [] o)
    exact ⟨rnorm1 _ (by omega) _ (by omega), rnorm1 _ (by omega) _ (by omega)⟩
  have hn2 := norm_n2 ho
  have hn3 := @norm_n3 c o
  have hql : (each (app (numb (clVars [] o))) o).length = o.length := each_len
  generalize each (app (numb (clVars [] o))) o = q at *
  generalize clVars [] o = vs at *
  refine dwp_wk (Wk.freezeAt (d := 4) rfl) ?_
  (refine wlk ?_)
  (refine wlC hvs ?_)
  (refine wlk ?_)
  refine dwp_loop (fun k : Nat => [(.t 4, some (.one (lA Lt.d o))), (.t 7, some (.one (lA Int.d vs))), (.t 8, some (.one (.c (.ptr 8 0)))), (.b 8, some (.box [.own 109 4 ((numb (vs.take k)).map Pr.d)])), (.t 54, some (.one (lA Int.d vs))), (.t 55, some (.one (iA vs.length))), (.t 56, some (.one (iA k)))])
    (fun k => k ≤ vs.length) (fun k => vs.length - k) 0 (by omega) fgs ?_
  intro k hk'
  by_cases hkl : k < vs.length
  · obtain ⟨v, hx⟩ := get_of_lt hkl
    have hsn := numb_snoc hx
    have hnl : (numb (vs.take (k + 1))).length ≤ 10 := by rw [numb_len, List.length_take]; omega
    (refine wlk ?_)
    (refine SqA.b2 (Op1.reN (t := 65) rfl (op_bsT (T := TB) (f := Pr.d) [((v, ⟨true, (k : Int), []⟩) : Pr)] rfl rfl rfl rfl rfl rfl rfl rfl rfl rfl rfl)) rfl rfl ?_)
    (refine wlk ?_)
    exact ⟨k + 1, by omega, fgs, by omega⟩
  have : k = vs.length := by omega
  subst this
  rw [List.take_length]
  refine dwp_wk (Wk.freezeB (j := 8) (q := 0) rfl rfl rfl rfl) ?_
  refine dwp_wk (Wk.frzF (t := 8) (j := 8) (fs := [.arr ((numb vs).map Pr.d)]) rfl rfl rfl rfl rfl) ?_
  generalize numb vs = sb at *
  (refine wlk ?_)
  (refine SqA.b1 (op_mkFn rfl rfl rfl) rfl rfl ?_)
  (refine wlk ?_)
  (refine wlC hap ?_)
  (refine wlk ?_)
  refine dwp_loop (fun p : Nat × List Lt => [(.t 4, some (.one (lA Lt.d q))), (.t 7, some (.one (lA Int.d vs))), (.t 11, some (.one (.c (.own 77 7 (p.2.map Lt.d))))), (.t 72, some (.one (lA Lt.d q))), (.t 73, some (.one (iA q.length))), (.t 74, some (.one (iA p.1)))])
    (fun p => p.1 ≤ q.length ∧ dedup [] (q.take p.1) = some p.2) (fun p => q.length - p.1) (0, []) ⟨by simp only; omega, rfl⟩ ((Wk.nilOwn (d := 11) (E := 77) (m := 7) rfl).trans fgs) ?_
  rintro ⟨k, once⟩ ⟨hkk, ho3⟩
  dsimp only at hkk ho3 ⊢
  by_cases hkl : k < q.length
  · obtain ⟨⟨ng, xl, xr⟩, hx⟩ := get_of_lt hkl
    have hol3 := dedup_len ho3
    rw [List.length_take] at hol3
    simp only [List.length_nil] at hol3
    have hconf := before_conf ho3 ⟨ng, xl, xr⟩
    have hkt : ((k : Int)).toNat = k := Int.toNat_natCast k
    (refine wlk ?_)
    (refine SqA.b1 (op_sliceHiT (T := TB) rfl rfl rfl rfl rfl (by omega) (by omega)) rfl rfl ?_)
    (refine wlk ?_)
    refine dwp_loop (fun j : Nat => [(.t 4, some (.one (lA Lt.d q))), (.t 7, some (.one (lA Int.d vs))), (.t 11, some (.one (.c (.own 77 7 (once.map Lt.d))))), (.t 13, some (.one (.c (.ptr 13 0)))), (.b 13, some (.box (ltA ⟨ng, xl, xr⟩).cells)),
        (.t 14, some (.one (bA ((q.take k).take j |>.any fun y => like ⟨ng, xl, xr⟩ y)))), (.t 72, some (.one (lA Lt.d q))), (.t 73, some (.one (iA q.length))), (.t 74, some (.one (iA k))), (.t 81, some (.one (lA Lt.d (q.take k)))), (.t 82, some (.one (iA (q.take k).length))), (.t 83, some (.one (iA j)))])
      (fun j => j ≤ (q.take k).length ∧ ∀ (i : Nat) y, i < j → (q.take k)[i]? = some y → (like ⟨ng, xl, xr⟩ y && (ng != y.neg)) = false) (fun j => (q.take k).length - j) 0 ⟨by omega, fun j x h => absurd h (by omega)⟩ fgs ?_
    rintro j ⟨hj, hno⟩
    have hqk : (q.take k).length ≤ 1000 := by rw [List.length_take]; omega
    by_cases hjl : j < (q.take k).length
    · obtain ⟨⟨yn, yl, yr⟩, hy⟩ := get_of_lt hjl
      have g := rlike ⟨ng, xl, xr⟩ ⟨yn, yl, yr⟩
      have hsn := any_snoc (p := fun y => like ⟨ng, xl, xr⟩ y) hy
      have hcf : (like ⟨ng, xl, xr⟩ ⟨yn, yl, yr⟩ && (ng != yn)) = true → ((q.take k).any fun y => like ⟨ng, xl, xr⟩ y && (ng != y.neg)) = true := fun h => any_hit hy h
      (try dsimp only at hsn)
      generalize ((q.take k).take j |>.any fun y => like ⟨ng, xl, xr⟩ y) = b0 at *
      generalize hlk : like ⟨ng, xl, xr⟩ ⟨yn, yl, yr⟩ = b1 at *
      cases b1
      · cases b0
        · (refine wlk ?_)
          (refine wlC g ?_)
          (refine wlk ?_)
          (refine wlC g ?_)
          (refine wlk ?_)
          refine ⟨j + 1, ⟨by omega, upto_succ hno hy (by simp [hlk])⟩, ?_, by omega⟩
          rw [hsn]
          exact fgs
        · (refine wlk ?_)
          (refine wlC g ?_)
          (refine wlk ?_)
          refine ⟨j + 1, ⟨by omega, upto_succ hno hy (by simp [hlk])⟩, ?_, by omega⟩
          rw [hsn]
          exact fgs
      · cases hnn : (ng != yn)
        · cases b0
          · cases ng <;> cases yn <;> first | (cases hnn; done) | skip
            all_goals
              (refine wlk ?_)
              (refine wlC g ?_)
              (refine wlk ?_)
              (refine wlC g ?_)
              (refine wlk ?_)
              refine ⟨j + 1, ⟨by omega, upto_succ hno hy (by simp)⟩, ?_, by omega⟩
              rw [hsn]
              exact fgs
          · cases ng <;> cases yn <;> first | (cases hnn; done) | skip
            all_goals
              (refine wlk ?_)
              (refine wlC g ?_)
              (refine wlk ?_)
              refine ⟨j + 1, ⟨by omega, upto_succ hno hy (by simp)⟩, ?_, by omega⟩
              rw [hsn]
              exact fgs
        · have hN : hasN once ⟨ng, xl, xr⟩ = true := by
            rw [← hconf]
            exact hcf (by simp [hnn])
          have hS := before_excl ho3 hN
          have hres := hn2 (dedup_none_at ho3 hx hS hN)
          cases ng <;> cases yn <;> first | (cases hnn; done) | skip
          all_goals
            (refine wlk ?_)
            (refine wlC g ?_)
            (refine wlk ?_)
            refine fin_wk (fun n => Wk.nilArr (d := 2) rfl) ?_
            (refine wfTT ?_)
            exact Xn (c := []) (e := 6) hres.symm
    · have hje : j = (q.take k).length := by omega
      subst hje
      rw [List.take_length]
      have hN : hasN once ⟨ng, xl, xr⟩ = false := by
        rw [← hconf]
        exact List.any_eq_false.2 fun y hy => by have := any_upto hno y hy; simpa using this
      have hhad := before_had ho3 hN
      generalize ((q.take k).any fun y => like ⟨ng, xl, xr⟩ y) = b0 at *
      cases b0
      · have hmo := dedup_more ho3 hx hhad.symm hN
        have hr1 : once ++ [(⟨ng, xl, xr⟩ : Lt)] = once ++ [⟨ng, xl, xr⟩] := rfl
        have hrl : (once ++ [(⟨ng, xl, xr⟩ : Lt)]).length ≤ 1001 := by simp; omega
        (refine wlk ?_)
        (refine SqA.b1 (op_bsT (T := TB) (f := Lt.d) [(⟨ng, xl, xr⟩ : Lt)] rfl rfl rfl rfl rfl rfl rfl rfl rfl rfl rfl) rfl rfl ?_)
        (refine wlk ?_)
        exact ⟨(k + 1, once ++ [⟨ng, xl, xr⟩]), ⟨by simp only; omega, hmo⟩, fgs, by simp only; omega⟩
      · (refine wlk ?_)
        exact ⟨(k + 1, once), ⟨by simp only; omega, dedup_skip ho3 hx hhad.symm⟩, fgs, by simp only; omega⟩
  have : k = q.length := by omega
  subst this
  rw [List.take_length] at ho3
  have hmem := dedup_mem ho3
  have hdl := dedup_len ho3
  simp only [List.length_nil] at hdl
  have hdz : clSz once := fun l hl => by
    rcases hmem l hl with h | h
    · cases h
    · exact hzq l h
  have hn4 := hn3 ho ho3
  refine dwp_wk (Wk.freezeAt (d := 11) rfl) ?_
  by_cases h4 : 4 < once.length
  · (refine wlk ?_)
    refine dwp_loop (fun k : Nat => [(.t 11, some (.one (lA Lt.d once))), (.t 17, some (.one (bA true))), (.t 119, some (.one (lA Lt.d once))), (.t 120, some (.one (iA once.length))), (.t 121, some (.one (iA k)))])
      (fun k => k ≤ once.length) (fun k => once.length - k) 0 (by omega) fgs ?_
    intro k hkk
    by_cases hkl : k < once.length
    · obtain ⟨x, hx⟩ := get_of_lt hkl
      (refine wlk ?_)
      exact ⟨k + 1, by omega, fgs, by omega⟩
    (refine wlk ?_)
    refine fin_wk (fun n => Wk.nilArr (d := 2) rfl) ?_
    (refine wfTT ?_)
    exact Xn (c := []) (e := 4) (by rw [hn4, if_pos (.inl h4)])
  by_cases h5 : 5 < vs.length
  · (refine wlk ?_)
    refine dwp_loop (fun k : Nat => [(.t 11, some (.one (lA Lt.d once))), (.t 17, some (.one (bA true))), (.t 119, some (.one (lA Lt.d once))), (.t 120, some (.one (iA once.length))), (.t 121, some (.one (iA k)))])
      (fun k => k ≤ once.length) (fun k => once.length - k) 0 (by omega) fgs ?_
    intro k hkk
    by_cases hkl : k < once.length
    · obtain ⟨x, hx⟩ := get_of_lt hkl
      (refine wlk ?_)
      exact ⟨k + 1, by omega, fgs, by omega⟩
    (refine wlk ?_)
    refine fin_wk (fun n => Wk.nilArr (d := 2) rfl) ?_
    (refine wfTT ?_)
    exact Xn (c := []) (e := 4) (by rw [hn4, if_pos (.inr (.inl h5))])
  (refine wlk ?_)
  refine dwp_loop (fun k : Nat => [(.t 11, some (.one (lA Lt.d once))), (.t 17, some (.one (bA (false || (once.take k).any bigS)))), (.t 119, some (.one (lA Lt.d once))), (.t 120, some (.one (iA once.length))), (.t 121, some (.one (iA k)))])
    (fun k => k ≤ once.length) (fun k => once.length - k) 0 (by omega) fgs ?_
  intro k hkk
  by_cases hkl : k < once.length
  · obtain ⟨⟨ng, xl, xr⟩, hx⟩ := get_of_lt hkl
    have hzx := hdz _ (List.mem_of_getElem? hx)
    dsimp only at hzx
    have g1 := rsize xl
    have g2 := rsize xr
    rw [w64 (by omega)] at g1 g2
    have hsn := any_snoc (p := bigS) hx
    have hbx : bigS ⟨ng, xl, xr⟩ = (decide (12 < xl.size) || decide (12 < xr.size)) := rfl
    rw [hbx] at hsn
    cases hb : (false || (once.take k).any bigS)
    · by_cases h1 : 12 < xl.size
      · (refine wlk ?_)
        (refine wlC g1 ?_)
        (refine wlk ?_)
        refine ⟨k + 1, by omega, ?_, by omega⟩
        rw [hsn, ← Bool.or_assoc, hb, decide_eq_true h1]
        exact fgs
      by_cases h2 : 12 < xr.size
      · (refine wlk ?_)
        (refine wlC g1 ?_)
        (refine wlk ?_)
        (refine wlC g2 ?_)
        (refine wlk ?_)
        refine ⟨k + 1, by omega, ?_, by omega⟩
        rw [hsn, ← Bool.or_assoc, hb, decide_eq_false h1, decide_eq_true h2]
        exact fgs
      (refine wlk ?_)
      (refine wlC g1 ?_)
      (refine wlk ?_)
      (refine wlC g2 ?_)
      (refine wlk ?_)
      refine ⟨k + 1, by omega, ?_, by omega⟩
      rw [hsn, ← Bool.or_assoc, hb, decide_eq_false h1, decide_eq_false h2]
      exact fgs
    · (refine wlk ?_)
      refine ⟨k + 1, by omega, ?_, by omega⟩
      rw [hsn, ← Bool.or_assoc, hb]
      exact fgs
  have : k = once.length := by omega
  subst this
  rw [List.take_length]
  have hbc := bigCl_eq once
  cases hb : (false || once.any bigS)
  · have hbf : once.any bigS = false := by simpa using hb
    (refine wlk ?_)
    (refine wfTT ?_)
    exact Xn (c := once) (e := 0) (by rw [hn4, if_neg (fun h => h.elim h4 fun h => h.elim h5 fun h => by rw [hbc, hbf] at h; cases h)])
  · (refine wlk ?_)
    refine fin_wk (fun n => Wk.nilArr (d := 2) rfl) ?_
    (refine wfTT ?_)
    exact Xn (c := []) (e := 4) (by rw [hn4, if_pos (.inr (.inr (by rw [hbc]; simpa using hb)))])
theorem rturn (l : Lt) (b : Bool) : FnD Tryz.prog 103 [ltA l, bA b] (.one (ltA (turnL b l))) := by
  obtain ⟨ng, xl, xr⟩ := l
  refine Fn.of Tryz.func103 rfl Tryz.ntmps103 rfl (Nat.le_of_ble_eq_true rfl) ?_
  cases b
  · (refine wlk ?_)
    (refine wfC ?_)
    rfl
  · (refine wlk ?_)
    (refine wfC ?_)
    rfl
theorem match_more {p t : Tm} {s : List Pr} (h : moreR [] p t = (s, true)) : matchR p t = (s, true) := by unfold matchR; rw [h]
theorem match_no {p t : Tm} {s : List Pr} (h : moreR [] p t = (s, false)) : matchR p t = ([], false) := by unfold matchR; rw [h]
theorem downS_size' {S : List Int} {us : List (List Lt)} (hu : UsSz S us) {t t' : Tm} (ht : t.ar S = true) (h : downS us t = some t') : t'.ar S = true ∧ t'.size ≤ t.size := by
  obtain ⟨h1, h2, _⟩ := downS_some hu.ok ht h
  exact ⟨h1, (above_size (Tm.ar_okv _ h1) h2).1⟩
theorem rDownF {S : List Int} {us : List (List Lt)} (hu : UsSz S us) : ∀ (f : Nat) (t r : Tm), t.ar S = true → t.size ≤ 12 → downF us f t = some r → FnD Tryz.prog 98 [tA t, lA Cl.d us] (.one (tA r))
  | 0, t, r, _, _, hd => by simp [downF] at hd
  | f + 1, t, r, ht, hz, hd => by
    have ih := rDownF hu f
    refine Fn.of Tryz.func98 rfl Tryz.ntmps98 rfl (Nat.le_of_ble_eq_true rfl) ?_
    have hpl := rplaces t (by omega)
    have hkp := places_len t
    have hdS : downS us t = downP us t (places t) := rfl
    refine dwp_len (t := 1) (ds := us.map Cl.d) rfl fun hbl => ?_
    rw [List.length_map] at hbl
    (refine wlk ?_)
    (refine wlC hpl ?_)
    (refine wlk ?_)
    refine dwp_loop (fun k : Nat => [(.t 1, some (.one (lA Cl.d us))), (.t 2, some (.one (.c (.ptr 2 0)))), (.b 2, some (.box (tA t).cells)), (.t 4, some (.one (.c (.ptr 4 0)))), (.b 4, some (.box [.val (.bool false), .val (.int .i64 0), .val (.slice none 0 0)])),
        (.t 17, some (.one (lA Is.d (places t)))), (.t 18, some (.one (iA (places t).length))), (.t 19, some (.one (iA k)))])
      (fun k => k ≤ (places t).length ∧ ∀ j p, j < k → (places t)[j]? = some p → down1 us (at_ t p).1 = none) (fun k => (places t).length - k) 0 ⟨by omega, fun j x h => absurd h (by omega)⟩ fgs ?_
    rintro k ⟨hk, hno⟩
    by_cases hkl : k < (places t).length
    rotate_left
    · have : k = (places t).length := by omega
      subst this
      have hds : downS us t = none := downP_none.2 fun p hp => any_upto hno p hp
      have hr : t = r := by simpa [downF, hds] using hd
      subst hr
      (refine wlk ?_)
      (refine wfC ?_)
      rfl
    obtain ⟨p, hx⟩ := get_of_lt hkl
    have hp := List.mem_of_getElem? hx
    have hat := at_ar (S := S) p t ht hp
    have haz := at_size p t hp
    have hpd := places_deep t p hp
    have g1 := rat p t (by omega)
    have hak := Tm.ar_okv _ hat
    have hput : ∀ q, down1 us (at_ t p).1 = some q → ∃ t', t' = put t p q ∧ t'.ar S = true ∧ t'.size ≤ 12 ∧ downF us f t' = some r := fun q hq => by
      have hds : downS us t = some (put t p q) := downP_hit hno hx hq
      obtain ⟨h1, h2⟩ := downS_size' hu ht hds
      exact ⟨_, rfl, h1, by omega, by simpa [downF, hds] using hd⟩
    generalize hga : (at_ t p).1 = a at *
    (refine wlk ?_)
    (refine wlC g1 ?_)
    (refine wlk ?_)
    refine dwp_loop (fun i : Nat => [(.t 1, some (.one (lA Cl.d us))), (.t 2, some (.one (.c (.ptr 2 0)))), (.b 2, some (.box (tA t).cells)), (.t 4, some (.one (.c (.ptr 4 0)))), (.b 4, some (.box [.val (.bool false), .val (.int .i64 0), .val (.slice none 0 0)])),
        (.t 6, some (.one (lA Int.d p))), (.t 7, some (.one (.c (.ptr 7 0)))), (.b 7, some (.box (tA a).cells)), (.t 17, some (.one (lA Is.d (places t)))), (.t 18, some (.one (iA (places t).length))), (.t 19, some (.one (iA k))),
        (.t 29, some (.one (lA Cl.d us))), (.t 30, some (.one (iA us.length))), (.t 31, some (.one (iA i)))])
      (fun i => i ≤ us.length ∧ ∀ j x, j < i → us[j]? = some x → firstS (try1 a) (wayOf x) = none) (fun i => us.length - i) 0 ⟨by omega, fun j x h => absurd h (by omega)⟩ fgs ?_
    rintro i ⟨hi, hni⟩
    by_cases hil : i < us.length
    rotate_left
    · have : i = us.length := by omega
      subst this
      have hr : down1 us a = none := firstS_none.2 fun x hx => any_upto hni x hx
      (refine wlk ?_)
      exact ⟨k + 1, ⟨by omega, upto_succ hno hx (by rw [hga]; exact hr)⟩, fgs, by omega⟩
    obtain ⟨u, hux⟩ := get_of_lt hil
    obtain ⟨⟨ng, xl, xr⟩, rfl, hng, hwf, hsz⟩ := hu.one (List.mem_of_getElem? hux)
    dsimp only at hng hwf hsz
    subst hng
    have h0 : [(⟨false, xl, xr⟩ : Lt)][0]? = some ⟨false, xl, xr⟩ := rfl
    have hwo : wayOf [(⟨false, xl, xr⟩ : Lt)] = [(xl, xr), (xr, xl)] := rfl
    (refine wlk ?_)
    refine dwp_loop (fun j : Nat => [(.t 1, some (.one (lA Cl.d us))), (.t 2, some (.one (.c (.ptr 2 0)))), (.b 2, some (.box (tA t).cells)), (.t 4, some (.one (.c (.ptr 4 0)))), (.b 4, some (.box [.val (.bool false), .val (.int .i64 0), .val (.slice none 0 0)])),
        (.t 6, some (.one (lA Int.d p))), (.t 7, some (.one (.c (.ptr 7 0)))), (.b 7, some (.box (tA a).cells)), (.t 10, some (.one (lA Lt.d [(⟨false, xl, xr⟩ : Lt)]))), (.t 17, some (.one (lA Is.d (places t)))), (.t 18, some (.one (iA (places t).length))), (.t 19, some (.one (iA k))),
        (.t 29, some (.one (lA Cl.d us))), (.t 30, some (.one (iA us.length))), (.t 31, some (.one (iA i))), (.t 35, some (.one (iA j)))])
      (fun j => j ≤ 2 ∧ ∀ i w, i < j → [((xl, xr) : Tm × Tm), (xr, xl)][i]? = some w → try1 a w = none) (fun j => 2 - j) 0 ⟨by omega, fun j x h => absurd h (by omega)⟩ fgs ?_
    rintro j ⟨hj, hnj⟩
    by_cases hj2 : j < 2
    rotate_left
    · have : j = 2 := by omega
      subst this
      have hwn : firstS (try1 a) (wayOf [(⟨false, xl, xr⟩ : Lt)]) = none := by
        rw [hwo]; exact firstS_none.2 fun w hw => any_upto (l := [((xl, xr) : Tm × Tm), (xr, xl)]) hnj w hw
      (refine wlk ?_)
      exact ⟨i + 1, ⟨by omega, upto_succ hni hux hwn⟩, fgs, by omega⟩
    obtain ⟨wa, wb, bb, hw, hbj, htn, ha, hb, haz2, hbz⟩ : ∃ (wa wb : Tm) (bb : Bool), [((xl, xr) : Tm × Tm), (xr, xl)][j]? = some (wa, wb) ∧ decide ((j : Int) = 1) = bb ∧ turnL bb ⟨false, xl, xr⟩ = ⟨false, wa, wb⟩ ∧ wa.wf S = true ∧ wb.wf S = true ∧ wa.size ≤ 12 ∧ wb.size ≤ 12 := by
      rcases (show j = 0 ∨ j = 1 by omega) with rfl | rfl
      · exact ⟨xl, xr, false, rfl, rfl, rfl, hwf.1, hwf.2, hsz.1, hsz.2⟩
      · exact ⟨xr, xl, true, rfl, rfl, rfl, hwf.2, hwf.1, hsz.2, hsz.1⟩
    have g2 := rturn ⟨false, xl, xr⟩ bb
    rw [htn] at g2
    have g3 := FnD.nil (rmore wa a [] (by simp; omega)) 0 rfl
    have g4 := FnD.nil (rvars wa [] (by simp; omega)) 0 rfl
    have hvl := vars_len [] wa
    have g5 := rvars wb (vars [] wa) (by simp at hvl; omega)
    have hvn := vars_new (Tm.wf_okv wb hb) (vars [] wa)
    have hbj2 : ((j : Int) = 1) ↔ bb = true := by rw [← hbj, decide_eq_true_eq]
    cases hm : moreR [] wa a with
    | mk s ok =>
      rw [hm] at g3
      cases ok
      · have htry : try1 a (wa, wb) = none := try1_of_no (w := (wa, wb)) (match_no hm)
        cases bb
        · have hj0 : ¬ ((j : Int) = 1) := by simpa using hbj2
          (refine wlk ?_)
          (refine wlC g2 ?_)
          (refine wlk ?_)
          (refine wlC g3 ?_)
          (refine wlk ?_)
          exact ⟨j + 1, ⟨by omega, upto_succ hnj hw htry⟩, fgs, by omega⟩
        · have hj0 : ((j : Int) = 1) := by simpa using hbj2
          (refine wlk ?_)
          (refine wlC g2 ?_)
          (refine wlk ?_)
          (refine wlC g3 ?_)
          (refine wlk ?_)
          exact ⟨j + 1, ⟨by omega, upto_succ hnj hw htry⟩, fgs, by omega⟩
      · have hmm := match_more hm
        have hsa : subAr S s := by have := matchR_ar (p := wa) hat; rw [hmm] at this; exact this
        have hss : ∀ q ∈ s, q.2.size ≤ 12 := by have := matchR_size (M := 12) (p := wa) (t := a) (by omega); rw [hmm] at this; exact this
        have hrz := app_small hss (Tm.wf_okv wb hb) hbz
        have hra : (app s wb).ar S = true := app_ar hsa wb (Tm.wf_ar wb hb)
        have hsl : s.length ≤ 12 := by have := moreR_len wa [] a; rw [hm] at this; simp at this; omega
        have g6 := ap s (by omega) wb (by omega)
        have g7 := rabove a (app s wb) (by omega) (by omega)
        have htry := try1_of_match (w := (wa, wb)) hmm
        dsimp only at htry
        cases hany : ((vars [] wb).any fun v => !(vars [] wa).contains v)
        rotate_left
        · rw [hany] at hvn htry
          rw [if_pos rfl] at htry
          have hgt := of_decide_eq_true hvn
          cases bb
          · have hj0 : ¬ ((j : Int) = 1) := by simpa using hbj2
            (refine wlk ?_)
            (refine wlC g2 ?_)
            (refine wlk ?_)
            (refine wlC g3 ?_)
            (refine wlk ?_)
            (refine wlC g4 ?_)
            (refine wlk ?_)
            (refine wlC g5 ?_)
            (refine wlk ?_)
            (refine wlC g4 ?_)
            (refine wlk ?_)
            exact ⟨j + 1, ⟨by omega, upto_succ hnj hw htry⟩, fgs, by omega⟩
          · have hj0 : ((j : Int) = 1) := by simpa using hbj2
            (refine wlk ?_)
            (refine wlC g2 ?_)
            (refine wlk ?_)
            (refine wlC g3 ?_)
            (refine wlk ?_)
            (refine wlC g4 ?_)
            (refine wlk ?_)
            (refine wlC g5 ?_)
            (refine wlk ?_)
            (refine wlC g4 ?_)
            (refine wlk ?_)
            exact ⟨j + 1, ⟨by omega, upto_succ hnj hw htry⟩, fgs, by omega⟩
        rw [hany] at hvn htry
        rw [if_neg (by simp)] at htry
        have hgt := of_decide_eq_false hvn
        cases hab : above a (app s wb)
        · rw [hab] at g7 htry
          rw [if_neg (by simp)] at htry
          cases bb
          · have hj0 : ¬ ((j : Int) = 1) := by simpa using hbj2
            (refine wlk ?_)
            (refine wlC g2 ?_)
            (refine wlk ?_)
            (refine wlC g3 ?_)
            (refine wlk ?_)
            (refine wlC g4 ?_)
            (refine wlk ?_)
            (refine wlC g5 ?_)
            (refine wlk ?_)
            (refine wlC g4 ?_)
            (refine wlk ?_)
            (refine wlC g6 ?_)
            (refine wlk ?_)
            (refine wlC g7 ?_)
            (refine wlk ?_)
            exact ⟨j + 1, ⟨by omega, upto_succ hnj hw htry⟩, fgs, by omega⟩
          · have hj0 : ((j : Int) = 1) := by simpa using hbj2
            (refine wlk ?_)
            (refine wlC g2 ?_)
            (refine wlk ?_)
            (refine wlC g3 ?_)
            (refine wlk ?_)
            (refine wlC g4 ?_)
            (refine wlk ?_)
            (refine wlC g5 ?_)
            (refine wlk ?_)
            (refine wlC g4 ?_)
            (refine wlk ?_)
            (refine wlC g6 ?_)
            (refine wlk ?_)
            (refine wlC g7 ?_)
            (refine wlk ?_)
            exact ⟨j + 1, ⟨by omega, upto_succ hnj hw htry⟩, fgs, by omega⟩
        · rw [hab] at g7 htry
          rw [if_pos rfl] at htry
          have hd1 := down1_step hni hux (firstS_hit (f := try1 a) hnj hw htry)
          obtain ⟨t', ht', h1, h2, h3⟩ := hput _ hd1
          have g8 := rput (app s wb) p t (by omega)
          rw [← ht'] at g8
          have g9 := ih t' r h1 h2 h3
          cases bb
          · have hj0 : ¬ ((j : Int) = 1) := by simpa using hbj2
            (refine wlk ?_)
            (refine wlC g2 ?_)
            (refine wlk ?_)
            (refine wlC g3 ?_)
            (refine wlk ?_)
            (refine wlC g4 ?_)
            (refine wlk ?_)
            (refine wlC g5 ?_)
            (refine wlk ?_)
            (refine wlC g4 ?_)
            (refine wlk ?_)
            (refine wlC g6 ?_)
            (refine wlk ?_)
            (refine wlC g7 ?_)
            (refine wlk ?_)
            (refine wlC g8 ?_)
            (refine wlk ?_)
            (refine wlC g9 ?_)
            (refine wlk ?_)
            (refine wfC ?_)
            rfl
          · have hj0 : ((j : Int) = 1) := by simpa using hbj2
            (refine wlk ?_)
            (refine wlC g2 ?_)
            (refine wlk ?_)
            (refine wlC g3 ?_)
            (refine wlk ?_)
            (refine wlC g4 ?_)
            (refine wlk ?_)
            (refine wlC g5 ?_)
            (refine wlk ?_)
            (refine wlC g4 ?_)
            (refine wlk ?_)
            (refine wlC g6 ?_)
            (refine wlk ?_)
            (refine wlC g7 ?_)
            (refine wlk ?_)
            (refine wlC g8 ?_)
            (refine wlk ?_)
            (refine wlC g9 ?_)
            (refine wlk ?_)
            (refine wfC ?_)
            rfl
theorem rDown {S : List Int} {us : List (List Lt)} (hu : UsSz S us) (t : Tm) (ht : t.ar S = true) (hz : t.size ≤ 12) : FnD Tryz.prog 98 [tA t, lA Cl.d us] (.one (tA (dn us t))) := by
  obtain ⟨f0, hf0⟩ := (dn_downs hu.ok ht).steps
  exact rDownF hu f0 t _ ht hz hf0
theorem rRewrite1 {S : List Int} {us : List (List Lt)} (hu : UsSz S us) (t : Tm) (ht : t.ar S = true) (hz : t.size ≤ 12) : FnD Tryz.prog 97 [tA t, .c (.fp [.arr (us.map Cl.d)])] (.one (tA (dn us t))) := by
  refine Fn.of Tryz.func97 rfl Tryz.ntmps97 rfl (Nat.le_of_ble_eq_true rfl) ?_
  (refine wlk ?_)
  (refine SqA.b1 (op_call none rfl rfl rfl (by kernel_rfl) (FnD.use (rDown hu t ht hz)) rfl rfl rfl rfl rfl rfl) rfl rfl ?_)
  (refine wlk ?_)
  (refine wfC ?_)
  rfl
theorem dn_small' {S : List Int} {us : List (List Lt)} (hu : UsSz S us) {c : List Lt} (hc : COk S c) : clSz (each (dn us) c) := fun l hl => by
  simp only [each, List.mem_map] at hl
  obtain ⟨x, hx, rfl⟩ := hl
  have h1 := (dn_wf hu.ok (hc.wf x hx).1).2
  have h2 := (dn_wf hu.ok (hc.wf x hx).2).2
  have := hc.size x hx
  dsimp only
  omega
theorem rRewrite {S : List Int} {us : List (List Lt)} (hu : UsSz S us) (c : List Lt) (hc : COk S c) : FnD Tryz.prog 56 [lA Lt.d c, lA Cl.d us] (.tup [lA Lt.d (rewr us c).1, iA (rewr us c).2]) := by
  have hw := dn_cl hu.ok hc.wf
  have hn := rnorm (each (dn us) c) hw.okv hw.few (dn_small' hu hc) (by rw [each_len]; have := hc.len; omega)
  have hcl := hc.len
  have he := rEach1 97 [.arr (us.map Cl.d)] (dn us) (by kernel_rfl) c (by omega) fun x hx => by
    have h1 := hc.wf x hx
    have h2 := hc.size x hx
    exact ⟨rRewrite1 hu x.left (Tm.wf_ar _ h1.1) h2.1, rRewrite1 hu x.right (Tm.wf_ar _ h1.2) h2.2⟩
  refine Fn.of Tryz.func56 rfl Tryz.ntmps56 rfl (Nat.le_of_ble_eq_true rfl) ?_
  (refine wlR ?_)
  refine dwp_wk (Wk.frzF (t := 3) (j := 3) (fs := [.arr (us.map Cl.d)]) rfl rfl rfl rfl rfl) ?_
  (refine wlk ?_)
  (refine SqA.b1 (op_mkFn rfl rfl rfl) rfl rfl ?_)
  (refine wlk ?_)
  (refine wlC he ?_)
  (refine wlk ?_)
  (refine wlC hn ?_)
  (refine wlk ?_)
  (refine wfTT ?_)
  rfl
theorem coverW_no1 {x : Lt} {s s1 : List Pr} {w : Tm × Tm} (h : moreR s x.left w.1 = (s1, false)) : coverW x s w = none := by unfold coverW; rw [h]
theorem coverW_no2 {x : Lt} {s s1 s2 : List Pr} {w : Tm × Tm} (h : moreR s x.left w.1 = (s1, true)) (h2 : moreR s1 x.right w.2 = (s2, false)) : coverW x s w = none := by unfold coverW; rw [h]; dsimp only; rw [h2]
theorem coverW_yes {x : Lt} {s s1 s2 : List Pr} {w : Tm × Tm} (h : moreR s x.left w.1 = (s1, true)) (h2 : moreR s1 x.right w.2 = (s2, true)) : coverW x s w = some s2 := by unfold coverW; rw [h]; dsimp only; rw [h2]
theorem more_len {s s1 : List Pr} {p t : Tm} {ok : Bool} (h : moreR s p t = (s1, ok)) : s1.length ≤ s.length + p.size := by have := moreR_len p s t; rw [h] at this; exact this
theorem coversN_app (d : List Lt) : ∀ (a b : List Lt) (now : List (List Pr)), coversN now (a ++ b) d = coversN (coversN now a d) b d
  | [], b, now => rfl
  | x :: a, b, now => by simp only [List.cons_append, coversN]; exact coversN_app d a b _
theorem coversN_snoc {c d : List Lt} {k : Nat} {x : Lt} (now : List (List Pr)) (h : c[k]? = some x) : coversN now (c.take (k + 1)) d = (coversN now (c.take k) d).flatMap (coverD x d) := by
  rw [take_succ_of h, coversN_app]; rfl
theorem fm_snoc {α β : Type} {f : α → List β} {l : List α} {k : Nat} {x : α} (h : l[k]? = some x) : (l.take (k + 1)).flatMap f = (l.take k).flatMap f ++ f x := by rw [take_succ_of h]; simp
theorem flt_snoc {α β : Type} {f : α → Option β} {l : List α} {k : Nat} {x : α} (h : l[k]? = some x) : (l.take (k + 1)).filterMap f = (l.take k).filterMap f ++ (f x).toList := by
  rw [take_succ_of h, List.filterMap_append]
  cases hf : f x <;> simp [hf]
def part4 (x : Lt) (s : List Pr) (y : Lt) (m : Nat) : List (List Pr) := if y.neg = x.neg then ((waysL y).take m).filterMap (coverW x s) else []
theorem part4_end (x : Lt) (s : List Pr) (y : Lt) : part4 x s y 2 = coverL x s y := rfl
theorem eight {k : Nat} (h : k ≤ 4) : 8 ^ k ≤ 4096 := Nat.le_trans (Nat.pow_le_pow_right (by decide) h) (by decide)
theorem rCovers (c d : List Lt) (hz : ∀ x ∈ c, x.left.size ≤ 12 ∧ x.right.size ≤ 12) (hcl : c.length ≤ 4) (hdl : d.length ≤ 4) : FnD Tryz.prog 99 [lA Lt.d c, lA Lt.d d] (.one (bA (covers c d))) := by
  refine Fn.of Tryz.func99 rfl Tryz.ntmps99 rfl (Nat.le_of_ble_eq_true rfl) ?_
  rw [← coversN_eq]
  (refine wlk ?_)
  (refine SqA.b1 (op_bsNil (T := TB) rfl rfl rfl rfl rfl rfl rfl) rfl rfl ?_)
  (refine wlk ?_)
  refine dwp_loop (fun p : Nat × List (List Pr) => [(.t 1, some (.one (lA Lt.d d))), (.t 5, some (.one (lA Ss.d p.2))), (.t 20, some (.one (lA Lt.d c))), (.t 21, some (.one (iA c.length))), (.t 22, some (.one (iA p.1)))])
    (fun p => p.1 ≤ c.length ∧ p.2 = coversN [[]] (c.take p.1) d ∧ p.2.length ≤ 8 ^ p.1 ∧ ∀ s ∈ p.2, s.length ≤ 24 * p.1) (fun p => c.length - p.1) (0, [[]]) ⟨by simp only; omega, rfl, by decide, by simp⟩ ((Wk.freezeAt (d := 5) rfl).trans fgs) ?_
  rintro ⟨k, now⟩ ⟨hk, hnow, hnl, hns⟩
  dsimp only at hk hnow hnl hns ⊢
  have h8 := eight (k := k) (by omega)
  by_cases hkl : k < c.length
  rotate_left
  · have : k = c.length := by omega
    subst this
    rw [List.take_length] at hnow
    rw [← hnow]
    by_cases h0 : 0 < now.length
    · (refine wlk ?_)
      (refine wfT ?_)
      exact Xb (b := true) (decide_eq_true h0).symm
    · (refine wlk ?_)
      (refine wfT ?_)
      exact Xb (b := false) (decide_eq_false h0).symm
  obtain ⟨⟨xn, xa, xb⟩, hx⟩ := get_of_lt hkl
  have hzx := hz _ (List.mem_of_getElem? hx)
  dsimp only at hzx
  have hsn := coversN_snoc (d := d) [[]] hx
  rw [← hnow] at hsn
  (refine wlk ?_)
  refine dwp_loop (fun p : Nat × List (List Pr) => [(.t 1, some (.one (lA Lt.d d))), (.t 7, some (.one (.c (.ptr 7 0)))), (.b 7, some (.box (ltA ⟨xn, xa, xb⟩).cells)), (.t 8, some (.one (.c (.own 107 1 (p.2.map Ss.d))))), (.t 20, some (.one (lA Lt.d c))), (.t 21, some (.one (iA c.length))), (.t 22, some (.one (iA k))),
      (.t 26, some (.one (lA Ss.d now))), (.t 27, some (.one (iA now.length))), (.t 28, some (.one (iA p.1)))])
    (fun p => p.1 ≤ now.length ∧ p.2 = (now.take p.1).flatMap (coverD ⟨xn, xa, xb⟩ d) ∧ p.2.length ≤ 8 * p.1 ∧ ∀ s ∈ p.2, s.length ≤ 24 * (k + 1)) (fun p => now.length - p.1) (0, []) ⟨by simp only; omega, by simp, by simp, by simp⟩ ((Wk.nilOwn (d := 8) (E := 107) (m := 1) rfl).trans fgs) ?_
  rintro ⟨i, nx⟩ ⟨hi, hnx, hxl, hxs⟩
  dsimp only at hi hnx hxl hxs ⊢
  by_cases hil : i < now.length
  rotate_left
  · have : i = now.length := by omega
    subst this
    rw [List.take_length] at hnx
    (refine wlk ?_)
    refine ⟨(k + 1, nx), ⟨by simp only; omega, by rw [hsn, ← hnx], ?_, hxs⟩, (Wk.freezeAt (d := 5) rfl).trans fgs, by simp only; omega⟩
    have e8 : 8 ^ (k + 1) = 8 * 8 ^ k := by rw [Nat.pow_succ, Nat.mul_comm]
    show nx.length ≤ 8 ^ (k + 1)
    rw [e8]; omega
  obtain ⟨s, hs⟩ := get_of_lt hil
  have hsl := hns s (List.mem_of_getElem? hs)
  have hfm := fm_snoc (f := coverD ⟨xn, xa, xb⟩ d) hs
  rw [← hnx] at hfm
  (refine wlk ?_)
  refine dwp_loop (fun p : Nat × List (List Pr) => [(.t 1, some (.one (lA Lt.d d))), (.t 7, some (.one (.c (.ptr 7 0)))), (.b 7, some (.box (ltA ⟨xn, xa, xb⟩).cells)), (.t 8, some (.one (.c (.own 107 1 (p.2.map Ss.d))))), (.t 10, some (.one (lA Pr.d s))), (.t 20, some (.one (lA Lt.d c))), (.t 21, some (.one (iA c.length))), (.t 22, some (.one (iA k))),
      (.t 26, some (.one (lA Ss.d now))), (.t 27, some (.one (iA now.length))), (.t 28, some (.one (iA i))), (.t 32, some (.one (lA Lt.d d))), (.t 33, some (.one (iA d.length))), (.t 34, some (.one (iA p.1)))])
    (fun p => p.1 ≤ d.length ∧ p.2 = nx ++ (d.take p.1).flatMap (coverL ⟨xn, xa, xb⟩ s) ∧ p.2.length ≤ 8 * i + 2 * p.1 ∧ ∀ s ∈ p.2, s.length ≤ 24 * (k + 1)) (fun p => d.length - p.1) (0, nx) ⟨by simp only; omega, by simp, by simp only; omega, hxs⟩ fgs ?_
  rintro ⟨j, ny⟩ ⟨hj, hny, hyl, hys⟩
  dsimp only at hj hny hyl hys ⊢
  by_cases hjl : j < d.length
  rotate_left
  · have : j = d.length := by omega
    subst this
    rw [List.take_length] at hny
    (refine wlk ?_)
    refine ⟨(i + 1, ny), ⟨by simp only; omega, ?_, by simp only; omega, hys⟩, fgs, by simp only; omega⟩
    rw [hfm, hny]; rfl
  obtain ⟨⟨yn, ya, yb⟩, hy⟩ := get_of_lt hjl
  have hfm3 := fm_snoc (f := coverL ⟨xn, xa, xb⟩ s) hy
  have hwl : waysL ⟨yn, ya, yb⟩ = [(ya, yb), (yb, ya)] := rfl
  (refine wlk ?_)
  refine dwp_loop (fun p : Nat × List (List Pr) => [(.t 1, some (.one (lA Lt.d d))), (.t 7, some (.one (.c (.ptr 7 0)))), (.b 7, some (.box (ltA ⟨xn, xa, xb⟩).cells)), (.t 8, some (.one (.c (.own 107 1 (p.2.map Ss.d))))), (.t 10, some (.one (lA Pr.d s))), (.t 12, some (.one (.c (.ptr 12 0)))), (.b 12, some (.box (ltA ⟨yn, ya, yb⟩).cells)), (.t 20, some (.one (lA Lt.d c))), (.t 21, some (.one (iA c.length))), (.t 22, some (.one (iA k))),
      (.t 26, some (.one (lA Ss.d now))), (.t 27, some (.one (iA now.length))), (.t 28, some (.one (iA i))), (.t 32, some (.one (lA Lt.d d))), (.t 33, some (.one (iA d.length))), (.t 34, some (.one (iA j))), (.t 38, some (.one (iA p.1)))])
    (fun p => p.1 ≤ 2 ∧ p.2 = ny ++ part4 ⟨xn, xa, xb⟩ s ⟨yn, ya, yb⟩ p.1 ∧ p.2.length ≤ 8 * i + 2 * j + p.1 ∧ ∀ s ∈ p.2, s.length ≤ 24 * (k + 1)) (fun p => 2 - p.1) (0, ny) ⟨by simp only; omega, by simp [part4], by simp only; omega, hys⟩ fgs ?_
  rintro ⟨m, nz⟩ ⟨hm, hnz, hzl, hzs⟩
  dsimp only at hm hnz hzl hzs ⊢
  by_cases hm2 : m < 2
  rotate_left
  · have : m = 2 := by omega
    subst this
    rw [part4_end] at hnz
    (refine wlk ?_)
    refine ⟨(j + 1, nz), ⟨by simp only; omega, ?_, by simp only; omega, hzs⟩, fgs, by simp only; omega⟩
    rw [hfm3, hnz, hny, List.append_assoc]
  obtain ⟨a, b, bb, hw, hbj, htn⟩ : ∃ (a b : Tm) (bb : Bool), [((ya, yb) : Tm × Tm), (yb, ya)][m]? = some (a, b) ∧ decide ((m : Int) = 1) = bb ∧ turnL bb ⟨yn, ya, yb⟩ = ⟨yn, a, b⟩ := by
    rcases (show m = 0 ∨ m = 1 by omega) with rfl | rfl
    · exact ⟨ya, yb, false, rfl, rfl, rfl⟩
    · exact ⟨yb, ya, true, rfl, rfl, rfl⟩
  have g0 := rturn ⟨yn, ya, yb⟩ bb
  rw [htn] at g0
  have hbj2 : ((m : Int) = 1) ↔ bb = true := by rw [← hbj, decide_eq_true_eq]
  have hfl := flt_snoc (f := coverW ⟨xn, xa, xb⟩ s) (l := waysL ⟨yn, ya, yb⟩) hw
  have g1 := rmore xa a s (by omega)
  have hp4 : part4 ⟨xn, xa, xb⟩ s ⟨yn, ya, yb⟩ (m + 1) = if yn = xn then ((waysL ⟨yn, ya, yb⟩).take m).filterMap (coverW ⟨xn, xa, xb⟩ s) ++ (coverW ⟨xn, xa, xb⟩ s (a, b)).toList else [] := by
    unfold part4; dsimp only; rw [hfl]
  have hp0 : part4 ⟨xn, xa, xb⟩ s ⟨yn, ya, yb⟩ m = if yn = xn then ((waysL ⟨yn, ya, yb⟩).take m).filterMap (coverW ⟨xn, xa, xb⟩ s) else [] := rfl
  have hskip : (yn = xn → coverW ⟨xn, xa, xb⟩ s (a, b) = none) → nz = ny ++ part4 ⟨xn, xa, xb⟩ s ⟨yn, ya, yb⟩ (m + 1) := fun h => by
    rw [hp4, hnz, hp0]
    by_cases hne : yn = xn
    · rw [if_pos hne, if_pos hne, h hne]; simp
    · rw [if_neg hne, if_neg hne]
  by_cases hne : yn = xn
  rotate_left
  · have e0 : (yn != xn) = true := by simpa using hne
    have hres := hskip (fun h => absurd h hne)
    cases bb
    · have hj0 : ¬ ((m : Int) = 1) := by simpa using hbj2
      (refine wlk ?_)
      (refine wlC g0 ?_)
      (refine wlk ?_)
      exact ⟨(m + 1, nz), ⟨by simp only; omega, hres, by simp only; omega, hzs⟩, fgs, by simp only; omega⟩
    · have hj0 : ((m : Int) = 1) := by simpa using hbj2
      (refine wlk ?_)
      (refine wlC g0 ?_)
      (refine wlk ?_)
      exact ⟨(m + 1, nz), ⟨by simp only; omega, hres, by simp only; omega, hzs⟩, fgs, by simp only; omega⟩
  have e0 : (yn != xn) = false := by simp [hne]
  cases hm1 : moreR s xa a with
  | mk s1 ok1 =>
    have hl2 := more_len hm1
    rw [hm1] at g1
    cases ok1
    · have hres := hskip (fun _ => coverW_no1 hm1)
      cases bb
      · have hj0 : ¬ ((m : Int) = 1) := by simpa using hbj2
        (refine wlk ?_)
        (refine wlC g0 ?_)
        (refine wlk ?_)
        (refine wlC g1 ?_)
        (refine wlk ?_)
        exact ⟨(m + 1, nz), ⟨by simp only; omega, hres, by simp only; omega, hzs⟩, fgs, by simp only; omega⟩
      · have hj0 : ((m : Int) = 1) := by simpa using hbj2
        (refine wlk ?_)
        (refine wlC g0 ?_)
        (refine wlk ?_)
        (refine wlC g1 ?_)
        (refine wlk ?_)
        exact ⟨(m + 1, nz), ⟨by simp only; omega, hres, by simp only; omega, hzs⟩, fgs, by simp only; omega⟩
    have g2 := rmore xb b s1 (by omega)
    cases hm2' : moreR s1 xb b with
    | mk s2 ok2 =>
      have hl3 := more_len hm2'
      rw [hm2'] at g2
      cases ok2
      · have hres := hskip (fun _ => coverW_no2 hm1 hm2')
        cases bb
        · have hj0 : ¬ ((m : Int) = 1) := by simpa using hbj2
          (refine wlk ?_)
          (refine wlC g0 ?_)
          (refine wlk ?_)
          (refine wlC g1 ?_)
          (refine wlk ?_)
          (refine wlC g2 ?_)
          (refine wlk ?_)
          exact ⟨(m + 1, nz), ⟨by simp only; omega, hres, by simp only; omega, hzs⟩, fgs, by simp only; omega⟩
        · have hj0 : ((m : Int) = 1) := by simpa using hbj2
          (refine wlk ?_)
          (refine wlC g0 ?_)
          (refine wlk ?_)
          (refine wlC g1 ?_)
          (refine wlk ?_)
          (refine wlC g2 ?_)
          (refine wlk ?_)
          exact ⟨(m + 1, nz), ⟨by simp only; omega, hres, by simp only; omega, hzs⟩, fgs, by simp only; omega⟩
      have hcy : coverW ⟨xn, xa, xb⟩ s (a, b) = some s2 := coverW_yes hm1 hm2'
      have hres : nz ++ [s2] = ny ++ part4 ⟨xn, xa, xb⟩ s ⟨yn, ya, yb⟩ (m + 1) := by
        rw [hp4, hnz, hp0, if_pos hne, if_pos hne, hcy, List.append_assoc]; rfl
      have hrl : (nz ++ [s2]).length ≤ 100000 := by simp; omega
      have hr1 : nz ++ [s2] = nz ++ [s2] := rfl
      have hrs : ∀ t ∈ nz ++ [s2], t.length ≤ 24 * (k + 1) := fun t ht => by
        rcases List.mem_append.1 ht with ht | ht
        · exact hzs t ht
        · rw [List.mem_singleton.1 ht]; omega
      cases bb
      · have hj0 : ¬ ((m : Int) = 1) := by simpa using hbj2
        (refine wlk ?_)
        (refine wlC g0 ?_)
        (refine wlk ?_)
        (refine wlC g1 ?_)
        (refine wlk ?_)
        (refine wlC g2 ?_)
        (refine wlk ?_)
        (refine SqA.b1 (op_bsT (T := TB) (f := Ss.d) [s2] rfl rfl rfl rfl rfl rfl rfl rfl rfl rfl rfl) rfl rfl ?_)
        (refine wlk ?_)
        exact ⟨(m + 1, nz ++ [s2]), ⟨by simp only; omega, hres, by simp; omega, hrs⟩, fgs, by simp only; omega⟩
      · have hj0 : ((m : Int) = 1) := by simpa using hbj2
        (refine wlk ?_)
        (refine wlC g0 ?_)
        (refine wlk ?_)
        (refine wlC g1 ?_)
        (refine wlk ?_)
        (refine wlC g2 ?_)
        (refine wlk ?_)
        (refine SqA.b1 (op_bsT (T := TB) (f := Ss.d) [s2] rfl rfl rfl rfl rfl rfl rfl rfl rfl rfl rfl) rfl rfl ?_)
        (refine wlk ?_)
        exact ⟨(m + 1, nz ++ [s2]), ⟨by simp only; omega, hres, by simp; omega, hrs⟩, fgs, by simp only; omega⟩
end Go.Proofs.YtmanhdacnkpclaaGreat
