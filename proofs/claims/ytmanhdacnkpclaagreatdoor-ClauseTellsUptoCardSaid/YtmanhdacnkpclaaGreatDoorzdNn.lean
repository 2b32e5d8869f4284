/- Keeping clauses, step by step, plainly. -/
import Derived.Test.YtmanhdacnkpclaaGreatDoorzdPb1
import Derived.Test.YtmanhdacnkpclaaGreatDoorzdGk
import Derived.Test.YtmanhdacnkpclaaGreatDoorzdCn
/- Keeping clauses, step by step, plainly. -/
namespace Go.Proofs.YtmanhdacnkpclaaGreatDoor
set_option linter.all false

theorem orients_app : ∀ (a b : List Lt), orients (a ++ b) = (orients a).bind fun x => (orients b).map fun y => x ++ y
  | [], b => by cases h : orients b <;> simp [orients, h]
  | l :: a, b => by
    simp only [List.cons_append, orients]
    rw [orients_app a b]
    split
    · split
      · rfl
      · rfl
    · cases orients a <;> cases orients b <;> simp
theorem split_at {α : Type} {c : List α} {k : Nat} {x : α} (h : c[k]? = some x) : c = c.take k ++ x :: c.drop (k + 1) := by rw [← drop_of h, List.take_append_drop]
theorem orients_none_at {c o : List Lt} {k : Nat} {x : Lt} (h : orients (c.take k) = some o) (hx : c[k]? = some x) (hs : x.left.same x.right = true) (hn : x.neg = false) : orients c = none := by
  rw [split_at hx, orients_app, h]
  simp [orients, hs, hn]
theorem orients_skip {c o : List Lt} {k : Nat} {x : Lt} (h : orients (c.take k) = some o) (hx : c[k]? = some x) (hs : x.left.same x.right = true) (hn : x.neg = true) : orients (c.take (k + 1)) = some o := by
  rw [take_succ_of hx, orients_app, h]
  simp [orients, hs, hn]
theorem orients_more {c o : List Lt} {k : Nat} {x : Lt} (h : orients (c.take k) = some o) (hx : c[k]? = some x) (hs : x.left.same x.right = false) : orients (c.take (k + 1)) = some (o ++ [orient1 x]) := by
  rw [take_succ_of hx, orients_app, h]
  simp [orients, hs]
theorem dedup_app : ∀ (a b o : List Lt), dedup o (a ++ b) = (dedup o a).bind fun o' => dedup o' b
  | [], b, o => rfl
  | l :: a, b, o => by
    simp only [List.cons_append, dedup]
    split
    · exact dedup_app a b o
    · split
      · rfl
      · exact dedup_app a b _
theorem dedup_skip {c o : List Lt} {k : Nat} {x : Lt} (h : dedup [] (c.take k) = some o) (hx : c[k]? = some x) (hs : hasS o x = true) : dedup [] (c.take (k + 1)) = some o := by
  rw [take_succ_of hx, dedup_app, h]
  simp [dedup, hs]
theorem dedup_more {c o : List Lt} {k : Nat} {x : Lt} (h : dedup [] (c.take k) = some o) (hx : c[k]? = some x) (hs : hasS o x = false) (hn : hasN o x = false) : dedup [] (c.take (k + 1)) = some (o ++ [x]) := by
  rw [take_succ_of hx, dedup_app, h]
  simp [dedup, hs, hn]
theorem dedup_none_at {c o : List Lt} {k : Nat} {x : Lt} (h : dedup [] (c.take k) = some o) (hx : c[k]? = some x) (hs : hasS o x = false) (hn : hasN o x = true) : dedup [] c = none := by
  rw [split_at hx, dedup_app, h]
  simp [dedup, hs, hn]
theorem numbF_snoc : ∀ (vs : List Int) (i : Nat) (v : Int), numbF i (vs ++ [v]) = numbF i vs ++ [(v, ⟨true, ((i + vs.length : Nat) : Int), []⟩)]
  | [], i, v => by simp [numbF]
  | u :: vs, i, v => by
    simp only [List.cons_append, numbF, numbF_snoc vs (i + 1) v, List.length_cons]
    rw [show i + 1 + vs.length = i + (vs.length + 1) by omega]
theorem numb_snoc {vs : List Int} {k : Nat} {v : Int} (h : vs[k]? = some v) : numb (vs.take k) ++ [(v, ⟨true, (k : Int), []⟩)] = numb (vs.take (k + 1)) := by
  have hk := (List.getElem?_eq_some_iff.1 h).1
  have := numbF_snoc (vs.take k) 0 v
  rw [← take_succ_of h] at this
  unfold numb
  rw [this]
  have e : (vs.take k).length = k := by rw [List.length_take]; omega
  rw [e, Nat.zero_add]
theorem numb_len (vs : List Int) : (numb vs).length = vs.length := by
  unfold numb
  have : ∀ (vs : List Int) (i : Nat), (numbF i vs).length = vs.length := by
    intro vs
    induction vs with
    | nil => intro i; rfl
    | cons v vs ih => intro i; simp [numbF, ih]
  exact this vs 0
theorem hasS_eq (o : List Lt) (l : Lt) : hasS o l = ((o.any fun x => x.same l) || o.any fun x => x.same ⟨l.neg, l.right, l.left⟩) := by
  unfold hasS
  induction o with
  | nil => rfl
  | cons y o ih =>
    simp only [List.any_cons, ih]
    have : (like l y && (y.neg == l.neg)) = (y.same l || y.same ⟨l.neg, l.right, l.left⟩) := by
      rw [Bool.eq_iff_iff]
      simp only [Bool.and_eq_true, Bool.or_eq_true, like_iff, beq_iff_eq, Lt.same_iff]
      obtain ⟨yn, yl, yr⟩ := y
      obtain ⟨ln, ll, lr⟩ := l
      simp only [Lt.mk.injEq]
      constructor
      · rintro ⟨⟨h1, h2⟩ | ⟨h1, h2⟩, h3⟩
        · exact .inl ⟨h3, h1.symm, h2.symm⟩
        · exact .inr ⟨h3, h2.symm, h1.symm⟩
      · rintro (⟨h3, h1, h2⟩ | ⟨h3, h1, h2⟩)
        · exact ⟨.inl ⟨h1.symm, h2.symm⟩, h3⟩
        · exact ⟨.inr ⟨h2.symm, h1.symm⟩, h3⟩
    rw [this]
    cases y.same l <;> cases y.same ⟨l.neg, l.right, l.left⟩ <;> simp
theorem hasN_eq (o : List Lt) (l : Lt) : hasN o l = ((o.any fun x => x.same ⟨!l.neg, l.left, l.right⟩) || o.any fun x => x.same ⟨!l.neg, l.right, l.left⟩) := by
  unfold hasN
  induction o with
  | nil => rfl
  | cons y o ih =>
    simp only [List.any_cons, ih]
    have : (like l y && (y.neg != l.neg)) = (y.same ⟨!l.neg, l.left, l.right⟩ || y.same ⟨!l.neg, l.right, l.left⟩) := by
      rw [Bool.eq_iff_iff]
      simp only [Bool.and_eq_true, Bool.or_eq_true, like_iff, bne_iff_ne, ne_eq, Lt.same_iff]
      obtain ⟨yn, yl, yr⟩ := y
      obtain ⟨ln, ll, lr⟩ := l
      simp only [Lt.mk.injEq]
      have hb : (¬ yn = ln) ↔ yn = !ln := by cases yn <;> cases ln <;> simp
      rw [hb]
      constructor
      · rintro ⟨⟨h1, h2⟩ | ⟨h1, h2⟩, h3⟩
        · exact .inl ⟨h3, h1.symm, h2.symm⟩
        · exact .inr ⟨h3, h2.symm, h1.symm⟩
      · rintro (⟨h3, h1, h2⟩ | ⟨h3, h1, h2⟩)
        · exact ⟨.inl ⟨h1.symm, h2.symm⟩, h3⟩
        · exact ⟨.inr ⟨h2.symm, h1.symm⟩, h3⟩
    rw [this]
    cases y.same ⟨!l.neg, l.left, l.right⟩ <;> cases y.same ⟨!l.neg, l.right, l.left⟩ <;> simp
theorem compare_less {a b : Tm} (ha : a.okv = true) (hb : b.okv = true) : compare a b = 1 ↔ above b a = true := by
  rw [← compare_more hb, compare_flip ha hb]
  by_cases h1 : compare a b = 1
  · simp [h1]
  · by_cases h3 : compare a b = 3
    · simp [h3]
    · simp [h1, h3]
theorem norm_n1 {c : List Lt} (h : orients c = none) : norm c = ([], 6) := by unfold norm; rw [h]
theorem norm_n2 {c o : List Lt} (h : orients c = some o) (hd : dedup [] (each (app (numb (clVars [] o))) o) = none) : norm c = ([], 6) := by unfold norm; rw [h]; dsimp only; rw [hd]
theorem norm_n3 {c o d : List Lt} (h : orients c = some o) (hd : dedup [] (each (app (numb (clVars [] o))) o) = some d) : norm c = if 4 < d.length ∨ 5 < (clVars [] o).length ∨ bigCl d = true then ([], 4) else (d, 0) := by unfold norm; rw [h]; dsimp only; rw [hd]
theorem bigCl_at {d : List Lt} {k : Nat} {x : Lt} (hx : d[k]? = some x) (h : 12 < x.left.size ∨ 12 < x.right.size) : bigCl d = true := List.any_eq_true.2 ⟨x, List.mem_of_getElem? hx, decide_eq_true h⟩
theorem bigCl_yes {d : List Lt} (h : ∀ (j : Nat) x, j < d.length → d[j]? = some x → x.left.size ≤ 12 ∧ x.right.size ≤ 12) : ¬ bigCl d = true := fun hb => by
  obtain ⟨x, hx, hh⟩ := List.any_eq_true.1 hb
  have := any_upto h x hx
  simp only [decide_eq_true_eq] at hh
  omega
/-! ## against all that came before -/
theorem dedup_inv : ∀ {a o d : List Lt}, dedup o a = some d → (∀ y ∈ o, y ∈ d) ∧ (∀ y ∈ a, ∃ z ∈ d, like y z = true ∧ z.neg = y.neg)
  | [], o, d, h => by
    simp only [dedup, Option.some.injEq] at h
    subst h
    exact ⟨fun y hy => hy, fun y hy => (by cases hy)⟩
  | l :: a, o, d, h => by
    simp only [dedup] at h
    split at h
    · rename_i hs
      obtain ⟨h1, h2⟩ := dedup_inv h
      refine ⟨h1, fun y hy => ?_⟩
      rcases List.mem_cons.1 hy with rfl | hy
      · obtain ⟨z, hz, hh⟩ := List.any_eq_true.1 hs
        simp only [Bool.and_eq_true, beq_iff_eq] at hh
        exact ⟨z, h1 z hz, hh⟩
      · exact h2 y hy
    · split at h
      · cases h
      · obtain ⟨h1, h2⟩ := dedup_inv h
        refine ⟨fun y hy => h1 y (List.mem_append_left _ hy), fun y hy => ?_⟩
        rcases List.mem_cons.1 hy with rfl | hy
        · exact ⟨y, h1 y (by simp), like_iff.2 (.inl ⟨rfl, rfl⟩), rfl⟩
        · exact h2 y hy
theorem like_symm {a b : Lt} (h : like a b = true) : like b a = true := by
  rcases like_iff.1 h with ⟨h1, h2⟩ | ⟨h1, h2⟩
  · exact like_iff.2 (.inl ⟨h1.symm, h2.symm⟩)
  · exact like_iff.2 (.inr ⟨h2.symm, h1.symm⟩)
theorem like_trans {a b c : Lt} (h : like a b = true) (h' : like b c = true) : like a c = true := by
  rcases like_iff.1 h with ⟨h1, h2⟩ | ⟨h1, h2⟩ <;> rcases like_iff.1 h' with ⟨g1, g2⟩ | ⟨g1, g2⟩
  · exact like_iff.2 (.inl ⟨h1.trans g1, h2.trans g2⟩)
  · exact like_iff.2 (.inr ⟨h1.trans g1, h2.trans g2⟩)
  · exact like_iff.2 (.inr ⟨h1.trans g2, h2.trans g1⟩)
  · exact like_iff.2 (.inl ⟨h1.trans g2, h2.trans g1⟩)
/-- of those that are kept one alone is like one -/
theorem lone_one {d : List Lt} (h : Lone d) {a b : Lt} (ha : a ∈ d) (hb : b ∈ d) (hl : like a b = true) : a = b := by
  obtain ⟨i, hi, rfl⟩ := List.getElem_of_mem ha
  obtain ⟨j, hj, rfl⟩ := List.getElem_of_mem hb
  have hp := List.pairwise_iff_getElem.1 h
  rcases Nat.lt_trichotomy i j with hij | hij | hij
  · have h1 := like_symm hl
    rw [hp i j hi hj hij] at h1; cases h1
  · subst hij; rfl
  · have := hp j i hj hi hij
    rw [hl] at this; cases this
theorem before_conf {a o : List Lt} (h : dedup [] a = some o) (x : Lt) : (a.any fun y => like x y && (x.neg != y.neg)) = hasN o x := by
  obtain ⟨_, h2⟩ := dedup_inv h
  have h3 := dedup_mem h
  rw [Bool.eq_iff_iff]
  unfold hasN
  simp only [List.any_eq_true, Bool.and_eq_true, bne_iff_ne, ne_eq]
  constructor
  · rintro ⟨y, hy, hl, hn⟩
    obtain ⟨z, hz, hyz, hzn⟩ := h2 y hy
    exact ⟨z, hz, like_trans hl hyz, fun e => hn (e.symm.trans hzn)⟩
  · rintro ⟨z, hz, hl, hn⟩
    rcases h3 z hz with h | h
    · cases h
    · exact ⟨z, h, hl, fun e => hn e.symm⟩
theorem before_excl {a o : List Lt} (h : dedup [] a = some o) {x : Lt} (hN : hasN o x = true) : hasS o x = false := by
  rw [← Bool.not_eq_true]
  intro hS
  have hl := dedup_lone (once := []) List.Pairwise.nil h
  obtain ⟨z, hz, h1⟩ := List.any_eq_true.1 hN
  obtain ⟨y, hy, h2⟩ := List.any_eq_true.1 hS
  simp only [Bool.and_eq_true, bne_iff_ne, ne_eq, beq_iff_eq] at h1 h2
  have := lone_one hl hz hy (like_trans (like_symm h1.1) h2.1)
  subst this
  exact h1.2 h2.2
theorem before_had {a o : List Lt} (h : dedup [] a = some o) {x : Lt} (hN : hasN o x = false) : (a.any fun y => like x y) = hasS o x := by
  have hc := before_conf h x
  rw [hN] at hc
  obtain ⟨_, h2⟩ := dedup_inv h
  have h3 := dedup_mem h
  rw [Bool.eq_iff_iff]
  unfold hasS
  simp only [List.any_eq_true, Bool.and_eq_true, beq_iff_eq]
  constructor
  · rintro ⟨y, hy, hl⟩
    obtain ⟨z, hz, hyz, hzn⟩ := h2 y hy
    refine ⟨z, hz, like_trans hl hyz, ?_⟩
    rw [hzn]
    have := List.any_eq_false.1 hc y hy
    simp only [hl, Bool.true_and, bne_iff_ne, ne_eq, Decidable.not_not] at this
    exact this.symm
  · rintro ⟨z, hz, hl, _⟩
    rcases h3 z hz with h | h
    · cases h
    · exact ⟨z, h, hl⟩
end Go.Proofs.YtmanhdacnkpclaaGreatDoor

/- Keeping clauses: what the walks need. -/
namespace Go.Proofs.YtmanhdacnkpclaaGreatDoor
set_option linter.all false
open Go.RowKit

theorem w64 {n : Nat} (h : n ≤ 4000000000000000000) : wrap64 (n : Int) = n := by unfold wrap64; omega
theorem orients_sz {c o : List Lt} (h : orients c = some o) (hc : clSz c) : clSz o := fun l hl => by
  obtain ⟨k, hk, _, rfl⟩ := orients_mem h l hl
  have := hc k hk
  rcases orient1_two k with ⟨e1, e2⟩ | ⟨e1, e2⟩ <;> rw [e1, e2] <;> omega
theorem numb_sz {o : List Lt} (hk : clOkv o) (hc : clSz o) : clSz (each (app (numb (clVars [] o))) o) := fun l hl => by
  simp only [each, List.mem_map] at hl
  obtain ⟨x, hx, rfl⟩ := hl
  have h1 := size_numb (vs := clVars [] o) x.left (hk x hx).1 fun v hv => mem_clVars o [] hk x hx (.inl hv)
  have h2 := size_numb (vs := clVars [] o) x.right (hk x hx).2 fun v hv => mem_clVars o [] hk x hx (.inr hv)
  have := hc x hx
  dsimp only
  omega
theorem Xn {c : List Lt} {e : Int} {r : List Lt × Int} (h : (c, e) = r) : (.tup [lA Lt.d c, iA e] : X) = .tup [lA Lt.d r.1, iA r.2] := by rw [← h]
end Go.Proofs.YtmanhdacnkpclaaGreatDoor
