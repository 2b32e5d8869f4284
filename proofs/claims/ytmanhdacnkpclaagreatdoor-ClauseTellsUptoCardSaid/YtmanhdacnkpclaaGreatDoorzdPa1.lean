/- Bindings, plain. -/
import Derived.Test.YtmanhdacnkpclaaGreatDoorzdFa
import Derived.Test.YtmanhdacnkpclaaGreatDoorzdFb
/- Bindings, plain. -/
namespace Go.Proofs.YtmanhdacnkpclaaGreatDoor
set_option linter.unusedVariables false
set_option linter.unusedSimpArgs false

def findS : List Pr → Int → Option Tm
  | [], _ => none
  | p :: s, v => if p.1 = v then some p.2 else findS s v
mutual
def app (s : List Pr) : Tm → Tm
  | ⟨v, n, l⟩ => if v then (match findS s n with | some u => u | none => ⟨v, n, l⟩) else ⟨false, n, apps s l⟩
def apps (s : List Pr) : List Tm → List Tm
  | [] => []
  | a :: l => app s a :: apps s l
end
theorem apps_eq (s : List Pr) : ∀ l, apps s l = l.map (app s)
  | [] => rfl
  | a :: l => by simp [apps, apps_eq s l]
theorem findS_take {s : List Pr} {v : Int} : ∀ (k : Nat), (∀ j p, j < k → s[j]? = some p → p.1 ≠ v) → findS s v = findS (s.drop k) v
  | 0, _ => by simp
  | k + 1, h => by
    rw [findS_take k fun j p hj => h j p (by omega)]
    cases hk : s[k]? with
    | none =>
      have : s.length ≤ k := by simpa using hk
      rw [List.drop_eq_nil_of_le this, List.drop_eq_nil_of_le (Nat.le_succ_of_le this)]
    | some p =>
      have hlt : k < s.length := (List.getElem?_eq_some_iff.1 hk).1
      have hpk : s[k] = p := (List.getElem?_eq_some_iff.1 hk).2
      rw [List.drop_eq_getElem_cons hlt]
      simp only [findS]
      rw [hpk, if_neg (h k p (by omega) hk)]
theorem findS_at {s : List Pr} {v : Int} {k : Nat} {p : Pr} (h : ∀ j p, j < k → s[j]? = some p → p.1 ≠ v) (hk : s[k]? = some p) (hp : p.1 = v) : findS s v = some p.2 := by
  rw [findS_take k h]
  have hlt : k < s.length := (List.getElem?_eq_some_iff.1 hk).1
  have hpk : s[k] = p := (List.getElem?_eq_some_iff.1 hk).2
  rw [List.drop_eq_getElem_cons hlt]
  simp only [findS]
  rw [hpk, if_pos hp]
theorem findS_no {s : List Pr} {v : Int} {k : Nat} (h : ∀ j p, j < k → s[j]? = some p → p.1 ≠ v) (hk : s.length ≤ k) : findS s v = none := by
  rw [findS_take k h, List.drop_eq_nil_of_le hk]; rfl
theorem upto_succ {α : Type} {s : List α} {k : Nat} {p : α} {R : α → Prop} (h : ∀ j x, j < k → s[j]? = some x → R x) (hk : s[k]? = some p) (hp : R p) : ∀ j x, j < k + 1 → s[j]? = some x → R x := fun j x hj hx => by
  rcases Nat.lt_or_ge j k with h1 | h1
  · exact h j x h1 hx
  · have : j = k := by omega
    subst this; rw [hk] at hx; injection hx with hx; subst hx; exact hp
theorem get_of_lt {α : Type} {s : List α} {k : Nat} (h : k < s.length) : ∃ x, s[k]? = some x := ⟨_, List.getElem?_eq_getElem h⟩
theorem snoc {α β : Type} (f : α → β) {l : List α} {k : Nat} {x : α} (h : l[k]? = some x) : (l.take k).map f ++ [f x] = (l.take (k + 1)).map f := by rw [List.take_add_one, h]; simp
theorem any_upto {α : Type} {l : List α} {R : α → Prop} (h : ∀ j x, j < l.length → l[j]? = some x → R x) : ∀ x ∈ l, R x := fun x hx => by
  obtain ⟨j, hj, e⟩ := List.getElem_of_mem hx
  exact h j x hj (by rw [List.getElem?_eq_getElem hj, e])
theorem upto_succI {α : Type} {s : List α} {k : Nat} {p : α} {R : Nat → α → Prop} (h : ∀ j x, j < k → s[j]? = some x → R j x) (hk : s[k]? = some p) (hp : R k p) : ∀ j x, j < k + 1 → s[j]? = some x → R j x := fun j x hj hx => by
  rcases Nat.lt_or_ge j k with h1 | h1
  · exact h j x h1 hx
  · have : j = k := by omega
    subst this; rw [hk] at hx; injection hx with hx; subst hx; exact hp
end Go.Proofs.YtmanhdacnkpclaaGreatDoor

/- What the index is, plainly: marks, keys, places. -/
namespace Go.Proofs.YtmanhdacnkpclaaGreatDoor
set_option linter.unusedVariables false
set_option linter.unusedSimpArgs false
open Go.RowKit

def mark : Tm → List Int → Int
  | ⟨v, n, _⟩, [] => if v then 0 else wrap64 (n + 1)
  | ⟨v, _, l⟩, i :: p => if v then -1 else if (l.length : Int) ≤ i then -2 else mark (l.getD i.toNat ⟨false, 0, []⟩) p
mutual
def places : Tm → List (List Int)
  | ⟨v, _, l⟩ => if v then [] else [] :: placesL 0 l
def placesL : Nat → List Tm → List (List Int)
  | _, [] => []
  | i, a :: l => (places a).map (fun p => (i : Int) :: p) ++ placesL (i + 1) l
end
def at_ : Tm → List Int → Tm × Bool
  | t, [] => (t, true)
  | ⟨_, _, l⟩, i :: p => if i < 0 ∨ (l.length : Int) ≤ i then (⟨false, 0, []⟩, false) else at_ (l.getD i.toNat ⟨false, 0, []⟩) p
theorem drop_of {α : Type} {l : List α} {k : Nat} {x : α} (h : l[k]? = some x) : l.drop k = x :: l.drop (k + 1) := by
  obtain ⟨hk, e⟩ := List.getElem?_eq_some_iff.1 h
  rw [← e]; exact List.drop_eq_getElem_cons hk
end Go.Proofs.YtmanhdacnkpclaaGreatDoor

/- What the index is, plainly: places' numbers, what is found. -/
namespace Go.Proofs.YtmanhdacnkpclaaGreatDoor
set_option linter.unusedVariables false
set_option linter.unusedSimpArgs false
open Go.RowKit

end Go.Proofs.YtmanhdacnkpclaaGreatDoor

/- Right terms are small. -/
namespace Go.Proofs.YtmanhdacnkpclaaGreatDoor
set_option linter.unusedVariables false
set_option linter.unusedSimpArgs false
open Go.RowKit

theorem any_at {l : List Int} {p : Int → Bool} (h : l.any p = false) (k : Nat) (x : Int) (hx : l[k]? = some x) : p x = false := by
  rw [List.any_eq_false] at h
  simpa using h x (mem_of_get hx)

mutual
theorem okv_of (s : List Int) : ∀ (t : Tm) (d : Int), walk s t d = 0 → t.okv = true
  | ⟨true, n, l⟩, d, h => by
    simp only [walk] at h
    split at h
    · cases h
    · simp only [if_true] at h
      split at h
      · cases h
      · rename_i h1
        split at h
        · rename_i h2
          have : l = [] := List.eq_nil_of_length_eq_zero h2
          subst this
          simp [Tm.okv]; omega
        · cases h
  | ⟨false, n, l⟩, d, h => by
    simp only [walk] at h
    split at h
    · cases h
    · simp only [Bool.false_eq_true, if_false] at h
      split at h
      · cases h
      · split at h
        · simp only [Tm.okv]; exact okvs_of s l _ h
        · cases h
theorem okvs_of (s : List Int) : ∀ (l : List Tm) (d : Int), walks s l d = 0 → Tm.okvs l = true
  | [], _, _ => rfl
  | a :: l, d, h => by
    simp only [walks] at h
    split at h
    · rename_i h1; simp only [Tm.okvs, okv_of s a d h1, okvs_of s l d h, Bool.and_self]
    · rename_i h1; exact absurd h h1
end

mutual
theorem size_of (s : List Int) (hs : wrongSig s = 0) : ∀ (t : Tm) (d : Int) (k : Nat), walk s t d = 0 → 13 ≤ d + k → t.size + 1 ≤ 2 ^ k
  | ⟨v, n, l⟩, d, k, h, hk => by
    have hd : d ≤ 12 := by
      rcases Decidable.em (12 < d) with h1 | h1
      · simp [walk, h1] at h
      · omega
    obtain ⟨k, rfl⟩ : ∃ m, k = m + 1 := ⟨k - 1, by omega⟩
    simp only [walk, if_neg (show ¬ 12 < d by omega)] at h
    have hl : l.length ≤ 2 ∧ (walks s l (d + 1) = 0 ∨ l = []) := by
      cases v
      · simp only [Bool.false_eq_true, if_false] at h
        split at h
        · cases h
        · split at h
          · rename_i h1 h2
            refine ⟨?_, .inl h⟩
            have hn : n.toNat < s.length := by omega
            have h3 : s.getD n.toNat 0 = s[n.toNat] := by simp [List.getD, List.getElem?_eq_getElem hn]
            have h4 : ¬ (s[n.toNat] < 0 ∨ 2 < s[n.toNat]) := by
              unfold wrongSig at hs
              split at hs
              · cases hs
              · split at hs
                · cases hs
                · rename_i h5
                  simp only [Bool.not_eq_true] at h5
                  have := any_at h5 n.toNat _ (List.getElem?_eq_getElem hn)
                  simpa using this
            rw [h3] at h2
            omega
          · cases h
      · simp only [if_true] at h
        split at h
        · cases h
        · split at h
          · rename_i h2
            have : l = [] := List.eq_nil_of_length_eq_zero h2
            subst this
            exact ⟨by simp, .inr rfl⟩
          · cases h
    have hp : 1 ≤ 2 ^ k := Nat.one_le_two_pow
    have h2k : 2 ^ (k + 1) = 2 ^ k + 2 ^ k := by rw [Nat.pow_succ]; omega
    simp only [Tm.size]
    rcases hl.2 with h1 | rfl
    · have := sizes_of s hs l (d + 1) k h1 (by omega)
      have h3 : l.length * 2 ^ k ≤ 2 * 2 ^ k := Nat.mul_le_mul_right _ hl.1
      rcases Nat.eq_zero_or_pos l.length with h0 | h0
      · have : l = [] := List.eq_nil_of_length_eq_zero h0
        subst this
        simp [Tm.sizes]; omega
      · rcases (show l.length = 1 ∨ l.length = 2 by omega) with h4 | h4 <;> rw [h4] at this <;> omega
    · simp [Tm.sizes]; omega
theorem sizes_of (s : List Int) (hs : wrongSig s = 0) : ∀ (l : List Tm) (d : Int) (k : Nat), walks s l d = 0 → 13 ≤ d + k → Tm.sizes l + l.length ≤ l.length * 2 ^ k
  | [], _, _, _, _ => by simp [Tm.sizes]
  | a :: l, d, k, h, hk => by
    simp only [walks] at h
    split at h
    · rename_i h1
      have e1 := size_of s hs a d k h1 hk
      have e2 := sizes_of s hs l d k h hk
      simp only [Tm.sizes, List.length_cons, Nat.add_mul]
      omega
    · rename_i h1; exact absurd h h1
end

/-- a right term: small, and as chapter 2 has them -/
theorem rightT {s : List Int} {t : Tm} (hs : wrongSig s = 0) (h : wrong s t = 0) : t.size ≤ 12 ∧ t.okv = true ∧ walk s t 1 = 0 := by
  unfold wrong at h
  split at h
  · rename_i h1
    have h2 := size_of s hs t 1 12 h1 (by omega)
    have h3 : wrap64 (t.size : Int) = t.size := IntWalk.wrap64_in _ ⟨by omega, by omega⟩
    split at h
    · cases h
    · rename_i h4
      rw [h3] at h4
      exact ⟨by omega, okv_of s t 1 h1, h1⟩
  · rename_i h1; exact absurd h h1

end Go.Proofs.YtmanhdacnkpclaaGreatDoor

/- The order, plainly: one way alone, whatever variables are bound to, and within others. -/
namespace Go.Proofs.YtmanhdacnkpclaaGreatDoor
set_option linter.unusedVariables false
set_option linter.unusedSimpArgs false

mutual
/-- a term of symbols: variables as they may be, each symbol with its arguments -/
def Tm.wf (s : List Int) : Tm → Bool
  | ⟨true, n, l⟩ => l.isEmpty && decide (0 ≤ n) && decide (n ≤ 4)
  | ⟨false, n, l⟩ => decide (0 ≤ n) && decide (n < (s.length : Int)) && decide ((l.length : Int) = s.getD n.toNat 0) && Tm.wfs s l
def Tm.wfs (s : List Int) : List Tm → Bool
  | [] => true
  | a :: l => Tm.wf s a && Tm.wfs s l
end
theorem Tm.wfs_iff {s : List Int} : ∀ {l : List Tm}, Tm.wfs s l = true ↔ ∀ t ∈ l, t.wf s = true
  | [] => by simp [Tm.wfs]
  | a :: l => by simp [Tm.wfs, Tm.wfs_iff (l := l)]
mutual
theorem wf_of (s : List Int) : ∀ (t : Tm) (d : Int), walk s t d = 0 → t.wf s = true
  | ⟨true, n, l⟩, d, h => by
    simp only [walk] at h
    split at h
    · cases h
    · simp only [if_true] at h
      split at h
      · cases h
      · split at h
        · rename_i h1 h2
          have : l = [] := List.eq_nil_of_length_eq_zero h2
          subst this
          simp [Tm.wf]; omega
        · cases h
  | ⟨false, n, l⟩, d, h => by
    simp only [walk] at h
    split at h
    · cases h
    · simp only [Bool.false_eq_true, if_false] at h
      split at h
      · cases h
      · split at h
        · rename_i h1 h2
          simp only [Tm.wf, wfs_of s l _ h, Bool.and_true, Bool.and_eq_true, decide_eq_true_eq]
          exact ⟨⟨by omega, by omega⟩, h2⟩
        · cases h
theorem wfs_of (s : List Int) : ∀ (l : List Tm) (d : Int), walks s l d = 0 → Tm.wfs s l = true
  | [], _, _ => rfl
  | a :: l, d, h => by
    simp only [walks] at h
    split at h
    · rename_i h1; simp only [Tm.wfs, wf_of s a d h1, wfs_of s l d h, Bool.and_self]
    · rename_i h1; exact absurd h h1
end

theorem above_iff (a b : Tm) (hb : b.okv = true) : above a b = true ↔ a.var = false ∧ (∀ x, times x b ≤ times x a) ∧
    (b.size < a.size ∨ a.size = b.size ∧ b.var = false ∧ (b.n < a.n ∨ a.n = b.n ∧ aboves a.args b.args = true)) := by
  obtain ⟨va, na, la⟩ := a
  have ha := any_times (T := ⟨va, na, la⟩) hb
  simp only [above]
  cases va
  · simp only [Bool.false_eq_true, if_false, true_and]
    split
    · rename_i h
      obtain ⟨x, hx⟩ := ha.1 h
      constructor
      · intro h; cases h
      · rintro ⟨h, _⟩; have := h x; omega
    · rename_i h
      have hn : ∀ x, times x b ≤ times x ⟨false, na, la⟩ := fun x => by
        rcases Nat.lt_or_ge (times x ⟨false, na, la⟩) (times x b) with h1 | h1
        · exact absurd (ha.2 ⟨x, h1⟩) h
        · exact h1
      simp only [hn, implies_true, true_and]
      split
      · rename_i he
        rw [he]
        simp only [Nat.lt_irrefl, false_or, true_and]
        cases hv : b.var
        · simp only [Bool.false_eq_true, if_false, true_and]
          split
          · rename_i h1
            constructor
            · intro h; cases h
            · intro h; omega
          · split
            · rename_i h2; simp [h2]
            · have h3 : na = b.n := by omega
              subst h3; simp
        · simp
      · rename_i he
        rw [decide_eq_true_eq]
        constructor
        · exact fun h => .inl h
        · rintro (h | ⟨h, _⟩)
          · exact h
          · exact absurd h he
  · simp

theorem aboves_refl (l : List Tm) : aboves l l = false := aboves_none (k := l.length) rfl (.inl (Nat.le_refl _))
theorem above_irrefl {a : Tm} (ha : a.okv = true) : above a a = false := by
  cases h : above a a
  · rfl
  · obtain ⟨_, _, h1 | ⟨_, _, h1 | ⟨_, h1⟩⟩⟩ := (above_iff a a ha).1 h
    · omega
    · omega
    · rw [aboves_refl] at h1; cases h1
theorem same_false {a b : Tm} (h : a ≠ b) : a.same b = false := by
  cases e : a.same b
  · rfl
  · exact absurd ((Tm.same_iff a b).1 e) h
theorem above_ne {a b : Tm} (ha : a.okv = true) (h : above a b = true) : a ≠ b := fun e => by
  subst e; rw [above_irrefl ha] at h; cases h
theorem aboves_cons_eq {a : Tm} {la lb : List Tm} : aboves (a :: la) (a :: lb) = aboves la lb := by simp [aboves, Tm.same_refl]
theorem aboves_cons_ne {a b : Tm} {la lb : List Tm} (h : a ≠ b) : aboves (a :: la) (b :: lb) = above a b := by simp [aboves, same_false h]

theorem aboves_trans : ∀ {la lb lc : List Tm}, (∀ a ∈ la, ∀ b c : Tm, b.okv = true → c.okv = true → above a b = true → above b c = true → above a c = true) → Tm.okvs la = true → Tm.okvs lb = true → Tm.okvs lc = true →
    aboves la lb = true → aboves lb lc = true → aboves la lc = true
  | [], _, _, _, _, _, _, h, _ => by simp [aboves] at h
  | _ :: _, [], _, _, _, _, _, h, _ => by simp [aboves] at h
  | _ :: _, _ :: _, [], _, _, _, _, _, h => by simp [aboves] at h
  | a :: la, b :: lb, c :: lc, ih, ha, hb, hc, h1, h2 => by
    simp only [Tm.okvs, Bool.and_eq_true] at ha hb hc
    rcases Classical.em (a = b) with rfl | hab
    · rcases Classical.em (a = c) with rfl | hac
      · rw [aboves_cons_eq] at h1 h2 ⊢
        exact aboves_trans (fun x hx => ih x (by simp [hx])) ha.2 hb.2 hc.2 h1 h2
      · rw [aboves_cons_ne hac] at h2 ⊢; exact h2
    · rw [aboves_cons_ne hab] at h1
      rcases Classical.em (b = c) with rfl | hbc
      · rw [aboves_cons_ne hab]; exact h1
      · rw [aboves_cons_ne hbc] at h2
        have h3 := ih a (by simp) b c hb.1 hc.1 h1 h2
        rw [aboves_cons_ne (above_ne ha.1 h3)]; exact h3

theorem above_trans : ∀ a : Tm, a.okv = true → ∀ b c : Tm, b.okv = true → c.okv = true → above a b = true → above b c = true → above a c = true := by
  refine Tm.ind ?_
  intro v n l ih ha b c hb hc h1 h2
  have g1 := (above_iff _ _ hb).1 h1
  have g2 := (above_iff _ _ hc).1 h2
  obtain ⟨e1, t1, c1⟩ := g1
  obtain ⟨e2, t2, c2⟩ := g2
  refine (above_iff _ _ hc).2 ⟨e1, fun x => Nat.le_trans (t2 x) (t1 x), ?_⟩
  simp only at e1
  subst e1
  rcases c1 with c1 | ⟨c1, c1v, c1⟩
  · rcases c2 with c2 | ⟨c2, _⟩ <;> left <;> omega
  · rcases c2 with c2 | ⟨c2, c2v, c2⟩
    · left; omega
    · right
      refine ⟨by omega, c2v, ?_⟩
      rcases c1 with c1 | ⟨c1, c1'⟩
      · rcases c2 with c2 | ⟨c2, _⟩ <;> left <;> simp only at * <;> omega
      · rcases c2 with c2 | ⟨c2, c2'⟩
        · left; simp only at *; omega
        · right
          refine ⟨by simp only at *; omega, ?_⟩
          obtain ⟨vb, nb, lb⟩ := b
          obtain ⟨vc, nc, lc⟩ := c
          simp only at c1v c2v
          subst c1v c2v
          simp only [Tm.okv] at ha hb hc
          exact aboves_trans (fun a hal b c hb hc => ih a hal ((Tm.okvs_iff l).1 ha a hal) b c hb hc) ha hb hc c1' c2'

theorem above_asymm {a b : Tm} (ha : a.okv = true) (hb : b.okv = true) (h : above a b = true) : above b a = false := by
  cases h' : above b a
  · rfl
  · have := above_trans a ha b a hb ha h h'
    rw [above_irrefl ha] at this; cases this

theorem compare_flip {a b : Tm} (ha : a.okv = true) (hb : b.okv = true) : compare b a = if compare a b = 1 then 3 else if compare a b = 3 then 1 else compare a b := by
  rcases Classical.em (a = b) with rfl | hab
  · simp [compare, Tm.same_refl]
  · simp only [compare, same_false hab, same_false (Ne.symm hab), Bool.false_eq_true, if_false]
    cases h1 : above a b
    · cases h2 : above b a <;> simp
    · rw [above_asymm ha hb h1]; simp
theorem compare_more {a b : Tm} (ha : a.okv = true) : compare a b = 3 ↔ above a b = true := by
  unfold compare
  constructor
  · intro h
    split at h
    · cases h
    · split at h
      · assumption
      · split at h <;> cases h
  · intro h
    rw [same_false (above_ne ha h), h]; simp
theorem vars_nil (x : Int) : ∀ t : Tm, t.okv = true → vars [] t = [] → times x t = 0 := fun t ht h => by
  rcases Nat.eq_zero_or_pos (times x t) with h0 | h0
  · exact h0
  · have := (times_mem x t [] ht (by omega)).1
    rw [h] at this; cases this
end Go.Proofs.YtmanhdacnkpclaaGreatDoor

/- The order, plainly: whatever variables are bound to, and within others. -/
namespace Go.Proofs.YtmanhdacnkpclaaGreatDoor
set_option linter.unusedVariables false
set_option linter.unusedSimpArgs false

mutual
theorem vars_nodup : ∀ (t : Tm) (l : List Int), l.Nodup → (vars l t).Nodup
  | ⟨true, n, r⟩, l, h => by
    simp only [vars]
    split
    · exact h
    · rename_i hn
      rw [List.nodup_append]
      refine ⟨h, by simp, fun a ha b hb => ?_⟩
      simp only [List.mem_singleton] at hb
      subst hb
      exact fun e => hn (e ▸ ha)
  | ⟨false, n, r⟩, l, h => by simp only [vars]; exact varss_nodup r l h
theorem varss_nodup : ∀ (r : List Tm) (l : List Int), l.Nodup → (varss l r).Nodup
  | [], l, h => h
  | a :: r, l, h => by simp only [varss]; exact varss_nodup r _ (vars_nodup a l h)
end
/-- what a variable becomes -/
def appV (s : List Pr) (n : Int) : Tm := app s ⟨true, n, []⟩
theorem findS_mem : ∀ {s : List Pr} {n : Int} {u : Tm}, findS s n = some u → ∃ p ∈ s, p.1 = n ∧ p.2 = u
  | [], _, _, h => by simp [findS] at h
  | p :: s, n, u, h => by
    simp only [findS] at h
    split at h
    · rename_i h1; injection h with h; exact ⟨p, by simp, h1, h⟩
    · obtain ⟨q, hq, h1, h2⟩ := findS_mem h; exact ⟨q, by simp [hq], h1, h2⟩
/-- a term with another one at a place; as it is, if there is none -/
def put : Tm → List Int → Tm → Tm
  | _, [], u => u
  | ⟨v, n, l⟩, i :: p, u => if i < 0 ∨ (l.length : Int) ≤ i then ⟨v, n, l⟩ else ⟨v, n, l.set i.toNat (put (l.getD i.toNat ⟨false, 0, []⟩) p u)⟩

theorem okvs_at {l : List Tm} {k : Nat} {x : Tm} (h : Tm.okvs l = true) (hx : l[k]? = some x) : x.okv = true := (Tm.okvs_iff l).1 h x (List.mem_of_getElem? hx)
end Go.Proofs.YtmanhdacnkpclaaGreatDoor

/- Bindings that make two terms the same, plainly: what is found does, and no more than it must. -/
namespace Go.Proofs.YtmanhdacnkpclaaGreatDoor
set_option linter.unusedVariables false
set_option linter.unusedSimpArgs false

theorem app_var (s : List Pr) (n : Int) (l : List Tm) : app s ⟨true, n, l⟩ = match findS s n with | some u => u | none => ⟨true, n, l⟩ := by
  simp only [app, if_true]
  try (cases findS s n <;> rfl)
theorem app_sym (s : List Pr) (n : Int) (l : List Tm) : app s ⟨false, n, l⟩ = ⟨false, n, l.map (app s)⟩ := by simp [app, apps_eq]
/-- bindings, and one more -/
def bound (s : List Pr) (v : Int) (t : Tm) : List Pr := s.map (fun p => (p.1, app [(v, t)] p.2)) ++ [(v, t)]
theorem timess_pos {v : Int} : ∀ {l : List Tm}, timess v l ≠ 0 → ∃ a ∈ l, times v a ≠ 0
  | [], h => by simp [timess] at h
  | a :: l, h => by
    rcases Nat.eq_zero_or_pos (times v a) with h0 | h0
    · obtain ⟨b, hb, h⟩ := timess_pos (l := l) (v := v) (by simp only [timess] at h; omega)
      exact ⟨b, by simp [hb], h⟩
    · exact ⟨a, by simp, by omega⟩
theorem timess_zero {v : Int} : ∀ {l : List Tm}, timess v l = 0 ↔ ∀ a ∈ l, times v a = 0
  | [] => by simp [timess]
  | a :: l => by simp [timess, timess_zero (l := l)]
theorem times_sub {x : Int} {n : Int} {l : List Tm} {a : Tm} (ha : a ∈ l) (h : times x ⟨false, n, l⟩ = 0) : times x a = 0 := by
  simp only [times, Bool.false_and, Bool.false_eq_true, if_false, Nat.zero_add] at h
  exact timess_zero.1 h a ha

/-- one step: none: it fails; else what is bound, and what is left -/
def ustep (s : List Pr) (a b : Tm) (todo : List (Tm × Tm)) : Option (List Pr × List (Tm × Tm)) :=
  let x := app s a
  let y := app s b
  if x.same y then some (s, todo)
  else if x.var then (if times x.n y ≠ 0 then none else some (bound s x.n y, todo))
  else if y.var then (if times y.n x ≠ 0 then none else some (bound s y.n x, todo))
  else if x.n ≠ y.n ∨ x.args.length ≠ y.args.length then none
  else some (s, x.args.zip y.args ++ todo)
def unifyF : Nat → List Pr → List (Tm × Tm) → Option (List Pr)
  | _, s, [] => some s
  | 0, _, _ :: _ => none
  | f + 1, s, (a, b) :: todo => match ustep s a b todo with
    | none => none
    | some (s', todo') => unifyF f s' todo'

end Go.Proofs.YtmanhdacnkpclaaGreatDoor

/- Bindings that make two terms the same, plainly: it ends, and nothing grows too much. -/
namespace Go.Proofs.YtmanhdacnkpclaaGreatDoor
set_option linter.unusedVariables false
set_option linter.unusedSimpArgs false

/-- how many of 0 .. k-1 -/
def cnt (p : Nat → Bool) : Nat → Nat
  | 0 => 0
  | k + 1 => (if p k then 1 else 0) + cnt p k
/-- variables of a term are few -/
def few (t : Tm) : Prop := ∀ v, times v t ≠ 0 → 0 ≤ v ∧ v ≤ 9
/-- Unify -/
def unify (a b : Tm) : Option (List Pr) := unifyF 10000000000000 [] [(a, b)]
end Go.Proofs.YtmanhdacnkpclaaGreatDoor

/- Bindings by which a pattern is a term, plainly. -/
namespace Go.Proofs.YtmanhdacnkpclaaGreatDoor
set_option linter.unusedVariables false
set_option linter.unusedSimpArgs false

/-- all that s binds, s' does so -/
def ext (s s' : List Pr) : Prop := ∀ v u, findS s v = some u → findS s' v = some u
/-- what s binds, 'by' does so -/
def within (s by_ : List Pr) : Prop := ∀ v u, findS s v = some u → appV by_ v = u
end Go.Proofs.YtmanhdacnkpclaaGreatDoor
