/- Bindings, plain. -/
import Derived.Test.YtmanhdacnkpclaaGreatzh01
import Derived.Test.YtmanhdacnkpclaaGreatzh02
/- Bindings, plain. -/
namespace Go.Proofs.YtmanhdacnkpclaaGreat
set_option linter.unusedVariables false
set_option linter.unusedSimpArgs false
def findS : List Pr → Int → Option Tm
  | [], _ => none
  | p :: s, v => if p.1 = v then some p.2 else findS s v
mutual
def app (s : List Pr) : Tm → Tm
  | ⟨v, n, l⟩ => if v then (match findS s n with | some u => u | none => ⟨v, n, l⟩) else ⟨false, n, apps s l⟩
def apps (s : List Pr) : List Tm → List Tm
  | [] => []
  | a :: l => app s a :: apps s l
end
theorem apps_eq (s : List Pr) : ∀ l, apps s l = l.map (app s)
  | [] => rfl
  | a :: l => by simp [apps, apps_eq s l]
theorem findS_take {s : List Pr} {v : Int} : ∀ (k : Nat), (∀ j p, j < k → s[j]? = some p → p.1 ≠ v) → findS s v = findS (s.drop k) v
  | 0, _ => by simp
  | k + 1, h => by
    rw [findS_take k fun j p hj => h j p (by omega)]
    cases hk : s[k]? with
    | none =>
      have : s.length ≤ k := by simpa using hk
      rw [List.drop_eq_nil_of_le this, List.drop_eq_nil_of_le (Nat.le_succ_of_le this)]
    | some p =>
      have hlt : k < s.length := (List.getElem?_eq_some_iff.1 hk).1
      have hpk : s[k] = p := (List.getElem?_eq_some_iff.1 hk).2
      rw [List.drop_eq_getElem_cons hlt]
      simp only [findS]
      rw [hpk, if_neg (h k p (by omega) hk)]
theorem findS_at {s : List Pr} {v : Int} {k : Nat} {p : Pr} (h : ∀ j p, j < k → s[j]? = some p → p.1 ≠ v) (hk : s[k]? = some p) (hp : p.1 = v) : findS s v = some p.2 := by
  rw [findS_take k h]
  have hlt : k < s.length := (List.getElem?_eq_some_iff.1 hk).1
  have hpk : s[k] = p := (List.getElem?_eq_some_iff.1 hk).2
  rw [List.drop_eq_getElem_cons hlt]
  simp only [findS]
  rw [hpk, if_pos hp]
theorem findS_no {s : List Pr} {v : Int} {k : Nat} (h : ∀ j p, j < k → s[j]? = some p → p.1 ≠ v) (hk : s.length ≤ k) : findS s v = none := by
  rw [findS_take k h, List.drop_eq_nil_of_le hk]; rfl
theorem upto_succ {α : Type} {s : List α} {k : Nat} {p : α} {R : α → Prop} (h : ∀ j x, j < k → s[j]? = some x → R x) (hk : s[k]? = some p) (hp : R p) : ∀ j x, j < k + 1 → s[j]? = some x → R x := fun j x hj hx => by
  rcases Nat.lt_or_ge j k with h1 | h1
  · exact h j x h1 hx
  · have : j = k := by omega
    subst this; rw [hk] at hx; injection hx with hx; subst hx; exact hp
theorem get_of_lt {α : Type} {s : List α} {k : Nat} (h : k < s.length) : ∃ x, s[k]? = some x := ⟨_, List.getElem?_eq_getElem h⟩
theorem snoc {α β : Type} (f : α → β) {l : List α} {k : Nat} {x : α} (h : l[k]? = some x) : (l.take k).map f ++ [f x] = (l.take (k + 1)).map f := by rw [List.take_add_one, h]; simp
theorem any_upto {α : Type} {l : List α} {R : α → Prop} (h : ∀ j x, j < l.length → l[j]? = some x → R x) : ∀ x ∈ l, R x := fun x hx => by
  obtain ⟨j, hj, e⟩ := List.getElem_of_mem hx
  exact h j x hj (by rw [List.getElem?_eq_getElem hj, e])
theorem upto_succI {α : Type} {s : List α} {k : Nat} {p : α} {R : Nat → α → Prop} (h : ∀ j x, j < k → s[j]? = some x → R j x) (hk : s[k]? = some p) (hp : R k p) : ∀ j x, j < k + 1 → s[j]? = some x → R j x := fun j x hj hx => by
  rcases Nat.lt_or_ge j k with h1 | h1
  · exact h j x h1 hx
  · have : j = k := by omega
    subst this; rw [hk] at hx; injection hx with hx; subst hx; exact hp
end Go.Proofs.YtmanhdacnkpclaaGreat
/- What the index is, plainly: marks, keys, places. -/
namespace Go.Proofs.YtmanhdacnkpclaaGreat
set_option linter.unusedVariables false
set_option linter.unusedSimpArgs false
open Go.RowKit
def mark : Tm → List Int → Int
  | ⟨v, n, _⟩, [] => if v then 0 else wrap64 (n + 1)
  | ⟨v, _, l⟩, i :: p => if v then -1 else if (l.length : Int) ≤ i then -2 else mark (l.getD i.toNat ⟨false, 0, []⟩) p
def mayU (x y : Int) : Bool := decide (x = y ∨ x = -1 ∨ y = -1 ∨ (x = 0 ∧ 0 < y) ∨ (y = 0 ∧ 0 < x))
mutual
def places : Tm → List (List Int)
  | ⟨v, _, l⟩ => if v then [] else [] :: placesL 0 l
def placesL : Nat → List Tm → List (List Int)
  | _, [] => []
  | i, a :: l => (places a).map (fun p => (i : Int) :: p) ++ placesL (i + 1) l
end
def at_ : Tm → List Int → Tm × Bool
  | t, [] => (t, true)
  | ⟨_, _, l⟩, i :: p => if i < 0 ∨ (l.length : Int) ≤ i then (⟨false, 0, []⟩, false) else at_ (l.getD i.toNat ⟨false, 0, []⟩) p
theorem placesL_append : ∀ (l l' : List Tm) (i : Nat), placesL i (l ++ l') = placesL i l ++ placesL (i + l.length) l'
  | [], l', i => by simp [placesL]
  | a :: l, l', i => by rw [List.cons_append, placesL, placesL, placesL_append l l' (i + 1), List.append_assoc, List.length_cons, Nat.add_right_comm, Nat.add_assoc]
theorem placesL_snoc {l : List Tm} {k : Nat} {x : Tm} (h : l[k]? = some x) : placesL 0 (l.take (k + 1)) = placesL 0 (l.take k) ++ (places x).map (fun p => (k : Int) :: p) := by
  have hk : k < l.length := (List.getElem?_eq_some_iff.1 h).1
  rw [List.take_add_one, h, placesL_append]
  simp [placesL, Nat.min_eq_left (Nat.le_of_lt hk)]
theorem getD_of {l : List Tm} {k : Nat} {x : Tm} (h : l[k]? = some x) (d : Tm) : l.getD k d = x := by simp [List.getD, h]
theorem drop_of {α : Type} {l : List α} {k : Nat} {x : α} (h : l[k]? = some x) : l.drop k = x :: l.drop (k + 1) := by
  obtain ⟨hk, e⟩ := List.getElem?_eq_some_iff.1 h
  rw [← e]; exact List.drop_eq_getElem_cons hk
end Go.Proofs.YtmanhdacnkpclaaGreat
/- What the index is, plainly: places' numbers, what is found. -/
namespace Go.Proofs.YtmanhdacnkpclaaGreat
set_option linter.unusedVariables false
set_option linter.unusedSimpArgs false
open Go.RowKit
mutual
theorem places_len : ∀ t : Tm, (places t).length ≤ t.size
  | ⟨v, n, l⟩ => by
    have := placesL_len l 0
    cases v <;> simp [places, Tm.size] <;> omega
theorem placesL_len : ∀ (l : List Tm) (i : Nat), (placesL i l).length ≤ Tm.sizes l
  | [], i => by simp [placesL]
  | a :: l, i => by
    have := places_len a
    have := placesL_len l (i + 1)
    simp [placesL, Tm.sizes]; omega
end
mutual
theorem places_deep : ∀ t : Tm, ∀ p ∈ places t, p.length ≤ t.size
  | ⟨v, n, l⟩ => fun p hp => by
    have := placesL_deep l 0
    cases v
    · simp only [places, Bool.false_eq_true, if_false, List.mem_cons] at hp
      rcases hp with rfl | hp
      · simp
      · have := this p hp; simp [Tm.size]; omega
    · simp [places] at hp
theorem placesL_deep : ∀ (l : List Tm) (i : Nat), ∀ p ∈ placesL i l, p.length ≤ 1 + Tm.sizes l
  | [], i => fun p hp => by simp [placesL] at hp
  | a :: l, i => fun p hp => by
    have h1 := places_deep a
    have h2 := placesL_deep l (i + 1)
    simp only [placesL, List.mem_append, List.mem_map] at hp
    rcases hp with ⟨q, hq, rfl⟩ | hp
    · have := h1 q hq; simp [Tm.sizes]; omega
    · have := h2 p hp; simp [Tm.sizes]; omega
end
def mayK (x t : Tm) : Bool := mayU (mark x []) (mark t []) && (mayU (mark x [0]) (mark t [0]) && mayU (mark x [1]) (mark t [1]))
def finds (t : Tm) : Nat → List Tm → List Int
  | _, [] => []
  | i, x :: l => (if mayK x t then [(i : Int)] else []) ++ finds t (i + 1) l
end Go.Proofs.YtmanhdacnkpclaaGreat
/- Right terms are small. -/
namespace Go.Proofs.YtmanhdacnkpclaaGreat
set_option linter.unusedVariables false
set_option linter.unusedSimpArgs false
open Go.RowKit
theorem any_at {l : List Int} {p : Int → Bool} (h : l.any p = false) (k : Nat) (x : Int) (hx : l[k]? = some x) : p x = false := by
  rw [List.any_eq_false] at h
  simpa using h x (mem_of_get hx)
mutual
theorem okv_of (s : List Int) : ∀ (t : Tm) (d : Int), walk s t d = 0 → t.okv = true
  | ⟨true, n, l⟩, d, h => by
    simp only [walk] at h
    split at h
    · cases h
    · simp only [if_true] at h
      split at h
      · cases h
      · rename_i h1
        split at h
        · rename_i h2
          have : l = [] := List.eq_nil_of_length_eq_zero h2
          subst this
          simp [Tm.okv]; omega
        · cases h
  | ⟨false, n, l⟩, d, h => by
    simp only [walk] at h
    split at h
    · cases h
    · simp only [Bool.false_eq_true, if_false] at h
      split at h
      · cases h
      · split at h
        · simp only [Tm.okv]; exact okvs_of s l _ h
        · cases h
theorem okvs_of (s : List Int) : ∀ (l : List Tm) (d : Int), walks s l d = 0 → Tm.okvs l = true
  | [], _, _ => rfl
  | a :: l, d, h => by
    simp only [walks] at h
    split at h
    · rename_i h1; simp only [Tm.okvs, okv_of s a d h1, okvs_of s l d h, Bool.and_self]
    · rename_i h1; exact absurd h h1
end
mutual
theorem size_of (s : List Int) (hs : wrongSig s = 0) : ∀ (t : Tm) (d : Int) (k : Nat), walk s t d = 0 → 13 ≤ d + k → t.size + 1 ≤ 2 ^ k
  | ⟨v, n, l⟩, d, k, h, hk => by
    have hd : d ≤ 12 := by
      rcases Decidable.em (12 < d) with h1 | h1
      · simp [walk, h1] at h
      · omega
    obtain ⟨k, rfl⟩ : ∃ m, k = m + 1 := ⟨k - 1, by omega⟩
    simp only [walk, if_neg (show ¬ 12 < d by omega)] at h
    have hl : l.length ≤ 2 ∧ (walks s l (d + 1) = 0 ∨ l = []) := by
      cases v
      · simp only [Bool.false_eq_true, if_false] at h
        split at h
        · cases h
        · split at h
          · rename_i h1 h2
            refine ⟨?_, .inl h⟩
            have hn : n.toNat < s.length := by omega
            have h3 : s.getD n.toNat 0 = s[n.toNat] := by simp [List.getD, List.getElem?_eq_getElem hn]
            have h4 : ¬ (s[n.toNat] < 0 ∨ 2 < s[n.toNat]) := by
              unfold wrongSig at hs
              split at hs
              · cases hs
              · split at hs
                · cases hs
                · rename_i h5
                  simp only [Bool.not_eq_true] at h5
                  have := any_at h5 n.toNat _ (List.getElem?_eq_getElem hn)
                  simpa using this
            rw [h3] at h2
            omega
          · cases h
      · simp only [if_true] at h
        split at h
        · cases h
        · split at h
          · rename_i h2
            have : l = [] := List.eq_nil_of_length_eq_zero h2
            subst this
            exact ⟨by simp, .inr rfl⟩
          · cases h
    have hp : 1 ≤ 2 ^ k := Nat.one_le_two_pow
    have h2k : 2 ^ (k + 1) = 2 ^ k + 2 ^ k := by rw [Nat.pow_succ]; omega
    simp only [Tm.size]
    rcases hl.2 with h1 | rfl
    · have := sizes_of s hs l (d + 1) k h1 (by omega)
      have h3 : l.length * 2 ^ k ≤ 2 * 2 ^ k := Nat.mul_le_mul_right _ hl.1
      rcases Nat.eq_zero_or_pos l.length with h0 | h0
      · have : l = [] := List.eq_nil_of_length_eq_zero h0
        subst this
        simp [Tm.sizes]; omega
      · rcases (show l.length = 1 ∨ l.length = 2 by omega) with h4 | h4 <;> rw [h4] at this <;> omega
    · simp [Tm.sizes]; omega
theorem sizes_of (s : List Int) (hs : wrongSig s = 0) : ∀ (l : List Tm) (d : Int) (k : Nat), walks s l d = 0 → 13 ≤ d + k → Tm.sizes l + l.length ≤ l.length * 2 ^ k
  | [], _, _, _, _ => by simp [Tm.sizes]
  | a :: l, d, k, h, hk => by
    simp only [walks] at h
    split at h
    · rename_i h1
      have e1 := size_of s hs a d k h1 hk
      have e2 := sizes_of s hs l d k h hk
      simp only [Tm.sizes, List.length_cons, Nat.add_mul]
      omega
    · rename_i h1; exact absurd h h1
end
theorem rightT {s : List Int} {t : Tm} (hs : wrongSig s = 0) (h : wrong s t = 0) : t.size ≤ 12 ∧ t.okv = true ∧ walk s t 1 = 0 := by
  unfold wrong at h
  split at h
  · rename_i h1
    have h2 := size_of s hs t 1 12 h1 (by omega)
    have h3 : wrap64 (t.size : Int) = t.size := IntWalk.wrap64_in _ ⟨by omega, by omega⟩
    split at h
    · cases h
    · rename_i h4
      rw [h3] at h4
      exact ⟨by omega, okv_of s t 1 h1, h1⟩
  · rename_i h1; exact absurd h h1
end Go.Proofs.YtmanhdacnkpclaaGreat
/- The order, plainly: one way alone, whatever variables are bound to, and within others. -/
namespace Go.Proofs.YtmanhdacnkpclaaGreat
set_option linter.unusedVariables false
set_option linter.unusedSimpArgs false
mutual
def Tm.wf (s : List Int) : Tm → Bool
  | ⟨true, n, l⟩ => l.isEmpty && decide (0 ≤ n) && decide (n ≤ 4)
  | ⟨false, n, l⟩ => decide (0 ≤ n) && decide (n < (s.length : Int)) && decide ((l.length : Int) = s.getD n.toNat 0) && Tm.wfs s l
def Tm.wfs (s : List Int) : List Tm → Bool
  | [] => true
  | a :: l => Tm.wf s a && Tm.wfs s l
end
theorem Tm.wfs_iff {s : List Int} : ∀ {l : List Tm}, Tm.wfs s l = true ↔ ∀ t ∈ l, t.wf s = true
  | [] => by simp [Tm.wfs]
  | a :: l => by simp [Tm.wfs, Tm.wfs_iff (l := l)]
mutual
theorem wf_of (s : List Int) : ∀ (t : Tm) (d : Int), walk s t d = 0 → t.wf s = true
  | ⟨true, n, l⟩, d, h => by
    simp only [walk] at h
    split at h
    · cases h
    · simp only [if_true] at h
      split at h
      · cases h
      · split at h
        · rename_i h1 h2
          have : l = [] := List.eq_nil_of_length_eq_zero h2
          subst this
          simp [Tm.wf]; omega
        · cases h
  | ⟨false, n, l⟩, d, h => by
    simp only [walk] at h
    split at h
    · cases h
    · simp only [Bool.false_eq_true, if_false] at h
      split at h
      · cases h
      · split at h
        · rename_i h1 h2
          simp only [Tm.wf, wfs_of s l _ h, Bool.and_true, Bool.and_eq_true, decide_eq_true_eq]
          exact ⟨⟨by omega, by omega⟩, h2⟩
        · cases h
theorem wfs_of (s : List Int) : ∀ (l : List Tm) (d : Int), walks s l d = 0 → Tm.wfs s l = true
  | [], _, _ => rfl
  | a :: l, d, h => by
    simp only [walks] at h
    split at h
    · rename_i h1; simp only [Tm.wfs, wf_of s a d h1, wfs_of s l d h, Bool.and_self]
    · rename_i h1; exact absurd h h1
end
mutual
theorem Tm.wf_okv {s : List Int} : ∀ (t : Tm), t.wf s = true → t.okv = true
  | ⟨true, n, l⟩, h => by
    simp only [Tm.wf, Tm.okv, Bool.and_eq_true, decide_eq_true_eq] at h ⊢
    exact ⟨⟨h.1.1, h.1.2⟩, by omega⟩
  | ⟨false, n, l⟩, h => by
    simp only [Tm.wf, Tm.okv, Bool.and_eq_true] at h ⊢
    exact Tm.wfs_okvs l h.2
theorem Tm.wfs_okvs {s : List Int} : ∀ (l : List Tm), Tm.wfs s l = true → Tm.okvs l = true
  | [], _ => rfl
  | a :: l, h => by
    simp only [Tm.wfs, Tm.okvs, Bool.and_eq_true] at h ⊢
    exact ⟨Tm.wf_okv a h.1, Tm.wfs_okvs l h.2⟩
end
theorem above_iff (a b : Tm) (hb : b.okv = true) : above a b = true ↔ a.var = false ∧ (∀ x, times x b ≤ times x a) ∧
    (b.size < a.size ∨ a.size = b.size ∧ b.var = false ∧ (b.n < a.n ∨ a.n = b.n ∧ aboves a.args b.args = true)) := by
  obtain ⟨va, na, la⟩ := a
  have ha := any_times (T := ⟨va, na, la⟩) hb
  simp only [above]
  cases va
  · simp only [Bool.false_eq_true, if_false, true_and]
    split
    · rename_i h
      obtain ⟨x, hx⟩ := ha.1 h
      constructor
      · intro h; cases h
      · rintro ⟨h, _⟩; have := h x; omega
    · rename_i h
      have hn : ∀ x, times x b ≤ times x ⟨false, na, la⟩ := fun x => by
        rcases Nat.lt_or_ge (times x ⟨false, na, la⟩) (times x b) with h1 | h1
        · exact absurd (ha.2 ⟨x, h1⟩) h
        · exact h1
      simp only [hn, implies_true, true_and]
      split
      · rename_i he
        rw [he]
        simp only [Nat.lt_irrefl, false_or, true_and]
        cases hv : b.var
        · simp only [Bool.false_eq_true, if_false, true_and]
          split
          · rename_i h1
            constructor
            · intro h; cases h
            · intro h; omega
          · split
            · rename_i h2; simp [h2]
            · have h3 : na = b.n := by omega
              subst h3; simp
        · simp
      · rename_i he
        rw [decide_eq_true_eq]
        constructor
        · exact fun h => .inl h
        · rintro (h | ⟨h, _⟩)
          · exact h
          · exact absurd h he
  · simp
theorem aboves_refl (l : List Tm) : aboves l l = false := aboves_none (k := l.length) rfl (.inl (Nat.le_refl _))
theorem above_irrefl {a : Tm} (ha : a.okv = true) : above a a = false := by
  cases h : above a a
  · rfl
  · obtain ⟨_, _, h1 | ⟨_, _, h1 | ⟨_, h1⟩⟩⟩ := (above_iff a a ha).1 h
    · omega
    · omega
    · rw [aboves_refl] at h1; cases h1
theorem same_false {a b : Tm} (h : a ≠ b) : a.same b = false := by
  cases e : a.same b
  · rfl
  · exact absurd ((Tm.same_iff a b).1 e) h
theorem above_ne {a b : Tm} (ha : a.okv = true) (h : above a b = true) : a ≠ b := fun e => by
  subst e; rw [above_irrefl ha] at h; cases h
theorem aboves_cons_eq {a : Tm} {la lb : List Tm} : aboves (a :: la) (a :: lb) = aboves la lb := by simp [aboves, Tm.same_refl]
theorem aboves_cons_ne {a b : Tm} {la lb : List Tm} (h : a ≠ b) : aboves (a :: la) (b :: lb) = above a b := by simp [aboves, same_false h]
theorem aboves_trans : ∀ {la lb lc : List Tm}, (∀ a ∈ la, ∀ b c : Tm, b.okv = true → c.okv = true → above a b = true → above b c = true → above a c = true) → Tm.okvs la = true → Tm.okvs lb = true → Tm.okvs lc = true →
    aboves la lb = true → aboves lb lc = true → aboves la lc = true
  | [], _, _, _, _, _, _, h, _ => by simp [aboves] at h
  | _ :: _, [], _, _, _, _, _, h, _ => by simp [aboves] at h
  | _ :: _, _ :: _, [], _, _, _, _, _, h => by simp [aboves] at h
  | a :: la, b :: lb, c :: lc, ih, ha, hb, hc, h1, h2 => by
    simp only [Tm.okvs, Bool.and_eq_true] at ha hb hc
    rcases Classical.em (a = b) with rfl | hab
    · rcases Classical.em (a = c) with rfl | hac
      · rw [aboves_cons_eq] at h1 h2 ⊢
        exact aboves_trans (fun x hx => ih x (by simp [hx])) ha.2 hb.2 hc.2 h1 h2
      · rw [aboves_cons_ne hac] at h2 ⊢; exact h2
    · rw [aboves_cons_ne hab] at h1
      rcases Classical.em (b = c) with rfl | hbc
      · rw [aboves_cons_ne hab]; exact h1
      · rw [aboves_cons_ne hbc] at h2
        have h3 := ih a (by simp) b c hb.1 hc.1 h1 h2
        rw [aboves_cons_ne (above_ne ha.1 h3)]; exact h3
theorem above_trans : ∀ a : Tm, a.okv = true → ∀ b c : Tm, b.okv = true → c.okv = true → above a b = true → above b c = true → above a c = true := by
  refine Tm.ind ?_
  intro v n l ih ha b c hb hc h1 h2
  have g1 := (above_iff _ _ hb).1 h1
  have g2 := (above_iff _ _ hc).1 h2
  obtain ⟨e1, t1, c1⟩ := g1
  obtain ⟨e2, t2, c2⟩ := g2
  refine (above_iff _ _ hc).2 ⟨e1, fun x => Nat.le_trans (t2 x) (t1 x), ?_⟩
  simp only at e1
  subst e1
  rcases c1 with c1 | ⟨c1, c1v, c1⟩
  · rcases c2 with c2 | ⟨c2, _⟩ <;> left <;> omega
  · rcases c2 with c2 | ⟨c2, c2v, c2⟩
    · left; omega
    · right
      refine ⟨by omega, c2v, ?_⟩
      rcases c1 with c1 | ⟨c1, c1'⟩
      · rcases c2 with c2 | ⟨c2, _⟩ <;> left <;> simp only at * <;> omega
      · rcases c2 with c2 | ⟨c2, c2'⟩
        · left; simp only at *; omega
        · right
          refine ⟨by simp only at *; omega, ?_⟩
          obtain ⟨vb, nb, lb⟩ := b
          obtain ⟨vc, nc, lc⟩ := c
          simp only at c1v c2v
          subst c1v c2v
          simp only [Tm.okv] at ha hb hc
          exact aboves_trans (fun a hal b c hb hc => ih a hal ((Tm.okvs_iff l).1 ha a hal) b c hb hc) ha hb hc c1' c2'
theorem above_asymm {a b : Tm} (ha : a.okv = true) (hb : b.okv = true) (h : above a b = true) : above b a = false := by
  cases h' : above b a
  · rfl
  · have := above_trans a ha b a hb ha h h'
    rw [above_irrefl ha] at this; cases this
theorem compare_flip {a b : Tm} (ha : a.okv = true) (hb : b.okv = true) : compare b a = if compare a b = 1 then 3 else if compare a b = 3 then 1 else compare a b := by
  rcases Classical.em (a = b) with rfl | hab
  · simp [compare, Tm.same_refl]
  · simp only [compare, same_false hab, same_false (Ne.symm hab), Bool.false_eq_true, if_false]
    cases h1 : above a b
    · cases h2 : above b a <;> simp
    · rw [above_asymm ha hb h1]; simp
theorem compare_more {a b : Tm} (ha : a.okv = true) : compare a b = 3 ↔ above a b = true := by
  unfold compare
  constructor
  · intro h
    split at h
    · cases h
    · split at h
      · assumption
      · split at h <;> cases h
  · intro h
    rw [same_false (above_ne ha h), h]; simp
theorem aboves_total {s : List Int} : ∀ {la lb : List Tm}, (∀ a ∈ la, ∀ b, a.wf s = true → b.wf s = true → (∀ x, times x a = 0) → (∀ x, times x b = 0) → a ≠ b → above a b = true ∨ above b a = true) →
    la.length = lb.length → Tm.wfs s la = true → Tm.wfs s lb = true → (∀ x, timess x la = 0) → (∀ x, timess x lb = 0) → la ≠ lb → aboves la lb = true ∨ aboves lb la = true
  | [], [], _, _, _, _, _, _, h => absurd rfl h
  | [], _ :: _, _, h, _, _, _, _, _ => by simp at h
  | _ :: _, [], _, h, _, _, _, _, _ => by simp at h
  | a :: la, b :: lb, ih, hl, ha, hb, ga, gb, hne => by
    simp only [Tm.wfs, Bool.and_eq_true] at ha hb
    simp only [timess, Nat.add_eq_zero_iff] at ga gb
    rcases Classical.em (a = b) with rfl | hab
    · rw [aboves_cons_eq, aboves_cons_eq]
      exact aboves_total (fun x hx => ih x (by simp [hx])) (by simpa using hl) ha.2 hb.2 (fun x => (ga x).2) (fun x => (gb x).2) (fun e => hne (by rw [e]))
    · rw [aboves_cons_ne hab, aboves_cons_ne (Ne.symm hab)]
      exact ih a (by simp) b ha.1 hb.1 (fun x => (ga x).1) (fun x => (gb x).1) hab
theorem above_total {s : List Int} : ∀ a b : Tm, a.wf s = true → b.wf s = true → (∀ x, times x a = 0) → (∀ x, times x b = 0) → a ≠ b → above a b = true ∨ above b a = true := by
  refine Tm.ind ?_
  rintro va na la ih ⟨vb, nb, lb⟩ ha hb ga gb hne
  have hva : va = false := by
    cases va
    · rfl
    · have := ga na; simp [times] at this
  have hvb : vb = false := by
    cases vb
    · rfl
    · have := gb nb; simp [times] at this
  subst hva hvb
  have ka := Tm.wf_okv _ ha
  have kb := Tm.wf_okv _ hb
  rw [above_iff _ _ kb, above_iff _ _ ka]
  simp only [ga, gb, Nat.le_refl, implies_true, true_and]
  rcases Nat.lt_trichotomy (Tm.size ⟨false, na, la⟩) (Tm.size ⟨false, nb, lb⟩) with h | h | h
  · exact .inr (.inl h)
  · rw [h]
    simp only [Nat.lt_irrefl, false_or, true_and]
    rcases Int.lt_trichotomy na nb with h1 | h1 | h1
    · exact .inr (.inl h1)
    · subst h1
      simp only [Int.lt_irrefl, false_or, true_and]
      simp only [Tm.wf, Bool.and_eq_true, decide_eq_true_eq] at ha hb
      simp only [times, Bool.false_and, Bool.false_eq_true, if_false, Nat.zero_add] at ga gb
      exact aboves_total ih (by omega) ha.2 hb.2 ga gb fun e => hne (by rw [e])
    · exact .inl (.inl h1)
  · exact .inl (.inl h)
theorem vars_nil (x : Int) : ∀ t : Tm, t.okv = true → vars [] t = [] → times x t = 0 := fun t ht h => by
  rcases Nat.eq_zero_or_pos (times x t) with h0 | h0
  · exact h0
  · have := (times_mem x t [] ht (by omega)).1
    rw [h] at this; cases this
end Go.Proofs.YtmanhdacnkpclaaGreat
/- The order, plainly: whatever variables are bound to, and within others. -/
namespace Go.Proofs.YtmanhdacnkpclaaGreat
set_option linter.unusedVariables false
set_option linter.unusedSimpArgs false
mutual
def wsum (f : Int → Nat) : Tm → Nat
  | ⟨v, n, l⟩ => (if v then f n else 0) + wsums f l
def wsums (f : Int → Nat) : List Tm → Nat
  | [] => 0
  | a :: l => wsum f a + wsums f l
end
theorem sum_zero (f : Int → Nat) (n : Int) : ∀ L : List Int, n ∉ L → (L.map fun v => (if n = v then 1 else 0) * f v).sum = 0
  | [], _ => rfl
  | a :: L, h => by
    simp only [List.mem_cons, not_or] at h
    simp [h.1, sum_zero f n L h.2]
theorem sum_one (f : Int → Nat) (n : Int) : ∀ L : List Int, L.Nodup → n ∈ L → (L.map fun v => (if n = v then 1 else 0) * f v).sum = f n
  | [], _, h => by cases h
  | a :: L, hd, h => by
    simp only [List.nodup_cons] at hd
    rcases List.mem_cons.1 h with rfl | h
    · simp [sum_zero f n L hd.1]
    · have : n ≠ a := fun e => hd.1 (e ▸ h)
      simp [this, sum_one f n L hd.2 h]
theorem sum_add (g h : Int → Nat) : ∀ L : List Int, (L.map fun v => g v + h v).sum = (L.map g).sum + (L.map h).sum
  | [] => rfl
  | a :: L => by simp [sum_add g h L]; omega
mutual
theorem wsum_eq (f : Int → Nat) {L : List Int} (hL : L.Nodup) : ∀ t : Tm, t.okv = true → (∀ v, times v t ≠ 0 → v ∈ L) → wsum f t = (L.map fun v => times v t * f v).sum
  | ⟨true, n, l⟩, h, hm => by
    simp only [Tm.okv, Bool.and_eq_true, List.isEmpty_iff] at h
    obtain ⟨⟨rfl, _⟩, _⟩ := h
    have := sum_one f n L hL (hm n (by simp [times]))
    simp only [wsum, wsums, times, timess, Bool.true_and, beq_iff_eq, if_true, Nat.add_zero]
    exact this.symm
  | ⟨false, n, l⟩, h, hm => by
    simp only [Tm.okv] at h
    simp only [times, Bool.false_and, Bool.false_eq_true, if_false, Nat.zero_add] at hm ⊢
    simp only [wsum, Bool.false_eq_true, if_false, Nat.zero_add]
    exact wsums_eq f hL l h hm
theorem wsums_eq (f : Int → Nat) {L : List Int} (hL : L.Nodup) : ∀ l : List Tm, Tm.okvs l = true → (∀ v, timess v l ≠ 0 → v ∈ L) → wsums f l = (L.map fun v => timess v l * f v).sum
  | [], _, _ => by
    have : ∀ L : List Int, (L.map fun v => timess v [] * f v).sum = 0 := by
      intro L; induction L with
      | nil => rfl
      | cons a L ih => rw [List.map_cons, List.sum_cons, ih, timess, Nat.zero_mul]
    simp only [wsums, this]
  | a :: l, h, hm => by
    simp only [Tm.okvs, Bool.and_eq_true] at h
    have h1 := wsum_eq f hL a h.1 fun v hv => hm v (by simp only [timess]; omega)
    have h2 := wsums_eq f hL l h.2 fun v hv => hm v (by simp only [timess]; omega)
    simp only [wsums, timess, h1, h2, Nat.add_mul, sum_add]
end
mutual
theorem vars_nodup : ∀ (t : Tm) (l : List Int), l.Nodup → (vars l t).Nodup
  | ⟨true, n, r⟩, l, h => by
    simp only [vars]
    split
    · exact h
    · rename_i hn
      rw [List.nodup_append]
      refine ⟨h, by simp, fun a ha b hb => ?_⟩
      simp only [List.mem_singleton] at hb
      subst hb
      exact fun e => hn (e ▸ ha)
  | ⟨false, n, r⟩, l, h => by simp only [vars]; exact varss_nodup r l h
theorem varss_nodup : ∀ (r : List Tm) (l : List Int), l.Nodup → (varss l r).Nodup
  | [], l, h => h
  | a :: r, l, h => by simp only [varss]; exact varss_nodup r _ (vars_nodup a l h)
end
theorem sum_le {g h : Int → Nat} : ∀ L : List Int, (∀ v, g v ≤ h v) → (L.map g).sum ≤ (L.map h).sum
  | [], _ => Nat.le_refl _
  | a :: L, hh => by have := sum_le L hh; have := hh a; simp; omega
theorem wsum_mono (f : Int → Nat) {a b : Tm} (ha : a.okv = true) (hb : b.okv = true) (h : ∀ x, times x b ≤ times x a) : wsum f b ≤ wsum f a := by
  have hL : (vars (vars [] a) b).Nodup := vars_nodup b _ (vars_nodup a _ List.nodup_nil)
  rw [wsum_eq f hL a ha fun v hv => vars_mem_old v b _ (times_mem v a [] ha hv).1, wsum_eq f hL b hb fun v hv => (times_mem v b _ hb hv).1]
  exact sum_le _ fun v => Nat.mul_le_mul_right _ (h v)
def appV (s : List Pr) (n : Int) : Tm := app s ⟨true, n, []⟩
theorem size_pos : ∀ t : Tm, 1 ≤ t.size
  | ⟨v, n, l⟩ => by simp [Tm.size]
mutual
theorem app_size (s : List Pr) : ∀ t : Tm, t.okv = true → (app s t).size = t.size + wsum (fun n => (appV s n).size - 1) t
  | ⟨true, n, l⟩, h => by
    simp only [Tm.okv, Bool.and_eq_true, List.isEmpty_iff] at h
    obtain ⟨⟨rfl, _⟩, _⟩ := h
    have := size_pos (app s ⟨true, n, []⟩)
    simp only [wsum, wsums, if_true, appV, Tm.size, Tm.sizes]
    omega
  | ⟨false, n, l⟩, h => by
    simp only [Tm.okv] at h
    have := apps_size s l h
    simp [app, wsum, Tm.size, this]
    omega
theorem apps_size (s : List Pr) : ∀ l : List Tm, Tm.okvs l = true → Tm.sizes (apps s l) = Tm.sizes l + wsums (fun n => (appV s n).size - 1) l
  | [], _ => by simp [apps, Tm.sizes, wsums]
  | a :: l, h => by
    simp only [Tm.okvs, Bool.and_eq_true] at h
    have h1 := app_size s a h.1
    have h2 := apps_size s l h.2
    simp only [apps, Tm.sizes, wsums, h1, h2]
    omega
end
mutual
theorem app_times (s : List Pr) (x : Int) : ∀ t : Tm, t.okv = true → times x (app s t) = wsum (fun n => times x (appV s n)) t
  | ⟨true, n, l⟩, h => by
    simp only [Tm.okv, Bool.and_eq_true, List.isEmpty_iff] at h
    obtain ⟨⟨rfl, _⟩, _⟩ := h
    simp [wsum, wsums, appV]
  | ⟨false, n, l⟩, h => by
    simp only [Tm.okv] at h
    have := apps_times s x l h
    simp [app, wsum, times, this]
theorem apps_times (s : List Pr) (x : Int) : ∀ l : List Tm, Tm.okvs l = true → timess x (apps s l) = wsums (fun n => times x (appV s n)) l
  | [], _ => by simp [apps, timess, wsums]
  | a :: l, h => by
    simp only [Tm.okvs, Bool.and_eq_true] at h
    have h1 := app_times s x a h.1
    have h2 := apps_times s x l h.2
    simp only [apps, timess, wsums, h1, h2]
end
theorem findS_mem : ∀ {s : List Pr} {n : Int} {u : Tm}, findS s n = some u → ∃ p ∈ s, p.1 = n ∧ p.2 = u
  | [], _, _, h => by simp [findS] at h
  | p :: s, n, u, h => by
    simp only [findS] at h
    split at h
    · rename_i h1; injection h with h; exact ⟨p, by simp, h1, h⟩
    · obtain ⟨q, hq, h1, h2⟩ := findS_mem h; exact ⟨q, by simp [hq], h1, h2⟩
mutual
theorem app_okv {s : List Pr} (hs : ∀ p ∈ s, p.2.okv = true) : ∀ t : Tm, t.okv = true → (app s t).okv = true
  | ⟨true, n, l⟩, h => by
    simp only [app, if_true]
    split
    · rename_i u hu
      obtain ⟨p, hp, _, rfl⟩ := findS_mem hu
      exact hs p hp
    · exact h
  | ⟨false, n, l⟩, h => by
    simp only [Tm.okv] at h
    simp only [app, Bool.false_eq_true, if_false, Tm.okv]
    exact apps_okv hs l h
theorem apps_okv {s : List Pr} (hs : ∀ p ∈ s, p.2.okv = true) : ∀ l : List Tm, Tm.okvs l = true → Tm.okvs (apps s l) = true
  | [], _ => rfl
  | a :: l, h => by
    simp only [Tm.okvs, Bool.and_eq_true] at h
    simp only [apps, Tm.okvs, app_okv hs a h.1, apps_okv hs l h.2, Bool.and_self]
end
theorem aboves_app {σ : List Pr} (hσ : ∀ p ∈ σ, p.2.okv = true) : ∀ {la lb : List Tm}, (∀ a ∈ la, ∀ b, a.okv = true → b.okv = true → above a b = true → above (app σ a) (app σ b) = true) →
    Tm.okvs la = true → Tm.okvs lb = true → aboves la lb = true → aboves (apps σ la) (apps σ lb) = true
  | [], _, _, _, _, h => by simp [aboves] at h
  | _ :: _, [], _, _, _, h => by simp [aboves] at h
  | a :: la, b :: lb, ih, ha, hb, h => by
    simp only [Tm.okvs, Bool.and_eq_true] at ha hb
    simp only [apps]
    rcases Classical.em (a = b) with rfl | hab
    · rw [aboves_cons_eq] at h ⊢
      exact aboves_app hσ (fun x hx => ih x (by simp [hx])) ha.2 hb.2 h
    · rw [aboves_cons_ne hab] at h
      have h1 := ih a (by simp) b ha.1 hb.1 h
      rw [aboves_cons_ne (above_ne (app_okv hσ a ha.1) h1)]; exact h1
theorem above_app {σ : List Pr} (hσ : ∀ p ∈ σ, p.2.okv = true) : ∀ a b : Tm, a.okv = true → b.okv = true → above a b = true → above (app σ a) (app σ b) = true := by
  refine Tm.ind ?_
  rintro v n l ih b ha hb h
  have ka := ha
  have kb := hb
  obtain ⟨e, t, c⟩ := (above_iff _ _ kb).1 h
  simp only at e
  subst e
  refine (above_iff _ _ (app_okv hσ b kb)).2 ⟨by simp [app], fun x => ?_, ?_⟩
  · rw [app_times σ x _ ka, app_times σ x b kb]
    exact wsum_mono _ ha hb t
  · rw [app_size σ _ ka, app_size σ b kb]
    have hw := wsum_mono (fun n => (appV σ n).size - 1) ha hb t
    rcases c with c | ⟨c, cv, c⟩
    · left; omega
    · rcases Nat.lt_or_eq_of_le hw with hw | hw
      · left; omega
      · right
        obtain ⟨vb, nb, lb⟩ := b
        simp only at cv
        subst cv
        refine ⟨by omega, by simp [app], ?_⟩
        simp only [app, Bool.false_eq_true, if_false]
        rcases c with c | ⟨c, c'⟩
        · exact .inl c
        · refine .inr ⟨c, ?_⟩
          simp only [Tm.okv] at ha hb
          exact aboves_app hσ (fun a hal b ha hb => ih a hal b ha hb) ha hb c'
def put : Tm → List Int → Tm → Tm
  | _, [], u => u
  | ⟨v, n, l⟩, i :: p, u => if i < 0 ∨ (l.length : Int) ≤ i then ⟨v, n, l⟩ else ⟨v, n, l.set i.toNat (put (l.getD i.toNat ⟨false, 0, []⟩) p u)⟩
theorem placesL_mem {q : List Int} : ∀ {l : List Tm} {i : Nat}, q ∈ placesL i l → ∃ k x p, l[k]? = some x ∧ q = ((i + k : Nat) : Int) :: p ∧ p ∈ places x
  | [], _, h => by simp [placesL] at h
  | a :: l, i, h => by
    simp only [placesL, List.mem_append, List.mem_map] at h
    rcases h with ⟨p, hp, rfl⟩ | h
    · exact ⟨0, a, p, rfl, rfl, hp⟩
    · obtain ⟨k, x, p, h1, h2, h3⟩ := placesL_mem h
      exact ⟨k + 1, x, p, by simpa using h1, by rw [h2]; congr 1; omega, h3⟩
theorem places_cons {v : Bool} {n : Int} {l : List Tm} {q : List Int} (h : q ∈ places ⟨v, n, l⟩) : v = false ∧ (q = [] ∨ ∃ (k : Nat) (x : Tm) (p : List Int), l[k]? = some x ∧ q = (k : Int) :: p ∧ p ∈ places x) := by
  cases v
  · simp only [places, Bool.false_eq_true, if_false, List.mem_cons] at h
    refine ⟨rfl, ?_⟩
    rcases h with h | h
    · exact .inl h
    · obtain ⟨k, x, p, h1, h2, h3⟩ := placesL_mem h
      exact .inr ⟨k, x, p, h1, by simpa using h2, h3⟩
  · simp [places] at h
theorem put_cons {v : Bool} {n : Int} {l : List Tm} {k : Nat} {x : Tm} {p : List Int} {u : Tm} (h : l[k]? = some x) : put ⟨v, n, l⟩ ((k : Int) :: p) u = ⟨v, n, l.set k (put x p u)⟩ := by
  have hk := (List.getElem?_eq_some_iff.1 h).1
  rw [put, if_neg (by omega), Int.toNat_natCast, getD_of h]
theorem at_cons {v : Bool} {n : Int} {l : List Tm} {k : Nat} {x : Tm} {p : List Int} (h : l[k]? = some x) : at_ ⟨v, n, l⟩ ((k : Int) :: p) = at_ x p := by
  have hk := (List.getElem?_eq_some_iff.1 h).1
  rw [at_, if_neg (by omega), Int.toNat_natCast, getD_of h]
theorem sizes_set : ∀ {l : List Tm} {k : Nat} {x y : Tm}, l[k]? = some x → Tm.sizes (l.set k y) + x.size = Tm.sizes l + y.size
  | [], _, _, _, h => by simp at h
  | a :: l, 0, x, y, h => by simp at h; subst h; simp [Tm.sizes]; omega
  | a :: l, k + 1, x, y, h => by
    have := sizes_set (l := l) (k := k) (x := x) (y := y) (by simpa using h)
    simp only [List.set_cons_succ, Tm.sizes]; omega
theorem timess_set (z : Int) : ∀ {l : List Tm} {k : Nat} {x y : Tm}, l[k]? = some x → timess z (l.set k y) + times z x = timess z l + times z y
  | [], _, _, _, h => by simp at h
  | a :: l, 0, x, y, h => by simp at h; subst h; simp [timess]; omega
  | a :: l, k + 1, x, y, h => by
    have := timess_set z (l := l) (k := k) (x := x) (y := y) (by simpa using h)
    simp only [List.set_cons_succ, timess]; omega
theorem okvs_at {l : List Tm} {k : Nat} {x : Tm} (h : Tm.okvs l = true) (hx : l[k]? = some x) : x.okv = true := (Tm.okvs_iff l).1 h x (List.mem_of_getElem? hx)
theorem put_okv : ∀ (p : List Int) (c u : Tm), c.okv = true → u.okv = true → p ∈ places c → (put c p u).okv = true
  | [], c, u, _, hu, _ => by simpa [put] using hu
  | i :: p, ⟨v, n, l⟩, u, hc, hu, hp => by
    obtain ⟨rfl, h | ⟨k, x, p', hx, e, hp'⟩⟩ := places_cons hp
    · cases h
    · injection e with e1 e2
      subst e1 e2
      rw [put_cons hx]
      simp only [Tm.okv] at hc ⊢
      rw [Tm.okvs_iff]
      intro t ht
      rcases List.mem_or_eq_of_mem_set ht with h | rfl
      · exact (Tm.okvs_iff l).1 hc t h
      · exact put_okv p x u (okvs_at hc hx) hu hp'
theorem above_put : ∀ (p : List Int) (c a b : Tm), c.okv = true → a.okv = true → b.okv = true → p ∈ places c → above a b = true → above (put c p a) (put c p b) = true
  | [], c, a, b, _, _, _, _, h => by simpa [put] using h
  | i :: p, ⟨v, n, l⟩, a, b, hc, ha, hb, hp, h => by
    obtain ⟨rfl, h0 | ⟨k, x, p', hx, e, hp'⟩⟩ := places_cons hp
    · cases h0
    · injection e with e1 e2
      subst e1 e2
      have hco := hc
      simp only [Tm.okv] at hc
      have hxo := okvs_at hc hx
      have ih := above_put p x a b hxo ha hb hp' h
      have hb' := put_okv _ _ b hco hb hp
      have hbx := put_okv p x b hxo hb hp'
      have hax := put_okv p x a hxo ha hp'
      rw [put_cons hx] at hb' ⊢
      rw [put_cons hx]
      obtain ⟨e, t, c⟩ := (above_iff _ _ hbx).1 ih
      have hk := (List.getElem?_eq_some_iff.1 hx).1
      have s1 := sizes_set (y := put x p a) hx
      have s2 := sizes_set (y := put x p b) hx
      refine (above_iff _ _ hb').2 ⟨rfl, fun z => ?_, ?_⟩
      · have t1 := timess_set z (y := put x p a) hx
        have t2 := timess_set z (y := put x p b) hx
        have := t z
        simp only [times, Bool.false_and, Bool.false_eq_true, if_false]
        omega
      · simp only [Tm.size, true_and, Int.lt_irrefl, false_or]
        rcases c with c | ⟨c, _⟩
        · left; omega
        · right
          refine ⟨by omega, ?_⟩
          rw [aboves_at (k := k) (x := put x p a) (y := put x p b) (by rw [List.take_set_of_le (Nat.le_refl _), List.take_set_of_le (Nat.le_refl _)]) (by simp [hk]) (by simp [hk]) (same_false (above_ne hax ih))]
          exact ih
theorem at_place : ∀ (p : List Int) (c : Tm), c.okv = true → p ∈ places c → (at_ c p).2 = true ∧ (at_ c p).1.var = false ∧ (at_ c p).1.okv = true ∧ (∀ x, times x (at_ c p).1 ≤ times x c) ∧ (at_ c p).1.size + p.length ≤ c.size
  | [], ⟨v, n, l⟩, hc, hp => by
    obtain ⟨rfl, _⟩ := places_cons hp
    simp only [at_]
    exact ⟨trivial, trivial, hc, fun _ => Nat.le_refl _, by simp⟩
  | i :: p, ⟨v, n, l⟩, hc, hp => by
    obtain ⟨rfl, h | ⟨k, x, p', hx, e, hp'⟩⟩ := places_cons hp
    · cases h
    · injection e with e1 e2
      subst e1 e2
      simp only [Tm.okv] at hc
      rw [at_cons hx]
      obtain ⟨h1, h2, h3, h4, h5⟩ := at_place p x (okvs_at hc hx) hp'
      refine ⟨h1, h2, h3, fun z => ?_, ?_⟩
      · have := h4 z
        have t1 := timess_set z (y := (⟨false, 0, []⟩ : Tm)) hx
        simp only [times, timess, Bool.false_and, Bool.false_eq_true, if_false] at t1 ⊢
        omega
      · have s1 := sizes_set (y := (⟨false, 0, []⟩ : Tm)) hx
        have : 1 ≤ Tm.sizes (l.set k ⟨false, 0, []⟩) := by
          have h1 := sizes_take_succ (l.set k ⟨false, 0, []⟩) k ⟨false, 0, []⟩ (by simp [(List.getElem?_eq_some_iff.1 hx).1])
          have h2 := sizes_take_le (l.set k ⟨false, 0, []⟩) (k + 1)
          simp only [Tm.size, Tm.sizes] at h1
          omega
        simp only [Tm.size, Tm.sizes, List.length_cons] at s1 ⊢
        omega
end Go.Proofs.YtmanhdacnkpclaaGreat
/- Bindings that make two terms the same, plainly: what is found does, and no more than it must. -/
namespace Go.Proofs.YtmanhdacnkpclaaGreat
set_option linter.unusedVariables false
set_option linter.unusedSimpArgs false
def dom (s : List Pr) (v : Int) : Prop := ∃ u, findS s v = some u
theorem app_var (s : List Pr) (n : Int) (l : List Tm) : app s ⟨true, n, l⟩ = match findS s n with | some u => u | none => ⟨true, n, l⟩ := by
  simp only [app, if_true]
  try (cases findS s n <;> rfl)
theorem app_sym (s : List Pr) (n : Int) (l : List Tm) : app s ⟨false, n, l⟩ = ⟨false, n, l.map (app s)⟩ := by simp [app, apps_eq]
theorem app_some {s : List Pr} {n : Int} {u : Tm} (l : List Tm) (h : findS s n = some u) : app s ⟨true, n, l⟩ = u := by rw [app_var, h]
theorem app_ext {s s' s'' : List Pr} (h : ∀ n l, app s'' (app s ⟨true, n, l⟩) = app s' ⟨true, n, l⟩) : ∀ t, app s'' (app s t) = app s' t := by
  refine Tm.ind ?_
  intro v n l ih
  cases v
  · rw [app_sym, app_sym, app_sym, List.map_map]
    congr 1
    exact List.map_congr_left fun a ha => ih a ha
  · exact h n l
theorem app_nil : ∀ t, app [] t = t := by
  refine Tm.ind ?_
  intro v n l ih
  cases v
  · rw [app_sym]; congr 1
    rw [List.map_congr_left ih]; simp
  · rw [app_var]; rfl
def bound (s : List Pr) (v : Int) (t : Tm) : List Pr := s.map (fun p => (p.1, app [(v, t)] p.2)) ++ [(v, t)]
theorem findS_append {s s' : List Pr} {v : Int} : findS (s ++ s') v = match findS s v with | some u => some u | none => findS s' v := by
  induction s with
  | nil => rfl
  | cons p s ih =>
    simp only [List.cons_append, findS]
    split
    · rfl
    · exact ih
theorem findS_map {f : Tm → Tm} {s : List Pr} {v : Int} : findS (s.map fun p => (p.1, f p.2)) v = (findS s v).map f := by
  induction s with
  | nil => rfl
  | cons p s ih =>
    simp only [List.map_cons, findS]
    split
    · rfl
    · exact ih
theorem findS_one {v n : Int} {t : Tm} : findS [(v, t)] n = if v = n then some t else none := by simp [findS]
theorem app_bound (s : List Pr) (v : Int) (y : Tm) : ∀ t, app (bound s v y) t = app [(v, y)] (app s t) := fun t => by
  refine (app_ext (s := s) (s'' := [(v, y)]) (s' := bound s v y) (fun n l => ?_) t).symm
  rw [app_var s, app_var (bound s v y), bound, findS_append, findS_map]
  cases h : findS s n with
  | some u => simp
  | none => simp [app_var]
theorem timess_pos {v : Int} : ∀ {l : List Tm}, timess v l ≠ 0 → ∃ a ∈ l, times v a ≠ 0
  | [], h => by simp [timess] at h
  | a :: l, h => by
    rcases Nat.eq_zero_or_pos (times v a) with h0 | h0
    · obtain ⟨b, hb, h⟩ := timess_pos (l := l) (v := v) (by simp only [timess] at h; omega)
      exact ⟨b, by simp [hb], h⟩
    · exact ⟨a, by simp, by omega⟩
theorem timess_zero {v : Int} : ∀ {l : List Tm}, timess v l = 0 ↔ ∀ a ∈ l, times v a = 0
  | [] => by simp [timess]
  | a :: l => by simp [timess, timess_zero (l := l)]
theorem app_id {s : List Pr} : ∀ t, (∀ v, dom s v → times v t = 0) → app s t = t := by
  refine Tm.ind ?_
  intro b n l ih h
  cases b
  · rw [app_sym]
    congr 1
    have : ∀ a ∈ l, app s a = id a := fun a ha => ih a ha fun v hv => by
      have := h v hv
      simp only [times, Bool.false_and, Bool.false_eq_true, if_false, Nat.zero_add] at this
      exact timess_zero.1 this a ha
    rw [List.map_congr_left this]; simp
  · rw [app_var]
    cases hf : findS s n with
    | none => rfl
    | some u =>
      have := h n ⟨u, hf⟩
      simp [times] at this
theorem times_app_zero {s : List Pr} {x : Int} : ∀ t, t.okv = true → (∀ n, times n t ≠ 0 → times x (appV s n) = 0) → times x (app s t) = 0 := by
  refine Tm.ind ?_
  intro b n l ih hk h
  cases b
  · rw [app_sym]
    simp only [times, Bool.false_and, Bool.false_eq_true, if_false, Nat.zero_add]
    simp only [Tm.okv] at hk
    rw [timess_zero]
    intro a ha
    obtain ⟨a', ha', rfl⟩ := List.mem_map.1 ha
    refine ih a' ha' ((Tm.okvs_iff l).1 hk a' ha') fun m hm => h m ?_
    simp only [times, Bool.false_and, Bool.false_eq_true, if_false, Nat.zero_add]
    intro h0
    exact hm (timess_zero.1 h0 a' ha')
  · simp only [Tm.okv, Bool.and_eq_true, List.isEmpty_iff] at hk
    obtain ⟨⟨rfl, _⟩, _⟩ := hk
    exact h n (by simp [times])
theorem times_sub {x : Int} {n : Int} {l : List Tm} {a : Tm} (ha : a ∈ l) (h : times x ⟨false, n, l⟩ = 0) : times x a = 0 := by
  simp only [times, Bool.false_and, Bool.false_eq_true, if_false, Nat.zero_add] at h
  exact timess_zero.1 h a ha
def ustep (s : List Pr) (a b : Tm) (todo : List (Tm × Tm)) : Option (List Pr × List (Tm × Tm)) :=
  let x := app s a
  let y := app s b
  if x.same y then some (s, todo)
  else if x.var then (if times x.n y ≠ 0 then none else some (bound s x.n y, todo))
  else if y.var then (if times y.n x ≠ 0 then none else some (bound s y.n x, todo))
  else if x.n ≠ y.n ∨ x.args.length ≠ y.args.length then none
  else some (s, x.args.zip y.args ++ todo)
def unifyF : Nat → List Pr → List (Tm × Tm) → Option (List Pr)
  | _, s, [] => some s
  | 0, _, _ :: _ => none
  | f + 1, s, (a, b) :: todo => match ustep s a b todo with
    | none => none
    | some (s', todo') => unifyF f s' todo'
def idem (s : List Pr) : Prop := (∀ p ∈ s, p.2.okv = true) ∧ ∀ v, dom s v → ∀ p ∈ s, times v p.2 = 0
def eqsOk (l : List (Tm × Tm)) : Prop := ∀ e ∈ l, e.1.okv = true ∧ e.2.okv = true
theorem idem_app {s : List Pr} (h : idem s) {v : Int} (hv : dom s v) (t : Tm) (ht : t.okv = true) : times v (app s t) = 0 := by
  refine times_app_zero t ht fun n _ => ?_
  unfold appV
  rw [app_var]
  cases hf : findS s n with
  | none =>
    have : v ≠ n := fun e => by subst e; obtain ⟨u, hu⟩ := hv; rw [hf] at hu; cases hu
    simp [times, timess, Ne.symm this]
  | some u =>
    obtain ⟨p, hp, _, rfl⟩ := findS_mem hf
    exact h.2 v hv p hp
theorem app_idem {s : List Pr} (h : idem s) (t : Tm) (ht : t.okv = true) : app s (app s t) = app s t := app_id _ fun _ hv => idem_app h hv t ht
theorem dom_bound {s : List Pr} {x : Int} {y : Tm} {v : Int} : dom (bound s x y) v ↔ dom s v ∨ v = x := by
  unfold dom
  rw [bound, findS_append, findS_map, findS_one]
  cases h : findS s v with
  | some u => simp
  | none =>
    simp only [Option.map_none]
    constructor
    · rintro ⟨u, hu⟩
      split at hu
      · rename_i e; exact .inr e.symm
      · cases hu
    · rintro (⟨u, hu⟩ | rfl)
      · cases hu
      · exact ⟨y, by simp⟩
theorem idem_bound {s : List Pr} (h : idem s) {x : Int} {y : Tm} (hx : ¬ dom s x) (hy : y.okv = true) (hxy : times x y = 0) (hys : ∀ v, dom s v → times v y = 0) : idem (bound s x y) := by
  have hone : ∀ p ∈ [(x, y)], p.2.okv = true := by simp [hy]
  have key : ∀ v, dom (bound s x y) v → ∀ u : Tm, u.okv = true → (dom s v → times v u = 0) → times v (app [(x, y)] u) = 0 := fun v hv u hu hvu => by
    refine times_app_zero u hu fun n hn => ?_
    unfold appV
    rw [app_var, findS_one]
    rcases dom_bound.1 hv with hd | rfl
    · split
      · rename_i u' e; split at e
        · injection e with e; subst e; exact hys v hd
        · cases e
      · have : v ≠ n := fun e => by subst e; exact hn (hvu hd)
        simp [times, timess, Ne.symm this]
    · split
      · rename_i u' e; split at e
        · injection e with e; subst e; exact hxy
        · cases e
      · rename_i e
        split at e
        · cases e
        · rename_i hne; simp [times, timess, Ne.symm hne]
  refine ⟨?_, ?_⟩
  · intro p hp
    simp only [bound, List.mem_append, List.mem_map, List.mem_singleton] at hp
    rcases hp with ⟨q, hq, rfl⟩ | rfl
    · exact app_okv hone q.2 (h.1 q hq)
    · exact hy
  · intro v hv p hp
    simp only [bound, List.mem_append, List.mem_map, List.mem_singleton] at hp
    rcases hp with ⟨q, hq, rfl⟩ | rfl
    · exact key v hv q.2 (h.1 q hq) fun hd => h.2 v hd q hq
    · rcases dom_bound.1 hv with hd | rfl
      · exact hys v hd
      · exact hxy
theorem var_form {t : Tm} (h : t.okv = true) (hv : t.var = true) : t = ⟨true, t.n, []⟩ := by
  obtain ⟨v, n, l⟩ := t
  simp only at hv
  subst hv
  simp only [Tm.okv, Bool.and_eq_true, List.isEmpty_iff] at h
  rw [h.1.1]
theorem zip_okv {l l' : List Tm} (h : Tm.okvs l = true) (h' : Tm.okvs l' = true) : eqsOk (l.zip l') := fun e he => by
  have h1 := List.of_mem_zip (a := e.1) (b := e.2) he
  exact ⟨(Tm.okvs_iff l).1 h _ h1.1, (Tm.okvs_iff l').1 h' _ h1.2⟩
inductive UWay (s : List Pr) (a b : Tm) (todo : List (Tm × Tm)) : List Pr → List (Tm × Tm) → Prop
  | same (h : app s a = app s b) : UWay s a b todo s todo
  | left (h : app s a ≠ app s b) (x : Int) (hx : app s a = ⟨true, x, []⟩) (ho : times x (app s b) = 0) : UWay s a b todo (bound s x (app s b)) todo
  | right (h : app s a ≠ app s b) (hn : (app s a).var = false) (x : Int) (hx : app s b = ⟨true, x, []⟩) (ho : times x (app s a) = 0) : UWay s a b todo (bound s x (app s a)) todo
  | args (n : Int) (l l' : List Tm) (h1 : app s a = ⟨false, n, l⟩) (h2 : app s b = ⟨false, n, l'⟩) (hl : l.length = l'.length) (h : app s a ≠ app s b) : UWay s a b todo s (l.zip l' ++ todo)
theorem ustep_way {s : List Pr} {a b : Tm} {todo todo' : List (Tm × Tm)} {s' : List Pr} (ha : (app s a).okv = true) (hb : (app s b).okv = true) (h : ustep s a b todo = some (s', todo')) : UWay s a b todo s' todo' := by
  unfold ustep at h
  simp only at h
  split at h
  · rename_i h1
    injection h with h; injection h with e1 e2; subst e1 e2
    exact .same ((Tm.same_iff _ _).1 h1)
  · rename_i h1
    have hne : app s a ≠ app s b := fun e => h1 ((Tm.same_iff _ _).2 e)
    split at h
    · rename_i h2
      split at h
      · cases h
      · rename_i h3
        injection h with h; injection h with e1 e2; subst e1 e2
        exact .left hne _ (var_form ha h2) (by omega)
    · rename_i h2
      split at h
      · rename_i h3
        split at h
        · cases h
        · rename_i h4
          injection h with h; injection h with e1 e2; subst e1 e2
          exact .right hne (by simpa using h2) _ (var_form hb h3) (by omega)
      · rename_i h3
        split at h
        · cases h
        · rename_i h4
          injection h with h; injection h with e1 e2; subst e1 e2
          refine .args (app s a).n _ _ ?_ ?_ (by omega) hne
          · cases hq : app s a with
            | mk v n l => rw [hq] at h2; simp only [Bool.not_eq_true] at h2; simp [h2]
          · cases hq : app s b with
            | mk v n l =>
              rw [hq] at h3 h4
              simp only [Bool.not_eq_true] at h3
              simp only [not_or, Decidable.not_not] at h4
              have : (app s a).n = n := h4.1
              simp [h3, this]
theorem not_dom {s : List Pr} (h : idem s) {a : Tm} (ha : a.okv = true) {x : Int} (hx : app s a = ⟨true, x, []⟩) : ¬ dom s x := fun hd => by
  have := idem_app h hd a ha
  rw [hx] at this
  simp [times] at this
theorem UWay.keep {s s' : List Pr} {a b : Tm} {todo todo' : List (Tm × Tm)} (h : UWay s a b todo s' todo') (hs : idem s) (ha : a.okv = true) (hb : b.okv = true) (ht : eqsOk todo) : idem s' ∧ eqsOk todo' := by
  have ka := app_okv hs.1 a ha
  have kb := app_okv hs.1 b hb
  cases h with
  | same h => exact ⟨hs, ht⟩
  | left h x hx ho => exact ⟨idem_bound hs (not_dom hs ha hx) kb ho fun v hv => idem_app hs hv b hb, ht⟩
  | right h hn x hx ho => exact ⟨idem_bound hs (not_dom hs hb hx) ka ho fun v hv => idem_app hs hv a ha, ht⟩
  | args n l l' h1 h2 hl h =>
    refine ⟨hs, fun e he => ?_⟩
    rcases List.mem_append.1 he with he | he
    · rw [h1] at ka; rw [h2] at kb
      exact zip_okv ka kb e he
    · exact ht e he
theorem app_one_self {x : Int} {y : Tm} (h : times x y = 0) : app [(x, y)] y = y := app_id y fun v ⟨u, hu⟩ => by
  rw [findS_one] at hu
  split at hu
  · rename_i e; subst e; exact h
  · cases hu
theorem app_one_x {x : Int} {y : Tm} : app [(x, y)] ⟨true, x, []⟩ = y := by rw [app_var, findS_one]; simp
theorem zip_eq {f : Tm → Tm} : ∀ {l l' : List Tm}, l.length = l'.length → (∀ e ∈ l.zip l', f e.1 = f e.2) → l.map f = l'.map f
  | [], [], _, _ => rfl
  | [], _ :: _, h, _ => by simp at h
  | _ :: _, [], h, _ => by simp at h
  | a :: l, b :: l', h, h' => by
    simp only [List.map_cons]
    rw [h' (a, b) (by simp), zip_eq (by simpa using h) fun e he => h' e (by simp [he])]
theorem unifyF_sound : ∀ (f : Nat) (s : List Pr) (todo : List (Tm × Tm)) (r : List Pr), idem s → eqsOk todo → unifyF f s todo = some r →
    idem r ∧ (∀ t, t.okv = true → app r (app s t) = app r t) ∧ ∀ e ∈ todo, app r e.1 = app r e.2
  | f, s, [], r, hs, _, h => by
    have h : some s = some r := by cases f <;> exact h
    injection h with h; subst h
    exact ⟨hs, fun t ht => app_idem hs t ht, by simp⟩
  | 0, s, _ :: _, r, _, _, h => by simp [unifyF] at h
  | f + 1, s, (a, b) :: todo, r, hs, ht, h => by
    have hab := ht (a, b) (by simp)
    have ha : a.okv = true := hab.1
    have hb : b.okv = true := hab.2
    have ht' : eqsOk todo := fun e he => ht e (by simp [he])
    have ka := app_okv hs.1 a ha
    have kb := app_okv hs.1 b hb
    simp only [unifyF] at h
    split at h
    · cases h
    · rename_i s' todo' hst
      have hw := ustep_way ka kb hst
      obtain ⟨hk1, hk2⟩ := hw.keep hs ha hb ht'
      obtain ⟨i1, i2, i3⟩ := unifyF_sound f s' todo' r hk1 hk2 h
      cases hw with
      | same he =>
        refine ⟨i1, i2, fun e hme => ?_⟩
        rcases List.mem_cons.1 hme with rfl | hme
        · show app r a = app r b
          rw [← i2 a ha, ← i2 b hb, he]
        · exact i3 e hme
      | left hne x hx ho =>
        have hab : ∀ t, t.okv = true → app r (app s t) = app r t := fun t ht => by
          rw [← i2 (app s t) (app_okv hs.1 t ht), app_bound, app_idem hs t ht, ← app_bound, i2 t ht]
        refine ⟨i1, hab, fun e hme => ?_⟩
        rcases List.mem_cons.1 hme with rfl | hme
        · show app r a = app r b
          have h1 : app (bound s x (app s b)) a = app s b := by rw [app_bound, hx, app_one_x]
          rw [← i2 a ha, h1, hab b hb]
        · exact i3 e hme
      | right hne hn x hx ho =>
        have hab : ∀ t, t.okv = true → app r (app s t) = app r t := fun t ht => by
          rw [← i2 (app s t) (app_okv hs.1 t ht), app_bound, app_idem hs t ht, ← app_bound, i2 t ht]
        refine ⟨i1, hab, fun e hme => ?_⟩
        rcases List.mem_cons.1 hme with rfl | hme
        · show app r a = app r b
          have h1 : app (bound s x (app s a)) b = app s a := by rw [app_bound, hx, app_one_x]
          rw [← i2 b hb, h1, hab a ha]
        · exact i3 e hme
      | args n l l' h1 h2 hl hne =>
        refine ⟨i1, i2, fun e hme => ?_⟩
        rcases List.mem_cons.1 hme with rfl | hme
        · show app r a = app r b
          rw [← i2 a ha, ← i2 b hb, h1, h2, app_sym, app_sym, zip_eq hl fun e he => i3 e (List.mem_append_left _ he)]
        · exact i3 e (List.mem_append_right _ hme)
theorem size_app_sub {s : List Pr} {x : Int} : ∀ t : Tm, t.okv = true → times x t ≠ 0 → (app s ⟨true, x, []⟩).size ≤ (app s t).size ∧ (t.var = false → (app s ⟨true, x, []⟩).size < (app s t).size) := by
  refine Tm.ind ?_
  intro v n l ih hk h
  cases v
  · simp only [Tm.okv] at hk
    simp only [times, Bool.false_and, Bool.false_eq_true, if_false, Nat.zero_add] at h
    obtain ⟨a, ha, hx⟩ := timess_pos h
    have h1 := (ih a ha ((Tm.okvs_iff l).1 hk a ha) hx).1
    rw [app_sym]
    obtain ⟨k, hk, rfl⟩ := List.getElem_of_mem ha
    have h2 := sizes_take_succ (l.map (app s)) k (app s l[k]) (by simp [hk])
    have h3 := sizes_take_le (l.map (app s)) (k + 1)
    simp only [Tm.size]
    exact ⟨by omega, fun _ => by omega⟩
  · simp only [Tm.okv, Bool.and_eq_true, List.isEmpty_iff] at hk
    obtain ⟨⟨rfl, _⟩, _⟩ := hk
    have : n = x := by
      rcases Decidable.em (n = x) with h1 | h1
      · exact h1
      · simp [times, timess, h1] at h
    subst this
    exact ⟨Nat.le_refl _, fun h => by cases h⟩
end Go.Proofs.YtmanhdacnkpclaaGreat
/- Bindings that make two terms the same, plainly: it ends, and nothing grows too much. -/
namespace Go.Proofs.YtmanhdacnkpclaaGreat
set_option linter.unusedVariables false
set_option linter.unusedSimpArgs false
mutual
def wt (f : Int → Nat) : Tm → Nat
  | ⟨true, n, _⟩ => f n
  | ⟨false, _, l⟩ => 1 + wts f l
def wts (f : Int → Nat) : List Tm → Nat
  | [] => 0
  | a :: l => wt f a + wts f l
end
mutual
theorem wt_one : ∀ t : Tm, t.okv = true → wt (fun _ => 1) t = t.size
  | ⟨true, n, l⟩, h => by
    simp only [Tm.okv, Bool.and_eq_true, List.isEmpty_iff] at h
    obtain ⟨⟨rfl, _⟩, _⟩ := h
    simp [wt, Tm.size, Tm.sizes]
  | ⟨false, n, l⟩, h => by
    simp only [Tm.okv] at h
    simp [wt, Tm.size, wts_one l h]
theorem wts_one : ∀ l : List Tm, Tm.okvs l = true → wts (fun _ => 1) l = Tm.sizes l
  | [], _ => rfl
  | a :: l, h => by
    simp only [Tm.okvs, Bool.and_eq_true] at h
    simp [wts, Tm.sizes, wt_one a h.1, wts_one l h.2]
end
mutual
theorem wt_app (f : Int → Nat) (s : List Pr) : ∀ t : Tm, t.okv = true → wt f (app s t) = wt (fun n => wt f (appV s n)) t
  | ⟨true, n, l⟩, h => by
    simp only [Tm.okv, Bool.and_eq_true, List.isEmpty_iff] at h
    obtain ⟨⟨rfl, _⟩, _⟩ := h
    simp [wt, appV]
  | ⟨false, n, l⟩, h => by
    simp only [Tm.okv] at h
    simp [app, wt, wts_app f s l h]
theorem wts_app (f : Int → Nat) (s : List Pr) : ∀ l : List Tm, Tm.okvs l = true → wts f (apps s l) = wts (fun n => wt f (appV s n)) l
  | [], _ => rfl
  | a :: l, h => by
    simp only [Tm.okvs, Bool.and_eq_true] at h
    simp [apps, wts, wt_app f s a h.1, wts_app f s l h.2]
end
theorem size_app_le {s : List Pr} {M : Nat} (hM : 1 ≤ M) : ∀ t : Tm, t.okv = true → (∀ n, times n t ≠ 0 → (appV s n).size ≤ M) → (app s t).size ≤ t.size * M := by
  have key : ∀ l : List Tm, (∀ a ∈ l, (app s a).size ≤ a.size * M) → Tm.sizes (l.map (app s)) ≤ Tm.sizes l * M := by
    intro l
    induction l with
    | nil => intro _; simp [Tm.sizes]
    | cons a l ih =>
      intro h
      have h1 := h a (by simp)
      have h2 := ih fun b hb => h b (by simp [hb])
      simp only [List.map_cons, Tm.sizes, Nat.add_mul]
      omega
  refine Tm.ind ?_
  intro v n l ih hk h
  cases v
  · simp only [Tm.okv] at hk
    rw [app_sym]
    have := key l fun a ha => ih a ha ((Tm.okvs_iff l).1 hk a ha) fun m hm => h m fun h0 => hm (times_sub ha h0)
    simp only [Tm.size, Nat.add_mul, Nat.one_mul]
    omega
  · simp only [Tm.okv, Bool.and_eq_true, List.isEmpty_iff] at hk
    obtain ⟨⟨rfl, _⟩, _⟩ := hk
    have := h n (by simp [times])
    simpa [appV, Tm.size, Tm.sizes] using this
def cnt (p : Nat → Bool) : Nat → Nat
  | 0 => 0
  | k + 1 => (if p k then 1 else 0) + cnt p k
theorem cnt_le (p : Nat → Bool) : ∀ k, cnt p k ≤ k
  | 0 => Nat.le_refl _
  | k + 1 => by have := cnt_le p k; simp only [cnt]; split <;> omega
theorem cnt_mono {p q : Nat → Bool} (h : ∀ j, p j = true → q j = true) : ∀ k, cnt p k ≤ cnt q k
  | 0 => Nat.le_refl _
  | k + 1 => by
    have := cnt_mono h k
    simp only [cnt]
    cases hp : p k
    · simp; omega
    · simp [h k hp]; omega
theorem cnt_lt {p q : Nat → Bool} (h : ∀ j, p j = true → q j = true) {i : Nat} (hi : p i = false) (hq : q i = true) : ∀ k, i < k → cnt p k < cnt q k
  | 0, hk => by omega
  | k + 1, hk => by
    simp only [cnt]
    rcases Nat.lt_or_eq_of_le (Nat.le_of_lt_succ hk) with h1 | rfl
    · have := cnt_lt h hi hq k h1
      cases hp : p k
      · simp; omega
      · simp [h k hp]; omega
    · have := cnt_mono h i
      simp [hi, hq]; omega
theorem cnt_put {p q : Nat → Bool} {i : Nat} (h : ∀ j, q j = (p j || j == i)) (hi : p i = false) : ∀ k, i < k → cnt q k = cnt p k + 1
  | 0, hk => by omega
  | k + 1, hk => by
    simp only [cnt]
    rcases Nat.lt_or_eq_of_le (Nat.le_of_lt_succ hk) with h1 | rfl
    · have := cnt_put h hi k h1
      have e : q k = p k := by rw [h k]; have : (k == i) = false := by simp; omega
                               rw [this, Bool.or_false]
      rw [e]; omega
    · have hq : q i = true := by rw [h i]; simp
      have e : ∀ m, m ≤ i → cnt q m = cnt p m := by
        intro m
        induction m with
        | zero => intro _; rfl
        | succ m ih =>
          intro hm
          have e1 : q m = p m := by rw [h m]; have : (m == i) = false := by simp; omega
                                    rw [this, Bool.or_false]
          simp only [cnt, e1, ih (by omega)]
      rw [e i (Nat.le_refl _)]
      simp [hi, hq]; omega
theorem cnt_full {p : Nat → Bool} {k i : Nat} (hi : i < k) (hp : p i = false) : cnt p k < k := by
  have h := cnt_lt (p := p) (q := fun _ => true) (fun _ _ => rfl) hp rfl k hi
  have := cnt_le (fun _ => true) k
  omega
def few (t : Tm) : Prop := ∀ v, times v t ≠ 0 → 0 ≤ v ∧ v ≤ 9
structure Old (t : Tm) : Prop where
  okv : t.okv = true
  size : t.size ≤ 12
  few : few t
theorem Old.sub {n : Int} {l : List Tm} (h : Old ⟨false, n, l⟩) {a : Tm} (ha : a ∈ l) : Old a := by
  have hk := h.okv
  simp only [Tm.okv] at hk
  refine ⟨(Tm.okvs_iff l).1 hk a ha, ?_, fun v hv => h.few v fun h0 => hv (times_sub ha h0)⟩
  obtain ⟨k, hk, rfl⟩ := List.getElem_of_mem ha
  have h2 := sizes_take_succ l k l[k] (by simp [hk])
  have h3 := sizes_take_le l (k + 1)
  have := h.size
  simp only [Tm.size] at this
  omega
structure UInv (root : Tm) (s : List Pr) (todo : List (Tm × Tm)) : Prop where
  idem : idem s
  ok : eqsOk todo
  old : ∀ e ∈ todo, (∃ t, Old t ∧ app s e.1 = app s t) ∧ ∃ t, Old t ∧ app s e.2 = app s t
  form : ∀ v, (appV s v).var = true ∨ ∃ t, Old t ∧ t.var = false ∧ appV s v = app s t
  sum : ∀ f, (todo.map fun e => wt f (app s e.1)).sum ≤ wt f (app s root)
  few : ∀ p ∈ s, Go.Proofs.YtmanhdacnkpclaaGreat.few p.2
  fewT : ∀ e ∈ todo, Go.Proofs.YtmanhdacnkpclaaGreat.few e.1 ∧ Go.Proofs.YtmanhdacnkpclaaGreat.few e.2
  len : s.length = cnt (fun k => (findS s (k : Int)).isSome) 10
  root : Old root
  prop : ∀ p ∈ s, findS s p.1 = some p.2 ∧ 0 ≤ p.1 ∧ p.1 ≤ 9
theorem bigU_ex : ∃ B : Nat, B = 743008370688 := ⟨_, rfl⟩
noncomputable def bigU : Nat := Classical.choose bigU_ex
theorem bigU_eq : bigU = 743008370688 := Classical.choose_spec bigU_ex
theorem appV_one {s : List Pr} (hs : ∀ p ∈ s, p.2.okv = true) {v : Int} (hv : (appV s v).var = true) : (appV s v).size = 1 := by
  unfold appV at hv ⊢
  rw [app_var] at hv ⊢
  cases hf : findS s v with
  | none => simp [Tm.size, Tm.sizes]
  | some u =>
    rw [hf] at hv
    obtain ⟨p, hp, _, rfl⟩ := findS_mem hf
    simp only at hv ⊢
    rw [var_form (hs p hp) hv]; simp [Tm.size, Tm.sizes]
theorem UInv.gsize {root : Tm} {s : List Pr} {todo : List (Tm × Tm)} (h : UInv root s todo) : ∀ (m v : Nat), (appV s v).size = m → (appV s v).size ≤ 12 ^ (cnt (fun w => decide ((appV s (w : Int)).size < (appV s v).size)) 10 + 1) := by
  intro m
  induction m using Nat.strongRecOn with
  | ind m ih =>
    intro v hm
    rcases h.form v with hv | ⟨t, ht, htv, e⟩
    · rw [appV_one h.idem.1 hv]
      exact Nat.pow_pos (by omega)
    · generalize hc : cnt (fun w => decide ((appV s (w : Int)).size < (appV s v).size)) 10 = c
      have h1 : (app s t).size ≤ t.size * 12 ^ c := by
        refine size_app_le (Nat.pow_pos (by omega)) t ht.okv fun n hn => ?_
        obtain ⟨h0, h9⟩ := ht.few n hn
        obtain ⟨w, rfl⟩ := Int.eq_ofNat_of_zero_le h0
        have hlt := (size_app_sub (s := s) t ht.okv hn).2 htv
        rw [← e] at hlt
        have hlt : (appV s (w : Int)).size < (appV s (v : Int)).size := hlt
        have h2 := ih _ (by omega) w rfl
        refine Nat.le_trans h2 (Nat.pow_le_pow_right (by omega) ?_)
        have h3 := cnt_lt (p := fun x => decide ((appV s (x : Int)).size < (appV s w).size)) (q := fun x => decide ((appV s (x : Int)).size < (appV s v).size)) (i := w) (fun j hj => by
          simp only [decide_eq_true_eq] at hj ⊢; omega) (by simp) (by simpa using hlt) 10 (by omega)
        omega
      rw [e]
      refine Nat.le_trans h1 ?_
      rw [Nat.pow_succ, Nat.mul_comm]
      exact Nat.mul_le_mul_left _ ht.size
theorem UInv.asize {root : Tm} {s : List Pr} {todo : List (Tm × Tm)} (h : UInv root s todo) {t : Tm} (ht : Old t) : (app s t).size ≤ bigU := by
  have h1 : (app s t).size ≤ t.size * 12 ^ 10 := by
    refine size_app_le (Nat.pow_pos (by omega)) t ht.okv fun n hn => ?_
    obtain ⟨h0, h9⟩ := ht.few n hn
    obtain ⟨w, rfl⟩ := Int.eq_ofNat_of_zero_le h0
    refine Nat.le_trans (h.gsize _ w rfl) (Nat.pow_le_pow_right (by omega) ?_)
    have := cnt_full (p := fun x => decide ((appV s (x : Int)).size < (appV s w).size)) (k := 10) (i := w) (by omega) (by simp)
    omega
  have h2 : t.size * 12 ^ 10 ≤ 12 * 12 ^ 10 := Nat.mul_le_mul_right _ ht.size
  have := bigU_eq
  omega
theorem UInv.psize {root : Tm} {s : List Pr} {todo : List (Tm × Tm)} (h : UInv root s todo) {p : Pr} (hp : p ∈ s) : p.2.size ≤ bigU := by
  obtain ⟨h1, h0, h9⟩ := h.prop p hp
  obtain ⟨w, hw⟩ := Int.eq_ofNat_of_zero_le h0
  have e : appV s (w : Int) = p.2 := by unfold appV; rw [app_var, ← hw, h1]
  have h2 := h.gsize _ w rfl
  rw [e] at h2
  have h3 := cnt_full (p := fun x => decide ((appV s (x : Int)).size < p.2.size)) (k := 10) (i := w) (by omega) (by rw [e]; simp)
  have h4 : 12 ^ (cnt (fun x => decide ((appV s (x : Int)).size < p.2.size)) 10 + 1) ≤ 12 ^ 10 := Nat.pow_le_pow_right (by omega) (by omega)
  have := bigU_eq
  omega
theorem UInv.esize {root : Tm} {s : List Pr} {todo : List (Tm × Tm)} (h : UInv root s todo) {e : Tm × Tm} (he : e ∈ todo) : (e.1.size ≤ bigU ∧ e.2.size ≤ bigU) ∧ (app s e.1).size ≤ bigU ∧ (app s e.2).size ≤ bigU := by
  obtain ⟨⟨t, h1, h2⟩, t', h3, h4⟩ := h.old e he
  have a1 := h.asize h1
  have a2 := h.asize h3
  rw [← h2] at a1
  rw [← h4] at a2
  have b1 := app_size s e.1 (h.ok e he).1
  have b2 := app_size s e.2 (h.ok e he).2
  exact ⟨⟨by omega, by omega⟩, a1, a2⟩
theorem wts_eq (f : Int → Nat) : ∀ l : List Tm, wts f l = (l.map (wt f)).sum
  | [] => rfl
  | a :: l => by simp [wts, wts_eq f l]
theorem size_wt {s : List Pr} (hs : ∀ p ∈ s, p.2.okv = true) {t : Tm} (ht : t.okv = true) : wt (fun _ => 1) (app s t) = (app s t).size := wt_one _ (app_okv hs t ht)
def sumU (s : List Pr) (todo : List (Tm × Tm)) : Nat := (todo.map fun e => wt (fun _ => 1) (app s e.1)).sum
theorem UInv.sum_le {root : Tm} {s : List Pr} {todo : List (Tm × Tm)} (h : UInv root s todo) : sumU s todo ≤ bigU := by
  have := h.sum fun _ => 1
  rw [size_wt h.idem.1 h.root.okv] at this
  exact Nat.le_trans this (h.asize h.root)
theorem sum_len : ∀ {l : List Nat}, (∀ x ∈ l, 1 ≤ x) → l.length ≤ l.sum
  | [], _ => by simp
  | a :: l, h => by
    have := h a (by simp)
    have := sum_len (l := l) fun x hx => h x (by simp [hx])
    simp; omega
theorem UInv.todo_le {root : Tm} {s : List Pr} {todo : List (Tm × Tm)} (h : UInv root s todo) : todo.length ≤ bigU := by
  have h1 := h.sum_le
  have h2 := sum_len (l := todo.map fun e => wt (fun _ => 1) (app s e.1)) fun x hx => by
    obtain ⟨e, he, rfl⟩ := List.mem_map.1 hx
    rw [size_wt h.idem.1 (h.ok e he).1]
    exact size_pos _
  rw [List.length_map] at h2
  exact Nat.le_trans h2 h1
theorem UInv.len_le {root : Tm} {s : List Pr} {todo : List (Tm × Tm)} (h : UInv root s todo) : s.length ≤ 10 := by rw [h.len]; exact cnt_le _ _
theorem few_app {s : List Pr} (hs : ∀ p ∈ s, few p.2) {t : Tm} (hk : t.okv = true) (ht : few t) : few (app s t) := fun v hv => by
  rcases Classical.em (0 ≤ v ∧ v ≤ 9) with h | h
  · exact h
  · refine absurd (times_app_zero t hk fun n hn => ?_) hv
    unfold appV
    rw [app_var]
    cases hf : findS s n with
    | none =>
      have : n ≠ v := fun e => by subst e; exact h (ht n hn)
      simp [times, timess, this]
    | some u =>
      obtain ⟨p, hp, _, rfl⟩ := findS_mem hf
      rcases Nat.eq_zero_or_pos (times v p.2) with h0 | h0
      · exact h0
      · exact absurd (hs p hp v (by omega)) h
noncomputable def muU (s : List Pr) (todo : List (Tm × Tm)) : Nat := (10 - s.length) * (bigU + 1) + sumU s todo
theorem UInv.mu_le {root : Tm} {s : List Pr} {todo : List (Tm × Tm)} (h : UInv root s todo) : muU s todo ≤ 10000000000000 := by
  have h1 := h.sum_le
  have h2 : (10 - s.length) * (bigU + 1) ≤ 10 * (bigU + 1) := Nat.mul_le_mul_right _ (by omega)
  have := bigU_eq
  unfold muU
  omega
theorem UInv.bind {root : Tm} {s : List Pr} {e : Tm × Tm} {todo : List (Tm × Tm)} (h : UInv root s (e :: todo)) {a b : Tm} (ha : a.okv = true) (hb : b.okv = true) {x : Int} (hx : app s a = ⟨true, x, []⟩) (ho : times x (app s b) = 0)
    (ka : ∃ t, Old t ∧ app s a = app s t) (kb : ∃ t, Old t ∧ app s b = app s t) : UInv root (bound s x (app s b)) todo ∧ muU (bound s x (app s b)) todo < muU s (e :: todo) := by
  have hx0 := not_dom h.idem ha hx
  have kbo := app_okv h.idem.1 b hb
  have kid := idem_bound h.idem hx0 kbo ho fun v hv => idem_app h.idem hv b hb
  have hself := app_one_self ho
  obtain ⟨ta, hta, ea⟩ := ka
  obtain ⟨tb, htb, eb⟩ := kb
  have hfs : ∀ p ∈ s, Go.Proofs.YtmanhdacnkpclaaGreat.few p.2 := h.few
  have hxr : 0 ≤ x ∧ x ≤ 9 := few_app hfs hta.okv hta.few x (by rw [← ea, hx]; simp [times])
  have hyf : Go.Proofs.YtmanhdacnkpclaaGreat.few (app s b) := by rw [eb]; exact few_app hfs htb.okv htb.few
  have hlen : (bound s x (app s b)).length = s.length + 1 := by simp [bound]
  have hcnt : cnt (fun k => (findS (bound s x (app s b)) (k : Int)).isSome) 10 = cnt (fun k => (findS s (k : Int)).isSome) 10 + 1 := by
    obtain ⟨k, rfl⟩ := Int.eq_ofNat_of_zero_le hxr.1
    refine cnt_put (i := k) (fun j => ?_) ?_ 10 (by omega)
    · show (findS (bound s (k : Int) (app s b)) (j : Int)).isSome = _
      rw [bound, findS_append, findS_map, findS_one]
      cases hf : findS s (j : Int) with
      | some u => simp
      | none =>
        rcases Decidable.em (k = j) with rfl | hne
        · simp
        · have h1 : ¬ ((k : Int) = (j : Int)) := by omega
          simp [h1, Ne.symm hne]
    · cases hf : findS s (k : Int) with
      | none => simp
      | some u => exact absurd ⟨u, hf⟩ hx0
  have inv : UInv root (bound s x (app s b)) todo := by
    refine ⟨kid, fun e he => h.ok e (by simp [he]), fun e he => ?_, fun v => ?_, fun f => ?_, fun p hp => ?_, fun e he => h.fewT e (by simp [he]), ?_, h.root, fun p hp => ?_⟩
    · obtain ⟨⟨t, h1, h2⟩, t', h1', h2'⟩ := h.old e (by simp [he])
      exact ⟨⟨t, h1, by rw [app_bound, app_bound, h2]⟩, t', h1', by rw [app_bound, app_bound, h2']⟩
    · have e1 : appV (bound s x (app s b)) v = app [(x, app s b)] (appV s v) := app_bound s x _ _
      rw [e1]
      rcases h.form v with hv | ⟨t, ht, htv, e2⟩
      · have hvk : appV s v = ⟨true, (appV s v).n, (appV s v).args⟩ := by
          cases hq : appV s v with
          | mk v' n' l' => rw [hq] at hv; simp only at hv; simp [hv]
        rw [hvk, app_var, findS_one]
        rcases Decidable.em (x = (appV s v).n) with hxn | hxn
        · rw [if_pos hxn]
          simp only
          cases hyv : (app s b).var
          · right
            cases htbv : tb.var
            · exact ⟨tb, htb, htbv, by rw [app_bound, ← eb, hself]⟩
            · have hform := var_form htb.okv htbv
              have e3 : appV s tb.n = app s tb := by rw [appV, ← hform]
              rcases h.form tb.n with h4 | ⟨t1, h4, h5, h6⟩
              · rw [e3, ← eb, hyv] at h4; cases h4
              · exact ⟨t1, h4, h5, by rw [app_bound, ← h6, e3, ← eb, hself]⟩
          · exact .inl rfl
        · rw [if_neg hxn]; exact .inl rfl
      · exact .inr ⟨t, ht, htv, by rw [app_bound, e2]⟩
    · have := h.sum fun n => wt f (appV [(x, app s b)] n)
      simp only [List.map_cons, List.sum_cons] at this
      have e1 : ∀ t : Tm, t.okv = true → wt f (app (bound s x (app s b)) t) = wt (fun n => wt f (appV [(x, app s b)] n)) (app s t) := fun t ht => by
        rw [app_bound, wt_app f _ _ (app_okv h.idem.1 t ht)]
      rw [e1 root h.root.okv]
      have e2 : (todo.map fun e => wt f (app (bound s x (app s b)) e.1)) = todo.map fun e => wt (fun n => wt f (appV [(x, app s b)] n)) (app s e.1) :=
        List.map_congr_left fun e he => e1 e.1 (h.ok e (by simp [he])).1
      rw [e2]
      omega
    · simp only [bound, List.mem_append, List.mem_map, List.mem_singleton] at hp
      rcases hp with ⟨q, hq, rfl⟩ | rfl
      · exact few_app (by intro p hp; simp only [List.mem_singleton] at hp; subst hp; exact hyf) (h.idem.1 q hq) (hfs q hq)
      · exact hyf
    · rw [hlen, hcnt, h.len]
    · simp only [bound, List.mem_append, List.mem_map, List.mem_singleton] at hp
      rcases hp with ⟨q, hq, rfl⟩ | rfl
      · obtain ⟨g1, g2⟩ := h.prop q hq
        refine ⟨?_, g2⟩
        rw [bound, findS_append, findS_map, g1]; rfl
      · refine ⟨?_, hxr⟩
        rw [bound, findS_append, findS_map, findS_one]
        cases hf : findS s x with
        | none => simp
        | some u => exact absurd ⟨u, hf⟩ hx0
  refine ⟨inv, ?_⟩
  have h1 := inv.sum_le
  have h2 := inv.len_le
  unfold muU
  rw [hlen] at h2 ⊢
  have : (10 - s.length) * (bigU + 1) = (10 - (s.length + 1)) * (bigU + 1) + (bigU + 1) := by
    have : 10 - s.length = (10 - (s.length + 1)) + 1 := by omega
    rw [this, Nat.add_mul, Nat.one_mul]
  omega
theorem UInv.step {root : Tm} {s s' : List Pr} {a b : Tm} {todo todo' : List (Tm × Tm)} (h : UInv root s ((a, b) :: todo)) (hw : UWay s a b todo s' todo') : UInv root s' todo' ∧ muU s' todo' < muU s ((a, b) :: todo) := by
  have hab := h.ok (a, b) (by simp)
  have ha : a.okv = true := hab.1
  have hb : b.okv = true := hab.2
  obtain ⟨ka, kb⟩ := h.old (a, b) (by simp)
  cases hw with
  | same he =>
    refine ⟨⟨h.idem, fun e he => h.ok e (by simp [he]), fun e he => h.old e (by simp [he]), h.form, fun f => ?_, h.few, fun e he => h.fewT e (by simp [he]), h.len, h.root, h.prop⟩, ?_⟩
    · have := h.sum f
      simp only [List.map_cons, List.sum_cons] at this
      omega
    · have h1 : 1 ≤ wt (fun _ => 1) (app s a) := by rw [size_wt h.idem.1 ha]; exact size_pos _
      simp only [muU, sumU, List.map_cons, List.sum_cons]
      omega
  | left hne x hx ho => exact h.bind ha hb hx ho ka kb
  | right hne hn x hx ho => exact h.bind hb ha hx ho kb ka
  | args n l l' h1 h2 hl hne =>
    have hap : ∀ t n l, t.okv = true → app s t = ⟨false, n, l⟩ → ∀ z ∈ l, app s z = z := fun t n l ht e z hz => by
      have := app_idem h.idem t ht
      rw [e, app_sym] at this
      injection this with _ _ this
      obtain ⟨k, hk, rfl⟩ := List.getElem_of_mem hz
      have := congrArg (·[k]?) this
      simpa [hk] using this
    have hold : ∀ t n l, (∃ t0, Old t0 ∧ app s t = app s t0) → t.okv = true → app s t = ⟨false, n, l⟩ → ∀ z ∈ l, ∃ t0, Old t0 ∧ app s z = app s t0 := fun t n l ⟨t0, hto, e0⟩ ht e z hz => by
      have hz1 := hap t n l ht e z hz
      have key : ∀ t1 : Tm, Old t1 → t1.var = false → app s t1 = ⟨false, n, l⟩ → ∃ t0, Old t0 ∧ app s z = app s t0 := fun t1 ho hv e1 => by
        obtain ⟨v, n1, l1⟩ := t1
        simp only at hv
        subst hv
        rw [app_sym] at e1
        injection e1 with _ _ e1
        rw [← e1] at hz
        obtain ⟨z0, hz0, rfl⟩ := List.mem_map.1 hz
        exact ⟨z0, ho.sub hz0, hz1⟩
      cases hv : t0.var
      · exact key t0 hto hv (by rw [← e0, e])
      · have hform := var_form hto.okv hv
        have e3 : appV s t0.n = app s t0 := by rw [appV, ← hform]
        rcases h.form t0.n with h4 | ⟨t1, h4, h5, h6⟩
        · rw [e3, ← e0, e] at h4; cases h4
        · exact key t1 h4 h5 (by rw [← h6, e3, ← e0, e])
    have kx := app_okv h.idem.1 a ha
    have ky := app_okv h.idem.1 b hb
    rw [h1] at kx
    rw [h2] at ky
    simp only [Tm.okv] at kx ky
    have hmem : ∀ e ∈ l.zip l', e.1 ∈ l ∧ e.2 ∈ l' := fun e he => List.of_mem_zip (a := e.1) (b := e.2) he
    have hsum : ∀ f, ((l.zip l').map fun e => wt f (app s e.1)).sum + 1 = wt f (app s a) := fun f => by
      have e1 : ((l.zip l').map fun e => wt f (app s e.1)) = l.map (wt f) := by
        have e2 : ((l.zip l').map fun e => wt f (app s e.1)) = (l.zip l').map fun e => wt f e.1 := List.map_congr_left fun e he => by rw [hap a n l ha h1 e.1 (hmem e he).1]
        rw [e2]
        have e3 : ((l.zip l').map fun e => wt f e.1) = ((l.zip l').map Prod.fst).map (wt f) := by rw [List.map_map]; rfl
        rw [e3, List.map_fst_zip (by omega)]
      rw [e1, h1]
      simp only [wt, wts_eq]
      omega
    refine ⟨⟨h.idem, fun e he => ?_, fun e he => ?_, h.form, fun f => ?_, h.few, fun e he => ?_, h.len, h.root, h.prop⟩, ?_⟩
    · rcases List.mem_append.1 he with he | he
      · exact zip_okv kx ky e he
      · exact h.ok e (by simp [he])
    · rcases List.mem_append.1 he with he | he
      · exact ⟨hold a n l ka ha h1 e.1 (hmem e he).1, hold b n l' kb hb h2 e.2 (hmem e he).2⟩
      · exact h.old e (by simp [he])
    · have := h.sum f
      simp only [List.map_cons, List.sum_cons, List.map_append, List.sum_append] at this ⊢
      have := hsum f
      omega
    · rcases List.mem_append.1 he with he | he
      · obtain ⟨m1, m2⟩ := hmem e he
        have fa : Go.Proofs.YtmanhdacnkpclaaGreat.few (app s a) := few_app h.few ha (h.fewT (a, b) (by simp)).1
        have fb : Go.Proofs.YtmanhdacnkpclaaGreat.few (app s b) := few_app h.few hb (h.fewT (a, b) (by simp)).2
        rw [h1] at fa
        rw [h2] at fb
        exact ⟨fun v hv => fa v fun h0 => hv (times_sub m1 h0), fun v hv => fb v fun h0 => hv (times_sub m2 h0)⟩
      · exact h.fewT e (by simp [he])
    · have := hsum fun _ => 1
      simp only [muU, sumU, List.map_cons, List.sum_cons, List.map_append, List.sum_append]
      omega
theorem UInv.start {a b : Tm} (ha : Old a) (hb : Old b) : UInv a [] [(a, b)] := by
  refine ⟨⟨by simp, by simp⟩, ?_, ?_, fun v => .inl (by simp [appV, app_nil]), fun f => by simp, by simp, ?_, by decide, ha, by simp⟩
  · intro e he; simp only [List.mem_singleton] at he; subst he; exact ⟨ha.okv, hb.okv⟩
  · intro e he; simp only [List.mem_singleton] at he; subst he; exact ⟨⟨a, ha, rfl⟩, b, hb, rfl⟩
  · intro e he; simp only [List.mem_singleton] at he; subst he; exact ⟨ha.few, hb.few⟩
def unify (a b : Tm) : Option (List Pr) := unifyF 10000000000000 [] [(a, b)]
theorem unify_sound {a b : Tm} (ha : a.okv = true) (hb : b.okv = true) {r : List Pr} (h : unify a b = some r) : idem r ∧ app r a = app r b := by
  obtain ⟨h1, _, h3⟩ := unifyF_sound _ [] [(a, b)] r ⟨by simp, by simp⟩ (by intro e he; simp only [List.mem_singleton] at he; subst he; exact ⟨ha, hb⟩) h
  exact ⟨h1, h3 (a, b) (by simp)⟩
end Go.Proofs.YtmanhdacnkpclaaGreat
/- Bindings by which a pattern is a term, plainly. -/
namespace Go.Proofs.YtmanhdacnkpclaaGreat
set_option linter.unusedVariables false
set_option linter.unusedSimpArgs false
mutual
def moreR (s : List Pr) : Tm → Tm → List Pr × Bool
  | ⟨true, n, _⟩, t => match findS s n with
    | some u => (s, u.same t)
    | none => (s ++ [(n, t)], true)
  | ⟨false, n, l⟩, t => if t.var = true ∨ t.n ≠ n ∨ t.args.length ≠ l.length then ([], false) else moresR s l t.args
def moresR (s : List Pr) : List Tm → List Tm → List Pr × Bool
  | [], _ => (s, true)
  | _ :: _, [] => (s, true)
  | p :: l, t :: ts => match moreR s p t with
    | (s', true) => moresR s' l ts
    | (_, false) => ([], false)
end
def ext (s s' : List Pr) : Prop := ∀ v u, findS s v = some u → findS s' v = some u
theorem ext.trans {s s' s'' : List Pr} (h : ext s s') (h' : ext s' s'') : ext s s'' := fun v u hu => h' v u (h v u hu)
theorem ext.dom {s s' : List Pr} (h : ext s s') {v : Int} (hv : dom s v) : dom s' v := hv.elim fun u hu => ⟨u, h v u hu⟩
theorem ext.app {s s' : List Pr} (h : ext s s') : ∀ t : Tm, t.okv = true → (∀ v, times v t ≠ 0 → Go.Proofs.YtmanhdacnkpclaaGreat.dom s v) → app s' t = Go.Proofs.YtmanhdacnkpclaaGreat.app s t := by
  refine Tm.ind ?_
  intro b n l ih hk hd
  cases b
  · simp only [Tm.okv] at hk
    rw [app_sym, app_sym]
    congr 1
    exact List.map_congr_left fun a ha => ih a ha ((Tm.okvs_iff l).1 hk a ha) fun v hv => hd v fun h0 => hv (times_sub ha h0)
  · obtain ⟨u, hu⟩ := hd n (by simp [times])
    rw [app_some l hu, app_some l (h n u hu)]
theorem ext_snoc {s : List Pr} {n : Int} {t : Tm} : ext s (s ++ [(n, t)]) := fun v u hu => by rw [findS_append, hu]
mutual
theorem moreR_sound : ∀ (p : Tm) (s : List Pr) (t : Tm) (r : List Pr), p.okv = true → moreR s p t = (r, true) → ext s r ∧ (∀ v, times v p ≠ 0 → dom r v) ∧ app r p = t
  | ⟨true, n, l⟩, s, t, r, hk, h => by
    simp only [Tm.okv, Bool.and_eq_true, List.isEmpty_iff] at hk
    obtain ⟨⟨rfl, _⟩, _⟩ := hk
    have hv : ∀ v, times v (⟨true, n, []⟩ : Tm) ≠ 0 → v = n := fun v h => by
      rcases Decidable.em (n = v) with h1 | h1
      · exact h1.symm
      · simp [times, timess, h1] at h
    simp only [moreR] at h
    split at h
    · rename_i u hu
      injection h with e1 e2
      subst e1
      exact ⟨fun _ _ h => h, fun v hv' => by rw [hv v hv']; exact ⟨u, hu⟩, by rw [app_some _ hu]; exact (Tm.same_iff _ _).1 e2⟩
    · rename_i hu
      injection h with e1 e2
      subst e1
      have hn : findS (s ++ [(n, t)]) n = some t := by rw [findS_append, hu, findS_one]; simp
      exact ⟨ext_snoc, fun v hv' => by rw [hv v hv']; exact ⟨t, hn⟩, app_some _ hn⟩
  | ⟨false, n, l⟩, s, t, r, hk, h => by
    simp only [Tm.okv] at hk
    simp only [moreR] at h
    split at h
    · cases h
    · rename_i hc
      simp only [not_or, Bool.not_eq_true, Decidable.not_not] at hc
      obtain ⟨v', n', l'⟩ := t
      simp only at hc h
      obtain ⟨rfl, rfl, hl⟩ := hc
      obtain ⟨h1, h2, h3⟩ := moresR_sound l s l' r hk hl.symm h
      refine ⟨h1, fun v hv => h2 v ?_, by rw [app_sym, h3]⟩
      simpa [times] using hv
theorem moresR_sound : ∀ (l : List Tm) (s : List Pr) (l' : List Tm) (r : List Pr), Tm.okvs l = true → l.length = l'.length → moresR s l l' = (r, true) → ext s r ∧ (∀ v, timess v l ≠ 0 → dom r v) ∧ l.map (app r) = l'
  | [], s, [], r, _, _, h => by
    simp only [moresR] at h
    injection h with e; subst e
    exact ⟨fun _ _ h => h, fun v hv => by simp [timess] at hv, rfl⟩
  | [], _, _ :: _, _, _, h, _ => by simp at h
  | _ :: _, _, [], _, _, h, _ => by simp at h
  | p :: l, s, t :: l', r, hk, hl, h => by
    simp only [Tm.okvs, Bool.and_eq_true] at hk
    simp only [moresR] at h
    split at h
    · rename_i s' hm
      obtain ⟨h1, h2, h3⟩ := moreR_sound p s t s' hk.1 hm
      obtain ⟨h4, h5, h6⟩ := moresR_sound l s' l' r hk.2 (by simpa using hl) h
      refine ⟨h1.trans h4, fun v hv => ?_, ?_⟩
      · rcases Nat.eq_zero_or_pos (times v p) with h0 | h0
        · exact h5 v (by simp only [timess] at hv; omega)
        · exact h4.dom (h2 v (by omega))
      · simp only [List.map_cons]
        rw [h6, h4.app p hk.1 h2, h3]
    · cases h
end
def within (s by_ : List Pr) : Prop := ∀ v u, findS s v = some u → appV by_ v = u
mutual
theorem moreR_len : ∀ (p : Tm) (s : List Pr) (t : Tm), (moreR s p t).1.length ≤ s.length + p.size
  | ⟨true, n, l⟩, s, t => by
    simp only [moreR, Tm.size]
    split <;> simp <;> omega
  | ⟨false, n, l⟩, s, t => by
    simp only [moreR, Tm.size]
    split
    · simp
    · have := moresR_len l s t.args; omega
theorem moresR_len : ∀ (l : List Tm) (s : List Pr) (l' : List Tm), (moresR s l l').1.length ≤ s.length + Tm.sizes l
  | [], s, _ => by simp [moresR]
  | _ :: _, s, [] => by simp [moresR]
  | p :: l, s, t :: l' => by
    simp only [moresR, Tm.sizes]
    have h1 := moreR_len p s t
    split
    · rename_i s' hm
      rw [hm] at h1
      simp only at h1
      have := moresR_len l s' l'
      omega
    · simp
end
def matchR (p t : Tm) : List Pr × Bool := match moreR [] p t with
  | (r, true) => (r, true)
  | (_, false) => ([], false)
theorem matchR_sound {p t : Tm} {r : List Pr} (hp : p.okv = true) (h : matchR p t = (r, true)) : app r p = t ∧ ∀ v, times v p ≠ 0 → dom r v := by
  unfold matchR at h
  split at h
  · rename_i r' hm
    injection h with e; subst e
    obtain ⟨_, h2, h3⟩ := moreR_sound p [] t _ hp hm
    exact ⟨h3, h2⟩
  · cases h
end Go.Proofs.YtmanhdacnkpclaaGreat
