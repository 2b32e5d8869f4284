/- Bindings, plain. -/
import Derived.Test.YtmanhdacnkpclaaPure3
namespace Go.Proofs.Ytmanhdacnkpclaa
set_option linter.unusedVariables false
set_option linter.unusedSimpArgs false

def findS : List Pr → Int → Option Tm
  | [], _ => none
  | p :: s, v => if p.1 = v then some p.2 else findS s v
mutual
def app (s : List Pr) : Tm → Tm
  | ⟨v, n, l⟩ => if v then (match findS s n with | some u => u | none => ⟨v, n, l⟩) else ⟨false, n, apps s l⟩
def apps (s : List Pr) : List Tm → List Tm
  | [] => []
  | a :: l => app s a :: apps s l
end
theorem apps_eq (s : List Pr) : ∀ l, apps s l = l.map (app s)
  | [] => rfl
  | a :: l => by simp [apps, apps_eq s l]
theorem findS_take {s : List Pr} {v : Int} : ∀ (k : Nat), (∀ j p, j < k → s[j]? = some p → p.1 ≠ v) → findS s v = findS (s.drop k) v
  | 0, _ => by simp
  | k + 1, h => by
    rw [findS_take k fun j p hj => h j p (by omega)]
    cases hk : s[k]? with
    | none =>
      have : s.length ≤ k := by simpa using hk
      rw [List.drop_eq_nil_of_le this, List.drop_eq_nil_of_le (Nat.le_succ_of_le this)]
    | some p =>
      have hlt : k < s.length := (List.getElem?_eq_some_iff.1 hk).1
      have hpk : s[k] = p := (List.getElem?_eq_some_iff.1 hk).2
      rw [List.drop_eq_getElem_cons hlt]
      simp only [findS]
      rw [hpk, if_neg (h k p (by omega) hk)]
theorem findS_at {s : List Pr} {v : Int} {k : Nat} {p : Pr} (h : ∀ j p, j < k → s[j]? = some p → p.1 ≠ v) (hk : s[k]? = some p) (hp : p.1 = v) : findS s v = some p.2 := by
  rw [findS_take k h]
  have hlt : k < s.length := (List.getElem?_eq_some_iff.1 hk).1
  have hpk : s[k] = p := (List.getElem?_eq_some_iff.1 hk).2
  rw [List.drop_eq_getElem_cons hlt]
  simp only [findS]
  rw [hpk, if_pos hp]
theorem findS_no {s : List Pr} {v : Int} {k : Nat} (h : ∀ j p, j < k → s[j]? = some p → p.1 ≠ v) (hk : s.length ≤ k) : findS s v = none := by
  rw [findS_take k h, List.drop_eq_nil_of_le hk]; rfl
theorem upto_succ {α : Type} {s : List α} {k : Nat} {p : α} {R : α → Prop} (h : ∀ j x, j < k → s[j]? = some x → R x) (hk : s[k]? = some p) (hp : R p) : ∀ j x, j < k + 1 → s[j]? = some x → R x := fun j x hj hx => by
  rcases Nat.lt_or_ge j k with h1 | h1
  · exact h j x h1 hx
  · have : j = k := by omega
    subst this; rw [hk] at hx; injection hx with hx; subst hx; exact hp
theorem get_of_lt {α : Type} {s : List α} {k : Nat} (h : k < s.length) : ∃ x, s[k]? = some x := ⟨_, List.getElem?_eq_getElem h⟩
theorem snoc {α β : Type} (f : α → β) {l : List α} {k : Nat} {x : α} (h : l[k]? = some x) : (l.take k).map f ++ [f x] = (l.take (k + 1)).map f := by rw [List.take_add_one, h]; simp
end Go.Proofs.Ytmanhdacnkpclaa
