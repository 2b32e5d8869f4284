/- What the index is, plainly: places' numbers, what is found. -/
import Derived.Test.YtmanhdacnkpclaaPl2
namespace Go.Proofs.Ytmanhdacnkpclaa
set_option linter.unusedVariables false
set_option linter.unusedSimpArgs false
open Go.RowKit

mutual
theorem places_len : ∀ t : Tm, (places t).length ≤ t.size
  | ⟨v, n, l⟩ => by
    have := placesL_len l 0
    cases v <;> simp [places, Tm.size] <;> omega
theorem placesL_len : ∀ (l : List Tm) (i : Nat), (placesL i l).length ≤ Tm.sizes l
  | [], i => by simp [placesL]
  | a :: l, i => by
    have := places_len a
    have := placesL_len l (i + 1)
    simp [placesL, Tm.sizes]; omega
end
mutual
theorem places_deep : ∀ t : Tm, ∀ p ∈ places t, p.length ≤ t.size
  | ⟨v, n, l⟩ => fun p hp => by
    have := placesL_deep l 0
    cases v
    · simp only [places, Bool.false_eq_true, if_false, List.mem_cons] at hp
      rcases hp with rfl | hp
      · simp
      · have := this p hp; simp [Tm.size]; omega
    · simp [places] at hp
theorem placesL_deep : ∀ (l : List Tm) (i : Nat), ∀ p ∈ placesL i l, p.length ≤ 1 + Tm.sizes l
  | [], i => fun p hp => by simp [placesL] at hp
  | a :: l, i => fun p hp => by
    have h1 := places_deep a
    have h2 := placesL_deep l (i + 1)
    simp only [placesL, List.mem_append, List.mem_map] at hp
    rcases hp with ⟨q, hq, rfl⟩ | hp
    · have := h1 q hq; simp [Tm.sizes]; omega
    · have := h2 p hp; simp [Tm.sizes]; omega
end
def mayK (x t : Tm) : Bool := mayU (mark x []) (mark t []) && (mayU (mark x [0]) (mark t [0]) && mayU (mark x [1]) (mark t [1]))
def finds (t : Tm) : Nat → List Tm → List Int
  | _, [] => []
  | i, x :: l => (if mayK x t then [(i : Int)] else []) ++ finds t (i + 1) l
theorem finds_append (t : Tm) : ∀ (l l' : List Tm) (i : Nat), finds t i (l ++ l') = finds t i l ++ finds t (i + l.length) l'
  | [], l', i => by simp [finds]
  | a :: l, l', i => by rw [List.cons_append, finds, finds, finds_append t l l' (i + 1), List.append_assoc, List.length_cons, Nat.add_right_comm, Nat.add_assoc]
theorem finds_snoc (t : Tm) {l : List Tm} {k : Nat} {x : Tm} (h : l[k]? = some x) : finds t 0 (l.take (k + 1)) = finds t 0 (l.take k) ++ (if mayK x t then [(k : Int)] else []) := by
  have hk : k < l.length := (List.getElem?_eq_some_iff.1 h).1
  rw [List.take_add_one, h, finds_append]
  simp [finds, Nat.min_eq_left (Nat.le_of_lt hk)]
theorem finds_len (t : Tm) : ∀ (l : List Tm) (i : Nat), (finds t i l).length ≤ l.length
  | [], i => by simp [finds]
  | a :: l, i => by
    have := finds_len t l (i + 1)
    simp only [finds, List.length_append, List.length_cons]
    split <;> simp <;> omega
end Go.Proofs.Ytmanhdacnkpclaa
