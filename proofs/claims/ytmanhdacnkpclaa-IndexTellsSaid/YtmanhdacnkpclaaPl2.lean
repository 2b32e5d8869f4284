/- What the index is, plainly: marks, keys, places. -/
import Derived.Test.YtmanhdacnkpclaaPl1
namespace Go.Proofs.Ytmanhdacnkpclaa
set_option linter.unusedVariables false
set_option linter.unusedSimpArgs false
open Go.RowKit

def mark : Tm → List Int → Int
  | ⟨v, n, _⟩, [] => if v then 0 else wrap64 (n + 1)
  | ⟨v, _, l⟩, i :: p => if v then -1 else if (l.length : Int) ≤ i then -2 else mark (l.getD i.toNat ⟨false, 0, []⟩) p
def mayU (x y : Int) : Bool := decide (x = y ∨ x = -1 ∨ y = -1 ∨ (x = 0 ∧ 0 < y) ∨ (y = 0 ∧ 0 < x))
def mayM (x y : Int) : Bool := decide (x = y ∨ x = -1 ∨ (x = 0 ∧ 0 < y))
mutual
def places : Tm → List (List Int)
  | ⟨v, _, l⟩ => if v then [] else [] :: placesL 0 l
def placesL : Nat → List Tm → List (List Int)
  | _, [] => []
  | i, a :: l => (places a).map (fun p => (i : Int) :: p) ++ placesL (i + 1) l
end
def at_ : Tm → List Int → Tm × Bool
  | t, [] => (t, true)
  | ⟨_, _, l⟩, i :: p => if i < 0 ∨ (l.length : Int) ≤ i then (⟨false, 0, []⟩, false) else at_ (l.getD i.toNat ⟨false, 0, []⟩) p
theorem placesL_append : ∀ (l l' : List Tm) (i : Nat), placesL i (l ++ l') = placesL i l ++ placesL (i + l.length) l'
  | [], l', i => by simp [placesL]
  | a :: l, l', i => by rw [List.cons_append, placesL, placesL, placesL_append l l' (i + 1), List.append_assoc, List.length_cons, Nat.add_right_comm, Nat.add_assoc]
theorem placesL_snoc {l : List Tm} {k : Nat} {x : Tm} (h : l[k]? = some x) : placesL 0 (l.take (k + 1)) = placesL 0 (l.take k) ++ (places x).map (fun p => (k : Int) :: p) := by
  have hk : k < l.length := (List.getElem?_eq_some_iff.1 h).1
  rw [List.take_add_one, h, placesL_append]
  simp [placesL, Nat.min_eq_left (Nat.le_of_lt hk)]
theorem getD_of {l : List Tm} {k : Nat} {x : Tm} (h : l[k]? = some x) (d : Tm) : l.getD k d = x := by simp [List.getD, h]
theorem drop_of {α : Type} {l : List α} {k : Nat} {x : α} (h : l[k]? = some x) : l.drop k = x :: l.drop (k + 1) := by
  obtain ⟨hk, e⟩ := List.getElem?_eq_some_iff.1 h
  rw [← e]; exact List.drop_eq_getElem_cons hk
end Go.Proofs.Ytmanhdacnkpclaa
