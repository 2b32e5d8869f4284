/- Texts of clauses, written and read back, plainly. -/
import Derived.Test.YtmanhdacnkpclaaGreatDoorzdT0
import Derived.Test.YtmanhdacnkpclaaGreatDoorzdWS
import Derived.Test.YtmanhdacnkpclaaGreatDoorzdPb1
namespace Go.Proofs.YtmanhdacnkpclaaGreatDoor
set_option linter.all false

def litText (l : Lt) : List UInt8 := (text l.left ++ (if l.neg then [33, 61] else [61])) ++ text l.right
def clText : List Lt → List UInt8
  | [] => [91, 93]
  | l :: c => c.foldl (fun s x => (s ++ [32, 124, 32]) ++ litText x) (litText l)
theorem clText_one {c : List Lt} {x : Lt} (h : c[0]? = some x) : clText (c.take 1) = litText x := by
  cases c with
  | nil => simp at h
  | cons l c => simp at h; subst h; rfl
theorem clText_more {c : List Lt} {k : Nat} {x : Lt} (hk : k ≠ 0) (h : c[k]? = some x) : clText (c.take (k + 1)) = (clText (c.take k) ++ [32, 124, 32]) ++ litText x := by
  cases c with
  | nil => simp at h
  | cons l c =>
    cases k with
    | zero => exact absurd rfl hk
    | succ j =>
      simp only [List.getElem?_cons_succ] at h
      simp only [List.take_succ_cons, clText]
      rw [take_succ_of h, List.foldl_append]; rfl
theorem litText_len {l : Lt} (h : l.left.size ≤ 12 ∧ l.right.size ≤ 12) : (litText l).length ≤ 98 := by
  have h1 := text_len l.left
  have h2 := text_len l.right
  unfold litText
  cases l.neg <;> simp <;> omega

/-- texts one behind the other, with bars between -/
def barJ : List (List UInt8) → List UInt8
  | [] => []
  | [x] => x
  | x :: y :: l => x ++ barL ++ barJ (y :: l)
theorem foldl_bar (c : List Lt) : ∀ a : List UInt8, c.foldl (fun s x => (s ++ [32, 124, 32]) ++ litText x) a = barJ (a :: c.map litText) := by
  induction c with
  | nil => intro a; rfl
  | cons x c ih =>
    intro a
    rw [List.foldl_cons, ih]
    cases c with
    | nil => rfl
    | cons y c => simp [barJ]
theorem clText_bar (l : Lt) (c : List Lt) : clText (l :: c) = barJ (litText l :: c.map litText) := foldl_bar c (litText l)
end Go.Proofs.YtmanhdacnkpclaaGreatDoor
