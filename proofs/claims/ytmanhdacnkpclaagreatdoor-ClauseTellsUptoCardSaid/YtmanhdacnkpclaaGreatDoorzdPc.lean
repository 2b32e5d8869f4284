/- Reading clauses from bytes, plainly. -/
import Derived.Test.YtmanhdacnkpclaaGreatDoorzdDa
import Derived.Test.YtmanhdacnkpclaaGreatDoorzdFb
namespace Go.Proofs.YtmanhdacnkpclaaGreatDoor
set_option linter.all false

/-- the parts between bars -/
def splitGo (t : List UInt8) : Nat → Nat → Nat → List (List UInt8) → List (List UInt8)
  | 0, _, fr, parts => parts ++ [t.drop fr]
  | f + 1, i, fr, parts => if i + 3 ≤ t.length then (if (t.drop i).take 3 = [32, 124, 32] then splitGo t f (i + 3) (i + 3) (parts ++ [(t.drop fr).take (i - fr)]) else splitGo t f (i + 1) fr parts) else parts ++ [t.drop fr]
def splitB (t : List UInt8) : List (List UInt8) := splitGo t (t.length + 1) 0 0 []
/-- where the sign is -/
def eqAt : List UInt8 → Nat
  | [] => 0
  | c :: l => if c.toNat = 61 then 0 else eqAt l + 1
theorem eqAt_le : ∀ l, eqAt l ≤ l.length
  | [] => Nat.le_refl _
  | c :: l => by have := eqAt_le l; simp only [eqAt]; split <;> simp; omega
def Lt.zero : Lt := ⟨false, Tm.zero, Tm.zero⟩
/-- behind the left side: is it turned into its contrary? -/
def negEnd (l : List UInt8) : Bool := match l.getLast? with
  | some c => decide (c.toNat = 33)
  | none => false
def parseLit (s : List Int) (p : List UInt8) : Lt × Int :=
  let k := eqAt p
  if k = p.length then (Lt.zero, 2) else
  let left := p.take k
  let neg := negEnd left
  let l := if neg then left.take (k - 1) else left
  let a := parseTm s l
  if a.2 ≠ 0 then (Lt.zero, a.2) else
  let b := parseTm s (p.drop (k + 1))
  if b.2 ≠ 0 then (Lt.zero, b.2) else (⟨neg, a.1, b.1⟩, 0)
def parseLits (s : List Int) : List (List UInt8) → List Lt × Int
  | [] => ([], 0)
  | p :: ps => let x := parseLit s p
    if x.2 ≠ 0 then ([], x.2) else
    let r := parseLits s ps
    if r.2 ≠ 0 then ([], r.2) else (x.1 :: r.1, 0)
def clauseParse (s : List Int) (text : List UInt8) : List Lt × Int :=
  if wrongSig s ≠ 0 then ([], wrongSig s) else if text = [91, 93] then ([], 0) else
  if 4 < (splitB text).length then ([], 5) else parseLits s (splitB text)
theorem parseLits_ok {s : List Int} : ∀ {ps : List (List UInt8)} {k : Nat}, k ≤ ps.length → (∀ j p, j < k → ps[j]? = some p → (parseLit s p).2 = 0) → parseLits s ps = let r := parseLits s (ps.drop k); if r.2 ≠ 0 then ([], r.2) else ((ps.take k).map (fun p => (parseLit s p).1) ++ r.1, 0)
  | ps, 0, _, _ => by
    have key : ∀ ps, (parseLits s ps).2 ≠ 0 → parseLits s ps = ([], (parseLits s ps).2) := by
      intro ps h
      cases ps with
      | nil => exact absurd rfl h
      | cons p ps =>
        simp only [parseLits] at h ⊢
        split
        · rfl
        · split
          · rfl
          · rename_i h1 h2; simp only [h1, h2, if_false] at h; exact absurd rfl h
    simp only [List.drop_zero, List.take_zero, List.map_nil, List.nil_append]
    split
    · rename_i h; exact key ps h
    · rename_i h
      simp only [ne_eq, Decidable.not_not] at h
      exact Prod.ext rfl h
  | [], k + 1, h, _ => by simp at h
  | p :: ps, k + 1, h, hp => by
    have h0 := hp 0 p (by omega) rfl
    have ih := parseLits_ok (s := s) (ps := ps) (k := k) (by simpa using h) fun j q hj hq => hp (j + 1) q (by omega) (by simpa using hq)
    simp only [parseLits, h0, ne_eq, not_true_eq_false, if_false, List.drop_succ_cons, List.take_succ_cons, List.map_cons]
    rw [ih]
    simp only
    split
    · rename_i h1; simp only [ne_eq] at h1; simp [h1]
    · simp
theorem splitGo_len (t : List UInt8) : ∀ (f i fr : Nat) (parts : List (List UInt8)), ∀ q ∈ splitGo t f i fr parts, q ∈ parts ∨ q.length ≤ t.length
  | 0, i, fr, parts, q, hq => by
    simp only [splitGo, List.mem_append, List.mem_singleton] at hq
    rcases hq with h | rfl
    · exact .inl h
    · right; simp
  | f + 1, i, fr, parts, q, hq => by
    simp only [splitGo] at hq
    split at hq
    · split at hq
      · rcases splitGo_len t f _ _ _ q hq with h | h
        · rcases List.mem_append.1 h with h | h
          · exact .inl h
          · simp only [List.mem_singleton] at h; subst h; right; simp; omega
        · exact .inr h
      · exact splitGo_len t f _ _ _ q hq
    · simp only [List.mem_append, List.mem_singleton] at hq
      rcases hq with h | rfl
      · exact .inl h
      · right; simp
theorem splitB_len {t : List UInt8} : ∀ q ∈ splitB t, q.length ≤ t.length := fun q hq => by
  rcases splitGo_len t _ _ _ _ q hq with h | h
  · cases h
  · exact h
theorem parseLits_bad {s : List Int} {ps : List (List UInt8)} {k : Nat} {p : List UInt8} {e : Int} (h : ∀ j p, j < k → ps[j]? = some p → (parseLit s p).2 = 0) (hp : ps[k]? = some p) (he : (parseLit s p).2 = e) (h0 : e ≠ 0) : parseLits s ps = ([], e) := by
  have hk := (List.getElem?_eq_some_iff.1 hp).1
  rw [parseLits_ok (Nat.le_of_lt hk) h]
  have : ps.drop k = p :: ps.drop (k + 1) := by
    obtain ⟨_, e⟩ := List.getElem?_eq_some_iff.1 hp
    rw [← e]; exact List.drop_eq_getElem_cons hk
  rw [this]
  simp [parseLits, he, h0]
end Go.Proofs.YtmanhdacnkpclaaGreatDoor
