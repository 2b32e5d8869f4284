/- Right terms are small. -/
import Derived.Test.YtmanhdacnkpclaaPl3
import Derived.Test.YtmanhdacnkpclaaPure3
import Derived.Test.YtmanhdacnkpclaaG6
namespace Go.Proofs.Ytmanhdacnkpclaa
set_option linter.unusedVariables false
set_option linter.unusedSimpArgs false
open Go.RowKit

theorem any_at {l : List Int} {p : Int → Bool} (h : l.any p = false) (k : Nat) (x : Int) (hx : l[k]? = some x) : p x = false := by
  rw [List.any_eq_false] at h
  simpa using h x (mem_of_get hx)

mutual
theorem okv_of (s : List Int) : ∀ (t : Tm) (d : Int), walk s t d = 0 → t.okv = true
  | ⟨true, n, l⟩, d, h => by
    simp only [walk] at h
    split at h
    · cases h
    · simp only [if_true] at h
      split at h
      · cases h
      · rename_i h1
        split at h
        · rename_i h2
          have : l = [] := List.eq_nil_of_length_eq_zero h2
          subst this
          simp [Tm.okv]; omega
        · cases h
  | ⟨false, n, l⟩, d, h => by
    simp only [walk] at h
    split at h
    · cases h
    · simp only [Bool.false_eq_true, if_false] at h
      split at h
      · cases h
      · split at h
        · simp only [Tm.okv]; exact okvs_of s l _ h
        · cases h
theorem okvs_of (s : List Int) : ∀ (l : List Tm) (d : Int), walks s l d = 0 → Tm.okvs l = true
  | [], _, _ => rfl
  | a :: l, d, h => by
    simp only [walks] at h
    split at h
    · rename_i h1; simp only [Tm.okvs, okv_of s a d h1, okvs_of s l d h, Bool.and_self]
    · rename_i h1; exact absurd h h1
end

mutual
theorem size_of (s : List Int) (hs : wrongSig s = 0) : ∀ (t : Tm) (d : Int) (k : Nat), walk s t d = 0 → 13 ≤ d + k → t.size + 1 ≤ 2 ^ k
  | ⟨v, n, l⟩, d, k, h, hk => by
    have hd : d ≤ 12 := by
      rcases Decidable.em (12 < d) with h1 | h1
      · simp [walk, h1] at h
      · omega
    obtain ⟨k, rfl⟩ : ∃ m, k = m + 1 := ⟨k - 1, by omega⟩
    simp only [walk, if_neg (show ¬ 12 < d by omega)] at h
    have hl : l.length ≤ 2 ∧ (walks s l (d + 1) = 0 ∨ l = []) := by
      cases v
      · simp only [Bool.false_eq_true, if_false] at h
        split at h
        · cases h
        · split at h
          · rename_i h1 h2
            refine ⟨?_, .inl h⟩
            have hn : n.toNat < s.length := by omega
            have h3 : s.getD n.toNat 0 = s[n.toNat] := by simp [List.getD, List.getElem?_eq_getElem hn]
            have h4 : ¬ (s[n.toNat] < 0 ∨ 2 < s[n.toNat]) := by
              unfold wrongSig at hs
              split at hs
              · cases hs
              · split at hs
                · cases hs
                · rename_i h5
                  simp only [Bool.not_eq_true] at h5
                  have := any_at h5 n.toNat _ (List.getElem?_eq_getElem hn)
                  simpa using this
            rw [h3] at h2
            omega
          · cases h
      · simp only [if_true] at h
        split at h
        · cases h
        · split at h
          · rename_i h2
            have : l = [] := List.eq_nil_of_length_eq_zero h2
            subst this
            exact ⟨by simp, .inr rfl⟩
          · cases h
    have hp : 1 ≤ 2 ^ k := Nat.one_le_two_pow
    have h2k : 2 ^ (k + 1) = 2 ^ k + 2 ^ k := by rw [Nat.pow_succ]; omega
    simp only [Tm.size]
    rcases hl.2 with h1 | rfl
    · have := sizes_of s hs l (d + 1) k h1 (by omega)
      have h3 : l.length * 2 ^ k ≤ 2 * 2 ^ k := Nat.mul_le_mul_right _ hl.1
      rcases Nat.eq_zero_or_pos l.length with h0 | h0
      · have : l = [] := List.eq_nil_of_length_eq_zero h0
        subst this
        simp [Tm.sizes]; omega
      · rcases (show l.length = 1 ∨ l.length = 2 by omega) with h4 | h4 <;> rw [h4] at this <;> omega
    · simp [Tm.sizes]; omega
theorem sizes_of (s : List Int) (hs : wrongSig s = 0) : ∀ (l : List Tm) (d : Int) (k : Nat), walks s l d = 0 → 13 ≤ d + k → Tm.sizes l + l.length ≤ l.length * 2 ^ k
  | [], _, _, _, _ => by simp [Tm.sizes]
  | a :: l, d, k, h, hk => by
    simp only [walks] at h
    split at h
    · rename_i h1
      have e1 := size_of s hs a d k h1 hk
      have e2 := sizes_of s hs l d k h hk
      simp only [Tm.sizes, List.length_cons, Nat.add_mul]
      omega
    · rename_i h1; exact absurd h h1
end

/-- a right term: small, and as chapter 2 has them -/
theorem rightT {s : List Int} {t : Tm} (hs : wrongSig s = 0) (h : wrong s t = 0) : t.size ≤ 12 ∧ t.okv = true ∧ walk s t 1 = 0 := by
  unfold wrong at h
  split at h
  · rename_i h1
    have h2 := size_of s hs t 1 12 h1 (by omega)
    have h3 : wrap64 (t.size : Int) = t.size := IntWalk.wrap64_in _ ⟨by omega, by omega⟩
    split at h
    · cases h
    · rename_i h4
      rw [h3] at h4
      exact ⟨by omega, okv_of s t 1 h1, h1⟩
  · rename_i h1; exact absurd h h1

end Go.Proofs.Ytmanhdacnkpclaa
