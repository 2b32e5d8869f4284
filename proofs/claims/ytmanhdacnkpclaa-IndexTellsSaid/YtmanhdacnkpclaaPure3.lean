/- Terms that are as chapter 2 has them: variables without arguments, numbered from 0 on. -/
import Derived.Test.YtmanhdacnkpclaaPure2
namespace Go.Proofs.Ytmanhdacnkpclaa
set_option linter.unusedVariables false
set_option linter.unusedSimpArgs false

mutual
def Tm.okv : Tm → Bool
  | ⟨true, n, l⟩ => l.isEmpty && decide (0 ≤ n) && decide (n ≤ 1000000)
  | ⟨false, _, l⟩ => Tm.okvs l
def Tm.okvs : List Tm → Bool
  | [] => true
  | a :: l => Tm.okv a && Tm.okvs l
end
theorem Tm.okvs_iff : ∀ l, Tm.okvs l = true ↔ ∀ t ∈ l, t.okv = true
  | [] => by simp [Tm.okvs]
  | a :: l => by simp [Tm.okvs, Tm.okvs_iff l]
mutual
theorem vars_mem_old (x : Int) : ∀ (t : Tm) (l : List Int), x ∈ l → x ∈ vars l t
  | ⟨true, n, r⟩, l, h => by simp only [vars]; split; exact h; simp [h]
  | ⟨false, n, r⟩, l, h => by simp only [vars]; exact varss_mem_old x r l h
theorem varss_mem_old (x : Int) : ∀ (r : List Tm) (l : List Int), x ∈ l → x ∈ varss l r
  | [], l, h => h
  | a :: r, l, h => by simp only [varss]; exact varss_mem_old x r _ (vars_mem_old x a l h)
end
mutual
theorem times_mem (x : Int) : ∀ (t : Tm) (l : List Int), t.okv = true → times x t ≠ 0 → x ∈ vars l t ∧ 0 ≤ x ∧ x ≤ 1000000
  | ⟨true, n, r⟩, l, h, h' => by
    simp only [Tm.okv, Bool.and_eq_true, List.isEmpty_iff, decide_eq_true_eq] at h
    obtain ⟨⟨rfl, h1⟩, h2⟩ := h
    simp only [times, timess] at h'
    have hn : n = x := by
      rcases Decidable.em (n = x) with h | h
      · exact h
      · simp [h] at h'
    subst hn
    refine ⟨?_, h1, h2⟩
    simp only [vars]; split
    · assumption
    · simp
  | ⟨false, n, r⟩, l, h, h' => by
    simp only [Tm.okv] at h
    simp only [times, Bool.false_and, Bool.false_eq_true, if_false, Nat.zero_add] at h'
    simp only [vars]
    exact timess_mem x r l h h'
theorem timess_mem (x : Int) : ∀ (r : List Tm) (l : List Int), Tm.okvs r = true → timess x r ≠ 0 → x ∈ varss l r ∧ 0 ≤ x ∧ x ≤ 1000000
  | [], _, _, h' => by simp [timess] at h'
  | a :: r, l, h, h' => by
    simp only [Tm.okvs, Bool.and_eq_true] at h
    simp only [timess] at h'
    simp only [varss]
    rcases Decidable.em (times x a = 0) with h0 | h0
    · exact timess_mem x r _ h.2 (by omega)
    · obtain ⟨h1, h2⟩ := times_mem x a l h.1 h0
      exact ⟨varss_mem_old x r _ h1, h2⟩
end

/-- the test of 'above' on variables, said of all numbers -/
theorem any_times {T U : Tm} (hU : U.okv = true) : (vars [] U).any (fun v => decide (times v T < times v U)) = true ↔ ∃ x, times x T < times x U := by
  rw [List.any_eq_true]
  constructor
  · rintro ⟨x, _, h⟩; exact ⟨x, by simpa using h⟩
  · rintro ⟨x, h⟩; exact ⟨x, (times_mem x U [] hU (by omega)).1, by simpa using h⟩

end Go.Proofs.Ytmanhdacnkpclaa
