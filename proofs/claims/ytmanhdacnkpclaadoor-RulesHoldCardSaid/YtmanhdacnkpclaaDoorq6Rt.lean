/- Right terms, plainly. -/
import Derived.Test.YtmanhdacnkpclaaDoorq6Pa1
import Derived.Test.YtmanhdacnkpclaaDoorq6Pb1

namespace Go.Proofs.YtmanhdacnkpclaaDoor
set_option linter.all false
open Go.RowKit

theorem size_ren {k : Int} : ∀ t : Tm, (ren k t).size = t.size := by
  refine Tm.ind ?_
  intro v n l ih
  cases v
  · simp only [ren, Tm.size, rens_eq]
    congr 1
    have key : ∀ l : List Tm, (∀ a ∈ l, (ren k a).size = a.size) → Tm.sizes (l.map (ren k)) = Tm.sizes l := by
      intro l
      induction l with
      | nil => intro _; rfl
      | cons a l ih => intro h; simp only [List.map_cons, Tm.sizes, h a (by simp), ih fun b hb => h b (by simp [hb])]
    exact key l ih
  · rfl
theorem unifyF_inv {root : Tm} : ∀ (f : Nat) (s : List Pr) (todo : List (Tm × Tm)) (r : List Pr), UInv root s todo → unifyF f s todo = some r → UInv root r []
  | f, s, [], r, hi, h => by
    have : s = r := by cases f <;> simpa [unifyF] using h
    subst this; exact hi
  | 0, s, (a, b) :: todo, r, _, h => by simp [unifyF] at h
  | f + 1, s, (a, b) :: todo, r, hi, h => by
    have hab := hi.ok (a, b) (by simp)
    simp only [unifyF] at h
    split at h
    · cases h
    · rename_i s' todo' hst
      exact unifyF_inv f s' todo' r (hi.step (ustep_way (app_okv hi.idem.1 a hab.1) (app_okv hi.idem.1 b hab.2) hst)).1 h
theorem unify_len {a b : Tm} (ha : Old a) (hb : Old b) {r : List Pr} (h : unify a b = some r) : r.length ≤ 1000000 := by
  have := (unifyF_inv _ _ _ r (UInv.start ha hb) h).len_le
  omega
end Go.Proofs.YtmanhdacnkpclaaDoor
