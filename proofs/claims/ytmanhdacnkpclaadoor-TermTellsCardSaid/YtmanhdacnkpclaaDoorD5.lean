/- What functions do: Unify, More. -/
import Derived.Test.YtmanhdacnkpclaaDoorD4
namespace Go.Proofs.YtmanhdacnkpclaaDoor
set_option linter.all false
open Go.RowKit

theorem Xmo {r r' : List Pr × Bool} (h : r = r') : (.tup [lA Pr.d r.1, bA r.2] : X) = .tup [lA Pr.d r'.1, bA r'.2] := by rw [h]
theorem moreR_sym {s : List Pr} {n : Int} {l : List Tm} {t : Tm} : moreR s ⟨false, n, l⟩ t = if t.var = true ∨ t.n ≠ n ∨ t.args.length ≠ l.length then ([], false) else moresR s l t.args := by rw [moreR]
theorem moresR_at {s : List Pr} {l l' : List Tm} {k : Nat} {p t : Tm} (hp : l[k]? = some p) (ht : l'[k]? = some t) : moresR s (l.drop k) (l'.drop k) = match moreR s p t with | (s', true) => moresR s' (l.drop (k + 1)) (l'.drop (k + 1)) | (_, false) => ([], false) := by
  rw [drop_of hp, drop_of ht, moresR]
  cases moreR s p t with
  | mk s' b => cases b <;> rfl
end Go.Proofs.YtmanhdacnkpclaaDoor
