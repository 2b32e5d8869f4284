/- Keeping clauses: what the walks need. -/
import Derived.Test.YtmanhdacnkpclaaDoorq6GJ
import Derived.Test.YtmanhdacnkpclaaDoorq6N0
import Derived.Test.YtmanhdacnkpclaaDoorq6Cn
namespace Go.Proofs.YtmanhdacnkpclaaDoor
set_option linter.all false
open Go.RowKit

theorem w64 {n : Nat} (h : n ≤ 4000000000000000000) : wrap64 (n : Int) = n := by unfold wrap64; omega
theorem orients_sz {c o : List Lt} (h : orients c = some o) (hc : clSz c) : clSz o := fun l hl => by
  obtain ⟨k, hk, _, rfl⟩ := orients_mem h l hl
  have := hc k hk
  rcases orient1_two k with ⟨e1, e2⟩ | ⟨e1, e2⟩ <;> rw [e1, e2] <;> omega
theorem numb_sz {o : List Lt} (hk : clOkv o) (hc : clSz o) : clSz (each (app (numb (clVars [] o))) o) := fun l hl => by
  simp only [each, List.mem_map] at hl
  obtain ⟨x, hx, rfl⟩ := hl
  have h1 := size_numb (vs := clVars [] o) x.left (hk x hx).1 fun v hv => mem_clVars o [] hk x hx (.inl hv)
  have h2 := size_numb (vs := clVars [] o) x.right (hk x hx).2 fun v hv => mem_clVars o [] hk x hx (.inr hv)
  have := hc x hx
  dsimp only
  omega
theorem Xn {c : List Lt} {e : Int} {r : List Lt × Int} (h : (c, e) = r) : (.tup [lA Lt.d c, iA e] : X) = .tup [lA Lt.d r.1, iA r.2] := by rw [← h]
end Go.Proofs.YtmanhdacnkpclaaDoor
