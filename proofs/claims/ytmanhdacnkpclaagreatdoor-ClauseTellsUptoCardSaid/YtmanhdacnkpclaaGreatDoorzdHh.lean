/- What functions do: which clauses hold of a model; a clause's variables. -/
import Derived.Test.YtmanhdacnkpclaaGreatDoorzdH1
import Derived.Test.YtmanhdacnkpclaaGreatDoorzdPb1
import Derived.Test.YtmanhdacnkpclaaGreatDoorzdDd
import Derived.Test.YtmanhdacnkpclaaGreatDoorzdCl
/- What functions do: which clauses hold of a model; a clause's variables. -/
namespace Go.Proofs.YtmanhdacnkpclaaGreatDoor
set_option linter.all false
open Go.RowKit

end Go.Proofs.YtmanhdacnkpclaaGreatDoor

/- What functions do: Holds of the document's answer; each term of a clause. -/
namespace Go.Proofs.YtmanhdacnkpclaaGreatDoor
set_option linter.all false
open Go.RowKit

/-! ## each term of a clause -/
theorem each_snoc {g : Tm → Tm} {c : List Lt} {k : Nat} {x : Lt} (h : c[k]? = some x) : each g (c.take k) ++ [⟨x.neg, g x.left, g x.right⟩] = each g (c.take (k + 1)) := snoc (fun l : Lt => (⟨l.neg, g l.left, g l.right⟩ : Lt)) h
theorem each_len {g : Tm → Tm} {c : List Lt} : (each g c).length = c.length := by simp [each]
set_option maxHeartbeats 4000000 in
set_option maxRecDepth 100000 in
theorem rEach1 (f : FuncId) (fc : List FC) (g : Tm → Tm) (hf : enters Tryz.prog f = true) (c : List Lt) (hl : c.length ≤ 1000000000)
    (hp : ∀ l ∈ c, FnD Tryz.prog f [tA l.left, .c (.fp fc)] (.one (tA (g l.left))) ∧ FnD Tryz.prog f [tA l.right, .c (.fp fc)] (.one (tA (g l.right)))) :
    FnD Tryz.prog 21 [lA Lt.d c, .c (.fnv f [fc])] (.one (lA Lt.d (each g c))) := by
  refine Fn.of Tryz.func21 rfl Tryz.ntmps21 rfl (Nat.le_of_ble_eq_true rfl) ?_
  (refine wlk ?_)
  refine dwp_loop (fun k : Nat => [(.t 1, some (.one (.c (.fnv f [fc])))), (.t 5, some (.one (.c (.own 44 7 ((each g (c.take k)).map Lt.d))))), (.t 8, some (.one (lA Lt.d c))), (.t 9, some (.one (iA c.length))), (.t 10, some (.one (iA k)))])
    (fun k => k ≤ c.length) (fun k => c.length - k) 0 (by omega) ((Wk.nilOwn (d := 5) (E := 44) (m := 7) rfl).trans fgs) ?_
  intro k hk
  by_cases hkl : k < c.length
  · obtain ⟨⟨ng, xl, xr⟩, hx⟩ := get_of_lt hkl
    obtain ⟨h1, h2⟩ := hp _ (List.mem_of_getElem? hx)
    dsimp only at h1 h2
    have hsn := each_snoc (g := g) hx
    have hel : (each g (c.take (k + 1))).length ≤ 1000000000 := by rw [each_len, List.length_take]; omega
    (refine wlk ?_)
    (refine SqA.b1 (op_callV none rfl rfl rfl hf (FnD.use (h1)) rfl rfl rfl rfl rfl rfl) rfl rfl ?_)
    (refine wlk ?_)
    (refine SqA.b1 (op_callV none rfl rfl rfl hf (FnD.use (h2)) rfl rfl rfl rfl rfl rfl) rfl rfl ?_)
    (refine wlk ?_)
    (refine SqA.b1 (op_bsT (T := TB) (f := Lt.d) [(⟨ng, g xl, g xr⟩ : Lt)] rfl rfl rfl rfl rfl rfl rfl rfl rfl rfl rfl) rfl rfl ?_)
    (refine wlk ?_)
    exact ⟨k + 1, by omega, fgs, by omega⟩
  · have : k = c.length := by omega
    subst this
    rw [List.take_length]
    (refine wlk ?_)
    refine fin_wk (fun n => Wk.freezeAt (d := 4) rfl) ?_
    (first | (refine finR (.tmp rfl .nil) rfl rfl ?_) | (refine finN (.tmp rfl .nil) rfl rfl ?_))
    rfl
end Go.Proofs.YtmanhdacnkpclaaGreatDoor
