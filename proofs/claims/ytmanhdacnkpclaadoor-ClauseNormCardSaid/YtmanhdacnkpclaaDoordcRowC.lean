/- A world of the door's in which the tables lie, the pinned one too. -/
import Derived.Test.YtmanhdacnkpclaaDoorTie
import Derived.Test.YtmanhdacnkpclaaDoorCards
import Derived.LaidMore
import Derived.LaidLaws
namespace Go.Proofs.YtmanhdacnkpclaaDoor
set_option linter.all false

/-- the pinned table's cells -/
def firstCells : Array Value := match Go.Pinned.utf8First with
  | .agg l => (l.map fun | .lit (.int k n) => Value.int k n | _ => .tuple #[]).toArray
  | _ => #[]
noncomputable def doorWorld (os : Os) : World :=
  { World.doorLaid Tryd.prog 34 os with heap := (World.doorLaid Tryd.prog 34 os).heap.modify 2 fun
      | .cells _ t fr => .cells firstCells t fr
      | o => o }
/-- the door's own heap meets the condition -/
theorem door_met (os : Os) (args : Array Value) : laidMetH Tryd.prog Rows.clauseNormRow.laid ((doorWorld os).forCall (fun _ _ => 0) ⟨#[], args, []⟩).memory :=
  laidMetH_of_parts3 (fuel := 8) (laidMet_of_run' 8 (by kernel_rfl) (by kernel_rfl)) (by kernel_rfl) (by kernel_rfl)
end Go.Proofs.YtmanhdacnkpclaaDoor
