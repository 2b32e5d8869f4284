/- A world of the door's in which the tables lie, the pinned one too. -/
import Derived.Test.YtmanhdacnkpclaaGreatDoorTie
import Derived.Test.YtmanhdacnkpclaaGreatDoorCards
import Derived.LaidMore
import Derived.LaidLaws
namespace Go.Proofs.YtmanhdacnkpclaaGreatDoor
set_option linter.all false

/-- the pinned table's cells -/
def firstCells : Array Value := match Go.Pinned.utf8First with
  | .agg l => (l.map fun | .lit (.int k n) => Value.int k n | _ => .tuple #[]).toArray
  | _ => #[]
noncomputable def doorWorld (os : Os) : World :=
  { World.doorLaid Tryz.prog 34 os with heap := (World.doorLaid Tryz.prog 34 os).heap.modify 1 fun
      | .cells _ t fr => .cells firstCells t fr
      | o => o }
/-- the door's own heap meets the condition -/
theorem door_met (os : Os) (args : Array Value) : laidMetH Tryz.prog [("math/bits.deBruijn32tab", Rows.laid_math_bits_deBruijn32tab), ("math/bits.deBruijn64tab", Rows.laid_math_bits_deBruijn64tab), ("internal/strconv.uint64pow10", Rows.laid_internal_strconv_uint64pow10), ("unicode/utf8.acceptRanges", Rows.laid_unicode_utf8_acceptRanges), ("unicode/utf8.first", Rows.laid_unicode_utf8_first)] ((doorWorld os).forCall (fun _ _ => 0) ⟨#[], args, []⟩).memory :=
  laidMetH_of_parts3 (fuel := 8) (laidMet_of_run' 8 (by kernel_rfl) (by kernel_rfl)) (by kernel_rfl) (by kernel_rfl)
end Go.Proofs.YtmanhdacnkpclaaGreatDoor
