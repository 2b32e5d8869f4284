/- slices.Delete of one element: what its code does. -/
import Derived.Test.YtmanhdacnkpclaaGreatDoorzdGk
import Derived.Test.YtmanhdacnkpclaaGreatDoorzdEb
import Derived.Deep.RegionLaw
import Derived.Test.YtmanhdacnkpclaaGreatDoorzdCl
import Derived.Lib.AppendZeros
/- slices.Delete of one element: what its code does. -/
namespace Go.Proofs.YtmanhdacnkpclaaGreatDoor
set_option linter.all false
open Go.RowKit

end Go.Proofs.YtmanhdacnkpclaaGreatDoor

/- A slice that grows from nothing (slices.Grow), and clauses one behind the other (slices.Concat). -/
namespace Go.Proofs.YtmanhdacnkpclaaGreatDoor
set_option linter.all false
open Go.RowKit

open Classical in
noncomputable def tagOwn (v : Value) (who : Nat → Tag) : Nat → Tag := fun b => if v.ownBlock = some b then .own (.t 0) 0 0 else who b
end Go.Proofs.YtmanhdacnkpclaaGreatDoor

/- What functions do: a clause without one of its literals (the program). -/
namespace Go.Proofs.YtmanhdacnkpclaaGreatDoor
set_option linter.all false
open Go.RowKit

end Go.Proofs.YtmanhdacnkpclaaGreatDoor
