/- slices.Delete of one element: what its code does. -/
import Derived.Test.YtmanhdacnkpclaaDoordcGk
import Derived.Test.YtmanhdacnkpclaaDoordcEb
import Derived.Deep.RegionLaw
import Derived.Test.YtmanhdacnkpclaaDoordcCl
import Derived.Lib.AppendZeros
/- slices.Delete of one element: what its code does. -/
namespace Go.Proofs.YtmanhdacnkpclaaDoor
set_option linter.all false
open Go.RowKit

end Go.Proofs.YtmanhdacnkpclaaDoor

/- A slice that grows from nothing (slices.Grow), and clauses one behind the other (slices.Concat). -/
namespace Go.Proofs.YtmanhdacnkpclaaDoor
set_option linter.all false
open Go.RowKit

open Classical in
noncomputable def tagOwn (v : Value) (who : Nat → Tag) : Nat → Tag := fun b => if v.ownBlock = some b then .own (.t 0) 0 0 else who b
end Go.Proofs.YtmanhdacnkpclaaDoor

/- What functions do: a clause without one of its literals (the program). -/
namespace Go.Proofs.YtmanhdacnkpclaaDoor
set_option linter.all false
open Go.RowKit

end Go.Proofs.YtmanhdacnkpclaaDoor
