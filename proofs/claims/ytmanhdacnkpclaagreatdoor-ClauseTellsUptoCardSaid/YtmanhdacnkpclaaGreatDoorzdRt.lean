/- Right terms, plainly. -/
import Derived.Test.YtmanhdacnkpclaaGreatDoorzdPa1
import Derived.Test.YtmanhdacnkpclaaGreatDoorzdPb1

namespace Go.Proofs.YtmanhdacnkpclaaGreatDoor
set_option linter.all false
open Go.RowKit

theorem few_tok {S : List Int} {t : Tm} (h : t.wf S = true) : few t := fun v hv => by have := times_wf h hv; omega
end Go.Proofs.YtmanhdacnkpclaaGreatDoor
