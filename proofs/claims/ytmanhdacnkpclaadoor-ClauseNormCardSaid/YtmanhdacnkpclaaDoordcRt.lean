/- Right terms, plainly. -/
import Derived.Test.YtmanhdacnkpclaaDoordcPa1
import Derived.Test.YtmanhdacnkpclaaDoordcPb1

namespace Go.Proofs.YtmanhdacnkpclaaDoor
set_option linter.all false
open Go.RowKit

theorem few_tok {S : List Int} {t : Tm} (h : t.wf S = true) : few t := fun v hv => by have := times_wf h hv; omega
end Go.Proofs.YtmanhdacnkpclaaDoor
