/- The clauses' law: its closed fact. -/
import Derived.Test.YtmanhdacnkpclaaGreatDoorzdCB
import Derived.Test.YtmanhdacnkpclaaGreatDoorzdPW
import Derived.Test.YtmanhdacnkpclaaGreatDoorzdN1
import Derived.Test.YtmanhdacnkpclaaGreatDoorzdRt
namespace Go.Proofs.YtmanhdacnkpclaaGreatDoor
set_option linter.all false
open Go.RowKit

theorem cok_few {S : List Int} {c : List Lt} (h : COk S c) : clFew c := fun l hl => ⟨few_tok (h.wf l hl).1, few_tok (h.wf l hl).2⟩
theorem cok_sz4 {s : List Int} {c : List Lt} (h : COk s c) : clSz c := fun l hl => by have := h.size l hl; omega
abbrev a4 : Tm := ⟨false, 0, []⟩
end Go.Proofs.YtmanhdacnkpclaaGreatDoor
