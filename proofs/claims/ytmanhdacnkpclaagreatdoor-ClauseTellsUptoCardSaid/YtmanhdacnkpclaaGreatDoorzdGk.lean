/- Lending by the header's value. -/
import Derived.Test.YtmanhdacnkpclaaGreatDoorzdFf
import Derived.Test.YtmanhdacnkpclaaGreatDoorzdFd
import Derived.Test.YtmanhdacnkpclaaGreatDoorzdFc
/- Lending by the header's value. -/
namespace Go.Proofs.YtmanhdacnkpclaaGreatDoor
set_option linter.all false
open Go.RowKit
section
variable {P : Program} {n : Nat} {o : Oper} {σ : St}
theorem lend_val {L : Tag → Prop} {s : Operand} {t E m : Nat} {v : Value} {ds : List D} (hs : St.ev σ s = some (.one (.c (.val v)))) (hk : St.get σ (.t t) = some (.one (.c (.ownK v E m ds)))) (hL : L (.own (.t t) 0 0)) : Lend n σ L (opKey s ++ [.t t]) s (.c (.arr ds)) := fun σ' hag C who a w hr k p => by
  have e : a.eval s = v := hr.ev ((ev_agree fun k hk => hag k (List.mem_append_left _ hk)).trans hs)
  obtain ⟨e2, h1⟩ := hr.slot t _ ((hag (.t t) (by simp)).trans hk)
  have h2 : cvm w (tagAll (.own (.t t) 0 0) .froz who) .froz (.arr ds) (a.tmps.getD t undef) := cvm.tag_frz (E := E) (m := m) h1
  rw [e2] at h2
  rw [e]
  exact rd.wide h2 fun b _ hb => lendT_tag (by simp) hL hb
end
end Go.Proofs.YtmanhdacnkpclaaGreatDoor

/- A pointer that is known, and a copy of it. -/
namespace Go.Proofs.YtmanhdacnkpclaaGreatDoor
set_option linter.all false
open Go.RowKit

section
variable {P : Program} {n : Nat} {o : Oper} {σ : St}
end
end Go.Proofs.YtmanhdacnkpclaaGreatDoor

/- An element taken out of a slice of one's own, in place (slices.Delete), as one step. -/
namespace Go.Proofs.YtmanhdacnkpclaaGreatDoor
set_option linter.all false
open Go.RowKit

section
variable {P : Program} {n : Nat} {o : Oper} {σ : St}
end
end Go.Proofs.YtmanhdacnkpclaaGreatDoor

/- A box lent to a call that only looks, by its pointer or by what a function value holds; fields of elements by a known header; known pointers. -/
namespace Go.Proofs.YtmanhdacnkpclaaGreatDoor
set_option linter.all false
open Go.RowKit
section
variable {P : Program} {n : Nat} {o : Oper} {σ : St}
end
end Go.Proofs.YtmanhdacnkpclaaGreatDoor

/- Structs in which slices of the call's own lie: loaded, stored, built around, boxed. -/
namespace Go.Proofs.YtmanhdacnkpclaaGreatDoor
set_option linter.all false
open Go.RowKit
section
variable {P : Program} {n : Nat} {o : Oper} {σ : St} {C : Ctx} {who : Nat → Tag} {a : Act} {w : World}
end
end Go.Proofs.YtmanhdacnkpclaaGreatDoor

/- A slice of one's own that stands in a box, as a box; elements stored in drawn regions. -/
namespace Go.Proofs.YtmanhdacnkpclaaGreatDoor
set_option linter.all false
open Go.RowKit
section
variable {P : Program} {n : Nat} {o : Oper} {σ : St}
end
end Go.Proofs.YtmanhdacnkpclaaGreatDoor
