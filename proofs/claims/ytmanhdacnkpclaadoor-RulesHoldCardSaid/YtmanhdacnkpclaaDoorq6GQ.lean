/- A pointer that is known, and a copy of it. -/
import Derived.Test.YtmanhdacnkpclaaDoorq6GJ
import Derived.Test.YtmanhdacnkpclaaDoorq6Fd
import Derived.Test.YtmanhdacnkpclaaDoorq6Fc
namespace Go.Proofs.YtmanhdacnkpclaaDoor
set_option linter.all false
open Go.RowKit

section
variable {P : Program} {n : Nat} {o : Oper} {σ : St}
theorem op_nilBK {d j tp : Nat} {v : Value} {s : Operand} (hd : o.dst = some d) (ho : o.op = .nilCheck s) (hs : St.ev σ s = some (.one (.c (.val v)))) (hk : St.get σ (.t tp) = some (.one (.c (.isB v j)))) :
    Op1 P n o ⟨(opKey s ++ [.t tp]) ++ (X.one (.c (.ptr j 0))).ids.map Key.b, [.t d], []⟩ σ [(.t d, some (.one (.c (.ptr j 0))))] :=
  .value _ hd fun σ' hag C who a w hr => by
    have e : a.eval s = v := hr.ev ((ev_agree fun k hk => hag k (List.mem_append_left _ hk)).trans hs)
    obtain ⟨e2, b, e3, hb⟩ := hr.slot tp _ ((hag (.t tp) (by simp)).trans hk)
    rw [e2] at e3
    subst e3
    exact ⟨_, by simp [execOp, ho, e], b, rfl, hb⟩
theorem op_moveBK {d t j : Nat} {v : Value} (hd : o.dst = some d) (ho : o.op = .move (.tmp t) ∨ o.op = .assign (.tmp t)) (hs : St.get σ (.t t) = some (.one (.c (.isB v j)))) :
    Op1 P n o ⟨[.t t] ++ (X.one (.c (.val v))).ids.map Key.b, [.t d], []⟩ σ [(.t d, some (.one (.c (.val v))))] :=
  .value [.t t] hd fun σ' hag C who a w hr => ⟨a.eval (.tmp t), by rcases ho with ho | ho <;> simp [execOp, ho], (hr.ev (s := .tmp t) ((hag (.t t) (by simp)).trans hs)).1⟩
end
end Go.Proofs.YtmanhdacnkpclaaDoor
