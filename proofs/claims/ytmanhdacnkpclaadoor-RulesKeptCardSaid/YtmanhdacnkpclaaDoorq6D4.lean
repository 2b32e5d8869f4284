/- What functions do: bindings. -/
import Derived.Test.YtmanhdacnkpclaaDoorq6D3
import Derived.Test.YtmanhdacnkpclaaDoorq6Ba
import Derived.Test.YtmanhdacnkpclaaDoorq6Pb1
import Derived.Test.YtmanhdacnkpclaaDoorq6Pa1
namespace Go.Proofs.YtmanhdacnkpclaaDoor
set_option linter.all false
open Go.RowKit

section
variable {P : Program} {n : Nat} {dr : Bool} {ops : Array Oper} {o : Oper} {os : List Oper} {i : Info} {acc : List Info} {σ : St} {K : St → Prop}
theorem SqA.b3 {e e' e'' : Key × Option X} (h : Op1 P n o i σ [e, e', e'']) (hg : guardIs ops o σ = some true) (hal : i.al.all (fun j => nomem j (St.ids σ)) = true) (hk : SqA P n dr ops os (⟨guardKeys ops o ++ i.rd, i.wr, i.al⟩ :: acc) (e :: e' :: e'' :: σ) K) : SqA P n dr ops (o :: os) acc σ K := .goG h hg hal hk
end
def resU : Option (List Pr) → List A1
  | some r => [lA Pr.d r, bA true]
  | none => [lA Pr.d [], bA false]
theorem bound_snoc {s : List Pr} {k : Nat} {p : Pr} {v : Int} {y : Tm} (h : s[k]? = some p) : (s.take k).map (fun p => (p.1, app [(v, y)] p.2)) ++ [(p.1, app [(v, y)] p.2)] = (s.take (k + 1)).map (fun p => ((p.1, app [(v, y)] p.2) : Pr)) := snoc (fun p => ((p.1, app [(v, y)] p.2) : Pr)) h
end Go.Proofs.YtmanhdacnkpclaaDoor
