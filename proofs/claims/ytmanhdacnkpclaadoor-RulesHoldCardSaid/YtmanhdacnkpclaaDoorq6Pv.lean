/- Simpler clauses, plainly: which one covers another one; and the end. -/
import Derived.Test.YtmanhdacnkpclaaDoorq6Pb1
import Derived.Test.YtmanhdacnkpclaaDoorq6T0
/- Simpler clauses, plainly: which one covers another one; and the end. -/
namespace Go.Proofs.YtmanhdacnkpclaaDoor
set_option linter.all false

/-! ## covers -/
def coverW (x : Lt) (s : List Pr) (w : Tm × Tm) : Option (List Pr) := match moreR s x.left w.1 with
  | (a, true) => match moreR a x.right w.2 with
    | (b, true) => some b
    | (_, false) => none
  | (_, false) => none
def coverL (x : Lt) (s : List Pr) (y : Lt) : List (List Pr) := if y.neg = x.neg then (waysL y).filterMap (coverW x s) else []
def coverD (x : Lt) (d : List Lt) (s : List Pr) : List (List Pr) := d.flatMap (coverL x s)
def coversS : List Pr → List Lt → List Lt → Bool
  | _, [], _ => true
  | s, x :: c, d => (coverD x d s).any fun b => coversS b c d
def covers (c d : List Lt) : Bool := coversS [] c d
end Go.Proofs.YtmanhdacnkpclaaDoor

/- Simpler clauses, step by step, plainly. -/
namespace Go.Proofs.YtmanhdacnkpclaaDoor
set_option linter.all false

end Go.Proofs.YtmanhdacnkpclaaDoor
