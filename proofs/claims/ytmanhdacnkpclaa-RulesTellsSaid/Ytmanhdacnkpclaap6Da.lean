/- Reading terms from bytes, plainly. -/
import Derived.Test.Ytmanhdacnkpclaap6Pa1
import Derived.Test.Ytmanhdacnkpclaap6Fe
import Derived.Test.Ytmanhdacnkpclaap6Ba
/- Reading terms from bytes, plainly. -/
namespace Go.Proofs.Ytmanhdacnkpclaa
set_option linter.all false

end Go.Proofs.Ytmanhdacnkpclaa

/- What functions do: reading terms. -/
namespace Go.Proofs.Ytmanhdacnkpclaa
set_option linter.all false
open Go.RowKit

/-- a function that is handed a box -/
abbrev FnB (P : Program) (f : FuncId) (args : List A1) (cs : List CV) (x : X) (cs' : List CV) : Prop := Fn P f args (some cs) (fun x' c' => x' = x ∧ c' = cs')
theorem FnB.use {P : Program} {f : FuncId} {args : List A1} {cs cs' : List CV} {x : X} (h : FnB P f args cs x cs') : Fn P f args (some cs) (fun x' c' => x' = x ∧ ((some cs).isSome = true → c' = cs')) := by
  intro who w vs h1 h2 h3 h4 h5 h6
  refine (h who w vs h1 h2 h3 h4 h5 h6).mono ?_
  rintro e w' ⟨v, x', c', who', g1, ⟨g2, g3⟩, g4⟩
  exact ⟨v, x', c', who', g1, ⟨g2, fun _ => g3⟩, g4⟩
theorem XB {x x' : X} {cs cs' : List CV} (h : x = x') (h' : cs = cs') : x = x' ∧ cs = cs' := ⟨h, h'⟩

end Go.Proofs.Ytmanhdacnkpclaa

/- What functions do: Read, Parse; the laws' own reading. -/
namespace Go.Proofs.Ytmanhdacnkpclaa
set_option linter.all false
open Go.RowKit

end Go.Proofs.Ytmanhdacnkpclaa
