/-
  NARROWER THAN 'FOR EVERY INPUT', by the rows' own cells (each row's printed sentence says how): LogTells: loops · LogHolds: loops · LogSearch: loops · ProveTells: loops · ProveOnce: loops · ProveBound: loops.
  DERIVED. THE GIVEN ROWS OF THIS SEAT. 6 by the template 'for every input the law returns true; each argument reads behind the call as it read before'; 0 by the template 'total and deterministic' (their statements: YtmanhdacnkpclaaGreatTotals.lean).
  GIVEN WITH THE SEED: the statements are not yours to turn. If you find one false, say at which input.
  Laid BY PROGRAM, IN A SANDBOX (cutbox-rows.mjs): the forced cells as the released guide's own fill.sh prints them over the translation 7e08fa2e85b4ed81… (all of the seat's roots in one cut). By AI agents, Wed Nov 11 2026. No macro, syntax, notation, axiom, sorry.
-/
import Derived.Test.YtmanhdacnkpclaaGreatChecked
import GoSem.Claim
import GoSem.ClaimJoined
import GoSem.ClaimMapViews
import Derived.JoinedTies
import Derived.KernelRfl
namespace Go.Proofs.YtmanhdacnkpclaaGreat
/- THE CELL 'sum', in the pinned program and in every row, IS THE sha256 OF THE DUMP (.gsa) THAT YtmanhdacnkpclaaGreatProg.lean LOADS. Nothing in Lean hashes anything: it is a label: what it is worth is what the hold of that sum in a sandbox is worth. -/
noncomputable def Tryz.pinned : Pinned := { name := "ytmanhdacnkpclaagreat", sum := "7e08fa2e85b4ed8175506dfd46b7794102f266dbd32fcde1cfccd0a84caca254", checked := Tryz.checked }
namespace Rows
def none {H : Type} : Left H := { results := [], args := [] }

/-- 'mplaw10.LogTells': WHATEVER THE INPUT: true; the input reads as it did. -/
def logTellsSpec : ChangeSpec := { name := "logTells", fn := fun _ => fun
  | [d1, d2, d3, d4] => { results := [.lit (.bool true)], args := [d1, d2, d3, d4] }
  | _ => none }
def logTellsRow : OpenClaim := { program := "ytmanhdacnkpclaagreat", sum := "7e08fa2e85b4ed8175506dfd46b7794102f266dbd32fcde1cfccd0a84caca254", func := "mendproof/mplaw10.LogTells", spec := "logTells", unfollowed := true, recurses := true, loops := true, apart := false }
def LogTellsSaid : Prop := logTellsRow.holds Tryz.pinned (OpenSpec.ofChange logTellsSpec)

/-- ITS FALSE NEIGHBOUR: 'it returns false'. Refute it at one input. -/
def logTellsWrong : ChangeSpec := { name := "logTells", fn := fun _ => fun
  | [d1, d2, d3, d4] => { results := [.lit (.bool false)], args := [d1, d2, d3, d4] }
  | _ => none }
def LogTellsWrongFalsely : Prop := logTellsRow.holds Tryz.pinned (OpenSpec.ofChange logTellsWrong)

/-- 'mplaw10.LogHolds': WHATEVER THE INPUT: true; the input reads as it did. -/
def logHoldsSpec : ChangeSpec := { name := "logHolds", fn := fun _ => fun
  | [d1, d2, d3, d4] => { results := [.lit (.bool true)], args := [d1, d2, d3, d4] }
  | _ => none }
def logHoldsRow : OpenClaim := { program := "ytmanhdacnkpclaagreat", sum := "7e08fa2e85b4ed8175506dfd46b7794102f266dbd32fcde1cfccd0a84caca254", func := "mendproof/mplaw10.LogHolds", spec := "logHolds", unfollowed := true, recurses := true, loops := true, apart := false }
def LogHoldsSaid : Prop := logHoldsRow.holds Tryz.pinned (OpenSpec.ofChange logHoldsSpec)

/-- ITS FALSE NEIGHBOUR: 'it returns false'. Refute it at one input. -/
def logHoldsWrong : ChangeSpec := { name := "logHolds", fn := fun _ => fun
  | [d1, d2, d3, d4] => { results := [.lit (.bool false)], args := [d1, d2, d3, d4] }
  | _ => none }
def LogHoldsWrongFalsely : Prop := logHoldsRow.holds Tryz.pinned (OpenSpec.ofChange logHoldsWrong)

/-- 'mplaw10.LogSearch': WHATEVER THE INPUT: true; the input reads as it did. -/
def logSearchSpec : ChangeSpec := { name := "logSearch", fn := fun _ => fun
  | [d1, d2, d3, d4] => { results := [.lit (.bool true)], args := [d1, d2, d3, d4] }
  | _ => none }
def logSearchRow : OpenClaim := { program := "ytmanhdacnkpclaagreat", sum := "7e08fa2e85b4ed8175506dfd46b7794102f266dbd32fcde1cfccd0a84caca254", func := "mendproof/mplaw10.LogSearch", spec := "logSearch", unfollowed := true, recurses := true, loops := true, apart := false }
def LogSearchSaid : Prop := logSearchRow.holds Tryz.pinned (OpenSpec.ofChange logSearchSpec)

/-- ITS FALSE NEIGHBOUR: 'it returns false'. Refute it at one input. -/
def logSearchWrong : ChangeSpec := { name := "logSearch", fn := fun _ => fun
  | [d1, d2, d3, d4] => { results := [.lit (.bool false)], args := [d1, d2, d3, d4] }
  | _ => none }
def LogSearchWrongFalsely : Prop := logSearchRow.holds Tryz.pinned (OpenSpec.ofChange logSearchWrong)

/-- 'mplaw9.ProveTells': WHATEVER THE INPUT: true; the input reads as it did. -/
def proveTellsSpec : ChangeSpec := { name := "proveTells", fn := fun _ => fun
  | [d1, d2, d3, d4] => { results := [.lit (.bool true)], args := [d1, d2, d3, d4] }
  | _ => none }
def proveTellsRow : OpenClaim := { program := "ytmanhdacnkpclaagreat", sum := "7e08fa2e85b4ed8175506dfd46b7794102f266dbd32fcde1cfccd0a84caca254", func := "mendproof/mplaw9.ProveTells", spec := "proveTells", unfollowed := true, recurses := true, loops := true, apart := false }
def ProveTellsSaid : Prop := proveTellsRow.holds Tryz.pinned (OpenSpec.ofChange proveTellsSpec)

/-- ITS FALSE NEIGHBOUR: 'it returns false'. Refute it at one input. -/
def proveTellsWrong : ChangeSpec := { name := "proveTells", fn := fun _ => fun
  | [d1, d2, d3, d4] => { results := [.lit (.bool false)], args := [d1, d2, d3, d4] }
  | _ => none }
def ProveTellsWrongFalsely : Prop := proveTellsRow.holds Tryz.pinned (OpenSpec.ofChange proveTellsWrong)

/-- 'mplaw9.ProveOnce': WHATEVER THE INPUT: true; the input reads as it did. -/
def proveOnceSpec : ChangeSpec := { name := "proveOnce", fn := fun _ => fun
  | [d1, d2, d3, d4] => { results := [.lit (.bool true)], args := [d1, d2, d3, d4] }
  | _ => none }
def proveOnceRow : OpenClaim := { program := "ytmanhdacnkpclaagreat", sum := "7e08fa2e85b4ed8175506dfd46b7794102f266dbd32fcde1cfccd0a84caca254", func := "mendproof/mplaw9.ProveOnce", spec := "proveOnce", unfollowed := true, recurses := true, loops := true, apart := false }
def ProveOnceSaid : Prop := proveOnceRow.holds Tryz.pinned (OpenSpec.ofChange proveOnceSpec)

/-- ITS FALSE NEIGHBOUR: 'it returns false'. Refute it at one input. -/
def proveOnceWrong : ChangeSpec := { name := "proveOnce", fn := fun _ => fun
  | [d1, d2, d3, d4] => { results := [.lit (.bool false)], args := [d1, d2, d3, d4] }
  | _ => none }
def ProveOnceWrongFalsely : Prop := proveOnceRow.holds Tryz.pinned (OpenSpec.ofChange proveOnceWrong)

/-- 'mplaw9.ProveBound': WHATEVER THE INPUT: true; the input reads as it did. -/
def proveBoundSpec : ChangeSpec := { name := "proveBound", fn := fun _ => fun
  | [d1, d2, d3, d4] => { results := [.lit (.bool true)], args := [d1, d2, d3, d4] }
  | _ => none }
def proveBoundRow : OpenClaim := { program := "ytmanhdacnkpclaagreat", sum := "7e08fa2e85b4ed8175506dfd46b7794102f266dbd32fcde1cfccd0a84caca254", func := "mendproof/mplaw9.ProveBound", spec := "proveBound", unfollowed := true, recurses := true, loops := true, apart := false }
def ProveBoundSaid : Prop := proveBoundRow.holds Tryz.pinned (OpenSpec.ofChange proveBoundSpec)

/-- ITS FALSE NEIGHBOUR: 'it returns false'. Refute it at one input. -/
def proveBoundWrong : ChangeSpec := { name := "proveBound", fn := fun _ => fun
  | [d1, d2, d3, d4] => { results := [.lit (.bool false)], args := [d1, d2, d3, d4] }
  | _ => none }
def ProveBoundWrongFalsely : Prop := proveBoundRow.holds Tryz.pinned (OpenSpec.ofChange proveBoundWrong)

/- THE SECOND FORM. 'bulk': how many values and letters a reading holds, each counted each time it is reached (what is shared counts as often as it is met; a slice's spare places count too). A statement '..UptoSaid' is the law's where the arguments, and the package variables that the reading takes, are together of bulk at most 1048576: NARROWER than '..Said'. Prove '..Said' where nothing that the law and all that it calls make is longer than what came in: it says more and counts as full. Else prove '..UptoSaid'. A law counts once. -/
mutual
def uptoBulk {H : Type} : DataW H → Nat
  | .lit (.string bytes) => bytes.length + 1
  | .lit _ => 1
  | .nil => 1
  | .ptr d => uptoBulk d + 1
  | .slice elems spare => uptoBulkAll elems + uptoBulkAll spare + 1
  | .agg parts => uptoBulkAll parts + 1
  | .iface _ d => uptoBulk d + 1
  | .map entries => uptoBulkEntries entries + 1
  | .held _ => 1
def uptoBulkAll {H : Type} : List (DataW H) → Nat
  | [] => 0
  | d :: r => uptoBulk d + uptoBulkAll r
def uptoBulkEntries {H : Type} : List (Lit × DataW H) → Nat
  | [] => 0
  | x :: r => uptoBulkEntry x + uptoBulkEntries r
def uptoBulkEntry {H : Type} : Lit × DataW H → Nat
  | (.string bytes, d) => bytes.length + uptoBulk d + 1
  | (_, d) => uptoBulk d + 1
 end
def uptoSmall : (H : Type) → List (DataW H) → Bool := fun _ ds => decide (uptoBulkAll ds ≤ 1048576)
def OpenSpec.upto (s : _root_.Go.ChangeSpec) : _root_.Go.OpenSpec := { _root_.Go.OpenSpec.ofChange s with cond := some uptoSmall }

/-- 'mplaw10.LogTells', WHERE WHAT IT READS IS OF BULK AT MOST 1048576: true; the input reads as it did. -/
def logTellsUptoRow : OpenClaim := { program := "ytmanhdacnkpclaagreat", sum := "7e08fa2e85b4ed8175506dfd46b7794102f266dbd32fcde1cfccd0a84caca254", func := "mendproof/mplaw10.LogTells", spec := "logTells", unfollowed := true, recurses := true, loops := true, apart := false, narrowed := true }
def LogTellsUptoSaid : Prop := logTellsUptoRow.holds Tryz.pinned (OpenSpec.upto logTellsSpec)

/-- 'mplaw10.LogHolds', WHERE WHAT IT READS IS OF BULK AT MOST 1048576: true; the input reads as it did. -/
def logHoldsUptoRow : OpenClaim := { program := "ytmanhdacnkpclaagreat", sum := "7e08fa2e85b4ed8175506dfd46b7794102f266dbd32fcde1cfccd0a84caca254", func := "mendproof/mplaw10.LogHolds", spec := "logHolds", unfollowed := true, recurses := true, loops := true, apart := false, narrowed := true }
def LogHoldsUptoSaid : Prop := logHoldsUptoRow.holds Tryz.pinned (OpenSpec.upto logHoldsSpec)

/-- 'mplaw10.LogSearch', WHERE WHAT IT READS IS OF BULK AT MOST 1048576: true; the input reads as it did. -/
def logSearchUptoRow : OpenClaim := { program := "ytmanhdacnkpclaagreat", sum := "7e08fa2e85b4ed8175506dfd46b7794102f266dbd32fcde1cfccd0a84caca254", func := "mendproof/mplaw10.LogSearch", spec := "logSearch", unfollowed := true, recurses := true, loops := true, apart := false, narrowed := true }
def LogSearchUptoSaid : Prop := logSearchUptoRow.holds Tryz.pinned (OpenSpec.upto logSearchSpec)

/-- 'mplaw9.ProveTells', WHERE WHAT IT READS IS OF BULK AT MOST 1048576: true; the input reads as it did. -/
def proveTellsUptoRow : OpenClaim := { program := "ytmanhdacnkpclaagreat", sum := "7e08fa2e85b4ed8175506dfd46b7794102f266dbd32fcde1cfccd0a84caca254", func := "mendproof/mplaw9.ProveTells", spec := "proveTells", unfollowed := true, recurses := true, loops := true, apart := false, narrowed := true }
def ProveTellsUptoSaid : Prop := proveTellsUptoRow.holds Tryz.pinned (OpenSpec.upto proveTellsSpec)

/-- 'mplaw9.ProveOnce', WHERE WHAT IT READS IS OF BULK AT MOST 1048576: true; the input reads as it did. -/
def proveOnceUptoRow : OpenClaim := { program := "ytmanhdacnkpclaagreat", sum := "7e08fa2e85b4ed8175506dfd46b7794102f266dbd32fcde1cfccd0a84caca254", func := "mendproof/mplaw9.ProveOnce", spec := "proveOnce", unfollowed := true, recurses := true, loops := true, apart := false, narrowed := true }
def ProveOnceUptoSaid : Prop := proveOnceUptoRow.holds Tryz.pinned (OpenSpec.upto proveOnceSpec)

/-- 'mplaw9.ProveBound', WHERE WHAT IT READS IS OF BULK AT MOST 1048576: true; the input reads as it did. -/
def proveBoundUptoRow : OpenClaim := { program := "ytmanhdacnkpclaagreat", sum := "7e08fa2e85b4ed8175506dfd46b7794102f266dbd32fcde1cfccd0a84caca254", func := "mendproof/mplaw9.ProveBound", spec := "proveBound", unfollowed := true, recurses := true, loops := true, apart := false, narrowed := true }
def ProveBoundUptoSaid : Prop := proveBoundUptoRow.holds Tryz.pinned (OpenSpec.upto proveBoundSpec)

end Rows
end Go.Proofs.YtmanhdacnkpclaaGreat
