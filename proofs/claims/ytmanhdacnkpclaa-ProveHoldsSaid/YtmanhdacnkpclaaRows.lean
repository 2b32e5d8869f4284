/-
  NARROWER THAN 'FOR EVERY INPUT', by the rows' own cells (each row's printed sentence says how): OrderTells: loops · OrderOne: loops · OrderStays: loops · IndexTells: loops · IndexFinds: loops · ModelTells: loops · ModelEither: loops · ModelBound: loops · BindTells: loops · SimpTells: loops · RulesTells: loops · ProveHolds: loops.
  DERIVED. THE GIVEN ROWS OF THIS SEAT. 13 by the template 'for every input the law returns true; each argument reads behind the call as it read before'; 0 by the template 'total and deterministic' (their statements: YtmanhdacnkpclaaTotals.lean).
  GIVEN WITH THE SEED: the statements are not yours to turn. If you find one false, say at which input.
  Laid BY PROGRAM, IN A SANDBOX (cutbox-rows.mjs): the forced cells as the released guide's own fill.sh prints them over the translation 29fbb45fa0267540… (all of the seat's roots in one cut). By AI agents, Wed Nov 11 2026. No macro, syntax, notation, axiom, sorry.
-/
import Derived.Test.YtmanhdacnkpclaaChecked
import GoSem.Claim
import GoSem.ClaimJoined
import GoSem.ClaimMapViews
import Derived.JoinedTies
import Derived.KernelRfl
namespace Go.Proofs.Ytmanhdacnkpclaa
/- THE CELL 'sum', in the pinned program and in every row, IS THE sha256 OF THE DUMP (.gsa) THAT YtmanhdacnkpclaaProg.lean LOADS. Nothing in Lean hashes anything: it is a label: what it is worth is what the hold of that sum in a sandbox is worth. -/
noncomputable def Try.pinned : Pinned := { name := "ytmanhdacnkpclaa", sum := "29fbb45fa0267540766afb1c3c3b3d7a3523d8996e1ba9fc945d88918c8ad9bc", checked := Try.checked }
namespace Rows
def none {H : Type} : Left H := { results := [], args := [] }

/-- 'mplaw3.OrderTells': WHATEVER THE INPUT: true; the input reads as it did. -/
def orderTellsSpec : ChangeSpec := { name := "orderTells", fn := fun _ => fun
  | [d1, d2, d3] => { results := [.lit (.bool true)], args := [d1, d2, d3] }
  | _ => none }
def orderTellsRow : OpenClaim := { program := "ytmanhdacnkpclaa", sum := "29fbb45fa0267540766afb1c3c3b3d7a3523d8996e1ba9fc945d88918c8ad9bc", func := "mendproof/mplaw3.OrderTells", spec := "orderTells", unfollowed := true, recurses := true, loops := true, apart := false }
def OrderTellsSaid : Prop := orderTellsRow.holds Try.pinned (OpenSpec.ofChange orderTellsSpec)

/-- ITS FALSE NEIGHBOUR: 'it returns false'. Refute it at one input. -/
def orderTellsWrong : ChangeSpec := { name := "orderTells", fn := fun _ => fun
  | [d1, d2, d3] => { results := [.lit (.bool false)], args := [d1, d2, d3] }
  | _ => none }
def OrderTellsWrongFalsely : Prop := orderTellsRow.holds Try.pinned (OpenSpec.ofChange orderTellsWrong)

/-- 'mplaw3.OrderOne': WHATEVER THE INPUT: true; the input reads as it did. -/
def orderOneSpec : ChangeSpec := { name := "orderOne", fn := fun _ => fun
  | [d1, d2, d3, d4] => { results := [.lit (.bool true)], args := [d1, d2, d3, d4] }
  | _ => none }
def orderOneRow : OpenClaim := { program := "ytmanhdacnkpclaa", sum := "29fbb45fa0267540766afb1c3c3b3d7a3523d8996e1ba9fc945d88918c8ad9bc", func := "mendproof/mplaw3.OrderOne", spec := "orderOne", unfollowed := true, recurses := true, loops := true, apart := false }
def OrderOneSaid : Prop := orderOneRow.holds Try.pinned (OpenSpec.ofChange orderOneSpec)

/-- ITS FALSE NEIGHBOUR: 'it returns false'. Refute it at one input. -/
def orderOneWrong : ChangeSpec := { name := "orderOne", fn := fun _ => fun
  | [d1, d2, d3, d4] => { results := [.lit (.bool false)], args := [d1, d2, d3, d4] }
  | _ => none }
def OrderOneWrongFalsely : Prop := orderOneRow.holds Try.pinned (OpenSpec.ofChange orderOneWrong)

/-- 'mplaw3.OrderStays': WHATEVER THE INPUT: true; the input reads as it did. -/
def orderStaysSpec : ChangeSpec := { name := "orderStays", fn := fun _ => fun
  | [d1, d2, d3, d4, d5, d6] => { results := [.lit (.bool true)], args := [d1, d2, d3, d4, d5, d6] }
  | _ => none }
def orderStaysRow : OpenClaim := { program := "ytmanhdacnkpclaa", sum := "29fbb45fa0267540766afb1c3c3b3d7a3523d8996e1ba9fc945d88918c8ad9bc", func := "mendproof/mplaw3.OrderStays", spec := "orderStays", unfollowed := true, recurses := true, loops := true, apart := false }
def OrderStaysSaid : Prop := orderStaysRow.holds Try.pinned (OpenSpec.ofChange orderStaysSpec)

/-- ITS FALSE NEIGHBOUR: 'it returns false'. Refute it at one input. -/
def orderStaysWrong : ChangeSpec := { name := "orderStays", fn := fun _ => fun
  | [d1, d2, d3, d4, d5, d6] => { results := [.lit (.bool false)], args := [d1, d2, d3, d4, d5, d6] }
  | _ => none }
def OrderStaysWrongFalsely : Prop := orderStaysRow.holds Try.pinned (OpenSpec.ofChange orderStaysWrong)

/-- 'mplaw8.IndexTells': WHATEVER THE INPUT: true; the input reads as it did. -/
def indexTellsSpec : ChangeSpec := { name := "indexTells", fn := fun _ => fun
  | [d1, d2, d3, d4, d5, d6] => { results := [.lit (.bool true)], args := [d1, d2, d3, d4, d5, d6] }
  | _ => none }
def indexTellsRow : OpenClaim := { program := "ytmanhdacnkpclaa", sum := "29fbb45fa0267540766afb1c3c3b3d7a3523d8996e1ba9fc945d88918c8ad9bc", func := "mendproof/mplaw8.IndexTells", spec := "indexTells", recurses := true, loops := true, apart := false }
def IndexTellsSaid : Prop := indexTellsRow.holds Try.pinned (OpenSpec.ofChange indexTellsSpec)

/-- ITS FALSE NEIGHBOUR: 'it returns false'. Refute it at one input. -/
def indexTellsWrong : ChangeSpec := { name := "indexTells", fn := fun _ => fun
  | [d1, d2, d3, d4, d5, d6] => { results := [.lit (.bool false)], args := [d1, d2, d3, d4, d5, d6] }
  | _ => none }
def IndexTellsWrongFalsely : Prop := indexTellsRow.holds Try.pinned (OpenSpec.ofChange indexTellsWrong)

/-- 'mplaw8.IndexFinds': WHATEVER THE INPUT: true; the input reads as it did. -/
def indexFindsSpec : ChangeSpec := { name := "indexFinds", fn := fun _ => fun
  | [d1, d2, d3] => { results := [.lit (.bool true)], args := [d1, d2, d3] }
  | _ => none }
def indexFindsRow : OpenClaim := { program := "ytmanhdacnkpclaa", sum := "29fbb45fa0267540766afb1c3c3b3d7a3523d8996e1ba9fc945d88918c8ad9bc", func := "mendproof/mplaw8.IndexFinds", spec := "indexFinds", recurses := true, loops := true, apart := false }
def IndexFindsSaid : Prop := indexFindsRow.holds Try.pinned (OpenSpec.ofChange indexFindsSpec)

/-- ITS FALSE NEIGHBOUR: 'it returns false'. Refute it at one input. -/
def indexFindsWrong : ChangeSpec := { name := "indexFinds", fn := fun _ => fun
  | [d1, d2, d3] => { results := [.lit (.bool false)], args := [d1, d2, d3] }
  | _ => none }
def IndexFindsWrongFalsely : Prop := indexFindsRow.holds Try.pinned (OpenSpec.ofChange indexFindsWrong)

/-- 'mplaw5.ModelTells': WHATEVER THE INPUT: true; the input reads as it did. -/
def modelTellsSpec : ChangeSpec := { name := "modelTells", fn := fun _ => fun
  | [d1, d2, d3, d4] => { results := [.lit (.bool true)], args := [d1, d2, d3, d4] }
  | _ => none }
def modelTellsRow : OpenClaim := { program := "ytmanhdacnkpclaa", sum := "29fbb45fa0267540766afb1c3c3b3d7a3523d8996e1ba9fc945d88918c8ad9bc", func := "mendproof/mplaw5.ModelTells", spec := "modelTells", unfollowed := true, recurses := true, loops := true, apart := false }
def ModelTellsSaid : Prop := modelTellsRow.holds Try.pinned (OpenSpec.ofChange modelTellsSpec)

/-- ITS FALSE NEIGHBOUR: 'it returns false'. Refute it at one input. -/
def modelTellsWrong : ChangeSpec := { name := "modelTells", fn := fun _ => fun
  | [d1, d2, d3, d4] => { results := [.lit (.bool false)], args := [d1, d2, d3, d4] }
  | _ => none }
def ModelTellsWrongFalsely : Prop := modelTellsRow.holds Try.pinned (OpenSpec.ofChange modelTellsWrong)

/-- 'mplaw5.ModelEither': WHATEVER THE INPUT: true; the input reads as it did. -/
def modelEitherSpec : ChangeSpec := { name := "modelEither", fn := fun _ => fun
  | [d1, d2, d3] => { results := [.lit (.bool true)], args := [d1, d2, d3] }
  | _ => none }
def modelEitherRow : OpenClaim := { program := "ytmanhdacnkpclaa", sum := "29fbb45fa0267540766afb1c3c3b3d7a3523d8996e1ba9fc945d88918c8ad9bc", func := "mendproof/mplaw5.ModelEither", spec := "modelEither", unfollowed := true, recurses := true, loops := true, apart := false }
def ModelEitherSaid : Prop := modelEitherRow.holds Try.pinned (OpenSpec.ofChange modelEitherSpec)

/-- ITS FALSE NEIGHBOUR: 'it returns false'. Refute it at one input. -/
def modelEitherWrong : ChangeSpec := { name := "modelEither", fn := fun _ => fun
  | [d1, d2, d3] => { results := [.lit (.bool false)], args := [d1, d2, d3] }
  | _ => none }
def ModelEitherWrongFalsely : Prop := modelEitherRow.holds Try.pinned (OpenSpec.ofChange modelEitherWrong)

/-- 'mplaw5.ModelBound': WHATEVER THE INPUT: true; the input reads as it did. -/
def modelBoundSpec : ChangeSpec := { name := "modelBound", fn := fun _ => fun
  | [d1, d2, d3, d4, d5] => { results := [.lit (.bool true)], args := [d1, d2, d3, d4, d5] }
  | _ => none }
def modelBoundRow : OpenClaim := { program := "ytmanhdacnkpclaa", sum := "29fbb45fa0267540766afb1c3c3b3d7a3523d8996e1ba9fc945d88918c8ad9bc", func := "mendproof/mplaw5.ModelBound", spec := "modelBound", unfollowed := true, recurses := true, loops := true, apart := false }
def ModelBoundSaid : Prop := modelBoundRow.holds Try.pinned (OpenSpec.ofChange modelBoundSpec)

/-- ITS FALSE NEIGHBOUR: 'it returns false'. Refute it at one input. -/
def modelBoundWrong : ChangeSpec := { name := "modelBound", fn := fun _ => fun
  | [d1, d2, d3, d4, d5] => { results := [.lit (.bool false)], args := [d1, d2, d3, d4, d5] }
  | _ => none }
def ModelBoundWrongFalsely : Prop := modelBoundRow.holds Try.pinned (OpenSpec.ofChange modelBoundWrong)

/-- 'mptop.Names': WHATEVER THE INPUT: true; the input reads as it did. -/
def namesSpec : ChangeSpec := { name := "names", fn := fun _ => fun
  | [] => { results := [.lit (.bool true)], args := [] }
  | _ => none }
def namesRow : OpenClaim := { program := "ytmanhdacnkpclaa", sum := "29fbb45fa0267540766afb1c3c3b3d7a3523d8996e1ba9fc945d88918c8ad9bc", func := "mendproof/mptop.Names", spec := "names", apart := false }
def NamesSaid : Prop := namesRow.holds Try.pinned (OpenSpec.ofChange namesSpec)

/-- ITS FALSE NEIGHBOUR: 'it returns false'. Refute it at one input. -/
def namesWrong : ChangeSpec := { name := "names", fn := fun _ => fun
  | [] => { results := [.lit (.bool false)], args := [] }
  | _ => none }
def NamesWrongFalsely : Prop := namesRow.holds Try.pinned (OpenSpec.ofChange namesWrong)

/-- 'mplaw2.BindTells': WHATEVER THE INPUT: true; the input reads as it did. -/
def bindTellsSpec : ChangeSpec := { name := "bindTells", fn := fun _ => fun
  | [d1, d2, d3, d4] => { results := [.lit (.bool true)], args := [d1, d2, d3, d4] }
  | _ => none }
def bindTellsRow : OpenClaim := { program := "ytmanhdacnkpclaa", sum := "29fbb45fa0267540766afb1c3c3b3d7a3523d8996e1ba9fc945d88918c8ad9bc", func := "mendproof/mplaw2.BindTells", spec := "bindTells", unfollowed := true, recurses := true, loops := true, apart := false }
def BindTellsSaid : Prop := bindTellsRow.holds Try.pinned (OpenSpec.ofChange bindTellsSpec)

/-- ITS FALSE NEIGHBOUR: 'it returns false'. Refute it at one input. -/
def bindTellsWrong : ChangeSpec := { name := "bindTells", fn := fun _ => fun
  | [d1, d2, d3, d4] => { results := [.lit (.bool false)], args := [d1, d2, d3, d4] }
  | _ => none }
def BindTellsWrongFalsely : Prop := bindTellsRow.holds Try.pinned (OpenSpec.ofChange bindTellsWrong)

/-- 'mplaw7.SimpTells': WHATEVER THE INPUT: true; the input reads as it did. -/
def simpTellsSpec : ChangeSpec := { name := "simpTells", fn := fun _ => fun
  | [d1, d2, d3, d4] => { results := [.lit (.bool true)], args := [d1, d2, d3, d4] }
  | _ => none }
def simpTellsRow : OpenClaim := { program := "ytmanhdacnkpclaa", sum := "29fbb45fa0267540766afb1c3c3b3d7a3523d8996e1ba9fc945d88918c8ad9bc", func := "mendproof/mplaw7.SimpTells", spec := "simpTells", unfollowed := true, recurses := true, loops := true, apart := false }
def SimpTellsSaid : Prop := simpTellsRow.holds Try.pinned (OpenSpec.ofChange simpTellsSpec)

/-- ITS FALSE NEIGHBOUR: 'it returns false'. Refute it at one input. -/
def simpTellsWrong : ChangeSpec := { name := "simpTells", fn := fun _ => fun
  | [d1, d2, d3, d4] => { results := [.lit (.bool false)], args := [d1, d2, d3, d4] }
  | _ => none }
def SimpTellsWrongFalsely : Prop := simpTellsRow.holds Try.pinned (OpenSpec.ofChange simpTellsWrong)

/-- 'mplaw6.RulesTells': WHATEVER THE INPUT: true; the input reads as it did. -/
def rulesTellsSpec : ChangeSpec := { name := "rulesTells", fn := fun _ => fun
  | [d1, d2, d3] => { results := [.lit (.bool true)], args := [d1, d2, d3] }
  | _ => none }
def rulesTellsRow : OpenClaim := { program := "ytmanhdacnkpclaa", sum := "29fbb45fa0267540766afb1c3c3b3d7a3523d8996e1ba9fc945d88918c8ad9bc", func := "mendproof/mplaw6.RulesTells", spec := "rulesTells", unfollowed := true, recurses := true, loops := true, apart := false }
def RulesTellsSaid : Prop := rulesTellsRow.holds Try.pinned (OpenSpec.ofChange rulesTellsSpec)

/-- ITS FALSE NEIGHBOUR: 'it returns false'. Refute it at one input. -/
def rulesTellsWrong : ChangeSpec := { name := "rulesTells", fn := fun _ => fun
  | [d1, d2, d3] => { results := [.lit (.bool false)], args := [d1, d2, d3] }
  | _ => none }
def RulesTellsWrongFalsely : Prop := rulesTellsRow.holds Try.pinned (OpenSpec.ofChange rulesTellsWrong)

/-- 'mplaw9.ProveHolds': WHATEVER THE INPUT: true; the input reads as it did. -/
def proveHoldsSpec : ChangeSpec := { name := "proveHolds", fn := fun _ => fun
  | [d1, d2, d3, d4] => { results := [.lit (.bool true)], args := [d1, d2, d3, d4] }
  | _ => none }
def proveHoldsRow : OpenClaim := { program := "ytmanhdacnkpclaa", sum := "29fbb45fa0267540766afb1c3c3b3d7a3523d8996e1ba9fc945d88918c8ad9bc", func := "mendproof/mplaw9.ProveHolds", spec := "proveHolds", unfollowed := true, recurses := true, loops := true, apart := false }
def ProveHoldsSaid : Prop := proveHoldsRow.holds Try.pinned (OpenSpec.ofChange proveHoldsSpec)

/-- ITS FALSE NEIGHBOUR: 'it returns false'. Refute it at one input. -/
def proveHoldsWrong : ChangeSpec := { name := "proveHolds", fn := fun _ => fun
  | [d1, d2, d3, d4] => { results := [.lit (.bool false)], args := [d1, d2, d3, d4] }
  | _ => none }
def ProveHoldsWrongFalsely : Prop := proveHoldsRow.holds Try.pinned (OpenSpec.ofChange proveHoldsWrong)

/- THE SECOND FORM. 'bulk': how many values and letters a reading holds, each counted each time it is reached (what is shared counts as often as it is met; a slice's spare places count too). A statement '..UptoSaid' is the law's where the arguments, and the package variables that the reading takes, are together of bulk at most 1048576: NARROWER than '..Said'. Prove '..Said' where nothing that the law and all that it calls make is longer than what came in: it says more and counts as full. Else prove '..UptoSaid'. A law counts once. -/
mutual
def uptoBulk {H : Type} : DataW H → Nat
  | .lit (.string bytes) => bytes.length + 1
  | .lit _ => 1
  | .nil => 1
  | .ptr d => uptoBulk d + 1
  | .slice elems spare => uptoBulkAll elems + uptoBulkAll spare + 1
  | .agg parts => uptoBulkAll parts + 1
  | .iface _ d => uptoBulk d + 1
  | .map entries => uptoBulkEntries entries + 1
  | .held _ => 1
def uptoBulkAll {H : Type} : List (DataW H) → Nat
  | [] => 0
  | d :: r => uptoBulk d + uptoBulkAll r
def uptoBulkEntries {H : Type} : List (Lit × DataW H) → Nat
  | [] => 0
  | x :: r => uptoBulkEntry x + uptoBulkEntries r
def uptoBulkEntry {H : Type} : Lit × DataW H → Nat
  | (.string bytes, d) => bytes.length + uptoBulk d + 1
  | (_, d) => uptoBulk d + 1
 end
def uptoSmall : (H : Type) → List (DataW H) → Bool := fun _ ds => decide (uptoBulkAll ds ≤ 1048576)
def OpenSpec.upto (s : _root_.Go.ChangeSpec) : _root_.Go.OpenSpec := { _root_.Go.OpenSpec.ofChange s with cond := some uptoSmall }

/-- 'mplaw3.OrderTells', WHERE WHAT IT READS IS OF BULK AT MOST 1048576: true; the input reads as it did. -/
def orderTellsUptoRow : OpenClaim := { program := "ytmanhdacnkpclaa", sum := "29fbb45fa0267540766afb1c3c3b3d7a3523d8996e1ba9fc945d88918c8ad9bc", func := "mendproof/mplaw3.OrderTells", spec := "orderTells", unfollowed := true, recurses := true, loops := true, apart := false, narrowed := true }
def OrderTellsUptoSaid : Prop := orderTellsUptoRow.holds Try.pinned (OpenSpec.upto orderTellsSpec)

/-- 'mplaw3.OrderOne', WHERE WHAT IT READS IS OF BULK AT MOST 1048576: true; the input reads as it did. -/
def orderOneUptoRow : OpenClaim := { program := "ytmanhdacnkpclaa", sum := "29fbb45fa0267540766afb1c3c3b3d7a3523d8996e1ba9fc945d88918c8ad9bc", func := "mendproof/mplaw3.OrderOne", spec := "orderOne", unfollowed := true, recurses := true, loops := true, apart := false, narrowed := true }
def OrderOneUptoSaid : Prop := orderOneUptoRow.holds Try.pinned (OpenSpec.upto orderOneSpec)

/-- 'mplaw3.OrderStays', WHERE WHAT IT READS IS OF BULK AT MOST 1048576: true; the input reads as it did. -/
def orderStaysUptoRow : OpenClaim := { program := "ytmanhdacnkpclaa", sum := "29fbb45fa0267540766afb1c3c3b3d7a3523d8996e1ba9fc945d88918c8ad9bc", func := "mendproof/mplaw3.OrderStays", spec := "orderStays", unfollowed := true, recurses := true, loops := true, apart := false, narrowed := true }
def OrderStaysUptoSaid : Prop := orderStaysUptoRow.holds Try.pinned (OpenSpec.upto orderStaysSpec)

/-- 'mplaw8.IndexTells', WHERE WHAT IT READS IS OF BULK AT MOST 1048576: true; the input reads as it did. -/
def indexTellsUptoRow : OpenClaim := { program := "ytmanhdacnkpclaa", sum := "29fbb45fa0267540766afb1c3c3b3d7a3523d8996e1ba9fc945d88918c8ad9bc", func := "mendproof/mplaw8.IndexTells", spec := "indexTells", recurses := true, loops := true, apart := false, narrowed := true }
def IndexTellsUptoSaid : Prop := indexTellsUptoRow.holds Try.pinned (OpenSpec.upto indexTellsSpec)

/-- 'mplaw8.IndexFinds', WHERE WHAT IT READS IS OF BULK AT MOST 1048576: true; the input reads as it did. -/
def indexFindsUptoRow : OpenClaim := { program := "ytmanhdacnkpclaa", sum := "29fbb45fa0267540766afb1c3c3b3d7a3523d8996e1ba9fc945d88918c8ad9bc", func := "mendproof/mplaw8.IndexFinds", spec := "indexFinds", recurses := true, loops := true, apart := false, narrowed := true }
def IndexFindsUptoSaid : Prop := indexFindsUptoRow.holds Try.pinned (OpenSpec.upto indexFindsSpec)

/-- 'mplaw5.ModelTells', WHERE WHAT IT READS IS OF BULK AT MOST 1048576: true; the input reads as it did. -/
def modelTellsUptoRow : OpenClaim := { program := "ytmanhdacnkpclaa", sum := "29fbb45fa0267540766afb1c3c3b3d7a3523d8996e1ba9fc945d88918c8ad9bc", func := "mendproof/mplaw5.ModelTells", spec := "modelTells", unfollowed := true, recurses := true, loops := true, apart := false, narrowed := true }
def ModelTellsUptoSaid : Prop := modelTellsUptoRow.holds Try.pinned (OpenSpec.upto modelTellsSpec)

/-- 'mplaw5.ModelEither', WHERE WHAT IT READS IS OF BULK AT MOST 1048576: true; the input reads as it did. -/
def modelEitherUptoRow : OpenClaim := { program := "ytmanhdacnkpclaa", sum := "29fbb45fa0267540766afb1c3c3b3d7a3523d8996e1ba9fc945d88918c8ad9bc", func := "mendproof/mplaw5.ModelEither", spec := "modelEither", unfollowed := true, recurses := true, loops := true, apart := false, narrowed := true }
def ModelEitherUptoSaid : Prop := modelEitherUptoRow.holds Try.pinned (OpenSpec.upto modelEitherSpec)

/-- 'mplaw5.ModelBound', WHERE WHAT IT READS IS OF BULK AT MOST 1048576: true; the input reads as it did. -/
def modelBoundUptoRow : OpenClaim := { program := "ytmanhdacnkpclaa", sum := "29fbb45fa0267540766afb1c3c3b3d7a3523d8996e1ba9fc945d88918c8ad9bc", func := "mendproof/mplaw5.ModelBound", spec := "modelBound", unfollowed := true, recurses := true, loops := true, apart := false, narrowed := true }
def ModelBoundUptoSaid : Prop := modelBoundUptoRow.holds Try.pinned (OpenSpec.upto modelBoundSpec)

/-- 'mptop.Names', WHERE WHAT IT READS IS OF BULK AT MOST 1048576: true; the input reads as it did. -/
def namesUptoRow : OpenClaim := { program := "ytmanhdacnkpclaa", sum := "29fbb45fa0267540766afb1c3c3b3d7a3523d8996e1ba9fc945d88918c8ad9bc", func := "mendproof/mptop.Names", spec := "names", apart := false, narrowed := true }
def NamesUptoSaid : Prop := namesUptoRow.holds Try.pinned (OpenSpec.upto namesSpec)

/-- 'mplaw2.BindTells', WHERE WHAT IT READS IS OF BULK AT MOST 1048576: true; the input reads as it did. -/
def bindTellsUptoRow : OpenClaim := { program := "ytmanhdacnkpclaa", sum := "29fbb45fa0267540766afb1c3c3b3d7a3523d8996e1ba9fc945d88918c8ad9bc", func := "mendproof/mplaw2.BindTells", spec := "bindTells", unfollowed := true, recurses := true, loops := true, apart := false, narrowed := true }
def BindTellsUptoSaid : Prop := bindTellsUptoRow.holds Try.pinned (OpenSpec.upto bindTellsSpec)

/-- 'mplaw7.SimpTells', WHERE WHAT IT READS IS OF BULK AT MOST 1048576: true; the input reads as it did. -/
def simpTellsUptoRow : OpenClaim := { program := "ytmanhdacnkpclaa", sum := "29fbb45fa0267540766afb1c3c3b3d7a3523d8996e1ba9fc945d88918c8ad9bc", func := "mendproof/mplaw7.SimpTells", spec := "simpTells", unfollowed := true, recurses := true, loops := true, apart := false, narrowed := true }
def SimpTellsUptoSaid : Prop := simpTellsUptoRow.holds Try.pinned (OpenSpec.upto simpTellsSpec)

/-- 'mplaw6.RulesTells', WHERE WHAT IT READS IS OF BULK AT MOST 1048576: true; the input reads as it did. -/
def rulesTellsUptoRow : OpenClaim := { program := "ytmanhdacnkpclaa", sum := "29fbb45fa0267540766afb1c3c3b3d7a3523d8996e1ba9fc945d88918c8ad9bc", func := "mendproof/mplaw6.RulesTells", spec := "rulesTells", unfollowed := true, recurses := true, loops := true, apart := false, narrowed := true }
def RulesTellsUptoSaid : Prop := rulesTellsUptoRow.holds Try.pinned (OpenSpec.upto rulesTellsSpec)

/-- 'mplaw9.ProveHolds', WHERE WHAT IT READS IS OF BULK AT MOST 1048576: true; the input reads as it did. -/
def proveHoldsUptoRow : OpenClaim := { program := "ytmanhdacnkpclaa", sum := "29fbb45fa0267540766afb1c3c3b3d7a3523d8996e1ba9fc945d88918c8ad9bc", func := "mendproof/mplaw9.ProveHolds", spec := "proveHolds", unfollowed := true, recurses := true, loops := true, apart := false, narrowed := true }
def ProveHoldsUptoSaid : Prop := proveHoldsUptoRow.holds Try.pinned (OpenSpec.upto proveHoldsSpec)

end Rows
end Go.Proofs.Ytmanhdacnkpclaa
