/-
  NARROWER THAN 'FOR EVERY INPUT', by the rows' own cells (each row's printed sentence says how): BindUnify: loops, laid · BindMatch: loops, laid · TermTells: loops, laid · TermTurns: loops, laid · TermPut: loops, laid · SimpSame: loops, laid · SimpEnd: loops, laid · SimpCovers: loops, laid · RulesHold: loops, laid · RulesKept: loops, laid · ClauseTurns: loops, laid · ClauseNorm: loops, laid.
  DERIVED. THE GIVEN ROWS OF THIS SEAT. 12 by the template 'for every input the law returns true; each argument reads behind the call as it read before'; 0 by the template 'total and deterministic' (their statements: YtmanhdacnkpclaaDoorTotals.lean).
  GIVEN WITH THE SEED: the statements are not yours to turn. If you find one false, say at which input.
  Laid BY PROGRAM, IN A SANDBOX (cutbox-rows.mjs): the forced cells as the released guide's own fill.sh prints them over the translation 844e99f273db3a07… (all of the seat's roots in one cut). By AI agents, Wed Nov 11 2026. No macro, syntax, notation, axiom, sorry.
-/
import Derived.Test.YtmanhdacnkpclaaDoorChecked
import GoSem.PinnedTables
import GoSem.Claim
import GoSem.ClaimJoined
import GoSem.ClaimMapViews
import Derived.JoinedTies
import Derived.KernelRfl
namespace Go.Proofs.YtmanhdacnkpclaaDoor
/- THE CELL 'sum', in the pinned program and in every row, IS THE sha256 OF THE DUMP (.gsa) THAT YtmanhdacnkpclaaDoorProg.lean LOADS. Nothing in Lean hashes anything: it is a label: what it is worth is what the hold of that sum in a sandbox is worth. -/
noncomputable def Tryd.pinned : Pinned := { name := "ytmanhdacnkpclaadoor", sum := "844e99f273db3a070d1e5cb104b1130dcec01b6e4ba45b1bcd236fdd99d55ca0", checked := Tryd.checked }
namespace Rows
def none {H : Type} : Left H := { results := [], args := [] }

/- WHAT THE LISTED PACKAGE-LEVEL VARIABLES READ AS WHEN THE CALL BEGINS. Each datum BY PROGRAM (the guide's laid-datum.mjs) off the statement by which the dump's own 'gosem.cut.vars' lays the variable. In a bare row this is a premise. The card (YtmanhdacnkpclaaDoorCards.lean) ties it to the program's text. -/
def laid_math_bits_deBruijn32tab {H : Type} : DataW H := .agg [.lit (.int .u8 0), .lit (.int .u8 1), .lit (.int .u8 28), .lit (.int .u8 2), .lit (.int .u8 29), .lit (.int .u8 14), .lit (.int .u8 24), .lit (.int .u8 3), .lit (.int .u8 30), .lit (.int .u8 22), .lit (.int .u8 20), .lit (.int .u8 15), .lit (.int .u8 25), .lit (.int .u8 17), .lit (.int .u8 4), .lit (.int .u8 8), .lit (.int .u8 31), .lit (.int .u8 27), .lit (.int .u8 13), .lit (.int .u8 23), .lit (.int .u8 21), .lit (.int .u8 19), .lit (.int .u8 16), .lit (.int .u8 7), .lit (.int .u8 26), .lit (.int .u8 12), .lit (.int .u8 18), .lit (.int .u8 6), .lit (.int .u8 11), .lit (.int .u8 5), .lit (.int .u8 10), .lit (.int .u8 9)]
def laid_math_bits_deBruijn64tab {H : Type} : DataW H := .agg [.lit (.int .u8 0), .lit (.int .u8 1), .lit (.int .u8 56), .lit (.int .u8 2), .lit (.int .u8 57), .lit (.int .u8 49), .lit (.int .u8 28), .lit (.int .u8 3), .lit (.int .u8 61), .lit (.int .u8 58), .lit (.int .u8 42), .lit (.int .u8 50), .lit (.int .u8 38), .lit (.int .u8 29), .lit (.int .u8 17), .lit (.int .u8 4), .lit (.int .u8 62), .lit (.int .u8 47), .lit (.int .u8 59), .lit (.int .u8 36), .lit (.int .u8 45), .lit (.int .u8 43), .lit (.int .u8 51), .lit (.int .u8 22), .lit (.int .u8 53), .lit (.int .u8 39), .lit (.int .u8 33), .lit (.int .u8 30), .lit (.int .u8 24), .lit (.int .u8 18), .lit (.int .u8 12), .lit (.int .u8 5), .lit (.int .u8 63), .lit (.int .u8 55), .lit (.int .u8 48), .lit (.int .u8 27), .lit (.int .u8 60), .lit (.int .u8 41), .lit (.int .u8 37), .lit (.int .u8 16), .lit (.int .u8 46), .lit (.int .u8 35), .lit (.int .u8 44), .lit (.int .u8 21), .lit (.int .u8 52), .lit (.int .u8 32), .lit (.int .u8 23), .lit (.int .u8 11), .lit (.int .u8 54), .lit (.int .u8 26), .lit (.int .u8 40), .lit (.int .u8 15), .lit (.int .u8 34), .lit (.int .u8 20), .lit (.int .u8 31), .lit (.int .u8 10), .lit (.int .u8 25), .lit (.int .u8 14), .lit (.int .u8 19), .lit (.int .u8 9), .lit (.int .u8 13), .lit (.int .u8 8), .lit (.int .u8 7), .lit (.int .u8 6)]
def laid_internal_strconv_uint64pow10 {H : Type} : DataW H := .agg [.lit (.int .u64 1), .lit (.int .u64 10), .lit (.int .u64 100), .lit (.int .u64 1000), .lit (.int .u64 10000), .lit (.int .u64 100000), .lit (.int .u64 1000000), .lit (.int .u64 10000000), .lit (.int .u64 100000000), .lit (.int .u64 1000000000), .lit (.int .u64 10000000000), .lit (.int .u64 100000000000), .lit (.int .u64 1000000000000), .lit (.int .u64 10000000000000), .lit (.int .u64 100000000000000), .lit (.int .u64 1000000000000000), .lit (.int .u64 10000000000000000), .lit (.int .u64 100000000000000000), .lit (.int .u64 1000000000000000000), .lit (.int .u64 10000000000000000000)]
def laid_unicode_utf8_acceptRanges {H : Type} : DataW H := .agg [.agg [.lit (.int .u8 128), .lit (.int .u8 191)], .agg [.lit (.int .u8 160), .lit (.int .u8 191)], .agg [.lit (.int .u8 128), .lit (.int .u8 159)], .agg [.lit (.int .u8 144), .lit (.int .u8 191)], .agg [.lit (.int .u8 128), .lit (.int .u8 143)], .agg [.lit (.int .u8 0), .lit (.int .u8 0)], .agg [.lit (.int .u8 0), .lit (.int .u8 0)], .agg [.lit (.int .u8 0), .lit (.int .u8 0)], .agg [.lit (.int .u8 0), .lit (.int .u8 0)], .agg [.lit (.int .u8 0), .lit (.int .u8 0)], .agg [.lit (.int .u8 0), .lit (.int .u8 0)], .agg [.lit (.int .u8 0), .lit (.int .u8 0)], .agg [.lit (.int .u8 0), .lit (.int .u8 0)], .agg [.lit (.int .u8 0), .lit (.int .u8 0)], .agg [.lit (.int .u8 0), .lit (.int .u8 0)], .agg [.lit (.int .u8 0), .lit (.int .u8 0)]]
/-- One of Go's own tables, pinned by name: the form's constant. -/
def laid_unicode_utf8_first : DataW Unit := Go.Pinned.utf8First

/-- 'mplaw2.BindUnify': WHATEVER THE INPUT: true; the input reads as it did. -/
def bindUnifySpec : ChangeSpec := { name := "bindUnify", fn := fun _ => fun
  | [d1, d2, d3, d4] => { results := [.lit (.bool true)], args := [d1, d2, d3, d4] }
  | _ => none }
def bindUnifyRow : OpenClaim := { program := "ytmanhdacnkpclaadoor", sum := "844e99f273db3a070d1e5cb104b1130dcec01b6e4ba45b1bcd236fdd99d55ca0", func := "mendproof/mplaw2.BindUnify", spec := "bindUnify", unfollowed := true, recurses := true, named := ["internal/strconv.uint64pow10", "math/bits.deBruijn32tab", "math/bits.deBruijn64tab"], loops := true, apart := false, laid := [("math/bits.deBruijn32tab", laid_math_bits_deBruijn32tab), ("math/bits.deBruijn64tab", laid_math_bits_deBruijn64tab), ("internal/strconv.uint64pow10", laid_internal_strconv_uint64pow10)] }
def BindUnifySaid : Prop := bindUnifyRow.holds Tryd.pinned (OpenSpec.ofChange bindUnifySpec)

/-- ITS FALSE NEIGHBOUR: 'it returns false'. Refute it at one input. -/
def bindUnifyWrong : ChangeSpec := { name := "bindUnify", fn := fun _ => fun
  | [d1, d2, d3, d4] => { results := [.lit (.bool false)], args := [d1, d2, d3, d4] }
  | _ => none }
def BindUnifyWrongFalsely : Prop := bindUnifyRow.holds Tryd.pinned (OpenSpec.ofChange bindUnifyWrong)

/-- 'mplaw2.BindMatch': WHATEVER THE INPUT: true; the input reads as it did. -/
def bindMatchSpec : ChangeSpec := { name := "bindMatch", fn := fun _ => fun
  | [d1, d2, d3, d4] => { results := [.lit (.bool true)], args := [d1, d2, d3, d4] }
  | _ => none }
def bindMatchRow : OpenClaim := { program := "ytmanhdacnkpclaadoor", sum := "844e99f273db3a070d1e5cb104b1130dcec01b6e4ba45b1bcd236fdd99d55ca0", func := "mendproof/mplaw2.BindMatch", spec := "bindMatch", unfollowed := true, recurses := true, named := ["internal/strconv.uint64pow10", "math/bits.deBruijn32tab", "math/bits.deBruijn64tab"], loops := true, apart := false, laid := [("math/bits.deBruijn32tab", laid_math_bits_deBruijn32tab), ("math/bits.deBruijn64tab", laid_math_bits_deBruijn64tab), ("internal/strconv.uint64pow10", laid_internal_strconv_uint64pow10)] }
def BindMatchSaid : Prop := bindMatchRow.holds Tryd.pinned (OpenSpec.ofChange bindMatchSpec)

/-- ITS FALSE NEIGHBOUR: 'it returns false'. Refute it at one input. -/
def bindMatchWrong : ChangeSpec := { name := "bindMatch", fn := fun _ => fun
  | [d1, d2, d3, d4] => { results := [.lit (.bool false)], args := [d1, d2, d3, d4] }
  | _ => none }
def BindMatchWrongFalsely : Prop := bindMatchRow.holds Tryd.pinned (OpenSpec.ofChange bindMatchWrong)

/-- 'mplaw1.TermTells': WHATEVER THE INPUT: true; the input reads as it did. -/
def termTellsSpec : ChangeSpec := { name := "termTells", fn := fun _ => fun
  | [d1, d2, d3, d4, d5, d6] => { results := [.lit (.bool true)], args := [d1, d2, d3, d4, d5, d6] }
  | _ => none }
def termTellsRow : OpenClaim := { program := "ytmanhdacnkpclaadoor", sum := "844e99f273db3a070d1e5cb104b1130dcec01b6e4ba45b1bcd236fdd99d55ca0", func := "mendproof/mplaw1.TermTells", spec := "termTells", unfollowed := true, recurses := true, named := ["internal/strconv.uint64pow10", "math/bits.deBruijn32tab", "math/bits.deBruijn64tab"], loops := true, apart := false, laid := [("math/bits.deBruijn32tab", laid_math_bits_deBruijn32tab), ("math/bits.deBruijn64tab", laid_math_bits_deBruijn64tab), ("internal/strconv.uint64pow10", laid_internal_strconv_uint64pow10)] }
def TermTellsSaid : Prop := termTellsRow.holds Tryd.pinned (OpenSpec.ofChange termTellsSpec)

/-- ITS FALSE NEIGHBOUR: 'it returns false'. Refute it at one input. -/
def termTellsWrong : ChangeSpec := { name := "termTells", fn := fun _ => fun
  | [d1, d2, d3, d4, d5, d6] => { results := [.lit (.bool false)], args := [d1, d2, d3, d4, d5, d6] }
  | _ => none }
def TermTellsWrongFalsely : Prop := termTellsRow.holds Tryd.pinned (OpenSpec.ofChange termTellsWrong)

/-- 'mplaw1.TermTurns': WHATEVER THE INPUT: true; the input reads as it did. -/
def termTurnsSpec : ChangeSpec := { name := "termTurns", fn := fun _ => fun
  | [d1, d2, d3] => { results := [.lit (.bool true)], args := [d1, d2, d3] }
  | _ => none }
def termTurnsRow : OpenClaim := { program := "ytmanhdacnkpclaadoor", sum := "844e99f273db3a070d1e5cb104b1130dcec01b6e4ba45b1bcd236fdd99d55ca0", func := "mendproof/mplaw1.TermTurns", spec := "termTurns", unfollowed := true, recurses := true, named := ["internal/strconv.uint64pow10", "math/bits.deBruijn32tab", "math/bits.deBruijn64tab"], loops := true, apart := false, laid := [("math/bits.deBruijn32tab", laid_math_bits_deBruijn32tab), ("math/bits.deBruijn64tab", laid_math_bits_deBruijn64tab), ("internal/strconv.uint64pow10", laid_internal_strconv_uint64pow10)] }
def TermTurnsSaid : Prop := termTurnsRow.holds Tryd.pinned (OpenSpec.ofChange termTurnsSpec)

/-- ITS FALSE NEIGHBOUR: 'it returns false'. Refute it at one input. -/
def termTurnsWrong : ChangeSpec := { name := "termTurns", fn := fun _ => fun
  | [d1, d2, d3] => { results := [.lit (.bool false)], args := [d1, d2, d3] }
  | _ => none }
def TermTurnsWrongFalsely : Prop := termTurnsRow.holds Tryd.pinned (OpenSpec.ofChange termTurnsWrong)

/-- 'mplaw1.TermPut': WHATEVER THE INPUT: true; the input reads as it did. -/
def termPutSpec : ChangeSpec := { name := "termPut", fn := fun _ => fun
  | [d1, d2, d3, d4] => { results := [.lit (.bool true)], args := [d1, d2, d3, d4] }
  | _ => none }
def termPutRow : OpenClaim := { program := "ytmanhdacnkpclaadoor", sum := "844e99f273db3a070d1e5cb104b1130dcec01b6e4ba45b1bcd236fdd99d55ca0", func := "mendproof/mplaw1.TermPut", spec := "termPut", unfollowed := true, recurses := true, named := ["internal/strconv.uint64pow10", "math/bits.deBruijn32tab", "math/bits.deBruijn64tab"], loops := true, apart := false, laid := [("math/bits.deBruijn32tab", laid_math_bits_deBruijn32tab), ("math/bits.deBruijn64tab", laid_math_bits_deBruijn64tab), ("internal/strconv.uint64pow10", laid_internal_strconv_uint64pow10)] }
def TermPutSaid : Prop := termPutRow.holds Tryd.pinned (OpenSpec.ofChange termPutSpec)

/-- ITS FALSE NEIGHBOUR: 'it returns false'. Refute it at one input. -/
def termPutWrong : ChangeSpec := { name := "termPut", fn := fun _ => fun
  | [d1, d2, d3, d4] => { results := [.lit (.bool false)], args := [d1, d2, d3, d4] }
  | _ => none }
def TermPutWrongFalsely : Prop := termPutRow.holds Tryd.pinned (OpenSpec.ofChange termPutWrong)

/-- 'mplaw7.SimpSame': WHATEVER THE INPUT: true; the input reads as it did. -/
def simpSameSpec : ChangeSpec := { name := "simpSame", fn := fun _ => fun
  | [d1, d2, d3, d4] => { results := [.lit (.bool true)], args := [d1, d2, d3, d4] }
  | _ => none }
def simpSameRow : OpenClaim := { program := "ytmanhdacnkpclaadoor", sum := "844e99f273db3a070d1e5cb104b1130dcec01b6e4ba45b1bcd236fdd99d55ca0", func := "mendproof/mplaw7.SimpSame", spec := "simpSame", unfollowed := true, recurses := true, named := ["internal/strconv.uint64pow10", "math/bits.deBruijn32tab", "math/bits.deBruijn64tab"], loops := true, apart := false, laid := [("math/bits.deBruijn32tab", laid_math_bits_deBruijn32tab), ("math/bits.deBruijn64tab", laid_math_bits_deBruijn64tab), ("internal/strconv.uint64pow10", laid_internal_strconv_uint64pow10)] }
def SimpSameSaid : Prop := simpSameRow.holds Tryd.pinned (OpenSpec.ofChange simpSameSpec)

/-- ITS FALSE NEIGHBOUR: 'it returns false'. Refute it at one input. -/
def simpSameWrong : ChangeSpec := { name := "simpSame", fn := fun _ => fun
  | [d1, d2, d3, d4] => { results := [.lit (.bool false)], args := [d1, d2, d3, d4] }
  | _ => none }
def SimpSameWrongFalsely : Prop := simpSameRow.holds Tryd.pinned (OpenSpec.ofChange simpSameWrong)

/-- 'mplaw7.SimpEnd': WHATEVER THE INPUT: true; the input reads as it did. -/
def simpEndSpec : ChangeSpec := { name := "simpEnd", fn := fun _ => fun
  | [d1, d2, d3] => { results := [.lit (.bool true)], args := [d1, d2, d3] }
  | _ => none }
def simpEndRow : OpenClaim := { program := "ytmanhdacnkpclaadoor", sum := "844e99f273db3a070d1e5cb104b1130dcec01b6e4ba45b1bcd236fdd99d55ca0", func := "mendproof/mplaw7.SimpEnd", spec := "simpEnd", unfollowed := true, recurses := true, named := ["internal/strconv.uint64pow10", "math/bits.deBruijn32tab", "math/bits.deBruijn64tab"], loops := true, apart := false, laid := [("math/bits.deBruijn32tab", laid_math_bits_deBruijn32tab), ("math/bits.deBruijn64tab", laid_math_bits_deBruijn64tab), ("internal/strconv.uint64pow10", laid_internal_strconv_uint64pow10)] }
def SimpEndSaid : Prop := simpEndRow.holds Tryd.pinned (OpenSpec.ofChange simpEndSpec)

/-- ITS FALSE NEIGHBOUR: 'it returns false'. Refute it at one input. -/
def simpEndWrong : ChangeSpec := { name := "simpEnd", fn := fun _ => fun
  | [d1, d2, d3] => { results := [.lit (.bool false)], args := [d1, d2, d3] }
  | _ => none }
def SimpEndWrongFalsely : Prop := simpEndRow.holds Tryd.pinned (OpenSpec.ofChange simpEndWrong)

/-- 'mplaw7.SimpCovers': WHATEVER THE INPUT: true; the input reads as it did. -/
def simpCoversSpec : ChangeSpec := { name := "simpCovers", fn := fun _ => fun
  | [d1, d2, d3, d4, d5] => { results := [.lit (.bool true)], args := [d1, d2, d3, d4, d5] }
  | _ => none }
def simpCoversRow : OpenClaim := { program := "ytmanhdacnkpclaadoor", sum := "844e99f273db3a070d1e5cb104b1130dcec01b6e4ba45b1bcd236fdd99d55ca0", func := "mendproof/mplaw7.SimpCovers", spec := "simpCovers", unfollowed := true, recurses := true, named := ["internal/strconv.uint64pow10", "math/bits.deBruijn32tab", "math/bits.deBruijn64tab"], loops := true, apart := false, laid := [("math/bits.deBruijn32tab", laid_math_bits_deBruijn32tab), ("math/bits.deBruijn64tab", laid_math_bits_deBruijn64tab), ("internal/strconv.uint64pow10", laid_internal_strconv_uint64pow10)] }
def SimpCoversSaid : Prop := simpCoversRow.holds Tryd.pinned (OpenSpec.ofChange simpCoversSpec)

/-- ITS FALSE NEIGHBOUR: 'it returns false'. Refute it at one input. -/
def simpCoversWrong : ChangeSpec := { name := "simpCovers", fn := fun _ => fun
  | [d1, d2, d3, d4, d5] => { results := [.lit (.bool false)], args := [d1, d2, d3, d4, d5] }
  | _ => none }
def SimpCoversWrongFalsely : Prop := simpCoversRow.holds Tryd.pinned (OpenSpec.ofChange simpCoversWrong)

/-- 'mplaw6.RulesHold': WHATEVER THE INPUT: true; the input reads as it did. -/
def rulesHoldSpec : ChangeSpec := { name := "rulesHold", fn := fun _ => fun
  | [d1, d2, d3, d4] => { results := [.lit (.bool true)], args := [d1, d2, d3, d4] }
  | _ => none }
def rulesHoldRow : OpenClaim := { program := "ytmanhdacnkpclaadoor", sum := "844e99f273db3a070d1e5cb104b1130dcec01b6e4ba45b1bcd236fdd99d55ca0", func := "mendproof/mplaw6.RulesHold", spec := "rulesHold", unfollowed := true, recurses := true, named := ["internal/strconv.uint64pow10", "math/bits.deBruijn32tab", "math/bits.deBruijn64tab"], loops := true, apart := false, laid := [("math/bits.deBruijn32tab", laid_math_bits_deBruijn32tab), ("math/bits.deBruijn64tab", laid_math_bits_deBruijn64tab), ("internal/strconv.uint64pow10", laid_internal_strconv_uint64pow10)] }
def RulesHoldSaid : Prop := rulesHoldRow.holds Tryd.pinned (OpenSpec.ofChange rulesHoldSpec)

/-- ITS FALSE NEIGHBOUR: 'it returns false'. Refute it at one input. -/
def rulesHoldWrong : ChangeSpec := { name := "rulesHold", fn := fun _ => fun
  | [d1, d2, d3, d4] => { results := [.lit (.bool false)], args := [d1, d2, d3, d4] }
  | _ => none }
def RulesHoldWrongFalsely : Prop := rulesHoldRow.holds Tryd.pinned (OpenSpec.ofChange rulesHoldWrong)

/-- 'mplaw6.RulesKept': WHATEVER THE INPUT: true; the input reads as it did. -/
def rulesKeptSpec : ChangeSpec := { name := "rulesKept", fn := fun _ => fun
  | [d1, d2, d3] => { results := [.lit (.bool true)], args := [d1, d2, d3] }
  | _ => none }
def rulesKeptRow : OpenClaim := { program := "ytmanhdacnkpclaadoor", sum := "844e99f273db3a070d1e5cb104b1130dcec01b6e4ba45b1bcd236fdd99d55ca0", func := "mendproof/mplaw6.RulesKept", spec := "rulesKept", unfollowed := true, recurses := true, named := ["internal/strconv.uint64pow10", "math/bits.deBruijn32tab", "math/bits.deBruijn64tab"], loops := true, apart := false, laid := [("math/bits.deBruijn32tab", laid_math_bits_deBruijn32tab), ("math/bits.deBruijn64tab", laid_math_bits_deBruijn64tab), ("internal/strconv.uint64pow10", laid_internal_strconv_uint64pow10)] }
def RulesKeptSaid : Prop := rulesKeptRow.holds Tryd.pinned (OpenSpec.ofChange rulesKeptSpec)

/-- ITS FALSE NEIGHBOUR: 'it returns false'. Refute it at one input. -/
def rulesKeptWrong : ChangeSpec := { name := "rulesKept", fn := fun _ => fun
  | [d1, d2, d3] => { results := [.lit (.bool false)], args := [d1, d2, d3] }
  | _ => none }
def RulesKeptWrongFalsely : Prop := rulesKeptRow.holds Tryd.pinned (OpenSpec.ofChange rulesKeptWrong)

/-- 'mplaw4.ClauseTurns': WHATEVER THE INPUT: true; the input reads as it did. -/
def clauseTurnsSpec : ChangeSpec := { name := "clauseTurns", fn := fun _ => fun
  | [d1, d2, d3] => { results := [.lit (.bool true)], args := [d1, d2, d3] }
  | _ => none }
def clauseTurnsRow : OpenClaim := { program := "ytmanhdacnkpclaadoor", sum := "844e99f273db3a070d1e5cb104b1130dcec01b6e4ba45b1bcd236fdd99d55ca0", func := "mendproof/mplaw4.ClauseTurns", spec := "clauseTurns", inPlace := ["internal/bytealg.CountString", "internal/bytealg.IndexByteString", "internal/bytealg.IndexString", "internal/abi.NoEscape", "internal/bytealg.MakeNoZero"], unfollowed := true, recurses := true, named := ["unicode/utf8.first", "unicode/utf8.acceptRanges", "internal/bytealg.MaxLen", "internal/strconv.uint64pow10", "math/bits.deBruijn32tab", "math/bits.deBruijn64tab"], loops := true, apart := false, laid := [("math/bits.deBruijn32tab", laid_math_bits_deBruijn32tab), ("math/bits.deBruijn64tab", laid_math_bits_deBruijn64tab), ("internal/strconv.uint64pow10", laid_internal_strconv_uint64pow10), ("unicode/utf8.acceptRanges", laid_unicode_utf8_acceptRanges), ("unicode/utf8.first", laid_unicode_utf8_first)] }
def ClauseTurnsSaid : Prop := clauseTurnsRow.holds Tryd.pinned (OpenSpec.ofChange clauseTurnsSpec)

/-- ITS FALSE NEIGHBOUR: 'it returns false'. Refute it at one input. -/
def clauseTurnsWrong : ChangeSpec := { name := "clauseTurns", fn := fun _ => fun
  | [d1, d2, d3] => { results := [.lit (.bool false)], args := [d1, d2, d3] }
  | _ => none }
def ClauseTurnsWrongFalsely : Prop := clauseTurnsRow.holds Tryd.pinned (OpenSpec.ofChange clauseTurnsWrong)

/-- 'mplaw4.ClauseNorm': WHATEVER THE INPUT: true; the input reads as it did. -/
def clauseNormSpec : ChangeSpec := { name := "clauseNorm", fn := fun _ => fun
  | [d1, d2, d3] => { results := [.lit (.bool true)], args := [d1, d2, d3] }
  | _ => none }
def clauseNormRow : OpenClaim := { program := "ytmanhdacnkpclaadoor", sum := "844e99f273db3a070d1e5cb104b1130dcec01b6e4ba45b1bcd236fdd99d55ca0", func := "mendproof/mplaw4.ClauseNorm", spec := "clauseNorm", inPlace := ["internal/bytealg.CountString", "internal/bytealg.IndexByteString", "internal/bytealg.IndexString", "internal/abi.NoEscape", "internal/bytealg.MakeNoZero"], unfollowed := true, recurses := true, named := ["unicode/utf8.first", "unicode/utf8.acceptRanges", "internal/bytealg.MaxLen", "internal/strconv.uint64pow10", "math/bits.deBruijn32tab", "math/bits.deBruijn64tab"], loops := true, apart := false, laid := [("math/bits.deBruijn32tab", laid_math_bits_deBruijn32tab), ("math/bits.deBruijn64tab", laid_math_bits_deBruijn64tab), ("internal/strconv.uint64pow10", laid_internal_strconv_uint64pow10), ("unicode/utf8.acceptRanges", laid_unicode_utf8_acceptRanges), ("unicode/utf8.first", laid_unicode_utf8_first)] }
def ClauseNormSaid : Prop := clauseNormRow.holds Tryd.pinned (OpenSpec.ofChange clauseNormSpec)

/-- ITS FALSE NEIGHBOUR: 'it returns false'. Refute it at one input. -/
def clauseNormWrong : ChangeSpec := { name := "clauseNorm", fn := fun _ => fun
  | [d1, d2, d3] => { results := [.lit (.bool false)], args := [d1, d2, d3] }
  | _ => none }
def ClauseNormWrongFalsely : Prop := clauseNormRow.holds Tryd.pinned (OpenSpec.ofChange clauseNormWrong)

/- THE SECOND FORM. 'bulk': how many values and letters a reading holds, each counted each time it is reached (what is shared counts as often as it is met; a slice's spare places count too). A statement '..UptoSaid' is the law's where the arguments, and the package variables that the reading takes, are together of bulk at most 1048576: NARROWER than '..Said'. Prove '..Said' where nothing that the law and all that it calls make is longer than what came in: it says more and counts as full. Else prove '..UptoSaid'. A law counts once. -/
mutual
def uptoBulk {H : Type} : DataW H → Nat
  | .lit (.string bytes) => bytes.length + 1
  | .lit _ => 1
  | .nil => 1
  | .ptr d => uptoBulk d + 1
  | .slice elems spare => uptoBulkAll elems + uptoBulkAll spare + 1
  | .agg parts => uptoBulkAll parts + 1
  | .iface _ d => uptoBulk d + 1
  | .map entries => uptoBulkEntries entries + 1
  | .held _ => 1
def uptoBulkAll {H : Type} : List (DataW H) → Nat
  | [] => 0
  | d :: r => uptoBulk d + uptoBulkAll r
def uptoBulkEntries {H : Type} : List (Lit × DataW H) → Nat
  | [] => 0
  | x :: r => uptoBulkEntry x + uptoBulkEntries r
def uptoBulkEntry {H : Type} : Lit × DataW H → Nat
  | (.string bytes, d) => bytes.length + uptoBulk d + 1
  | (_, d) => uptoBulk d + 1
 end
def uptoSmall : (H : Type) → List (DataW H) → Bool := fun _ ds => decide (uptoBulkAll ds ≤ 1048576)
def OpenSpec.upto (s : _root_.Go.ChangeSpec) : _root_.Go.OpenSpec := { _root_.Go.OpenSpec.ofChange s with cond := some uptoSmall }

/-- 'mplaw2.BindUnify', WHERE WHAT IT READS IS OF BULK AT MOST 1048576: true; the input reads as it did. -/
def bindUnifyUptoRow : OpenClaim := { program := "ytmanhdacnkpclaadoor", sum := "844e99f273db3a070d1e5cb104b1130dcec01b6e4ba45b1bcd236fdd99d55ca0", func := "mendproof/mplaw2.BindUnify", spec := "bindUnify", unfollowed := true, recurses := true, named := ["internal/strconv.uint64pow10", "math/bits.deBruijn32tab", "math/bits.deBruijn64tab"], loops := true, apart := false, laid := [("math/bits.deBruijn32tab", laid_math_bits_deBruijn32tab), ("math/bits.deBruijn64tab", laid_math_bits_deBruijn64tab), ("internal/strconv.uint64pow10", laid_internal_strconv_uint64pow10)], narrowed := true }
def BindUnifyUptoSaid : Prop := bindUnifyUptoRow.holds Tryd.pinned (OpenSpec.upto bindUnifySpec)

/-- 'mplaw2.BindMatch', WHERE WHAT IT READS IS OF BULK AT MOST 1048576: true; the input reads as it did. -/
def bindMatchUptoRow : OpenClaim := { program := "ytmanhdacnkpclaadoor", sum := "844e99f273db3a070d1e5cb104b1130dcec01b6e4ba45b1bcd236fdd99d55ca0", func := "mendproof/mplaw2.BindMatch", spec := "bindMatch", unfollowed := true, recurses := true, named := ["internal/strconv.uint64pow10", "math/bits.deBruijn32tab", "math/bits.deBruijn64tab"], loops := true, apart := false, laid := [("math/bits.deBruijn32tab", laid_math_bits_deBruijn32tab), ("math/bits.deBruijn64tab", laid_math_bits_deBruijn64tab), ("internal/strconv.uint64pow10", laid_internal_strconv_uint64pow10)], narrowed := true }
def BindMatchUptoSaid : Prop := bindMatchUptoRow.holds Tryd.pinned (OpenSpec.upto bindMatchSpec)

/-- 'mplaw1.TermTells', WHERE WHAT IT READS IS OF BULK AT MOST 1048576: true; the input reads as it did. -/
def termTellsUptoRow : OpenClaim := { program := "ytmanhdacnkpclaadoor", sum := "844e99f273db3a070d1e5cb104b1130dcec01b6e4ba45b1bcd236fdd99d55ca0", func := "mendproof/mplaw1.TermTells", spec := "termTells", unfollowed := true, recurses := true, named := ["internal/strconv.uint64pow10", "math/bits.deBruijn32tab", "math/bits.deBruijn64tab"], loops := true, apart := false, laid := [("math/bits.deBruijn32tab", laid_math_bits_deBruijn32tab), ("math/bits.deBruijn64tab", laid_math_bits_deBruijn64tab), ("internal/strconv.uint64pow10", laid_internal_strconv_uint64pow10)], narrowed := true }
def TermTellsUptoSaid : Prop := termTellsUptoRow.holds Tryd.pinned (OpenSpec.upto termTellsSpec)

/-- 'mplaw1.TermTurns', WHERE WHAT IT READS IS OF BULK AT MOST 1048576: true; the input reads as it did. -/
def termTurnsUptoRow : OpenClaim := { program := "ytmanhdacnkpclaadoor", sum := "844e99f273db3a070d1e5cb104b1130dcec01b6e4ba45b1bcd236fdd99d55ca0", func := "mendproof/mplaw1.TermTurns", spec := "termTurns", unfollowed := true, recurses := true, named := ["internal/strconv.uint64pow10", "math/bits.deBruijn32tab", "math/bits.deBruijn64tab"], loops := true, apart := false, laid := [("math/bits.deBruijn32tab", laid_math_bits_deBruijn32tab), ("math/bits.deBruijn64tab", laid_math_bits_deBruijn64tab), ("internal/strconv.uint64pow10", laid_internal_strconv_uint64pow10)], narrowed := true }
def TermTurnsUptoSaid : Prop := termTurnsUptoRow.holds Tryd.pinned (OpenSpec.upto termTurnsSpec)

/-- 'mplaw1.TermPut', WHERE WHAT IT READS IS OF BULK AT MOST 1048576: true; the input reads as it did. -/
def termPutUptoRow : OpenClaim := { program := "ytmanhdacnkpclaadoor", sum := "844e99f273db3a070d1e5cb104b1130dcec01b6e4ba45b1bcd236fdd99d55ca0", func := "mendproof/mplaw1.TermPut", spec := "termPut", unfollowed := true, recurses := true, named := ["internal/strconv.uint64pow10", "math/bits.deBruijn32tab", "math/bits.deBruijn64tab"], loops := true, apart := false, laid := [("math/bits.deBruijn32tab", laid_math_bits_deBruijn32tab), ("math/bits.deBruijn64tab", laid_math_bits_deBruijn64tab), ("internal/strconv.uint64pow10", laid_internal_strconv_uint64pow10)], narrowed := true }
def TermPutUptoSaid : Prop := termPutUptoRow.holds Tryd.pinned (OpenSpec.upto termPutSpec)

/-- 'mplaw7.SimpSame', WHERE WHAT IT READS IS OF BULK AT MOST 1048576: true; the input reads as it did. -/
def simpSameUptoRow : OpenClaim := { program := "ytmanhdacnkpclaadoor", sum := "844e99f273db3a070d1e5cb104b1130dcec01b6e4ba45b1bcd236fdd99d55ca0", func := "mendproof/mplaw7.SimpSame", spec := "simpSame", unfollowed := true, recurses := true, named := ["internal/strconv.uint64pow10", "math/bits.deBruijn32tab", "math/bits.deBruijn64tab"], loops := true, apart := false, laid := [("math/bits.deBruijn32tab", laid_math_bits_deBruijn32tab), ("math/bits.deBruijn64tab", laid_math_bits_deBruijn64tab), ("internal/strconv.uint64pow10", laid_internal_strconv_uint64pow10)], narrowed := true }
def SimpSameUptoSaid : Prop := simpSameUptoRow.holds Tryd.pinned (OpenSpec.upto simpSameSpec)

/-- 'mplaw7.SimpEnd', WHERE WHAT IT READS IS OF BULK AT MOST 1048576: true; the input reads as it did. -/
def simpEndUptoRow : OpenClaim := { program := "ytmanhdacnkpclaadoor", sum := "844e99f273db3a070d1e5cb104b1130dcec01b6e4ba45b1bcd236fdd99d55ca0", func := "mendproof/mplaw7.SimpEnd", spec := "simpEnd", unfollowed := true, recurses := true, named := ["internal/strconv.uint64pow10", "math/bits.deBruijn32tab", "math/bits.deBruijn64tab"], loops := true, apart := false, laid := [("math/bits.deBruijn32tab", laid_math_bits_deBruijn32tab), ("math/bits.deBruijn64tab", laid_math_bits_deBruijn64tab), ("internal/strconv.uint64pow10", laid_internal_strconv_uint64pow10)], narrowed := true }
def SimpEndUptoSaid : Prop := simpEndUptoRow.holds Tryd.pinned (OpenSpec.upto simpEndSpec)

/-- 'mplaw7.SimpCovers', WHERE WHAT IT READS IS OF BULK AT MOST 1048576: true; the input reads as it did. -/
def simpCoversUptoRow : OpenClaim := { program := "ytmanhdacnkpclaadoor", sum := "844e99f273db3a070d1e5cb104b1130dcec01b6e4ba45b1bcd236fdd99d55ca0", func := "mendproof/mplaw7.SimpCovers", spec := "simpCovers", unfollowed := true, recurses := true, named := ["internal/strconv.uint64pow10", "math/bits.deBruijn32tab", "math/bits.deBruijn64tab"], loops := true, apart := false, laid := [("math/bits.deBruijn32tab", laid_math_bits_deBruijn32tab), ("math/bits.deBruijn64tab", laid_math_bits_deBruijn64tab), ("internal/strconv.uint64pow10", laid_internal_strconv_uint64pow10)], narrowed := true }
def SimpCoversUptoSaid : Prop := simpCoversUptoRow.holds Tryd.pinned (OpenSpec.upto simpCoversSpec)

/-- 'mplaw6.RulesHold', WHERE WHAT IT READS IS OF BULK AT MOST 1048576: true; the input reads as it did. -/
def rulesHoldUptoRow : OpenClaim := { program := "ytmanhdacnkpclaadoor", sum := "844e99f273db3a070d1e5cb104b1130dcec01b6e4ba45b1bcd236fdd99d55ca0", func := "mendproof/mplaw6.RulesHold", spec := "rulesHold", unfollowed := true, recurses := true, named := ["internal/strconv.uint64pow10", "math/bits.deBruijn32tab", "math/bits.deBruijn64tab"], loops := true, apart := false, laid := [("math/bits.deBruijn32tab", laid_math_bits_deBruijn32tab), ("math/bits.deBruijn64tab", laid_math_bits_deBruijn64tab), ("internal/strconv.uint64pow10", laid_internal_strconv_uint64pow10)], narrowed := true }
def RulesHoldUptoSaid : Prop := rulesHoldUptoRow.holds Tryd.pinned (OpenSpec.upto rulesHoldSpec)

/-- 'mplaw6.RulesKept', WHERE WHAT IT READS IS OF BULK AT MOST 1048576: true; the input reads as it did. -/
def rulesKeptUptoRow : OpenClaim := { program := "ytmanhdacnkpclaadoor", sum := "844e99f273db3a070d1e5cb104b1130dcec01b6e4ba45b1bcd236fdd99d55ca0", func := "mendproof/mplaw6.RulesKept", spec := "rulesKept", unfollowed := true, recurses := true, named := ["internal/strconv.uint64pow10", "math/bits.deBruijn32tab", "math/bits.deBruijn64tab"], loops := true, apart := false, laid := [("math/bits.deBruijn32tab", laid_math_bits_deBruijn32tab), ("math/bits.deBruijn64tab", laid_math_bits_deBruijn64tab), ("internal/strconv.uint64pow10", laid_internal_strconv_uint64pow10)], narrowed := true }
def RulesKeptUptoSaid : Prop := rulesKeptUptoRow.holds Tryd.pinned (OpenSpec.upto rulesKeptSpec)

/-- 'mplaw4.ClauseTurns', WHERE WHAT IT READS IS OF BULK AT MOST 1048576: true; the input reads as it did. -/
def clauseTurnsUptoRow : OpenClaim := { program := "ytmanhdacnkpclaadoor", sum := "844e99f273db3a070d1e5cb104b1130dcec01b6e4ba45b1bcd236fdd99d55ca0", func := "mendproof/mplaw4.ClauseTurns", spec := "clauseTurns", inPlace := ["internal/bytealg.CountString", "internal/bytealg.IndexByteString", "internal/bytealg.IndexString", "internal/abi.NoEscape", "internal/bytealg.MakeNoZero"], unfollowed := true, recurses := true, named := ["unicode/utf8.first", "unicode/utf8.acceptRanges", "internal/bytealg.MaxLen", "internal/strconv.uint64pow10", "math/bits.deBruijn32tab", "math/bits.deBruijn64tab"], loops := true, apart := false, laid := [("math/bits.deBruijn32tab", laid_math_bits_deBruijn32tab), ("math/bits.deBruijn64tab", laid_math_bits_deBruijn64tab), ("internal/strconv.uint64pow10", laid_internal_strconv_uint64pow10), ("unicode/utf8.acceptRanges", laid_unicode_utf8_acceptRanges), ("unicode/utf8.first", laid_unicode_utf8_first)], narrowed := true }
def ClauseTurnsUptoSaid : Prop := clauseTurnsUptoRow.holds Tryd.pinned (OpenSpec.upto clauseTurnsSpec)

/-- 'mplaw4.ClauseNorm', WHERE WHAT IT READS IS OF BULK AT MOST 1048576: true; the input reads as it did. -/
def clauseNormUptoRow : OpenClaim := { program := "ytmanhdacnkpclaadoor", sum := "844e99f273db3a070d1e5cb104b1130dcec01b6e4ba45b1bcd236fdd99d55ca0", func := "mendproof/mplaw4.ClauseNorm", spec := "clauseNorm", inPlace := ["internal/bytealg.CountString", "internal/bytealg.IndexByteString", "internal/bytealg.IndexString", "internal/abi.NoEscape", "internal/bytealg.MakeNoZero"], unfollowed := true, recurses := true, named := ["unicode/utf8.first", "unicode/utf8.acceptRanges", "internal/bytealg.MaxLen", "internal/strconv.uint64pow10", "math/bits.deBruijn32tab", "math/bits.deBruijn64tab"], loops := true, apart := false, laid := [("math/bits.deBruijn32tab", laid_math_bits_deBruijn32tab), ("math/bits.deBruijn64tab", laid_math_bits_deBruijn64tab), ("internal/strconv.uint64pow10", laid_internal_strconv_uint64pow10), ("unicode/utf8.acceptRanges", laid_unicode_utf8_acceptRanges), ("unicode/utf8.first", laid_unicode_utf8_first)], narrowed := true }
def ClauseNormUptoSaid : Prop := clauseNormUptoRow.holds Tryd.pinned (OpenSpec.upto clauseNormSpec)

end Rows
end Go.Proofs.YtmanhdacnkpclaaDoor
