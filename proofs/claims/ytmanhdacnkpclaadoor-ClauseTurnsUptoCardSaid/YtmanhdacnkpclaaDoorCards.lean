/-
  DERIVED. GIVEN WITH THE SEED: THE CARDS: each row of YtmanhdacnkpclaaDoorRows.lean that lists a variable, with what it lists TIED to the program's text (the seventh form; the later family's looks); each row that meets fmt, with fmt's text TOLD by the authors' own Lean function (tested against real Go, not proved from fmt's source: count such statements apart). THE CARD IS WHAT COUNTS. Prove the row's statement (the work); the ties are given (YtmanhdacnkpclaaDoorTie.lean); close each card by the builder's one call (the guide's Derived/Test/ToyasCard.lean, 'card_holds'). Laid BY PROGRAM, IN A SANDBOX (cutbox-door.mjs). By AI agents, Wed Nov 11 2026. No macro, syntax, notation, axiom, sorry.
-/
import Derived.Test.YtmanhdacnkpclaaDoorRows
import GoSem.ClaimSeven
namespace Go.Proofs.YtmanhdacnkpclaaDoor
namespace Rows

/-- THE TIED CARD OF 'mplaw2.BindUnify'. -/
def bindUnifyCard : Claim7 := { stood := { row := bindUnifyRow, standIns := [], harness := (true, "10d9faa4737fa9e7b27e19c687499a79ef0ec232135226baccfe12c9ea5e3dbc"), looks := false }, kinds := [], alts := [], laidByText := true, laidKinds := [.data, .data, .data], laidTests := true, laidLooks := .later }
def BindUnifyCardSaid : Prop := Claim7.holds Tryd.pinned (.plain (OpenSpec.ofChange bindUnifySpec)) bindUnifyCard

/-- THE TIED CARD OF 'mplaw2.BindMatch'. -/
def bindMatchCard : Claim7 := { stood := { row := bindMatchRow, standIns := [], harness := (true, "10d9faa4737fa9e7b27e19c687499a79ef0ec232135226baccfe12c9ea5e3dbc"), looks := false }, kinds := [], alts := [], laidByText := true, laidKinds := [.data, .data, .data], laidTests := true, laidLooks := .later }
def BindMatchCardSaid : Prop := Claim7.holds Tryd.pinned (.plain (OpenSpec.ofChange bindMatchSpec)) bindMatchCard

/-- THE TIED CARD OF 'mplaw1.TermTells'. -/
def termTellsCard : Claim7 := { stood := { row := termTellsRow, standIns := [], harness := (true, "10d9faa4737fa9e7b27e19c687499a79ef0ec232135226baccfe12c9ea5e3dbc"), looks := false }, kinds := [], alts := [], laidByText := true, laidKinds := [.data, .data, .data], laidTests := true, laidLooks := .later }
def TermTellsCardSaid : Prop := Claim7.holds Tryd.pinned (.plain (OpenSpec.ofChange termTellsSpec)) termTellsCard

/-- THE TIED CARD OF 'mplaw1.TermTurns'. -/
def termTurnsCard : Claim7 := { stood := { row := termTurnsRow, standIns := [], harness := (true, "10d9faa4737fa9e7b27e19c687499a79ef0ec232135226baccfe12c9ea5e3dbc"), looks := false }, kinds := [], alts := [], laidByText := true, laidKinds := [.data, .data, .data], laidTests := true, laidLooks := .later }
def TermTurnsCardSaid : Prop := Claim7.holds Tryd.pinned (.plain (OpenSpec.ofChange termTurnsSpec)) termTurnsCard

/-- THE TIED CARD OF 'mplaw1.TermPut'. -/
def termPutCard : Claim7 := { stood := { row := termPutRow, standIns := [], harness := (true, "10d9faa4737fa9e7b27e19c687499a79ef0ec232135226baccfe12c9ea5e3dbc"), looks := false }, kinds := [], alts := [], laidByText := true, laidKinds := [.data, .data, .data], laidTests := true, laidLooks := .later }
def TermPutCardSaid : Prop := Claim7.holds Tryd.pinned (.plain (OpenSpec.ofChange termPutSpec)) termPutCard

/-- THE TIED CARD OF 'mplaw7.SimpSame'. -/
def simpSameCard : Claim7 := { stood := { row := simpSameRow, standIns := [], harness := (true, "10d9faa4737fa9e7b27e19c687499a79ef0ec232135226baccfe12c9ea5e3dbc"), looks := false }, kinds := [], alts := [], laidByText := true, laidKinds := [.data, .data, .data], laidTests := true, laidLooks := .later }
def SimpSameCardSaid : Prop := Claim7.holds Tryd.pinned (.plain (OpenSpec.ofChange simpSameSpec)) simpSameCard

/-- THE TIED CARD OF 'mplaw7.SimpEnd'. -/
def simpEndCard : Claim7 := { stood := { row := simpEndRow, standIns := [], harness := (true, "10d9faa4737fa9e7b27e19c687499a79ef0ec232135226baccfe12c9ea5e3dbc"), looks := false }, kinds := [], alts := [], laidByText := true, laidKinds := [.data, .data, .data], laidTests := true, laidLooks := .later }
def SimpEndCardSaid : Prop := Claim7.holds Tryd.pinned (.plain (OpenSpec.ofChange simpEndSpec)) simpEndCard

/-- THE TIED CARD OF 'mplaw7.SimpCovers'. -/
def simpCoversCard : Claim7 := { stood := { row := simpCoversRow, standIns := [], harness := (true, "10d9faa4737fa9e7b27e19c687499a79ef0ec232135226baccfe12c9ea5e3dbc"), looks := false }, kinds := [], alts := [], laidByText := true, laidKinds := [.data, .data, .data], laidTests := true, laidLooks := .later }
def SimpCoversCardSaid : Prop := Claim7.holds Tryd.pinned (.plain (OpenSpec.ofChange simpCoversSpec)) simpCoversCard

/-- THE TIED CARD OF 'mplaw6.RulesHold'. -/
def rulesHoldCard : Claim7 := { stood := { row := rulesHoldRow, standIns := [], harness := (true, "10d9faa4737fa9e7b27e19c687499a79ef0ec232135226baccfe12c9ea5e3dbc"), looks := false }, kinds := [], alts := [], laidByText := true, laidKinds := [.data, .data, .data], laidTests := true, laidLooks := .later }
def RulesHoldCardSaid : Prop := Claim7.holds Tryd.pinned (.plain (OpenSpec.ofChange rulesHoldSpec)) rulesHoldCard

/-- THE TIED CARD OF 'mplaw6.RulesKept'. -/
def rulesKeptCard : Claim7 := { stood := { row := rulesKeptRow, standIns := [], harness := (true, "10d9faa4737fa9e7b27e19c687499a79ef0ec232135226baccfe12c9ea5e3dbc"), looks := false }, kinds := [], alts := [], laidByText := true, laidKinds := [.data, .data, .data], laidTests := true, laidLooks := .later }
def RulesKeptCardSaid : Prop := Claim7.holds Tryd.pinned (.plain (OpenSpec.ofChange rulesKeptSpec)) rulesKeptCard

/-- THE TIED CARD OF 'mplaw4.ClauseTurns'. -/
def clauseTurnsCard : Claim7 := { stood := { row := clauseTurnsRow, standIns := [], harness := (true, "10d9faa4737fa9e7b27e19c687499a79ef0ec232135226baccfe12c9ea5e3dbc"), looks := false }, kinds := [], alts := [], laidByText := true, laidKinds := [.data, .data, .data, .data, .pinned], laidTests := true, laidLooks := .later }
def ClauseTurnsCardSaid : Prop := Claim7.holds Tryd.pinned (.plain (OpenSpec.ofChange clauseTurnsSpec)) clauseTurnsCard

/-- THE TIED CARD OF 'mplaw4.ClauseNorm'. -/
def clauseNormCard : Claim7 := { stood := { row := clauseNormRow, standIns := [], harness := (true, "10d9faa4737fa9e7b27e19c687499a79ef0ec232135226baccfe12c9ea5e3dbc"), looks := false }, kinds := [], alts := [], laidByText := true, laidKinds := [.data, .data, .data, .data, .pinned], laidTests := true, laidLooks := .later }
def ClauseNormCardSaid : Prop := Claim7.holds Tryd.pinned (.plain (OpenSpec.ofChange clauseNormSpec)) clauseNormCard

/-- THE SECOND FORM's CARD OF 'mplaw2.BindUnify'. -/
def bindUnifyUptoCard : Claim7 := { stood := { row := bindUnifyUptoRow, standIns := [], harness := (true, "10d9faa4737fa9e7b27e19c687499a79ef0ec232135226baccfe12c9ea5e3dbc"), looks := false }, kinds := [], alts := [], laidByText := true, laidKinds := [.data, .data, .data], laidTests := true, laidLooks := .later }
def BindUnifyUptoCardSaid : Prop := Claim7.holds Tryd.pinned (.plain (OpenSpec.upto bindUnifySpec)) bindUnifyUptoCard

/-- THE SECOND FORM's CARD OF 'mplaw2.BindMatch'. -/
def bindMatchUptoCard : Claim7 := { stood := { row := bindMatchUptoRow, standIns := [], harness := (true, "10d9faa4737fa9e7b27e19c687499a79ef0ec232135226baccfe12c9ea5e3dbc"), looks := false }, kinds := [], alts := [], laidByText := true, laidKinds := [.data, .data, .data], laidTests := true, laidLooks := .later }
def BindMatchUptoCardSaid : Prop := Claim7.holds Tryd.pinned (.plain (OpenSpec.upto bindMatchSpec)) bindMatchUptoCard

/-- THE SECOND FORM's CARD OF 'mplaw1.TermTells'. -/
def termTellsUptoCard : Claim7 := { stood := { row := termTellsUptoRow, standIns := [], harness := (true, "10d9faa4737fa9e7b27e19c687499a79ef0ec232135226baccfe12c9ea5e3dbc"), looks := false }, kinds := [], alts := [], laidByText := true, laidKinds := [.data, .data, .data], laidTests := true, laidLooks := .later }
def TermTellsUptoCardSaid : Prop := Claim7.holds Tryd.pinned (.plain (OpenSpec.upto termTellsSpec)) termTellsUptoCard

/-- THE SECOND FORM's CARD OF 'mplaw1.TermTurns'. -/
def termTurnsUptoCard : Claim7 := { stood := { row := termTurnsUptoRow, standIns := [], harness := (true, "10d9faa4737fa9e7b27e19c687499a79ef0ec232135226baccfe12c9ea5e3dbc"), looks := false }, kinds := [], alts := [], laidByText := true, laidKinds := [.data, .data, .data], laidTests := true, laidLooks := .later }
def TermTurnsUptoCardSaid : Prop := Claim7.holds Tryd.pinned (.plain (OpenSpec.upto termTurnsSpec)) termTurnsUptoCard

/-- THE SECOND FORM's CARD OF 'mplaw1.TermPut'. -/
def termPutUptoCard : Claim7 := { stood := { row := termPutUptoRow, standIns := [], harness := (true, "10d9faa4737fa9e7b27e19c687499a79ef0ec232135226baccfe12c9ea5e3dbc"), looks := false }, kinds := [], alts := [], laidByText := true, laidKinds := [.data, .data, .data], laidTests := true, laidLooks := .later }
def TermPutUptoCardSaid : Prop := Claim7.holds Tryd.pinned (.plain (OpenSpec.upto termPutSpec)) termPutUptoCard

/-- THE SECOND FORM's CARD OF 'mplaw7.SimpSame'. -/
def simpSameUptoCard : Claim7 := { stood := { row := simpSameUptoRow, standIns := [], harness := (true, "10d9faa4737fa9e7b27e19c687499a79ef0ec232135226baccfe12c9ea5e3dbc"), looks := false }, kinds := [], alts := [], laidByText := true, laidKinds := [.data, .data, .data], laidTests := true, laidLooks := .later }
def SimpSameUptoCardSaid : Prop := Claim7.holds Tryd.pinned (.plain (OpenSpec.upto simpSameSpec)) simpSameUptoCard

/-- THE SECOND FORM's CARD OF 'mplaw7.SimpEnd'. -/
def simpEndUptoCard : Claim7 := { stood := { row := simpEndUptoRow, standIns := [], harness := (true, "10d9faa4737fa9e7b27e19c687499a79ef0ec232135226baccfe12c9ea5e3dbc"), looks := false }, kinds := [], alts := [], laidByText := true, laidKinds := [.data, .data, .data], laidTests := true, laidLooks := .later }
def SimpEndUptoCardSaid : Prop := Claim7.holds Tryd.pinned (.plain (OpenSpec.upto simpEndSpec)) simpEndUptoCard

/-- THE SECOND FORM's CARD OF 'mplaw7.SimpCovers'. -/
def simpCoversUptoCard : Claim7 := { stood := { row := simpCoversUptoRow, standIns := [], harness := (true, "10d9faa4737fa9e7b27e19c687499a79ef0ec232135226baccfe12c9ea5e3dbc"), looks := false }, kinds := [], alts := [], laidByText := true, laidKinds := [.data, .data, .data], laidTests := true, laidLooks := .later }
def SimpCoversUptoCardSaid : Prop := Claim7.holds Tryd.pinned (.plain (OpenSpec.upto simpCoversSpec)) simpCoversUptoCard

/-- THE SECOND FORM's CARD OF 'mplaw6.RulesHold'. -/
def rulesHoldUptoCard : Claim7 := { stood := { row := rulesHoldUptoRow, standIns := [], harness := (true, "10d9faa4737fa9e7b27e19c687499a79ef0ec232135226baccfe12c9ea5e3dbc"), looks := false }, kinds := [], alts := [], laidByText := true, laidKinds := [.data, .data, .data], laidTests := true, laidLooks := .later }
def RulesHoldUptoCardSaid : Prop := Claim7.holds Tryd.pinned (.plain (OpenSpec.upto rulesHoldSpec)) rulesHoldUptoCard

/-- THE SECOND FORM's CARD OF 'mplaw6.RulesKept'. -/
def rulesKeptUptoCard : Claim7 := { stood := { row := rulesKeptUptoRow, standIns := [], harness := (true, "10d9faa4737fa9e7b27e19c687499a79ef0ec232135226baccfe12c9ea5e3dbc"), looks := false }, kinds := [], alts := [], laidByText := true, laidKinds := [.data, .data, .data], laidTests := true, laidLooks := .later }
def RulesKeptUptoCardSaid : Prop := Claim7.holds Tryd.pinned (.plain (OpenSpec.upto rulesKeptSpec)) rulesKeptUptoCard

/-- THE SECOND FORM's CARD OF 'mplaw4.ClauseTurns'. -/
def clauseTurnsUptoCard : Claim7 := { stood := { row := clauseTurnsUptoRow, standIns := [], harness := (true, "10d9faa4737fa9e7b27e19c687499a79ef0ec232135226baccfe12c9ea5e3dbc"), looks := false }, kinds := [], alts := [], laidByText := true, laidKinds := [.data, .data, .data, .data, .pinned], laidTests := true, laidLooks := .later }
def ClauseTurnsUptoCardSaid : Prop := Claim7.holds Tryd.pinned (.plain (OpenSpec.upto clauseTurnsSpec)) clauseTurnsUptoCard

/-- THE SECOND FORM's CARD OF 'mplaw4.ClauseNorm'. -/
def clauseNormUptoCard : Claim7 := { stood := { row := clauseNormUptoRow, standIns := [], harness := (true, "10d9faa4737fa9e7b27e19c687499a79ef0ec232135226baccfe12c9ea5e3dbc"), looks := false }, kinds := [], alts := [], laidByText := true, laidKinds := [.data, .data, .data, .data, .pinned], laidTests := true, laidLooks := .later }
def ClauseNormUptoCardSaid : Prop := Claim7.holds Tryd.pinned (.plain (OpenSpec.upto clauseNormSpec)) clauseNormUptoCard
end Rows
end Go.Proofs.YtmanhdacnkpclaaDoor
