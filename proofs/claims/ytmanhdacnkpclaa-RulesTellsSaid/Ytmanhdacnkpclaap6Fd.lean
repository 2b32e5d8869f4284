/- Walks over abstract states: texts, conversions, maps of one's own. -/
import Derived.Test.Ytmanhdacnkpclaap6Fc
import Derived.Laws.Strings2
import Derived.Laws.Concat
import Derived.MapKept
import Derived.Deep.Upon
import Derived.Laws.IdiomStrings
/- Walks over abstract states: texts, conversions, maps of one's own. -/
namespace Go.Proofs.Ytmanhdacnkpclaa
set_option linter.unusedVariables false
set_option linter.unusedSimpArgs false
open Go.RowKit

section
variable {P : Program} {n : Nat} {o : Oper} {σ : St}
theorem op_nilB {d j q : Nat} {s : Operand} (hd : o.dst = some d) (ho : o.op = .nilCheck s) (hs : St.ev σ s = some (.one (.c (.ptr j q)))) :
    Op1 P n o ⟨opKey s ++ (X.one (.c (.ptr j q))).ids.map Key.b, [.t d], []⟩ σ [(.t d, some (.one (.c (.ptr j q))))] :=
  .value _ hd fun σ' hag C who a w hr => by
    obtain ⟨b, e, hb⟩ := hr.ev ((ev_agree hag).trans hs)
    exact ⟨_, by simp [execOp, ho, e], b, rfl, hb⟩
theorem bin_quo {T : TypeId} {a b c : Int} (h0 : 0 ≤ a) (h1 : 0 < b) (h2 : a ≤ 9223372036854775807) (h : a / b = c) : Bin P .quo T (.int .i64 a) (.int .i64 b) (.int .i64 c) := .mk fun s1 s2 w => by
  have g1 : 0 ≤ a / b := Int.ediv_nonneg h0 (by omega)
  have g2 : a / b ≤ a := Int.ediv_le_self b h0
  have e : IntKind.i64.wrap (a / b) = a / b := IntWalk.i64_in _ (by omega)
  subst h
  simp [eqGuard, binOp, Op.intDiv, Int.tdiv_eq_ediv_of_nonneg h0, show ¬ b = 0 by omega, e]
theorem bin_rem {T : TypeId} {a b c : Int} (h0 : 0 ≤ a) (h1 : 0 < b) (h : a % b = c) : Bin P .rem T (.int .i64 a) (.int .i64 b) (.int .i64 c) := .mk fun s1 s2 w => by
  subst h
  simp [eqGuard, binOp, Op.intDiv, Int.tmod_eq_emod_of_nonneg h0, show ¬ b = 0 by omega]
end
end Go.Proofs.Ytmanhdacnkpclaa

/- Walks over abstract states: maps of one's own. -/
namespace Go.Proofs.Ytmanhdacnkpclaa
set_option linter.all false
open Go.RowKit Go.MapKept

section
variable {α : Type} [DecidableEq α] (enc : α → Value)
end
section
variable {α : Type} [DecidableEq α] {enc : α → Value}
end
section
variable {P : Program} {n : Nat} {o : Oper} {σ : St} {α : Type} [DecidableEq α] {enc : α → Value}
end
end Go.Proofs.Ytmanhdacnkpclaa

/- Walks over abstract states: texts, conversions and maps by the types that occur. -/
namespace Go.Proofs.Ytmanhdacnkpclaa
set_option linter.all false
open Go.RowKit
section
variable {n : Nat} {o : Oper} {σ : St}
theorem isB : Try.prog.underlying 4 = some .bool := by kernel_rfl
end
end Go.Proofs.Ytmanhdacnkpclaa

/- Walks over abstract states: arrays of three numbers. -/
namespace Go.Proofs.Ytmanhdacnkpclaa
set_option linter.all false
open Go.RowKit
section
variable {n : Nat} {o : Oper} {σ : St}
end

end Go.Proofs.Ytmanhdacnkpclaa

/- Full slice expressions and appends to them; pairs of terms in arrays. -/
namespace Go.Proofs.Ytmanhdacnkpclaa
set_option linter.all false
open Go.RowKit

section
variable {P : Program} {n : Nat} {o : Oper} {σ : St}
/-- the place of an element of an array that nobody writes -/
theorem op_idxFA {d T len E m k : Nat} {s i : Operand} {kk : IntKind} {zi : Int} {cs cs' : List FC} (hd : o.dst = some d) (ho : o.op = .indexAddr T s i) (hT : P.underlying T = some (.array len E)) (hE : (P.info? E).map (·.size) = some m) (hs : St.ev σ s = some (.one (.c (.fp cs))))
    (hi : St.ev σ i = some (.one (.c (.val (.int kk zi))))) (hz : zi = (k : Int)) (hk : k < len) (hc : cs.drop (k * m) = cs') :
    Op1 P n o ⟨(opKey s ++ opKey i) ++ (X.one (.c (.fp cs'))).ids.map Key.b, [.t d], []⟩ σ [(.t d, some (.one (.c (.fp cs'))))] :=
  .value _ hd fun σ' hag C who a w hrp => by
    have e2 : a.eval i = .int kk zi := hrp.ev ((ev_agree fun k hk => hag k (List.mem_append_right _ hk)).trans hi)
    obtain ⟨b, q, e, hb, h⟩ := hrp.ev ((ev_agree fun k hk => hag k (List.mem_append_left _ hk)).trans hs)
    subst hz hc
    obtain ⟨i', hi', hsz⟩ := Option.map_eq_some_iff.1 hE
    refine ⟨.pointer (some ⟨b, q + k * m, none⟩), ?_, b, q + k * m, rfl, hb, fun i c hi => ?_⟩
    · simp [execOp, ho, e, e2, Instr.indexAt, run_underlying hT, asIntOf, Instr.sureAddr, sizeOf, typeInfo, hi', hsz, hk, add_lit]
    · rw [List.getElem?_drop] at hi
      rw [Nat.add_assoc]; exact h _ c hi
end
/-- two terms -/
def Tw.d (p : Tm × Tm) : D := .agg [p.1.d, p.2.d]
theorem Tw_fc (p : Tm × Tm) : (Tw.d p).fc = [.val (.bool p.1.var), .val (.int .i64 p.1.n), .arr (p.1.args.map Tm.d), .val (.bool p.2.var), .val (.int .i64 p.2.n), .arr (p.2.args.map Tm.d)] := by
  simp [Tw.d, D.fc, fcs, Tm_fc]
instance : FCs Tw.d 6 (fun p => [.val (.bool p.1.var), .val (.int .i64 p.1.n), .arr (p.1.args.map Tm.d), .val (.bool p.2.var), .val (.int .i64 p.2.n), .arr (p.2.args.map Tm.d)]) := ⟨Tw_fc, fun _ => rfl, fun _ => rfl⟩
theorem ar2 : Try.prog.underlying 111 = some (.array 2 26) := by kernel_rfl
theorem ar2E : (Try.prog.info? 26).map (·.size) = some 3 := by kernel_rfl
theorem ar2Z : zeroOf Try.prog 111 = some [.bool false, .int .i64 0, .slice none 0 0, .bool false, .int .i64 0, .slice none 0 0] := by kernel_rfl
section
variable {n : Nat} {o : Oper} {σ : St}
theorem op_b2 {d : Nat} {ps : Array (Nat × Operand)} {cs : List CV} (hd : o.dst = some d) (ho : o.op = .build 111 ps) (hb : buildC σ [(0, 3), (3, 3)] ps.toList [.val (.bool false), .val (.int .i64 0), .val (.slice none 0 0), .val (.bool false), .val (.int .i64 0), .val (.slice none 0 0)] = some cs) :
    Op1 Try.prog n o ⟨partKeys ps.toList ++ (X.one (.agg cs)).ids.map Key.b, [.t d], []⟩ σ [(.t d, some (.one (.agg cs)))] :=
  op_buildA (pl := [(0, 3), (3, 3)]) hd ho ar2 ar2E rfl ar2Z rfl hb
theorem op_idx2 {d k : Nat} {s i : Operand} {kk : IntKind} {zi : Int} {cs : List FC} (hd : o.dst = some d) (ho : o.op = .indexAddr 111 s i) (hs : St.ev σ s = some (.one (.c (.fp cs)))) (hi : St.ev σ i = some (.one (.c (.val (.int kk zi))))) (hz : zi = (k : Int)) (hk : k < 2) :
    Op1 Try.prog n o ⟨(opKey s ++ opKey i) ++ (X.one (.c (.fp (cs.drop (k * 3))))).ids.map Key.b, [.t d], []⟩ σ [(.t d, some (.one (.c (.fp (cs.drop (k * 3))))))] := op_idxFA hd ho ar2 ar2E hs hi hz hk rfl
end
end Go.Proofs.Ytmanhdacnkpclaa

/- Texts of bytes and of runes; fields of values. -/
namespace Go.Proofs.Ytmanhdacnkpclaa
set_option linter.all false
open Go.RowKit

def U8.d (b : UInt8) : D := .lit (.int .u8 b.toNat)
theorem U8_fc (b : UInt8) : (U8.d b).fc = [.val (.int .u8 b.toNat)] := by simp [U8.d, D.fc]
instance : FCs U8.d 1 (fun b => [.val (.int .u8 b.toNat)]) := ⟨U8_fc, fun _ => rfl, fun _ => rfl⟩
def Str.d (l : List UInt8) : D := .lit (.string ⟨l.toArray⟩)
theorem Str_fc (l : List UInt8) : (Str.d l).fc = [.val (.string ⟨l.toArray⟩)] := by simp [Str.d, D.fc]
instance : FCs Str.d 1 (fun l => [.val (.string ⟨l.toArray⟩)]) := ⟨Str_fc, fun _ => rfl, fun _ => rfl⟩
section
variable {P : Program} {n : Nat} {o : Oper} {σ : St}
end
section
variable {n : Nat} {o : Oper} {σ : St}
end
end Go.Proofs.Ytmanhdacnkpclaa
