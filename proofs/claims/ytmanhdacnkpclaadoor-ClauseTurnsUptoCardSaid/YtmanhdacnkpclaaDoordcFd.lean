/- Walks over abstract states: texts, conversions, maps of one's own. -/
import Derived.Test.YtmanhdacnkpclaaDoordcFc
import Derived.Laws.Strings2
import Derived.Laws.Concat
import Derived.MapKept
import Derived.Deep.Upon
import Derived.Laws.IdiomStrings
/- Walks over abstract states: texts, conversions, maps of one's own. -/
namespace Go.Proofs.YtmanhdacnkpclaaDoor
set_option linter.unusedVariables false
set_option linter.unusedSimpArgs false
open Go.RowKit

section
variable {P : Program} {n : Nat} {o : Oper} {σ : St}
theorem op_nilB {d j q : Nat} {s : Operand} (hd : o.dst = some d) (ho : o.op = .nilCheck s) (hs : St.ev σ s = some (.one (.c (.ptr j q)))) :
    Op1 P n o ⟨opKey s ++ (X.one (.c (.ptr j q))).ids.map Key.b, [.t d], []⟩ σ [(.t d, some (.one (.c (.ptr j q))))] :=
  .value _ hd fun σ' hag C who a w hr => by
    obtain ⟨b, e, hb⟩ := hr.ev ((ev_agree hag).trans hs)
    exact ⟨_, by simp [execOp, ho, e], b, rfl, hb⟩
theorem op_convK {d src dst : Nat} {s : Operand} {ts : TypeDesc} {k kk : IntKind} {x c : Int} (hd : o.dst = some d) (ho : o.op = .convert src dst s) (h1 : P.underlying src = some ts) (h2 : P.underlying dst = some (.int k)) (hs : St.ev σ s = some (.one (.c (.val (.int kk x))))) (hr : k.wrap x = c) :
    Op1 P n o ⟨opKey s ++ (X.one (.c (.val (.int k c)))).ids.map Key.b, [.t d], []⟩ σ [(.t d, some (.one (.c (.val (.int k c)))))] :=
  .value _ hd fun σ' hag C who a w hrp => by
    have e : a.eval s = .int kk x := hrp.ev ((ev_agree hag).trans hs)
    subst hr
    refine ⟨_, ?_, rfl⟩
    simp only [execOp, ho, e, Sem.run_bind, convert, run_underlying h1, run_underlying h2, Result.andThen_ok, Conv.intToInt, Sem.run_pure]
theorem op_conv64 {d src dst : Nat} {s : Operand} {ts : TypeDesc} {kk : IntKind} {x : Int} (hd : o.dst = some d) (ho : o.op = .convert src dst s) (h1 : P.underlying src = some ts) (h2 : P.underlying dst = some (.int .i64)) (hs : St.ev σ s = some (.one (.c (.val (.int kk x)))))
    (h0 : -9223372036854775808 ≤ x ∧ x ≤ 9223372036854775807) : Op1 P n o ⟨opKey s ++ (X.one (iA x)).ids.map Key.b, [.t d], []⟩ σ [(.t d, some (.one (iA x)))] :=
  op_convK hd ho h1 h2 hs (by rw [IntWalk.i64_left]; exact IntWalk.wrap64_in _ h0)
theorem bin_subK {T : TypeId} {k : IntKind} {a b c : Int} (h : k.wrap (a - b) = c) : Bin P .sub T (.int k a) (.int k b) (.int k c) := .mk fun s1 s2 w => by
  subst h; simp [eqGuard, binOp, Op.intArith]
theorem bin_quo {T : TypeId} {a b c : Int} (h0 : 0 ≤ a) (h1 : 0 < b) (h2 : a ≤ 9223372036854775807) (h : a / b = c) : Bin P .quo T (.int .i64 a) (.int .i64 b) (.int .i64 c) := .mk fun s1 s2 w => by
  have g1 : 0 ≤ a / b := Int.ediv_nonneg h0 (by omega)
  have g2 : a / b ≤ a := Int.ediv_le_self b h0
  have e : IntKind.i64.wrap (a / b) = a / b := IntWalk.i64_in _ (by omega)
  subst h
  simp [eqGuard, binOp, Op.intDiv, Int.tdiv_eq_ediv_of_nonneg h0, show ¬ b = 0 by omega, e]
theorem bin_rem {T : TypeId} {a b c : Int} (h0 : 0 ≤ a) (h1 : 0 < b) (h : a % b = c) : Bin P .rem T (.int .i64 a) (.int .i64 b) (.int .i64 c) := .mk fun s1 s2 w => by
  subst h
  simp [eqGuard, binOp, Op.intDiv, Int.tmod_eq_emod_of_nonneg h0, show ¬ b = 0 by omega]
theorem bytes_eq (l l' : List UInt8) : ((⟨l.toArray⟩ : ByteArray).toList == (⟨l'.toArray⟩ : ByteArray).toList) = (l == l') := by
  rw [ByteArray.toList_eq, ByteArray.toList_eq]
theorem bin_eqS {T : TypeId} {l l' : List UInt8} {r : Bool} (h : (l == l') = r) : Bin P .eql T (.string ⟨l.toArray⟩) (.string ⟨l'.toArray⟩) (.bool r) := bin_eqlS ((bytes_eq l l').trans h)
theorem bin_neS {T : TypeId} {l l' : List UInt8} {r : Bool} (h : (!(l == l')) = r) : Bin P .neq T (.string ⟨l.toArray⟩) (.string ⟨l'.toArray⟩) (.bool r) := bin_neqS ((congrArg Bool.not (bytes_eq l l')).trans h)
theorem bin_catS {T : TypeId} {l l' r : List UInt8} (hr : l ++ l' = r) (h : l.length + l'.length ≤ 9223372036854775807) : Bin P .add T (.string ⟨l.toArray⟩) (.string ⟨l'.toArray⟩) (.string ⟨r.toArray⟩) := .mk fun s1 s2 w => by
  subst hr
  have := run_string_add_sum (P := P) (w := w) ⟨l.toArray⟩ ⟨l'.toArray⟩ (by simpa [ByteArray.size] using h)
  rw [ByteArray.mk_append_mk] at this
  simp [eqGuard, binOp, this]
theorem op_indexS {d t i : Nat} {s ix : Operand} {l : List UInt8} {kk : IntKind} {zi : Int} {b : UInt8} (hd : o.dst = some d) (ho : o.op = .index t s ix) (hT : P.underlying t = some .string) (hs : St.ev σ s = some (.one (sA l)))
    (hi : St.ev σ ix = some (.one (.c (.val (.int kk zi))))) (hb : l[i]? = some b) (hz : zi = (i : Int)) : Op1 P n o ⟨(opKey s ++ opKey ix) ++ (X.one (.c (.val (.int .u8 b.toNat)))).ids.map Key.b, [.t d], []⟩ σ [(.t d, some (.one (.c (.val (.int .u8 b.toNat)))))] :=
  .value _ hd fun σ' hag C who a w hr => by
    have e1 : a.eval s = .string ⟨l.toArray⟩ := hr.ev ((ev_agree fun k hk => hag k (List.mem_append_left _ hk)).trans hs)
    have e2 : a.eval ix = .int kk zi := hr.ev ((ev_agree fun k hk => hag k (List.mem_append_right _ hk)).trans hi)
    subst hz
    have hlt := (List.getElem?_eq_some_iff.1 hb).1
    have hby : (⟨l.toArray⟩ : ByteArray)[i]? = some b := by
      rw [ByteArray.getElem?_lt' _ _ (by simpa [ByteArray.size] using hlt)]
      obtain ⟨_, h⟩ := List.getElem?_eq_some_iff.1 hb
      rw [← h]; rfl
    refine ⟨_, ?_, rfl⟩
    simp [execOp, ho, e1, e2, Instr.index, asIntOf, run_underlying hT, hby]
theorem run_bound {x y : Nat} {k : IntKind} {c : BoundsCode} (h : x ≤ y) (w : World) : (Instr.sliceBound (.int k (x : Int)) y c).run P w = .ok x w := by
  simp [Instr.sliceBound, asIntOf, h]
theorem op_sliceS1 {d t lo : Nat} {s x : Operand} {l r : List UInt8} {kk : IntKind} {zi : Int} (hd : o.dst = some d) (ho : o.op = .slice t s (some x) none none) (hT : P.underlying t = some .string) (hs : St.ev σ s = some (.one (sA l)))
    (hx : St.ev σ x = some (.one (.c (.val (.int kk zi))))) (hz : zi = (lo : Int)) (hlo : lo ≤ l.length) (hr : l.drop lo = r) : Op1 P n o ⟨(opKey s ++ opKey x) ++ (X.one (sA r)).ids.map Key.b, [.t d], []⟩ σ [(.t d, some (.one (sA r)))] :=
  .value _ hd fun σ' hag C who a w hrp => by
    have e1 : a.eval s = .string ⟨l.toArray⟩ := hrp.ev ((ev_agree fun k hk => hag k (List.mem_append_left _ hk)).trans hs)
    have e2 : a.eval x = .int kk zi := hrp.ev ((ev_agree fun k hk => hag k (List.mem_append_right _ hk)).trans hx)
    subst hz hr
    have hsz : (⟨l.toArray⟩ : ByteArray).size = l.length := by simp [ByteArray.size]
    refine ⟨_, ?_, rfl⟩
    simp only [execOp, ho, e1, e2, Instr.sliceAt, Instr.slice, Option.map_some, Option.map_none, Sem.run_bind, run_underlying hT, Result.andThen_ok, Option.isSome_none, Bool.false_eq_true, if_false, Instr.sliceBounds, Sem.run_pure, hsz, run_bound hlo, ByteArray.extract_mk]
    rw [List.take_of_length_le (by simp)]
theorem op_sliceS0 {d t hi : Nat} {s y : Operand} {l r : List UInt8} {kk : IntKind} {zi : Int} (hd : o.dst = some d) (ho : o.op = .slice t s none (some y) none) (hT : P.underlying t = some .string) (hs : St.ev σ s = some (.one (sA l)))
    (hy : St.ev σ y = some (.one (.c (.val (.int kk zi))))) (hz : zi = (hi : Int)) (hhi : hi ≤ l.length) (hr : l.take hi = r) : Op1 P n o ⟨(opKey s ++ opKey y) ++ (X.one (sA r)).ids.map Key.b, [.t d], []⟩ σ [(.t d, some (.one (sA r)))] :=
  .value _ hd fun σ' hag C who a w hrp => by
    have e1 : a.eval s = .string ⟨l.toArray⟩ := hrp.ev ((ev_agree fun k hk => hag k (List.mem_append_left _ hk)).trans hs)
    have e2 : a.eval y = .int kk zi := hrp.ev ((ev_agree fun k hk => hag k (List.mem_append_right _ hk)).trans hy)
    subst hz hr
    have hsz : (⟨l.toArray⟩ : ByteArray).size = l.length := by simp [ByteArray.size]
    refine ⟨_, ?_, rfl⟩
    simp only [execOp, ho, e1, e2, Instr.sliceAt, Instr.slice, Option.map_some, Option.map_none, Sem.run_bind, run_underlying hT, Result.andThen_ok, Option.isSome_none, Bool.false_eq_true, if_false, Instr.sliceBounds, Sem.run_pure, hsz, run_bound hhi, ByteArray.extract_mk, List.drop_zero, Nat.sub_zero]
theorem op_sliceS2 {d t lo hi : Nat} {s x y : Operand} {l r : List UInt8} {kk kk' : IntKind} {zi zi' : Int} (hd : o.dst = some d) (ho : o.op = .slice t s (some x) (some y) none) (hT : P.underlying t = some .string) (hs : St.ev σ s = some (.one (sA l)))
    (hx : St.ev σ x = some (.one (.c (.val (.int kk zi))))) (hy : St.ev σ y = some (.one (.c (.val (.int kk' zi'))))) (hz : zi = (lo : Int)) (hz' : zi' = (hi : Int)) (hlo : lo ≤ hi) (hhi : hi ≤ l.length) (hr : (l.drop lo).take (hi - lo) = r) :
    Op1 P n o ⟨(opKey s ++ (opKey x ++ opKey y)) ++ (X.one (sA r)).ids.map Key.b, [.t d], []⟩ σ [(.t d, some (.one (sA r)))] :=
  .value _ hd fun σ' hag C who a w hrp => by
    have e1 : a.eval s = .string ⟨l.toArray⟩ := hrp.ev ((ev_agree fun k hk => hag k (by simp [hk])).trans hs)
    have e2 : a.eval x = .int kk zi := hrp.ev ((ev_agree fun k hk => hag k (by simp [hk])).trans hx)
    have e3 : a.eval y = .int kk' zi' := hrp.ev ((ev_agree fun k hk => hag k (by simp [hk])).trans hy)
    subst hz hz' hr
    have hsz : (⟨l.toArray⟩ : ByteArray).size = l.length := by simp [ByteArray.size]
    refine ⟨_, ?_, rfl⟩
    simp only [execOp, ho, e1, e2, e3, Instr.sliceAt, Instr.slice, Option.map_some, Option.map_none, Sem.run_bind, run_underlying hT, Result.andThen_ok, Option.isSome_none, Bool.false_eq_true, if_false, Instr.sliceBounds, Sem.run_pure, hsz, run_bound hhi, run_bound hlo, ByteArray.extract_mk]
end
end Go.Proofs.YtmanhdacnkpclaaDoor

/- Walks over abstract states: maps of one's own. -/
namespace Go.Proofs.YtmanhdacnkpclaaDoor
set_option linter.all false
open Go.RowKit Go.MapKept

section
variable {α : Type} [DecidableEq α] (enc : α → Value)
end
section
variable {α : Type} [DecidableEq α] {enc : α → Value}
end
section
variable {P : Program} {n : Nat} {o : Oper} {σ : St} {α : Type} [DecidableEq α] {enc : α → Value}
end
end Go.Proofs.YtmanhdacnkpclaaDoor

/- Walks over abstract states: texts, conversions and maps by the types that occur. -/
namespace Go.Proofs.YtmanhdacnkpclaaDoor
set_option linter.all false
open Go.RowKit
section
variable {n : Nat} {o : Oper} {σ : St}
theorem isS : Tryd.prog.underlying 9 = some .string := by kernel_rfl
theorem isB : Tryd.prog.underlying 4 = some .bool := by kernel_rfl
theorem isI : Tryd.prog.underlying 3 = some (.int .i64) := by kernel_rfl
theorem isU : Tryd.prog.underlying 5 = some (.int .u8) := by kernel_rfl
theorem op_convU {d : Nat} {s : Operand} {kk : IntKind} {x : Int} (hd : o.dst = some d) (ho : o.op = .convert 5 3 s) (hs : St.ev σ s = some (.one (.c (.val (.int kk x)))))
    (h0 : -9223372036854775808 ≤ x ∧ x ≤ 9223372036854775807) : Op1 Tryd.prog n o ⟨opKey s ++ (X.one (iA x)).ids.map Key.b, [.t d], []⟩ σ [(.t d, some (.one (iA x)))] := op_conv64 hd ho isU isI hs h0
theorem op_idxS {d i : Nat} {s ix : Operand} {l : List UInt8} {kk : IntKind} {zi : Int} {b : UInt8} (hd : o.dst = some d) (ho : o.op = .index 9 s ix) (hs : St.ev σ s = some (.one (sA l)))
    (hi : St.ev σ ix = some (.one (.c (.val (.int kk zi))))) (hb : l[i]? = some b) (hz : zi = (i : Int)) : Op1 Tryd.prog n o ⟨(opKey s ++ opKey ix) ++ (X.one (.c (.val (.int .u8 b.toNat)))).ids.map Key.b, [.t d], []⟩ σ [(.t d, some (.one (.c (.val (.int .u8 b.toNat)))))] := op_indexS hd ho isS hs hi hb hz
theorem op_slS1 {d lo : Nat} {s x : Operand} {l r : List UInt8} {kk : IntKind} {zi : Int} (hd : o.dst = some d) (ho : o.op = .slice 9 s (some x) none none) (hs : St.ev σ s = some (.one (sA l)))
    (hx : St.ev σ x = some (.one (.c (.val (.int kk zi))))) (hz : zi = (lo : Int)) (hlo : lo ≤ l.length) (hr : l.drop lo = r) : Op1 Tryd.prog n o ⟨(opKey s ++ opKey x) ++ (X.one (sA r)).ids.map Key.b, [.t d], []⟩ σ [(.t d, some (.one (sA r)))] := op_sliceS1 hd ho isS hs hx hz hlo hr
theorem op_slS0 {d hi : Nat} {s y : Operand} {l r : List UInt8} {kk : IntKind} {zi : Int} (hd : o.dst = some d) (ho : o.op = .slice 9 s none (some y) none) (hs : St.ev σ s = some (.one (sA l)))
    (hy : St.ev σ y = some (.one (.c (.val (.int kk zi))))) (hz : zi = (hi : Int)) (hhi : hi ≤ l.length) (hr : l.take hi = r) : Op1 Tryd.prog n o ⟨(opKey s ++ opKey y) ++ (X.one (sA r)).ids.map Key.b, [.t d], []⟩ σ [(.t d, some (.one (sA r)))] := op_sliceS0 hd ho isS hs hy hz hhi hr
theorem op_slS2 {d lo hi : Nat} {s x y : Operand} {l r : List UInt8} {kk kk' : IntKind} {zi zi' : Int} (hd : o.dst = some d) (ho : o.op = .slice 9 s (some x) (some y) none) (hs : St.ev σ s = some (.one (sA l)))
    (hx : St.ev σ x = some (.one (.c (.val (.int kk zi))))) (hy : St.ev σ y = some (.one (.c (.val (.int kk' zi'))))) (hz : zi = (lo : Int)) (hz' : zi' = (hi : Int)) (hlo : lo ≤ hi) (hhi : hi ≤ l.length) (hr : (l.drop lo).take (hi - lo) = r) :
    Op1 Tryd.prog n o ⟨(opKey s ++ (opKey x ++ opKey y)) ++ (X.one (sA r)).ids.map Key.b, [.t d], []⟩ σ [(.t d, some (.one (sA r)))] := op_sliceS2 hd ho isS hs hx hy hz hz' hlo hhi hr
theorem op_lenStr {d : Nat} {s : Operand} {l : List UInt8} (hd : o.dst = some d) (ho : o.op = .call { callee := .builtin .len, args := #[s], argTypes := #[9] }) (hs : St.ev σ s = some (.one (sA l))) :
    Op1 Tryd.prog n o ⟨opKey s ++ (X.one (iA l.length)).ids.map Key.b, [.t d], []⟩ σ [(.t d, some (.one (iA l.length)))] := op_lenS hd ho isS hs rfl
end
end Go.Proofs.YtmanhdacnkpclaaDoor

/- Walks over abstract states: arrays of three numbers. -/
namespace Go.Proofs.YtmanhdacnkpclaaDoor
set_option linter.all false
open Go.RowKit

end Go.Proofs.YtmanhdacnkpclaaDoor

/- Full slice expressions and appends to them; pairs of terms in arrays. -/
namespace Go.Proofs.YtmanhdacnkpclaaDoor
set_option linter.all false
open Go.RowKit

section
variable {P : Program} {n : Nat} {o : Oper} {σ : St}
end
/-- two terms -/
def Tw.d (p : Tm × Tm) : D := .agg [p.1.d, p.2.d]
theorem Tw_fc (p : Tm × Tm) : (Tw.d p).fc = [.val (.bool p.1.var), .val (.int .i64 p.1.n), .arr (p.1.args.map Tm.d), .val (.bool p.2.var), .val (.int .i64 p.2.n), .arr (p.2.args.map Tm.d)] := by
  simp [Tw.d, D.fc, fcs, Tm_fc]
instance : FCs Tw.d 6 (fun p => [.val (.bool p.1.var), .val (.int .i64 p.1.n), .arr (p.1.args.map Tm.d), .val (.bool p.2.var), .val (.int .i64 p.2.n), .arr (p.2.args.map Tm.d)]) := ⟨Tw_fc, fun _ => rfl, fun _ => rfl⟩
section
variable {n : Nat} {o : Oper} {σ : St}
end
end Go.Proofs.YtmanhdacnkpclaaDoor

/- Texts of bytes and of runes; fields of values. -/
namespace Go.Proofs.YtmanhdacnkpclaaDoor
set_option linter.all false
open Go.RowKit

def U8.d (b : UInt8) : D := .lit (.int .u8 b.toNat)
theorem U8_fc (b : UInt8) : (U8.d b).fc = [.val (.int .u8 b.toNat)] := by simp [U8.d, D.fc]
instance : FCs U8.d 1 (fun b => [.val (.int .u8 b.toNat)]) := ⟨U8_fc, fun _ => rfl, fun _ => rfl⟩
def Str.d (l : List UInt8) : D := .lit (.string ⟨l.toArray⟩)
theorem Str_fc (l : List UInt8) : (Str.d l).fc = [.val (.string ⟨l.toArray⟩)] := by simp [Str.d, D.fc]
instance : FCs Str.d 1 (fun l => [.val (.string ⟨l.toArray⟩)]) := ⟨Str_fc, fun _ => rfl, fun _ => rfl⟩
section
variable {P : Program} {n : Nat} {o : Oper} {σ : St}
/-- 'string(r)' of a number -/
theorem op_strR {d src dst : Nat} {s : Operand} {ts : TypeDesc} {k : IntKind} {x : Int} {l : List UInt8} (hd : o.dst = some d) (ho : o.op = .convert src dst s) (h1 : P.underlying src = some ts) (h3 : P.underlying dst = some .string) (hs : St.ev σ s = some (.one (.c (.val (.int k x)))))
    (hl : Utf8.encode x = ⟨l.toArray⟩) : Op1 P n o ⟨opKey s ++ (X.one (sA l)).ids.map Key.b, [.t d], []⟩ σ [(.t d, some (.one (sA l)))] :=
  .value _ hd fun σ' hag C who a w hr => by
    have e : a.eval s = .int k x := hr.ev ((ev_agree hag).trans hs)
    refine ⟨_, ?_, rfl⟩
    simp only [execOp, ho, e, Sem.run_bind, convert, run_underlying h1, run_underlying h3, Result.andThen_ok, Conv.intToString, Sem.run_pure, hl]
end
section
variable {n : Nat} {o : Oper} {σ : St}
end
section
variable {n : Nat} {o : Oper} {σ : St}
theorem op_conv32 {d : Nat} {s : Operand} {x c : Int} (hd : o.dst = some d) (ho : o.op = .convert 3 21 s) (hs : St.ev σ s = some (.one (iA x))) (hr : IntKind.i32.wrap x = c) :
    Op1 Tryd.prog n o ⟨opKey s ++ (X.one (.c (.val (.int .i32 c)))).ids.map Key.b, [.t d], []⟩ σ [(.t d, some (.one (.c (.val (.int .i32 c)))))] := op_convK hd ho (show Tryd.prog.underlying 3 = some (.int .i64) by kernel_rfl) (show Tryd.prog.underlying 21 = some (.int .i32) by kernel_rfl) hs hr
theorem op_s32 {d : Nat} {s : Operand} {x : Int} {l : List UInt8} (hd : o.dst = some d) (ho : o.op = .convert 21 9 s) (hs : St.ev σ s = some (.one (.c (.val (.int .i32 x))))) (hl : Utf8.encode x = ⟨l.toArray⟩) :
    Op1 Tryd.prog n o ⟨opKey s ++ (X.one (sA l)).ids.map Key.b, [.t d], []⟩ σ [(.t d, some (.one (sA l)))] := op_strR hd ho (show Tryd.prog.underlying 21 = some (.int .i32) by kernel_rfl) (show Tryd.prog.underlying 9 = some .string by kernel_rfl) hs hl
end
end Go.Proofs.YtmanhdacnkpclaaDoor
