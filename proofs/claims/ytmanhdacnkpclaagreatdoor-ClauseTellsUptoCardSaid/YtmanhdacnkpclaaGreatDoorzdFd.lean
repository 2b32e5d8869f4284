/- Walks over abstract states: texts, conversions, maps of one's own. -/
import Derived.Test.YtmanhdacnkpclaaGreatDoorzdFc
import Derived.Laws.Strings2
import Derived.Laws.Concat
import Derived.MapKept
import Derived.Deep.Upon
import Derived.Laws.IdiomStrings
/- Walks over abstract states: texts, conversions, maps of one's own. -/
namespace Go.Proofs.YtmanhdacnkpclaaGreatDoor
set_option linter.unusedVariables false
set_option linter.unusedSimpArgs false
open Go.RowKit

section
variable {P : Program} {n : Nat} {o : Oper} {σ : St}
theorem op_nilB {d j q : Nat} {s : Operand} (hd : o.dst = some d) (ho : o.op = .nilCheck s) (hs : St.ev σ s = some (.one (.c (.ptr j q)))) :
    Op1 P n o ⟨opKey s ++ (X.one (.c (.ptr j q))).ids.map Key.b, [.t d], []⟩ σ [(.t d, some (.one (.c (.ptr j q))))] :=
  .value _ hd fun σ' hag C who a w hr => by
    obtain ⟨b, e, hb⟩ := hr.ev ((ev_agree hag).trans hs)
    exact ⟨_, by simp [execOp, ho, e], b, rfl, hb⟩
theorem op_convK {d src dst : Nat} {s : Operand} {ts : TypeDesc} {k kk : IntKind} {x c : Int} (hd : o.dst = some d) (ho : o.op = .convert src dst s) (h1 : P.underlying src = some ts) (h2 : P.underlying dst = some (.int k)) (hs : St.ev σ s = some (.one (.c (.val (.int kk x))))) (hr : k.wrap x = c) :
    Op1 P n o ⟨opKey s ++ (X.one (.c (.val (.int k c)))).ids.map Key.b, [.t d], []⟩ σ [(.t d, some (.one (.c (.val (.int k c)))))] :=
  .value _ hd fun σ' hag C who a w hrp => by
    have e : a.eval s = .int kk x := hrp.ev ((ev_agree hag).trans hs)
    subst hr
    refine ⟨_, ?_, rfl⟩
    simp only [execOp, ho, e, Sem.run_bind, convert, run_underlying h1, run_underlying h2, Result.andThen_ok, Conv.intToInt, Sem.run_pure]
theorem op_conv64 {d src dst : Nat} {s : Operand} {ts : TypeDesc} {kk : IntKind} {x : Int} (hd : o.dst = some d) (ho : o.op = .convert src dst s) (h1 : P.underlying src = some ts) (h2 : P.underlying dst = some (.int .i64)) (hs : St.ev σ s = some (.one (.c (.val (.int kk x)))))
    (h0 : -9223372036854775808 ≤ x ∧ x ≤ 9223372036854775807) : Op1 P n o ⟨opKey s ++ (X.one (iA x)).ids.map Key.b, [.t d], []⟩ σ [(.t d, some (.one (iA x)))] :=
  op_convK hd ho h1 h2 hs (by rw [IntWalk.i64_left]; exact IntWalk.wrap64_in _ h0)
theorem bin_subK {T : TypeId} {k : IntKind} {a b c : Int} (h : k.wrap (a - b) = c) : Bin P .sub T (.int k a) (.int k b) (.int k c) := .mk fun s1 s2 w => by
  subst h; simp [eqGuard, binOp, Op.intArith]
theorem bytes_eq (l l' : List UInt8) : ((⟨l.toArray⟩ : ByteArray).toList == (⟨l'.toArray⟩ : ByteArray).toList) = (l == l') := by
  rw [ByteArray.toList_eq, ByteArray.toList_eq]
theorem bin_eqS {T : TypeId} {l l' : List UInt8} {r : Bool} (h : (l == l') = r) : Bin P .eql T (.string ⟨l.toArray⟩) (.string ⟨l'.toArray⟩) (.bool r) := bin_eqlS ((bytes_eq l l').trans h)
theorem bin_neS {T : TypeId} {l l' : List UInt8} {r : Bool} (h : (!(l == l')) = r) : Bin P .neq T (.string ⟨l.toArray⟩) (.string ⟨l'.toArray⟩) (.bool r) := bin_neqS ((congrArg Bool.not (bytes_eq l l')).trans h)
theorem bin_catS {T : TypeId} {l l' r : List UInt8} (hr : l ++ l' = r) (h : l.length + l'.length ≤ 9223372036854775807) : Bin P .add T (.string ⟨l.toArray⟩) (.string ⟨l'.toArray⟩) (.string ⟨r.toArray⟩) := .mk fun s1 s2 w => by
  subst hr
  have := run_string_add_sum (P := P) (w := w) ⟨l.toArray⟩ ⟨l'.toArray⟩ (by simpa [ByteArray.size] using h)
  rw [ByteArray.mk_append_mk] at this
  simp [eqGuard, binOp, this]
theorem op_indexS {d t i : Nat} {s ix : Operand} {l : List UInt8} {kk : IntKind} {zi : Int} {b : UInt8} (hd : o.dst = some d) (ho : o.op = .index t s ix) (hT : P.underlying t = some .string) (hs : St.ev σ s = some (.one (sA l)))
    (hi : St.ev σ ix = some (.one (.c (.val (.int kk zi))))) (hb : l[i]? = some b) (hz : zi = (i : Int)) : Op1 P n o ⟨(opKey s ++ opKey ix) ++ (X.one (.c (.val (.int .u8 b.toNat)))).ids.map Key.b, [.t d], []⟩ σ [(.t d, some (.one (.c (.val (.int .u8 b.toNat)))))] :=
  .value _ hd fun σ' hag C who a w hr => by
    have e1 : a.eval s = .string ⟨l.toArray⟩ := hr.ev ((ev_agree fun k hk => hag k (List.mem_append_left _ hk)).trans hs)
    have e2 : a.eval ix = .int kk zi := hr.ev ((ev_agree fun k hk => hag k (List.mem_append_right _ hk)).trans hi)
    subst hz
    have hlt := (List.getElem?_eq_some_iff.1 hb).1
    have hby : (⟨l.toArray⟩ : ByteArray)[i]? = some b := by
      rw [ByteArray.getElem?_lt' _ _ (by simpa [ByteArray.size] using hlt)]
      obtain ⟨_, h⟩ := List.getElem?_eq_some_iff.1 hb
      rw [← h]; rfl
    refine ⟨_, ?_, rfl⟩
    simp [execOp, ho, e1, e2, Instr.index, asIntOf, run_underlying hT, hby]
theorem run_bound {x y : Nat} {k : IntKind} {c : BoundsCode} (h : x ≤ y) (w : World) : (Instr.sliceBound (.int k (x : Int)) y c).run P w = .ok x w := by
  simp [Instr.sliceBound, asIntOf, h]
theorem op_sliceS1 {d t lo : Nat} {s x : Operand} {l r : List UInt8} {kk : IntKind} {zi : Int} (hd : o.dst = some d) (ho : o.op = .slice t s (some x) none none) (hT : P.underlying t = some .string) (hs : St.ev σ s = some (.one (sA l)))
    (hx : St.ev σ x = some (.one (.c (.val (.int kk zi))))) (hz : zi = (lo : Int)) (hlo : lo ≤ l.length) (hr : l.drop lo = r) : Op1 P n o ⟨(opKey s ++ opKey x) ++ (X.one (sA r)).ids.map Key.b, [.t d], []⟩ σ [(.t d, some (.one (sA r)))] :=
  .value _ hd fun σ' hag C who a w hrp => by
    have e1 : a.eval s = .string ⟨l.toArray⟩ := hrp.ev ((ev_agree fun k hk => hag k (List.mem_append_left _ hk)).trans hs)
    have e2 : a.eval x = .int kk zi := hrp.ev ((ev_agree fun k hk => hag k (List.mem_append_right _ hk)).trans hx)
    subst hz hr
    have hsz : (⟨l.toArray⟩ : ByteArray).size = l.length := by simp [ByteArray.size]
    refine ⟨_, ?_, rfl⟩
    simp only [execOp, ho, e1, e2, Instr.sliceAt, Instr.slice, Option.map_some, Option.map_none, Sem.run_bind, run_underlying hT, Result.andThen_ok, Option.isSome_none, Bool.false_eq_true, if_false, Instr.sliceBounds, Sem.run_pure, hsz, run_bound hlo, ByteArray.extract_mk]
    rw [List.take_of_length_le (by simp)]
theorem op_sliceS0 {d t hi : Nat} {s y : Operand} {l r : List UInt8} {kk : IntKind} {zi : Int} (hd : o.dst = some d) (ho : o.op = .slice t s none (some y) none) (hT : P.underlying t = some .string) (hs : St.ev σ s = some (.one (sA l)))
    (hy : St.ev σ y = some (.one (.c (.val (.int kk zi))))) (hz : zi = (hi : Int)) (hhi : hi ≤ l.length) (hr : l.take hi = r) : Op1 P n o ⟨(opKey s ++ opKey y) ++ (X.one (sA r)).ids.map Key.b, [.t d], []⟩ σ [(.t d, some (.one (sA r)))] :=
  .value _ hd fun σ' hag C who a w hrp => by
    have e1 : a.eval s = .string ⟨l.toArray⟩ := hrp.ev ((ev_agree fun k hk => hag k (List.mem_append_left _ hk)).trans hs)
    have e2 : a.eval y = .int kk zi := hrp.ev ((ev_agree fun k hk => hag k (List.mem_append_right _ hk)).trans hy)
    subst hz hr
    have hsz : (⟨l.toArray⟩ : ByteArray).size = l.length := by simp [ByteArray.size]
    refine ⟨_, ?_, rfl⟩
    simp only [execOp, ho, e1, e2, Instr.sliceAt, Instr.slice, Option.map_some, Option.map_none, Sem.run_bind, run_underlying hT, Result.andThen_ok, Option.isSome_none, Bool.false_eq_true, if_false, Instr.sliceBounds, Sem.run_pure, hsz, run_bound hhi, ByteArray.extract_mk, List.drop_zero, Nat.sub_zero]
theorem op_sliceS2 {d t lo hi : Nat} {s x y : Operand} {l r : List UInt8} {kk kk' : IntKind} {zi zi' : Int} (hd : o.dst = some d) (ho : o.op = .slice t s (some x) (some y) none) (hT : P.underlying t = some .string) (hs : St.ev σ s = some (.one (sA l)))
    (hx : St.ev σ x = some (.one (.c (.val (.int kk zi))))) (hy : St.ev σ y = some (.one (.c (.val (.int kk' zi'))))) (hz : zi = (lo : Int)) (hz' : zi' = (hi : Int)) (hlo : lo ≤ hi) (hhi : hi ≤ l.length) (hr : (l.drop lo).take (hi - lo) = r) :
    Op1 P n o ⟨(opKey s ++ (opKey x ++ opKey y)) ++ (X.one (sA r)).ids.map Key.b, [.t d], []⟩ σ [(.t d, some (.one (sA r)))] :=
  .value _ hd fun σ' hag C who a w hrp => by
    have e1 : a.eval s = .string ⟨l.toArray⟩ := hrp.ev ((ev_agree fun k hk => hag k (by simp [hk])).trans hs)
    have e2 : a.eval x = .int kk zi := hrp.ev ((ev_agree fun k hk => hag k (by simp [hk])).trans hx)
    have e3 : a.eval y = .int kk' zi' := hrp.ev ((ev_agree fun k hk => hag k (by simp [hk])).trans hy)
    subst hz hz' hr
    have hsz : (⟨l.toArray⟩ : ByteArray).size = l.length := by simp [ByteArray.size]
    refine ⟨_, ?_, rfl⟩
    simp only [execOp, ho, e1, e2, e3, Instr.sliceAt, Instr.slice, Option.map_some, Option.map_none, Sem.run_bind, run_underlying hT, Result.andThen_ok, Option.isSome_none, Bool.false_eq_true, if_false, Instr.sliceBounds, Sem.run_pure, hsz, run_bound hhi, run_bound hlo, ByteArray.extract_mk]
end
end Go.Proofs.YtmanhdacnkpclaaGreatDoor

/- Walks over abstract states: maps of one's own. -/
namespace Go.Proofs.YtmanhdacnkpclaaGreatDoor
set_option linter.all false
open Go.RowKit Go.MapKept

/-- keys that are plain -/
structure KeyT (P : Program) (K : TypeId) {α : Type} [DecidableEq α] (enc : α → Value) : Prop where
  kind : ∃ d, P.underlying K = some d ∧ (∀ a b, Instr.sameNow d (enc a) (enc b) = some (decide (a = b))) ∧ ∀ a, IsKey d (enc a)
section
variable {α : Type} [DecidableEq α] (enc : α → Value)
end
section
variable {α : Type} [DecidableEq α] {enc : α → Value}
def mPut : List (α × Value) → α → Value → List (α × Value)
  | [], a, x => [(a, x)]
  | (k, v) :: l, a, x => if a = k then (k, x) :: l else (k, v) :: mPut l a x
theorem mGet_put : ∀ (l : List (α × Value)) (a b : α) (x : Value), mGet (mPut l a x) b = if b = a then some x else mGet l b
  | [], a, b, x => by simp [mPut, mGet]
  | (k, v) :: l, a, b, x => by
    simp only [mPut]
    split
    · rename_i h; subst h
      simp only [mGet]
      split <;> simp_all
    · rename_i h
      simp only [mGet, mGet_put l a b x]
      split
      · rename_i h1; subst h1; rw [if_neg (Ne.symm h)]
      · rfl
theorem mPut_len : ∀ (l : List (α × Value)) (a : α) (x : Value), (mPut l a x).length = if (mGet l a).isSome then l.length else l.length + 1
  | [], a, x => by simp [mPut, mGet]
  | (k, v) :: l, a, x => by
    simp only [mPut, mGet]
    split
    · simp
    · simp only [List.length_cons, mPut_len l a x]
      split <;> rfl
theorem findNow_mEs {d : TypeDesc} (h : ∀ a b, Instr.sameNow d (enc a) (enc b) = some (decide (a = b))) (a : α) : ∀ (l : List (α × Value)) (j i : Nat),
    ∃ r, Instr.findNow d (enc a) (mEs enc j l) i = some r ∧ r.map (·.2) = mGet l a
  | [], j, i => ⟨none, rfl, rfl⟩
  | (k, v) :: l, j, i => by
    simp only [mEs, Instr.findNow, h, mGet]
    rcases Decidable.em (a = k) with rfl | hne
    · simp
    · simp only [hne, decide_false, if_false]
      exact findNow_mEs h a l (j + 1) (i + 1)
theorem findNow_at {d : TypeDesc} (h : ∀ a b, Instr.sameNow d (enc a) (enc b) = some (decide (a = b))) (a : α) : ∀ (l : List (α × Value)) (j i : Nat) (p : Nat) (u : Value), Instr.findNow d (enc a) (mEs enc j l) i = some (some (p, u)) →
    ∃ m, p = i + m ∧ m < l.length ∧ (mEs enc j l)[m]?.map (·.key) = some (enc a) ∧ ∀ x, (mEs enc j l).modify m (fun e => { e with key := enc a, val := x }) = mEs enc j (mPut l a x)
  | [], j, i, p, u, hf => by simp [mEs, Instr.findNow] at hf
  | (k, v) :: l, j, i, p, u, hf => by
    simp only [mEs, Instr.findNow, h] at hf
    rcases Decidable.em (a = k) with rfl | hne
    · simp only [decide_true, Option.some.injEq, Prod.mk.injEq] at hf
      exact ⟨0, by omega, by simp, by simp [mEs], fun x => by simp [mEs, mPut]⟩
    · simp only [hne, decide_false] at hf
      obtain ⟨m, h1, h2, h3, h4⟩ := findNow_at h a l (j + 1) (i + 1) p u hf
      exact ⟨m + 1, by omega, by simp; omega, by simpa [mEs] using h3, fun x => by simp [mEs, mPut, hne, h4 x]⟩
theorem mEs_snoc : ∀ (l : List (α × Value)) (j : Nat) (a : α) (x : Value), mGet l a = none → mEs enc j (mPut l a x) = mEs enc j l ++ [⟨enc a, x, j + l.length⟩]
  | [], j, a, x, _ => by simp [mPut, mEs]
  | (k, v) :: l, j, a, x, h => by
    simp only [mGet] at h
    split at h
    · cases h
    · rename_i hne
      simp only [mPut, hne, if_false, mEs, mEs_snoc l (j + 1) a x h, List.cons_append, List.length_cons]
      rw [show j + 1 + l.length = j + (l.length + 1) by omega]
end
section
variable {P : Program} {n : Nat} {o : Oper} {σ : St} {α : Type} [DecidableEq α] {enc : α → Value}
def zeroV (P : Program) (T : TypeId) : Option Value := (P.info? T).bind (·.zero)
theorem run_lookup {K : TypeId} (hK : KeyT P K enc) {T V : TypeId} (hT : P.underlying T = some (.map K V)) {z : Value} (hz : zeroV P V = some z) {w : World} {r : Nat} {l : List (α × Value)} (hr : w.heap[r]? = some (.map (mEs enc 0 l).toArray l.length)) (a : α) :
    (Instr.lookup T (.map (some r)) (enc a) false).run P w = .ok ((mGet l a).getD z) w := by
  obtain ⟨d, hd, hs, hk⟩ := hK.kind
  obtain ⟨res, h1, h2⟩ := findNow_mEs hs a l 0 0
  obtain ⟨i, hi, hzz⟩ := Option.bind_eq_some_iff.1 hz
  have hzero : (zeroValue V).run P w = .ok z w := by simp [zeroValue, typeInfo, hi, hzz]
  have h1' : Instr.findNow d (enc a) (mEs enc 0 l).toArray.toList 0 = some res := by simpa using h1
  simp only [Instr.lookup, Sem.run_bind, run_underlying hT, Result.andThen_ok, Go.MapKept.run_getObj_map hr, Sem.run_pure, run_checkKey hd (hk a), run_findKey hd h1']
  cases res with
  | none =>
    simp only [Option.map_none] at h2
    simp [← h2, hzero]
  | some p =>
    simp only [Option.map_some] at h2
    simp [← h2]
theorem run_mapUpdate {K : TypeId} (hK : KeyT P K enc) {T V : TypeId} (hT : P.underlying T = some (.map K V)) {w : World} {r : Nat} {l : List (α × Value)} (hr : w.heap[r]? = some (.map (mEs enc 0 l).toArray l.length)) (a : α) (x : Value) :
    (Instr.mapUpdate T (.map (some r)) (enc a) x).run P w = .ok () { w with heap := w.heap.setIfInBounds r (.map (mEs enc 0 (mPut l a x)).toArray (mPut l a x).length) } := by
  obtain ⟨d, hd, hs, hk⟩ := hK.kind
  obtain ⟨res, h1, h2⟩ := findNow_mEs hs a l 0 0
  have h1' : Instr.findNow d (enc a) (mEs enc 0 l).toArray.toList 0 = some res := by simpa using h1
  cases res with
  | none =>
    simp only [Option.map_none] at h2
    have hl : (mPut l a x).length = l.length + 1 := by rw [mPut_len, ← h2]; rfl
    have hm := mEs_snoc (enc := enc) l 0 a x h2.symm
    rw [Nat.zero_add] at hm
    simp only [Instr.mapUpdate, Sem.run_bind, run_underlying hT, Result.andThen_ok, Go.MapKept.run_getObj_map hr, Sem.run_pure, run_checkKey hd (hk a), run_findKey hd h1', run_setObj_map _ hr, hl, hm]
    simp
  | some p =>
    obtain ⟨p, u⟩ := p
    simp only [Option.map_some] at h2
    obtain ⟨m, e1, e2, e3, e4⟩ := findNow_at hs a l 0 0 p u h1
    rw [Nat.zero_add] at e1
    subst e1
    have hl : (mPut l a x).length = l.length := by rw [mPut_len, ← h2]; rfl
    have hkey : (((mEs enc 0 l).toArray[p]?).map (·.key)).getD (enc a) = enc a := by
      rw [List.getElem?_toArray, e3]; rfl
    simp only [Instr.mapUpdate, Sem.run_bind, run_underlying hT, Result.andThen_ok, Go.MapKept.run_getObj_map hr, Sem.run_pure, run_checkKey hd (hk a), run_findKey hd h1', hkey, run_keyThatStays (hk a), run_setObj_map _ hr, hl]
    congr 3
    have := e4 x
    rw [← this]
    simp
theorem bool_keyT {K : TypeId} (h : P.underlying K = some .bool) : KeyT P K Value.bool := ⟨⟨_, h, fun a b => by simp only [Instr.sameNow, if_true, Option.some.injEq]; rw [Bool.eq_iff_iff]; simp, fun a => by simp [IsKey]⟩⟩
end
end Go.Proofs.YtmanhdacnkpclaaGreatDoor

/- Walks over abstract states: texts, conversions and maps by the types that occur. -/
namespace Go.Proofs.YtmanhdacnkpclaaGreatDoor
set_option linter.all false
open Go.RowKit
section
variable {n : Nat} {o : Oper} {σ : St}
theorem isS : Tryz.prog.underlying 9 = some .string := by kernel_rfl
theorem isB : Tryz.prog.underlying 4 = some .bool := by kernel_rfl
theorem isI : Tryz.prog.underlying 3 = some (.int .i64) := by kernel_rfl
theorem isU : Tryz.prog.underlying 5 = some (.int .u8) := by kernel_rfl
theorem zvS : zeroV Tryz.prog 9 = some (.string ⟨#[]⟩) := by kernel_rfl
theorem op_convU {d : Nat} {s : Operand} {kk : IntKind} {x : Int} (hd : o.dst = some d) (ho : o.op = .convert 5 3 s) (hs : St.ev σ s = some (.one (.c (.val (.int kk x)))))
    (h0 : -9223372036854775808 ≤ x ∧ x ≤ 9223372036854775807) : Op1 Tryz.prog n o ⟨opKey s ++ (X.one (iA x)).ids.map Key.b, [.t d], []⟩ σ [(.t d, some (.one (iA x)))] := op_conv64 hd ho isU isI hs h0
theorem op_idxS {d i : Nat} {s ix : Operand} {l : List UInt8} {kk : IntKind} {zi : Int} {b : UInt8} (hd : o.dst = some d) (ho : o.op = .index 9 s ix) (hs : St.ev σ s = some (.one (sA l)))
    (hi : St.ev σ ix = some (.one (.c (.val (.int kk zi))))) (hb : l[i]? = some b) (hz : zi = (i : Int)) : Op1 Tryz.prog n o ⟨(opKey s ++ opKey ix) ++ (X.one (.c (.val (.int .u8 b.toNat)))).ids.map Key.b, [.t d], []⟩ σ [(.t d, some (.one (.c (.val (.int .u8 b.toNat)))))] := op_indexS hd ho isS hs hi hb hz
theorem op_slS1 {d lo : Nat} {s x : Operand} {l r : List UInt8} {kk : IntKind} {zi : Int} (hd : o.dst = some d) (ho : o.op = .slice 9 s (some x) none none) (hs : St.ev σ s = some (.one (sA l)))
    (hx : St.ev σ x = some (.one (.c (.val (.int kk zi))))) (hz : zi = (lo : Int)) (hlo : lo ≤ l.length) (hr : l.drop lo = r) : Op1 Tryz.prog n o ⟨(opKey s ++ opKey x) ++ (X.one (sA r)).ids.map Key.b, [.t d], []⟩ σ [(.t d, some (.one (sA r)))] := op_sliceS1 hd ho isS hs hx hz hlo hr
theorem op_slS0 {d hi : Nat} {s y : Operand} {l r : List UInt8} {kk : IntKind} {zi : Int} (hd : o.dst = some d) (ho : o.op = .slice 9 s none (some y) none) (hs : St.ev σ s = some (.one (sA l)))
    (hy : St.ev σ y = some (.one (.c (.val (.int kk zi))))) (hz : zi = (hi : Int)) (hhi : hi ≤ l.length) (hr : l.take hi = r) : Op1 Tryz.prog n o ⟨(opKey s ++ opKey y) ++ (X.one (sA r)).ids.map Key.b, [.t d], []⟩ σ [(.t d, some (.one (sA r)))] := op_sliceS0 hd ho isS hs hy hz hhi hr
theorem op_slS2 {d lo hi : Nat} {s x y : Operand} {l r : List UInt8} {kk kk' : IntKind} {zi zi' : Int} (hd : o.dst = some d) (ho : o.op = .slice 9 s (some x) (some y) none) (hs : St.ev σ s = some (.one (sA l)))
    (hx : St.ev σ x = some (.one (.c (.val (.int kk zi))))) (hy : St.ev σ y = some (.one (.c (.val (.int kk' zi'))))) (hz : zi = (lo : Int)) (hz' : zi' = (hi : Int)) (hlo : lo ≤ hi) (hhi : hi ≤ l.length) (hr : (l.drop lo).take (hi - lo) = r) :
    Op1 Tryz.prog n o ⟨(opKey s ++ (opKey x ++ opKey y)) ++ (X.one (sA r)).ids.map Key.b, [.t d], []⟩ σ [(.t d, some (.one (sA r)))] := op_sliceS2 hd ho isS hs hx hy hz hz' hlo hhi hr
theorem op_lenStr {d : Nat} {s : Operand} {l : List UInt8} (hd : o.dst = some d) (ho : o.op = .call { callee := .builtin .len, args := #[s], argTypes := #[9] }) (hs : St.ev σ s = some (.one (sA l))) :
    Op1 Tryz.prog n o ⟨opKey s ++ (X.one (iA l.length)).ids.map Key.b, [.t d], []⟩ σ [(.t d, some (.one (iA l.length)))] := op_lenS hd ho isS hs rfl
theorem kB : KeyT Tryz.prog 4 Value.bool := bool_keyT isB
theorem tBS : Tryz.prog.underlying 69 = some (.map 4 9) := by kernel_rfl
end
end Go.Proofs.YtmanhdacnkpclaaGreatDoor

/- Walks over abstract states: arrays of three numbers. -/
namespace Go.Proofs.YtmanhdacnkpclaaGreatDoor
set_option linter.all false
open Go.RowKit

end Go.Proofs.YtmanhdacnkpclaaGreatDoor

/- Full slice expressions and appends to them; pairs of terms in arrays. -/
namespace Go.Proofs.YtmanhdacnkpclaaGreatDoor
set_option linter.all false
open Go.RowKit

section
variable {P : Program} {n : Nat} {o : Oper} {σ : St}
end
/-- two terms -/
def Tw.d (p : Tm × Tm) : D := .agg [p.1.d, p.2.d]
theorem Tw_fc (p : Tm × Tm) : (Tw.d p).fc = [.val (.bool p.1.var), .val (.int .i64 p.1.n), .arr (p.1.args.map Tm.d), .val (.bool p.2.var), .val (.int .i64 p.2.n), .arr (p.2.args.map Tm.d)] := by
  simp [Tw.d, D.fc, fcs, Tm_fc]
instance : FCs Tw.d 6 (fun p => [.val (.bool p.1.var), .val (.int .i64 p.1.n), .arr (p.1.args.map Tm.d), .val (.bool p.2.var), .val (.int .i64 p.2.n), .arr (p.2.args.map Tm.d)]) := ⟨Tw_fc, fun _ => rfl, fun _ => rfl⟩
end Go.Proofs.YtmanhdacnkpclaaGreatDoor

/- Texts of bytes and of runes; fields of values. -/
namespace Go.Proofs.YtmanhdacnkpclaaGreatDoor
set_option linter.all false
open Go.RowKit

def U8.d (b : UInt8) : D := .lit (.int .u8 b.toNat)
theorem U8_fc (b : UInt8) : (U8.d b).fc = [.val (.int .u8 b.toNat)] := by simp [U8.d, D.fc]
instance : FCs U8.d 1 (fun b => [.val (.int .u8 b.toNat)]) := ⟨U8_fc, fun _ => rfl, fun _ => rfl⟩
def Str.d (l : List UInt8) : D := .lit (.string ⟨l.toArray⟩)
theorem Str_fc (l : List UInt8) : (Str.d l).fc = [.val (.string ⟨l.toArray⟩)] := by simp [Str.d, D.fc]
instance : FCs Str.d 1 (fun l => [.val (.string ⟨l.toArray⟩)]) := ⟨Str_fc, fun _ => rfl, fun _ => rfl⟩
theorem rds_U8 {w : World} {F : Nat → Prop} : ∀ {l : List UInt8} {xs : List Value}, rds w F (l.map U8.d) xs → xs = l.map fun b => Value.int .u8 b.toNat
  | [], xs, h => h
  | b :: l, xs, ⟨c1, c2, e, h1, h2⟩ => by
    have h1' : c1 = [.int .u8 b.toNat] := h1
    rw [e, h1', rds_U8 h2]; rfl
section
variable {P : Program} {n : Nat} {o : Oper} {σ : St}
/-- 'string(b)' of bytes -/
theorem op_str8 {d src dst e : Nat} {s : Operand} {l : List UInt8} (hd : o.dst = some d) (ho : o.op = .convert src dst s) (h1 : P.underlying src = some (.slice e)) (h2 : P.underlying e = some (.int .u8)) (h3 : P.underlying dst = some .string) (hs : St.ev σ s = some (.one (lA U8.d l))) :
    Op1 P n o ⟨opKey s ++ (X.one (sA l)).ids.map Key.b, [.t d], []⟩ σ [(.t d, some (.one (sA l)))] :=
  .value _ hd fun σ' hag C who a w hr => by
    obtain ⟨ad, cap, e0, hcap, hmax, hx⟩ : rd w (Fz who) (.arr (l.map U8.d)) [a.eval s] := hr.ev ((ev_agree hag).trans hs)
    have e1 : a.eval s = .slice ad l.length cap := by simpa using e0
    refine ⟨.string ⟨l.toArray⟩, ?_, rfl⟩
    have key : (convert src dst (.slice ad l.length cap)).run P w = .ok (.string ⟨l.toArray⟩) w := by
      cases ad with
      | none =>
        have hl0 : l.length = 0 := by
          rcases hx with hx | ⟨b, q, xs, h, _⟩
          · simpa using hx
          · cases h
        have hl : l = [] := List.eq_nil_of_length_eq_zero hl0
        subst hl
        rw [run_convert_bytes_string w src dst e none _ cap h1 h2 h3]
        rfl
      | some ad =>
        refine run_convert_bytes_back w src dst e ad cap l h1 h2 h3 fun j hj => ?_
        rcases hx with hx | ⟨b, q, xs, h, hb, _, hrs, hc⟩
        · simp at hx; subst hx; simp at hj
        · injection h with h; subst h
          rw [add_lit]
          refine hc j _ ?_
          rw [rds_U8 hrs, List.getElem?_map, List.getElem?_eq_getElem hj]; rfl
    simp only [execOp, ho, e1, Sem.run_bind, key]; rfl
/-- 'string(r)' of a number -/
theorem op_strR {d src dst : Nat} {s : Operand} {ts : TypeDesc} {k : IntKind} {x : Int} {l : List UInt8} (hd : o.dst = some d) (ho : o.op = .convert src dst s) (h1 : P.underlying src = some ts) (h3 : P.underlying dst = some .string) (hs : St.ev σ s = some (.one (.c (.val (.int k x)))))
    (hl : Utf8.encode x = ⟨l.toArray⟩) : Op1 P n o ⟨opKey s ++ (X.one (sA l)).ids.map Key.b, [.t d], []⟩ σ [(.t d, some (.one (sA l)))] :=
  .value _ hd fun σ' hag C who a w hr => by
    have e : a.eval s = .int k x := hr.ev ((ev_agree hag).trans hs)
    refine ⟨_, ?_, rfl⟩
    simp only [execOp, ho, e, Sem.run_bind, convert, run_underlying h1, run_underlying h3, Result.andThen_ok, Conv.intToString, Sem.run_pure, hl]
end
section
variable {n : Nat} {o : Oper} {σ : St}
theorem op_conv8 {d : Nat} {s : Operand} {x c : Int} (hd : o.dst = some d) (ho : o.op = .convert 3 5 s) (hs : St.ev σ s = some (.one (iA x))) (hr : IntKind.u8.wrap x = c) :
    Op1 Tryz.prog n o ⟨opKey s ++ (X.one (.c (.val (.int .u8 c)))).ids.map Key.b, [.t d], []⟩ σ [(.t d, some (.one (.c (.val (.int .u8 c)))))] := op_convK hd ho (show Tryz.prog.underlying 3 = some (.int .i64) by kernel_rfl) (show Tryz.prog.underlying 5 = some (.int .u8) by kernel_rfl) hs hr
theorem op_s8 {d : Nat} {s : Operand} {l : List UInt8} (hd : o.dst = some d) (ho : o.op = .convert 80 9 s) (hs : St.ev σ s = some (.one (lA U8.d l))) :
    Op1 Tryz.prog n o ⟨opKey s ++ (X.one (sA l)).ids.map Key.b, [.t d], []⟩ σ [(.t d, some (.one (sA l)))] := op_str8 hd ho (show Tryz.prog.underlying 80 = some (.slice 5) by kernel_rfl) (show Tryz.prog.underlying 5 = some (.int .u8) by kernel_rfl) (show Tryz.prog.underlying 9 = some .string by kernel_rfl) hs
end
section
variable {n : Nat} {o : Oper} {σ : St}
theorem op_conv32 {d : Nat} {s : Operand} {x c : Int} (hd : o.dst = some d) (ho : o.op = .convert 3 21 s) (hs : St.ev σ s = some (.one (iA x))) (hr : IntKind.i32.wrap x = c) :
    Op1 Tryz.prog n o ⟨opKey s ++ (X.one (.c (.val (.int .i32 c)))).ids.map Key.b, [.t d], []⟩ σ [(.t d, some (.one (.c (.val (.int .i32 c)))))] := op_convK hd ho (show Tryz.prog.underlying 3 = some (.int .i64) by kernel_rfl) (show Tryz.prog.underlying 21 = some (.int .i32) by kernel_rfl) hs hr
theorem op_s32 {d : Nat} {s : Operand} {x : Int} {l : List UInt8} (hd : o.dst = some d) (ho : o.op = .convert 21 9 s) (hs : St.ev σ s = some (.one (.c (.val (.int .i32 x))))) (hl : Utf8.encode x = ⟨l.toArray⟩) :
    Op1 Tryz.prog n o ⟨opKey s ++ (X.one (sA l)).ids.map Key.b, [.t d], []⟩ σ [(.t d, some (.one (sA l)))] := op_strR hd ho (show Tryz.prog.underlying 21 = some (.int .i32) by kernel_rfl) (show Tryz.prog.underlying 9 = some .string by kernel_rfl) hs hl
end
end Go.Proofs.YtmanhdacnkpclaaGreatDoor
