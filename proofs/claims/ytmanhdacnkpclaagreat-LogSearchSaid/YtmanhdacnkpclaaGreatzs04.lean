/- Walks over abstract states: texts, conversions, maps of one's own. -/
import Derived.Test.YtmanhdacnkpclaaGreatzs03
import Derived.Laws.Strings2
import Derived.Laws.Concat
import Derived.MapKept
import Derived.Deep.Upon
import Derived.Laws.IdiomStrings
/- Walks over abstract states: texts, conversions, maps of one's own. -/
namespace Go.Proofs.YtmanhdacnkpclaaGreat
set_option linter.unusedVariables false
set_option linter.unusedSimpArgs false
open Go.RowKit
section
variable {P : Program} {n : Nat} {o : Oper} {σ : St}
theorem op_nilB {d j q : Nat} {s : Operand} (hd : o.dst = some d) (ho : o.op = .nilCheck s) (hs : St.ev σ s = some (.one (.c (.ptr j q)))) :
    Op1 P n o ⟨opKey s ++ (X.one (.c (.ptr j q))).ids.map Key.b, [.t d], []⟩ σ [(.t d, some (.one (.c (.ptr j q))))] :=
  .value _ hd fun σ' hag C who a w hr => by
    obtain ⟨b, e, hb⟩ := hr.ev ((ev_agree hag).trans hs)
    exact ⟨_, by simp [execOp, ho, e], b, rfl, hb⟩
theorem op_convK {d src dst : Nat} {s : Operand} {ts : TypeDesc} {k kk : IntKind} {x c : Int} (hd : o.dst = some d) (ho : o.op = .convert src dst s) (h1 : P.underlying src = some ts) (h2 : P.underlying dst = some (.int k)) (hs : St.ev σ s = some (.one (.c (.val (.int kk x))))) (hr : k.wrap x = c) :
    Op1 P n o ⟨opKey s ++ (X.one (.c (.val (.int k c)))).ids.map Key.b, [.t d], []⟩ σ [(.t d, some (.one (.c (.val (.int k c)))))] :=
  .value _ hd fun σ' hag C who a w hrp => by
    have e : a.eval s = .int kk x := hrp.ev ((ev_agree hag).trans hs)
    subst hr
    refine ⟨_, ?_, rfl⟩
    simp only [execOp, ho, e, Sem.run_bind, convert, run_underlying h1, run_underlying h2, Result.andThen_ok, Conv.intToInt, Sem.run_pure]
theorem op_conv64 {d src dst : Nat} {s : Operand} {ts : TypeDesc} {kk : IntKind} {x : Int} (hd : o.dst = some d) (ho : o.op = .convert src dst s) (h1 : P.underlying src = some ts) (h2 : P.underlying dst = some (.int .i64)) (hs : St.ev σ s = some (.one (.c (.val (.int kk x)))))
    (h0 : -9223372036854775808 ≤ x ∧ x ≤ 9223372036854775807) : Op1 P n o ⟨opKey s ++ (X.one (iA x)).ids.map Key.b, [.t d], []⟩ σ [(.t d, some (.one (iA x)))] :=
  op_convK hd ho h1 h2 hs (by rw [IntWalk.i64_left]; exact IntWalk.wrap64_in _ h0)
theorem bin_subK {T : TypeId} {k : IntKind} {a b c : Int} (h : k.wrap (a - b) = c) : Bin P .sub T (.int k a) (.int k b) (.int k c) := .mk fun s1 s2 w => by
  subst h; simp [eqGuard, binOp, Op.intArith]
theorem bin_quo {T : TypeId} {a b c : Int} (h0 : 0 ≤ a) (h1 : 0 < b) (h2 : a ≤ 9223372036854775807) (h : a / b = c) : Bin P .quo T (.int .i64 a) (.int .i64 b) (.int .i64 c) := .mk fun s1 s2 w => by
  have g1 : 0 ≤ a / b := Int.ediv_nonneg h0 (by omega)
  have g2 : a / b ≤ a := Int.ediv_le_self b h0
  have e : IntKind.i64.wrap (a / b) = a / b := IntWalk.i64_in _ (by omega)
  subst h
  simp [eqGuard, binOp, Op.intDiv, Int.tdiv_eq_ediv_of_nonneg h0, show ¬ b = 0 by omega, e]
theorem bin_rem {T : TypeId} {a b c : Int} (h0 : 0 ≤ a) (h1 : 0 < b) (h : a % b = c) : Bin P .rem T (.int .i64 a) (.int .i64 b) (.int .i64 c) := .mk fun s1 s2 w => by
  subst h
  simp [eqGuard, binOp, Op.intDiv, Int.tmod_eq_emod_of_nonneg h0, show ¬ b = 0 by omega]
theorem bytes_eq (l l' : List UInt8) : ((⟨l.toArray⟩ : ByteArray).toList == (⟨l'.toArray⟩ : ByteArray).toList) = (l == l') := by
  rw [ByteArray.toList_eq, ByteArray.toList_eq]
theorem bin_eqS {T : TypeId} {l l' : List UInt8} {r : Bool} (h : (l == l') = r) : Bin P .eql T (.string ⟨l.toArray⟩) (.string ⟨l'.toArray⟩) (.bool r) := bin_eqlS ((bytes_eq l l').trans h)
theorem bin_neS {T : TypeId} {l l' : List UInt8} {r : Bool} (h : (!(l == l')) = r) : Bin P .neq T (.string ⟨l.toArray⟩) (.string ⟨l'.toArray⟩) (.bool r) := bin_neqS ((congrArg Bool.not (bytes_eq l l')).trans h)
theorem op_indexS {d t i : Nat} {s ix : Operand} {l : List UInt8} {kk : IntKind} {zi : Int} {b : UInt8} (hd : o.dst = some d) (ho : o.op = .index t s ix) (hT : P.underlying t = some .string) (hs : St.ev σ s = some (.one (sA l)))
    (hi : St.ev σ ix = some (.one (.c (.val (.int kk zi))))) (hb : l[i]? = some b) (hz : zi = (i : Int)) : Op1 P n o ⟨(opKey s ++ opKey ix) ++ (X.one (.c (.val (.int .u8 b.toNat)))).ids.map Key.b, [.t d], []⟩ σ [(.t d, some (.one (.c (.val (.int .u8 b.toNat)))))] :=
  .value _ hd fun σ' hag C who a w hr => by
    have e1 : a.eval s = .string ⟨l.toArray⟩ := hr.ev ((ev_agree fun k hk => hag k (List.mem_append_left _ hk)).trans hs)
    have e2 : a.eval ix = .int kk zi := hr.ev ((ev_agree fun k hk => hag k (List.mem_append_right _ hk)).trans hi)
    subst hz
    have hlt := (List.getElem?_eq_some_iff.1 hb).1
    have hby : (⟨l.toArray⟩ : ByteArray)[i]? = some b := by
      rw [ByteArray.getElem?_lt' _ _ (by simpa [ByteArray.size] using hlt)]
      obtain ⟨_, h⟩ := List.getElem?_eq_some_iff.1 hb
      rw [← h]; rfl
    refine ⟨_, ?_, rfl⟩
    simp [execOp, ho, e1, e2, Instr.index, asIntOf, run_underlying hT, hby]
theorem run_bound {x y : Nat} {k : IntKind} {c : BoundsCode} (h : x ≤ y) (w : World) : (Instr.sliceBound (.int k (x : Int)) y c).run P w = .ok x w := by
  simp [Instr.sliceBound, asIntOf, h]
theorem op_sliceS1 {d t lo : Nat} {s x : Operand} {l r : List UInt8} {kk : IntKind} {zi : Int} (hd : o.dst = some d) (ho : o.op = .slice t s (some x) none none) (hT : P.underlying t = some .string) (hs : St.ev σ s = some (.one (sA l)))
    (hx : St.ev σ x = some (.one (.c (.val (.int kk zi))))) (hz : zi = (lo : Int)) (hlo : lo ≤ l.length) (hr : l.drop lo = r) : Op1 P n o ⟨(opKey s ++ opKey x) ++ (X.one (sA r)).ids.map Key.b, [.t d], []⟩ σ [(.t d, some (.one (sA r)))] :=
  .value _ hd fun σ' hag C who a w hrp => by
    have e1 : a.eval s = .string ⟨l.toArray⟩ := hrp.ev ((ev_agree fun k hk => hag k (List.mem_append_left _ hk)).trans hs)
    have e2 : a.eval x = .int kk zi := hrp.ev ((ev_agree fun k hk => hag k (List.mem_append_right _ hk)).trans hx)
    subst hz hr
    have hsz : (⟨l.toArray⟩ : ByteArray).size = l.length := by simp [ByteArray.size]
    refine ⟨_, ?_, rfl⟩
    simp only [execOp, ho, e1, e2, Instr.sliceAt, Instr.slice, Option.map_some, Option.map_none, Sem.run_bind, run_underlying hT, Result.andThen_ok, Option.isSome_none, Bool.false_eq_true, if_false, Instr.sliceBounds, Sem.run_pure, hsz, run_bound hlo, ByteArray.extract_mk]
    rw [List.take_of_length_le (by simp)]
theorem op_sliceS0 {d t hi : Nat} {s y : Operand} {l r : List UInt8} {kk : IntKind} {zi : Int} (hd : o.dst = some d) (ho : o.op = .slice t s none (some y) none) (hT : P.underlying t = some .string) (hs : St.ev σ s = some (.one (sA l)))
    (hy : St.ev σ y = some (.one (.c (.val (.int kk zi))))) (hz : zi = (hi : Int)) (hhi : hi ≤ l.length) (hr : l.take hi = r) : Op1 P n o ⟨(opKey s ++ opKey y) ++ (X.one (sA r)).ids.map Key.b, [.t d], []⟩ σ [(.t d, some (.one (sA r)))] :=
  .value _ hd fun σ' hag C who a w hrp => by
    have e1 : a.eval s = .string ⟨l.toArray⟩ := hrp.ev ((ev_agree fun k hk => hag k (List.mem_append_left _ hk)).trans hs)
    have e2 : a.eval y = .int kk zi := hrp.ev ((ev_agree fun k hk => hag k (List.mem_append_right _ hk)).trans hy)
    subst hz hr
    have hsz : (⟨l.toArray⟩ : ByteArray).size = l.length := by simp [ByteArray.size]
    refine ⟨_, ?_, rfl⟩
    simp only [execOp, ho, e1, e2, Instr.sliceAt, Instr.slice, Option.map_some, Option.map_none, Sem.run_bind, run_underlying hT, Result.andThen_ok, Option.isSome_none, Bool.false_eq_true, if_false, Instr.sliceBounds, Sem.run_pure, hsz, run_bound hhi, ByteArray.extract_mk, List.drop_zero, Nat.sub_zero]
theorem op_sliceS2 {d t lo hi : Nat} {s x y : Operand} {l r : List UInt8} {kk kk' : IntKind} {zi zi' : Int} (hd : o.dst = some d) (ho : o.op = .slice t s (some x) (some y) none) (hT : P.underlying t = some .string) (hs : St.ev σ s = some (.one (sA l)))
    (hx : St.ev σ x = some (.one (.c (.val (.int kk zi))))) (hy : St.ev σ y = some (.one (.c (.val (.int kk' zi'))))) (hz : zi = (lo : Int)) (hz' : zi' = (hi : Int)) (hlo : lo ≤ hi) (hhi : hi ≤ l.length) (hr : (l.drop lo).take (hi - lo) = r) :
    Op1 P n o ⟨(opKey s ++ (opKey x ++ opKey y)) ++ (X.one (sA r)).ids.map Key.b, [.t d], []⟩ σ [(.t d, some (.one (sA r)))] :=
  .value _ hd fun σ' hag C who a w hrp => by
    have e1 : a.eval s = .string ⟨l.toArray⟩ := hrp.ev ((ev_agree fun k hk => hag k (by simp [hk])).trans hs)
    have e2 : a.eval x = .int kk zi := hrp.ev ((ev_agree fun k hk => hag k (by simp [hk])).trans hx)
    have e3 : a.eval y = .int kk' zi' := hrp.ev ((ev_agree fun k hk => hag k (by simp [hk])).trans hy)
    subst hz hz' hr
    have hsz : (⟨l.toArray⟩ : ByteArray).size = l.length := by simp [ByteArray.size]
    refine ⟨_, ?_, rfl⟩
    simp only [execOp, ho, e1, e2, e3, Instr.sliceAt, Instr.slice, Option.map_some, Option.map_none, Sem.run_bind, run_underlying hT, Result.andThen_ok, Option.isSome_none, Bool.false_eq_true, if_false, Instr.sliceBounds, Sem.run_pure, hsz, run_bound hhi, run_bound hlo, ByteArray.extract_mk]
end
end Go.Proofs.YtmanhdacnkpclaaGreat
/- Walks over abstract states: maps of one's own. -/
namespace Go.Proofs.YtmanhdacnkpclaaGreat
set_option linter.all false
open Go.RowKit Go.MapKept
structure KeyT (P : Program) (K : TypeId) {α : Type} [DecidableEq α] (enc : α → Value) : Prop where
  kind : ∃ d, P.underlying K = some d ∧ (∀ a b, Instr.sameNow d (enc a) (enc b) = some (decide (a = b))) ∧ ∀ a, IsKey d (enc a)
section
variable {α : Type} [DecidableEq α] (enc : α → Value)
def mapC (l : List (α × Value)) : CV := .mc (mEs enc 0 l).toArray l.length
end
section
variable {α : Type} [DecidableEq α] {enc : α → Value}
def mPut : List (α × Value) → α → Value → List (α × Value)
  | [], a, x => [(a, x)]
  | (k, v) :: l, a, x => if a = k then (k, x) :: l else (k, v) :: mPut l a x
theorem mGet_put : ∀ (l : List (α × Value)) (a b : α) (x : Value), mGet (mPut l a x) b = if b = a then some x else mGet l b
  | [], a, b, x => by simp [mPut, mGet]
  | (k, v) :: l, a, b, x => by
    simp only [mPut]
    split
    · rename_i h; subst h
      simp only [mGet]
      split <;> simp_all
    · rename_i h
      simp only [mGet, mGet_put l a b x]
      split
      · rename_i h1; subst h1; rw [if_neg (Ne.symm h)]
      · rfl
theorem mPut_len : ∀ (l : List (α × Value)) (a : α) (x : Value), (mPut l a x).length = if (mGet l a).isSome then l.length else l.length + 1
  | [], a, x => by simp [mPut, mGet]
  | (k, v) :: l, a, x => by
    simp only [mPut, mGet]
    split
    · simp
    · simp only [List.length_cons, mPut_len l a x]
      split <;> rfl
theorem findNow_mEs {d : TypeDesc} (h : ∀ a b, Instr.sameNow d (enc a) (enc b) = some (decide (a = b))) (a : α) : ∀ (l : List (α × Value)) (j i : Nat),
    ∃ r, Instr.findNow d (enc a) (mEs enc j l) i = some r ∧ r.map (·.2) = mGet l a
  | [], j, i => ⟨none, rfl, rfl⟩
  | (k, v) :: l, j, i => by
    simp only [mEs, Instr.findNow, h, mGet]
    rcases Decidable.em (a = k) with rfl | hne
    · simp
    · simp only [hne, decide_false, if_false]
      exact findNow_mEs h a l (j + 1) (i + 1)
theorem findNow_at {d : TypeDesc} (h : ∀ a b, Instr.sameNow d (enc a) (enc b) = some (decide (a = b))) (a : α) : ∀ (l : List (α × Value)) (j i : Nat) (p : Nat) (u : Value), Instr.findNow d (enc a) (mEs enc j l) i = some (some (p, u)) →
    ∃ m, p = i + m ∧ m < l.length ∧ (mEs enc j l)[m]?.map (·.key) = some (enc a) ∧ ∀ x, (mEs enc j l).modify m (fun e => { e with key := enc a, val := x }) = mEs enc j (mPut l a x)
  | [], j, i, p, u, hf => by simp [mEs, Instr.findNow] at hf
  | (k, v) :: l, j, i, p, u, hf => by
    simp only [mEs, Instr.findNow, h] at hf
    rcases Decidable.em (a = k) with rfl | hne
    · simp only [decide_true, Option.some.injEq, Prod.mk.injEq] at hf
      exact ⟨0, by omega, by simp, by simp [mEs], fun x => by simp [mEs, mPut]⟩
    · simp only [hne, decide_false] at hf
      obtain ⟨m, h1, h2, h3, h4⟩ := findNow_at h a l (j + 1) (i + 1) p u hf
      exact ⟨m + 1, by omega, by simp; omega, by simpa [mEs] using h3, fun x => by simp [mEs, mPut, hne, h4 x]⟩
theorem mEs_snoc : ∀ (l : List (α × Value)) (j : Nat) (a : α) (x : Value), mGet l a = none → mEs enc j (mPut l a x) = mEs enc j l ++ [⟨enc a, x, j + l.length⟩]
  | [], j, a, x, _ => by simp [mPut, mEs]
  | (k, v) :: l, j, a, x, h => by
    simp only [mGet] at h
    split at h
    · cases h
    · rename_i hne
      simp only [mPut, hne, if_false, mEs, mEs_snoc l (j + 1) a x h, List.cons_append, List.length_cons]
      rw [show j + 1 + l.length = j + (l.length + 1) by omega]
end
section
variable {P : Program} {n : Nat} {o : Oper} {σ : St} {α : Type} [DecidableEq α] {enc : α → Value}
def zeroV (P : Program) (T : TypeId) : Option Value := (P.info? T).bind (·.zero)
theorem run_lookup {K : TypeId} (hK : KeyT P K enc) {T V : TypeId} (hT : P.underlying T = some (.map K V)) {z : Value} (hz : zeroV P V = some z) {w : World} {r : Nat} {l : List (α × Value)} (hr : w.heap[r]? = some (.map (mEs enc 0 l).toArray l.length)) (a : α) :
    (Instr.lookup T (.map (some r)) (enc a) false).run P w = .ok ((mGet l a).getD z) w := by
  obtain ⟨d, hd, hs, hk⟩ := hK.kind
  obtain ⟨res, h1, h2⟩ := findNow_mEs hs a l 0 0
  obtain ⟨i, hi, hzz⟩ := Option.bind_eq_some_iff.1 hz
  have hzero : (zeroValue V).run P w = .ok z w := by simp [zeroValue, typeInfo, hi, hzz]
  have h1' : Instr.findNow d (enc a) (mEs enc 0 l).toArray.toList 0 = some res := by simpa using h1
  simp only [Instr.lookup, Sem.run_bind, run_underlying hT, Result.andThen_ok, Go.MapKept.run_getObj_map hr, Sem.run_pure, run_checkKey hd (hk a), run_findKey hd h1']
  cases res with
  | none =>
    simp only [Option.map_none] at h2
    simp [← h2, hzero]
  | some p =>
    simp only [Option.map_some] at h2
    simp [← h2]
theorem run_mapUpdate {K : TypeId} (hK : KeyT P K enc) {T V : TypeId} (hT : P.underlying T = some (.map K V)) {w : World} {r : Nat} {l : List (α × Value)} (hr : w.heap[r]? = some (.map (mEs enc 0 l).toArray l.length)) (a : α) (x : Value) :
    (Instr.mapUpdate T (.map (some r)) (enc a) x).run P w = .ok () { w with heap := w.heap.setIfInBounds r (.map (mEs enc 0 (mPut l a x)).toArray (mPut l a x).length) } := by
  obtain ⟨d, hd, hs, hk⟩ := hK.kind
  obtain ⟨res, h1, h2⟩ := findNow_mEs hs a l 0 0
  have h1' : Instr.findNow d (enc a) (mEs enc 0 l).toArray.toList 0 = some res := by simpa using h1
  cases res with
  | none =>
    simp only [Option.map_none] at h2
    have hl : (mPut l a x).length = l.length + 1 := by rw [mPut_len, ← h2]; rfl
    have hm := mEs_snoc (enc := enc) l 0 a x h2.symm
    rw [Nat.zero_add] at hm
    simp only [Instr.mapUpdate, Sem.run_bind, run_underlying hT, Result.andThen_ok, Go.MapKept.run_getObj_map hr, Sem.run_pure, run_checkKey hd (hk a), run_findKey hd h1', run_setObj_map _ hr, hl, hm]
    simp
  | some p =>
    obtain ⟨p, u⟩ := p
    simp only [Option.map_some] at h2
    obtain ⟨m, e1, e2, e3, e4⟩ := findNow_at hs a l 0 0 p u h1
    rw [Nat.zero_add] at e1
    subst e1
    have hl : (mPut l a x).length = l.length := by rw [mPut_len, ← h2]; rfl
    have hkey : (((mEs enc 0 l).toArray[p]?).map (·.key)).getD (enc a) = enc a := by
      rw [List.getElem?_toArray, e3]; rfl
    simp only [Instr.mapUpdate, Sem.run_bind, run_underlying hT, Result.andThen_ok, Go.MapKept.run_getObj_map hr, Sem.run_pure, run_checkKey hd (hk a), run_findKey hd h1', hkey, run_keyThatStays (hk a), run_setObj_map _ hr, hl]
    congr 3
    have := e4 x
    rw [← this]
    simp
theorem op_mkMap {d j T : Nat} (hd : o.dst = some d) (ho : o.op = .makeMap T none) (hj : j = d + 2000000) (hq : Nat.ble j 3999999 = true) :
    Op1 P n o ⟨[], [.t d, .b j], [j]⟩ σ [(.t d, some (.one (.c (.mp j)))), (.b j, some (.box [mapC enc []]))] where
  does := fun σ' hag hal C who a w hr hdst K Q hK => by
    have hids := hal j (by simp)
    have hj1 : Nat.ble j EXT = false := by
      cases h : Nat.ble j EXT
      · rfl
      · have := Nat.le_of_ble_eq_true h
        unfold EXT at this; omega
    have hj2 : Nat.beq j EXT = false := by
      cases h : Nat.beq j EXT
      · rfl
      · have := Nat.eq_of_beq_eq_true h
        unfold EXT at this; omega
    unfold Oper.wp
    have hrun : (execOp a.eval o).run P w = .ok (.value (.map (some w.heap.size))) (w.alloc (.map #[] 0)) := by
      simp [execOp, ho, Instr.makeMap, newObj, Sem.run]
    rw [hrun]
    show K (a.put o.dst _) _
    refine hK (tagBox j w.heap.size who) _ _ ?_
    rw [hd]
    exact new_boxG (E := 0) (u := [undef]) (cv := .mp j) (v := .map (some w.heap.size)) hr (hdst d hd) hj2 hq (shp_mc hj1 _ _ _ _) hids (fun who' w' q c v hq hv T G hst hT hG => by
      match q with
      | 0 => simp at hq; subst hq; trivial
      | q + 1 => simp at hq) rfl ⟨_, rfl, tagBox_new⟩
  wr := by simp
  me := fun i hi => by
    have : i = j := by simpa [St.ids, oids, X.ids, A1.ids, CV.ids, mapC] using hi
    exact .inr (by simp [this])
  al := by simp
theorem mbox {C : Ctx} {who : Nat → Tag} {σ : St} {a : Act} {w : World} (hrp : Rep n C who σ a w) {j b : Nat} {l : List (α × Value)} (hb : who b = .bx j) (hbx : St.get σ (.b j) = some (.box [mapC enc l])) (hj : Nat.ble j EXT = false) (hq : Nat.ble j 3999999 = true) : w.heap[b]? = some (.map (mEs enc 0 l).toArray l.length) := by
  obtain ⟨vs, E, h1, h2⟩ := hrp.box j _ hbx b (by rw [bas_of hq]; exact hb)
  unfold mapC at h1
  rw [isShp_eq hq, shp_mc hj] at h1
  exact h1
theorem op_lookM {d j T V K : Nat} {s i : Operand} {l : List (α × Value)} {k : α} {z x : Value} (hd : o.dst = some d) (ho : o.op = .lookup T s i false) (hK : KeyT P K enc) (hT : P.underlying T = some (.map K V)) (hz : zeroV P V = some z)
    (hs : St.ev σ s = some (.one (.c (.mp j)))) (hb : St.get σ (.b j) = some (.box [mapC enc l])) (hi : St.ev σ i = some (.one (.c (.val (enc k))))) (hj : Nat.ble j EXT = false) (hq : Nat.ble j 3999999 = true) (hx : (mGet l k).getD z = x) :
    Op1 P n o ⟨(opKey s ++ (opKey i ++ [.b j])) ++ (X.one (.c (.val x))).ids.map Key.b, [.t d], []⟩ σ [(.t d, some (.one (.c (.val x))))] :=
  .value _ hd fun σ' hag C who a w hrp => by
    obtain ⟨b, e1, hbw⟩ := hrp.ev ((ev_agree fun k hk => hag k (by simp [hk])).trans hs)
    have e2 : a.eval i = enc k := hrp.ev ((ev_agree fun k hk => hag k (by simp [hk])).trans hi)
    have hm := mbox hrp hbw ((hag (.b j) (by simp)).trans hb) hj hq
    subst hx
    refine ⟨_, ?_, rfl⟩
    simp only [execOp, ho, e1, e2, Sem.run_bind, run_lookup hK hT hz hm k, Result.andThen_ok, Sem.run_pure]
theorem op_putM {j T V K : Nat} {s i y : Operand} {l l' : List (α × Value)} {k : α} {x : Value} (hd : o.dst = none) (ho : o.op = .mapUpdate T s i y ∨ o.op = .insert T s i y) (hK : KeyT P K enc) (hT : P.underlying T = some (.map K V))
    (hs : St.ev σ s = some (.one (.c (.mp j)))) (hb : St.get σ (.b j) = some (.box [mapC enc l])) (hi : St.ev σ i = some (.one (.c (.val (enc k))))) (hy : St.ev σ y = some (.one (.c (.val x)))) (hj : Nat.ble j EXT = false) (hq : Nat.ble j 3999999 = true) (hl : mPut l k x = l') :
    Op1 P n o ⟨opKey s ++ (opKey i ++ (opKey y ++ [.b j])), [.b j], []⟩ σ [(.b j, some (.box [mapC enc l']))] where
  does := fun σ' hag hal C who a w hrp hdst K' Q hK' => by
    obtain ⟨b, e1, hbw⟩ := hrp.ev ((ev_agree fun k hk => hag k (by simp [hk])).trans hs)
    have e2 : a.eval i = enc k := hrp.ev ((ev_agree fun k hk => hag k (by simp [hk])).trans hi)
    have e3 : a.eval y = x := hrp.ev ((ev_agree fun k hk => hag k (by simp [hk])).trans hy)
    have hgb := (hag (.b j) (by simp)).trans hb
    have hm := mbox hrp hbw hgb hj hq
    subst hl
    have hrun : (execOp a.eval o).run P w = .ok .skip { w with heap := w.heap.setIfInBounds b (.map (mEs enc 0 (mPut l k x)).toArray (mPut l k x).length) } := by
      rcases ho with ho | ho <;> simp only [execOp, ho, e1, e2, e3, Sem.run_bind, run_mapUpdate hK hT hm k x, Result.andThen_ok, Sem.run_pure]
    unfold Oper.wp
    rw [hrun]
    show K' (a.put o.dst undef) _
    have hlt : b < w.heap.size := (Array.getElem?_eq_some_iff.1 hm).1
    have hstp : Stp who w who { w with heap := w.heap.setIfInBounds b (.map (mEs enc 0 (mPut l k x)).toArray (mPut l k x).length) } (fun k => k = b) (fun _ => False) :=
      ⟨rfl, rfl, rfl, by simp, fun c _ hc => by simp [Array.getElem?_setIfInBounds, Ne.symm hc], fun _ _ _ => rfl, fun c hc => by rw [hc, hbw]; simp, fun _ h => h.elim⟩
    have hrep : Rep n C who ((.b j, none) :: σ') a { w with heap := w.heap.setIfInBounds b (.map (mEs enc 0 (mPut l k x)).toArray (mPut l k x).length) } := by
      refine (hrp.kill (.b j)).stp hstp (fun c hc hoo => ⟨fun hcb => ?_, fun h => h⟩) (fun c i hc hoo h => h) (fun c hc => by simpa using hrp.fz c hc) hrp.bxu ?_ ?_ ?_ ?_
      · have := hrp.adv.tag c hc (hoo.imp id .inl)
        rw [hcb, hbw] at this
        rw [hcb] at hoo
        rcases hoo with hoo | hoo <;> rw [hoo] at this <;> cases this
      · intro c kk p q' hc hT
        rcases hT with hT | hT
        · rw [hT, hbw] at hc; cases hc
        · exact hT.elim
      · intro c i _ h; exact h.elim
      · intro c i hc hT
        rcases hT with hT | hT
        · rw [hT, hbw] at hc; injection hc with hc; have hc := nb_eq hq hc.symm; subst hc; exact St.get_same
        · exact hT.elim
      · intro c i h1 h2; exact absurd h1 h2
    refine hK' who undef _ ?_
    rw [hd]
    refine ((hrep.addBox (j := j) (cs := [mapC enc (mPut l k x)]) fun c hc => ?_).congr fun r => ?_)
    · rw [bas_of hq] at hc
      have : c = b := hrp.bxu c b j hc hbw
      subst this
      refine ⟨[undef], 0, ?_, rfl, fun q c' v hq hv => ?_⟩
      · unfold mapC
        rw [isShp_eq hq, shp_mc hj]
        simp [Array.getElem?_setIfInBounds, hlt]
      · match q with
        | 0 => simp at hq; subst hq; trivial
        | q + 1 => simp at hq
    · simp only [List.cons_append, List.nil_append, St.get]
      cases Key.is (.b j) r <;> simp
  wr := by simp
  me := fun i hi => by
    have : False := by simpa [St.ids, oids, X.ids, A1.ids, CV.ids, mapC] using hi
    exact this.elim
  al := by simp
theorem int_keyT {K : TypeId} (h : P.underlying K = some (.int .i64)) : KeyT P K (Value.int .i64) := ⟨⟨_, h, fun a b => by simp only [Instr.sameNow, if_true, Option.some.injEq]; rw [Bool.eq_iff_iff]; simp, fun a => by simp [IsKey]⟩⟩
end
end Go.Proofs.YtmanhdacnkpclaaGreat
/- Walks over abstract states: texts, conversions and maps by the types that occur. -/
namespace Go.Proofs.YtmanhdacnkpclaaGreat
set_option linter.all false
open Go.RowKit
section
variable {n : Nat} {o : Oper} {σ : St}
theorem isS : Tryz.prog.underlying 9 = some .string := by kernel_rfl
theorem isB : Tryz.prog.underlying 4 = some .bool := by kernel_rfl
theorem isI : Tryz.prog.underlying 3 = some (.int .i64) := by kernel_rfl
theorem isU : Tryz.prog.underlying 5 = some (.int .u8) := by kernel_rfl
theorem zvI : zeroV Tryz.prog 3 = some (.int .i64 0) := by kernel_rfl
theorem zvB : zeroV Tryz.prog 4 = some (.bool false) := by kernel_rfl
theorem op_convU {d : Nat} {s : Operand} {kk : IntKind} {x : Int} (hd : o.dst = some d) (ho : o.op = .convert 5 3 s) (hs : St.ev σ s = some (.one (.c (.val (.int kk x)))))
    (h0 : -9223372036854775808 ≤ x ∧ x ≤ 9223372036854775807) : Op1 Tryz.prog n o ⟨opKey s ++ (X.one (iA x)).ids.map Key.b, [.t d], []⟩ σ [(.t d, some (.one (iA x)))] := op_conv64 hd ho isU isI hs h0
theorem op_idxS {d i : Nat} {s ix : Operand} {l : List UInt8} {kk : IntKind} {zi : Int} {b : UInt8} (hd : o.dst = some d) (ho : o.op = .index 9 s ix) (hs : St.ev σ s = some (.one (sA l)))
    (hi : St.ev σ ix = some (.one (.c (.val (.int kk zi))))) (hb : l[i]? = some b) (hz : zi = (i : Int)) : Op1 Tryz.prog n o ⟨(opKey s ++ opKey ix) ++ (X.one (.c (.val (.int .u8 b.toNat)))).ids.map Key.b, [.t d], []⟩ σ [(.t d, some (.one (.c (.val (.int .u8 b.toNat)))))] := op_indexS hd ho isS hs hi hb hz
theorem op_slS1 {d lo : Nat} {s x : Operand} {l r : List UInt8} {kk : IntKind} {zi : Int} (hd : o.dst = some d) (ho : o.op = .slice 9 s (some x) none none) (hs : St.ev σ s = some (.one (sA l)))
    (hx : St.ev σ x = some (.one (.c (.val (.int kk zi))))) (hz : zi = (lo : Int)) (hlo : lo ≤ l.length) (hr : l.drop lo = r) : Op1 Tryz.prog n o ⟨(opKey s ++ opKey x) ++ (X.one (sA r)).ids.map Key.b, [.t d], []⟩ σ [(.t d, some (.one (sA r)))] := op_sliceS1 hd ho isS hs hx hz hlo hr
theorem op_slS0 {d hi : Nat} {s y : Operand} {l r : List UInt8} {kk : IntKind} {zi : Int} (hd : o.dst = some d) (ho : o.op = .slice 9 s none (some y) none) (hs : St.ev σ s = some (.one (sA l)))
    (hy : St.ev σ y = some (.one (.c (.val (.int kk zi))))) (hz : zi = (hi : Int)) (hhi : hi ≤ l.length) (hr : l.take hi = r) : Op1 Tryz.prog n o ⟨(opKey s ++ opKey y) ++ (X.one (sA r)).ids.map Key.b, [.t d], []⟩ σ [(.t d, some (.one (sA r)))] := op_sliceS0 hd ho isS hs hy hz hhi hr
theorem op_slS2 {d lo hi : Nat} {s x y : Operand} {l r : List UInt8} {kk kk' : IntKind} {zi zi' : Int} (hd : o.dst = some d) (ho : o.op = .slice 9 s (some x) (some y) none) (hs : St.ev σ s = some (.one (sA l)))
    (hx : St.ev σ x = some (.one (.c (.val (.int kk zi))))) (hy : St.ev σ y = some (.one (.c (.val (.int kk' zi'))))) (hz : zi = (lo : Int)) (hz' : zi' = (hi : Int)) (hlo : lo ≤ hi) (hhi : hi ≤ l.length) (hr : (l.drop lo).take (hi - lo) = r) :
    Op1 Tryz.prog n o ⟨(opKey s ++ (opKey x ++ opKey y)) ++ (X.one (sA r)).ids.map Key.b, [.t d], []⟩ σ [(.t d, some (.one (sA r)))] := op_sliceS2 hd ho isS hs hx hy hz hz' hlo hhi hr
theorem op_lenStr {d : Nat} {s : Operand} {l : List UInt8} (hd : o.dst = some d) (ho : o.op = .call { callee := .builtin .len, args := #[s], argTypes := #[9] }) (hs : St.ev σ s = some (.one (sA l))) :
    Op1 Tryz.prog n o ⟨opKey s ++ (X.one (iA l.length)).ids.map Key.b, [.t d], []⟩ σ [(.t d, some (.one (iA l.length)))] := op_lenS hd ho isS hs rfl
theorem kI : KeyT Tryz.prog 3 (Value.int .i64) := int_keyT isI
theorem tII : Tryz.prog.underlying 66 = some (.map 3 3) := by kernel_rfl
theorem op_mkII {d : Nat} (hd : o.dst = some d) (ho : o.op = .makeMap 66 none) (hq : Nat.ble (d + 2000000) 3999999 = true := by rfl) : Op1 Tryz.prog n o ⟨[], [.t d, .b (d + 2000000)], [d + 2000000]⟩ σ [(.t d, some (.one (.c (.mp (d + 2000000))))), (.b (d + 2000000), some (.box [mapC (Value.int .i64) []]))] := op_mkMap hd ho rfl hq
theorem op_lookII {d j : Nat} {s i : Operand} {l : List (Int × Value)} {k : Int} {x : Value} (hd : o.dst = some d) (ho : o.op = .lookup 66 s i false) (hs : St.ev σ s = some (.one (.c (.mp j)))) (hb : St.get σ (.b j) = some (.box [mapC (Value.int .i64) l])) (hi : St.ev σ i = some (.one (iA k))) (hj : Nat.ble j EXT = false) (hq : Nat.ble j 3999999 = true) (hx : (mGet l k).getD (.int .i64 0) = x) : Op1 Tryz.prog n o ⟨(opKey s ++ (opKey i ++ [.b j])) ++ (X.one (.c (.val x))).ids.map Key.b, [.t d], []⟩ σ [(.t d, some (.one (.c (.val x))))] := op_lookM hd ho kI tII zvI hs hb hi hj hq hx
theorem op_putII {j : Nat} {s i y : Operand} {l l' : List (Int × Value)} {k : Int} {x : Value} (hd : o.dst = none) (ho : o.op = .mapUpdate 66 s i y ∨ o.op = .insert 66 s i y) (hs : St.ev σ s = some (.one (.c (.mp j)))) (hb : St.get σ (.b j) = some (.box [mapC (Value.int .i64) l])) (hi : St.ev σ i = some (.one (iA k))) (hy : St.ev σ y = some (.one (.c (.val x)))) (hj : Nat.ble j EXT = false) (hq : Nat.ble j 3999999 = true) (hl : mPut l k x = l') : Op1 Tryz.prog n o ⟨opKey s ++ (opKey i ++ (opKey y ++ [.b j])), [.b j], []⟩ σ [(.b j, some (.box [mapC (Value.int .i64) l']))] := op_putM hd ho kI tII hs hb hi hy hj hq hl
theorem tIB : Tryz.prog.underlying 55 = some (.map 3 4) := by kernel_rfl
theorem op_mkIB {d : Nat} (hd : o.dst = some d) (ho : o.op = .makeMap 55 none) (hq : Nat.ble (d + 2000000) 3999999 = true := by rfl) : Op1 Tryz.prog n o ⟨[], [.t d, .b (d + 2000000)], [d + 2000000]⟩ σ [(.t d, some (.one (.c (.mp (d + 2000000))))), (.b (d + 2000000), some (.box [mapC (Value.int .i64) []]))] := op_mkMap hd ho rfl hq
theorem op_lookIB {d j : Nat} {s i : Operand} {l : List (Int × Value)} {k : Int} {x : Value} (hd : o.dst = some d) (ho : o.op = .lookup 55 s i false) (hs : St.ev σ s = some (.one (.c (.mp j)))) (hb : St.get σ (.b j) = some (.box [mapC (Value.int .i64) l])) (hi : St.ev σ i = some (.one (iA k))) (hj : Nat.ble j EXT = false) (hq : Nat.ble j 3999999 = true) (hx : (mGet l k).getD (.bool false) = x) : Op1 Tryz.prog n o ⟨(opKey s ++ (opKey i ++ [.b j])) ++ (X.one (.c (.val x))).ids.map Key.b, [.t d], []⟩ σ [(.t d, some (.one (.c (.val x))))] := op_lookM hd ho kI tIB zvB hs hb hi hj hq hx
theorem op_putIB {j : Nat} {s i y : Operand} {l l' : List (Int × Value)} {k : Int} {x : Value} (hd : o.dst = none) (ho : o.op = .mapUpdate 55 s i y ∨ o.op = .insert 55 s i y) (hs : St.ev σ s = some (.one (.c (.mp j)))) (hb : St.get σ (.b j) = some (.box [mapC (Value.int .i64) l])) (hi : St.ev σ i = some (.one (iA k))) (hy : St.ev σ y = some (.one (.c (.val x)))) (hj : Nat.ble j EXT = false) (hq : Nat.ble j 3999999 = true) (hl : mPut l k x = l') : Op1 Tryz.prog n o ⟨opKey s ++ (opKey i ++ (opKey y ++ [.b j])), [.b j], []⟩ σ [(.b j, some (.box [mapC (Value.int .i64) l']))] := op_putM hd ho kI tIB hs hb hi hy hj hq hl
end
end Go.Proofs.YtmanhdacnkpclaaGreat
/- Walks over abstract states: arrays of three numbers. -/
namespace Go.Proofs.YtmanhdacnkpclaaGreat
set_option linter.all false
open Go.RowKit
end Go.Proofs.YtmanhdacnkpclaaGreat
/- Full slice expressions and appends to them; pairs of terms in arrays. -/
namespace Go.Proofs.YtmanhdacnkpclaaGreat
set_option linter.all false
open Go.RowKit
section
variable {P : Program} {n : Nat} {o : Oper} {σ : St}
theorem op_slice3 {d T E m by_ l h : Nat} {z : Value} {s hi mx : Operand} {lo : Option Operand} {ds rs : List D} (hd : o.dst = some d) (ho : o.op = .slice T s lo (some hi) (some mx)) (hT : SliceOf P T E m by_ z) (hs : St.ev σ s = some (.one (.c (.arr ds))))
    (hlo : match lo with | some i => St.ev σ i = some (.one (.c (.val (.int .i64 (l : Int))))) | none => l = 0) (hhi : St.ev σ hi = some (.one (.c (.val (.int .i64 (h : Int)))))) (hmx : St.ev σ mx = some (.one (.c (.val (.int .i64 (h : Int))))))
    (hlh : l ≤ h) (hh : h ≤ ds.length) (hm : ∀ x ∈ ds, x.fc.length = m) (hrs : (ds.drop l).take (h - l) = rs) :
    Op1 P n o ⟨(opKey s ++ (lo.toList ++ [hi, mx]).flatMap opKey) ++ (X.one (.c (.full rs))).ids.map Key.b, [.t d], []⟩ σ [(.t d, some (.one (.c (.full rs))))] :=
  .value _ hd fun σ' hag C who a w hrp => by
    have hrd : rd w (Fz who) (.arr ds) [a.eval s] := hrp.ev ((ev_agree fun k hk => hag k (List.mem_append_left _ hk)).trans hs)
    have hrd0 := hrd
    obtain ⟨ad, cap, e, hcap, hmax, h3⟩ := hrd
    have e1 : a.eval s = .slice ad ds.length cap := by simpa using e
    obtain ⟨i', hi', hz0, hz1, hz2⟩ := info_parts hT.info
    have elo : ∀ i, lo = some i → a.eval i = .int .i64 (l : Int) := fun i hi0 => by
      subst hi0
      exact hrp.ev ((ev_agree fun k hk => hag k (List.mem_append_right _ (by simp [hk]))).trans hlo)
    have ehi : a.eval hi = .int .i64 (h : Int) := hrp.ev ((ev_agree fun k hk => hag k (List.mem_append_right _ (by simp [hk]))).trans hhi)
    have emx : a.eval mx = .int .i64 (h : Int) := hrp.ev ((ev_agree fun k hk => hag k (List.mem_append_right _ (by simp [hk]))).trans hmx)
    have hl2 : h ≤ cap := by omega
    have hb : (Instr.sliceBounds true ds.length cap (lo.map a.eval) (some (a.eval hi)) (some (a.eval mx))).run P w = .ok (l, h, h) w := by
      cases lo with
      | none =>
        simp only at hlo
        simp [Instr.sliceBounds, Instr.sliceBound, asIntOf, ehi, emx, hlo, hl2]
      | some j => simp [Instr.sliceBounds, Instr.sliceBound, asIntOf, elo j rfl, ehi, emx, hlh, hl2]
    have hsub := rd_sub (m := m) (l := l) (h := h) (by rw [e1] at hrd0; exact hrd0) hlh hh hm
    have hrl : rs.length = h - l := by rw [← hrs]; simp; omega
    rw [hrs] at hsub
    refine ⟨.slice (if h = l then ad else ad.map (·.add (l * m))) (h - l) (h - l), ?_, ⟨_, by rw [hrl]⟩, ?_⟩
    · simp [execOp, ho, e1, Instr.sliceAt, run_underlying hT.und, Instr.slice, hb, sizeOf, typeInfo, hi', hz1]
    · obtain ⟨a', c', e', q1, q2, q3⟩ := hsub
      simp only [List.cons.injEq, Value.slice.injEq, and_true] at e'
      obtain ⟨ea, _, ec⟩ := e'
      refine ⟨_, _, by rw [hrl], by omega, by omega, ?_⟩
      rcases Nat.eq_or_lt_of_le hlh with rfl | hlt
      · left; omega
      · rw [if_neg (by omega)] at ea
        rw [if_neg (by omega), ea]
        exact q3
theorem op_slice3T {T : Tabs P} {α : Type} {f : α → D} {m : Nat} {g : α → List FC} [FCs f m g] {l : List α} {d t E b h : Nat} {zh : Int} {s hi mx : Operand} (hd : o.dst = some d) (ho : o.op = .slice t s none (some hi) (some mx)) (hT : T.sl t = some (E, m, b)) (hs : St.ev σ s = some (.one (.c (.arr (l.map f)))))
    (hhi : St.ev σ hi = some (.one (.c (.val (.int .i64 zh))))) (hmx : St.ev σ mx = some (.one (.c (.val (.int .i64 zh))))) (hz : zh = (h : Int)) (hh : h ≤ l.length) :
    Op1 P n o ⟨(opKey s ++ (([] : List Operand) ++ [hi, mx]).flatMap opKey) ++ (X.one (.c (.full ((l.take h).map f)))).ids.map Key.b, [.t d], []⟩ σ [(.t d, some (.one (.c (.full ((l.take h).map f)))))] := by
  obtain ⟨z, hzz⟩ := T.sl_ok hT
  subst hz
  exact op_slice3 (lo := none) (l := 0) hd ho hzz hs rfl hhi hmx (Nat.zero_le _) (by simpa using hh) (FCs.lenL l) (by simp [List.map_take])
theorem op_appFull {d T E m by_ : Nat} {z : Value} {s y : Operand} {ds es rs : List D} (hd : o.dst = some d) (ho : o.op = .call { callee := .builtin .append, args := #[s, y], argTypes := #[T, T] }) (hT : SliceOf P T E m by_ z)
    (hs : St.ev σ s = some (.one (.c (.full ds)))) (hy : St.ev σ y = some (.one (.c (.arr es)))) (hmd : ∀ e ∈ ds, e.fc.length = m) (h1d : ∀ e ∈ ds, e.fc.all FC.oneOk = true) (hm : ∀ e ∈ es, e.fc.length = m) (h1 : ∀ e ∈ es, e.fc.all FC.oneOk = true)
    (hby : (ds.length + es.length) * by_ ≤ 140737488355328) (hlen : ds.length + es.length ≤ 140737488355328) (hpos : 0 < es.length) (hc : ds ++ es = rs) :
    Op1 P n o ⟨opKey s ++ opKey y, [.t d], []⟩ σ [(.t d, some (.one (.c (.own E m rs))))] where
  does := fun σ' hag hal C who a w hr hdst K Q hK => by
    subst hc
    obtain ⟨i', hi', hz0, hz1, hz2⟩ := info_parts hT.info
    obtain ⟨⟨ad, e1⟩, hrd⟩ : (∃ ad, a.eval s = .slice ad ds.length ds.length) ∧ rd w (Fz who) (.arr ds) [a.eval s] := hr.ev ((ev_agree fun k hk => hag k (List.mem_append_left _ hk)).trans hs)
    have hry : rd w (Fz who) (.arr es) [a.eval y] := hr.ev ((ev_agree fun k hk => hag k (List.mem_append_right _ hk)).trans hy)
    obtain ⟨A, c, olds, eu, hsrc, hone, hrds⟩ := src_of hrd hmd h1d
    obtain ⟨A', c', news, eu', hsrc', hone', hrds'⟩ := src_of hry hm h1
    rw [e1] at eu
    simp only [Value.slice.injEq, true_and] at eu
    obtain ⟨rfl, rfl⟩ := eu
    obtain ⟨b', o', rfl, hnews⟩ : ∃ b' o', A' = some ⟨b', o', none⟩ ∧ ∀ j u, news[j]? = some u → w.cell? ⟨b', o' + j, none⟩ = some u := by
      rcases hsrc'.2 with h0 | ⟨b, q, h, hc⟩
      · omega
      · exact ⟨b, q, h, hc⟩
    have hsr : Src P i'.size T (.slice (some ⟨b', o', none⟩) es.length c') es.length news w :=
      Src.ofSlice w hT.und ⟨b', o', none⟩ es.length c' news (by rw [hz1]; exact hsrc'.1) (fun j u hu => by rw [add_lit]; exact hnews j u hu) hone'
    have hold : (Builtin.firstCells i'.size ds.length (.slice ad ds.length ds.length)).run P w.drew = .ok olds.toArray w.drew := by
      rcases hsrc.2 with h0 | ⟨b, q, rfl, hc⟩
      · have : olds = [] := List.eq_nil_of_length_eq_zero (by rw [hsrc.1, h0, Nat.zero_mul])
        subst this
        rw [h0]
        cases ad with
        | none => exact run_firstCells_none w.drew i'.size 0 0 0
        | some ad => exact run_firstCells_some w.drew i'.size 0 ad 0 0 [] (by simp) (by simp)
      · exact run_firstCells_some w.drew i'.size ds.length ⟨b, q, none⟩ ds.length ds.length olds (by rw [hz1]; exact hsrc.1) (fun j u hu => by rw [add_lit]; simpa using hc j u hu)
    have hfit : Builtin.nextslicecap (ds.length + es.length) ds.length * i'.bytes ≤ 281474976710656 := growslice_fits (by omega) (by rw [hz2]; exact hby)
    have hrun0 := run_append_grow_src w T T o.type E i' z hT.und hi' hz0 ad ds.length ds.length olds hold (.slice (some ⟨b', o', none⟩) es.length c') es.length news hsr (by omega) (by omega) hfit
    generalize hcap : grownCap w (ds.length + es.length) ds.length E = cp at hrun0
    have hge : ds.length + es.length ≤ cp := by rw [← hcap]; exact grownCap_ge w _ _ _
    have hcm : cp ≤ maxLen := by rw [← hcap]; exact grownCap_le_maxLen w _ _ _ (by simp only [maxLen]; omega)
    generalize hcur : (olds ++ news).toArray ++ Builtin.zeroCells z.cells (cp - (ds.length + es.length)) = cur at hrun0
    have hcurl : cur.size = cp * m := by
      rw [← hcur]
      simp only [Array.size_append, List.size_toArray, size_zeroCells, List.length_append, hsrc.1, hsrc'.1, hT.zsize, ← Nat.add_mul]
      congr 1; omega
    have hlen' : (olds ++ news).length = (ds.length + es.length) * m := by rw [List.length_append, hsrc.1, hsrc'.1, Nat.add_mul]
    have hrun : (execOp a.eval o).run P w = .ok (.value (.slice (some ⟨w.heap.size, 0, none⟩) (ds.length + es.length) cp)) (w.drew.alloc (.cells cur E)) := by
      simp only [execOp, ho, resolve, invoke, builtin, Sem.run_bind, Sem.run_pure, Result.andThen_ok, List.map_toArray, List.map_cons, List.map_nil, e1, eu', hrun0]
    unfold Oper.wp
    rw [hrun]
    show K (a.put o.dst _) _
    have hnew : who w.heap.size = .other := by
      rcases Classical.em (who w.heap.size = .other) with h | h
      · exact h
      · exact absurd (hr.fz _ h) (Nat.lt_irrefl _)
    have hheap : ∀ b, b < w.heap.size → (w.drew.alloc (.cells cur E)).heap[b]? = w.heap[b]? := fun b hb => Below.heap_alloc w.drew _ b hb
    have hstp : Stp who w (fun b => if b = w.heap.size then .own (.t d) 0 0 else who b) (w.drew.alloc (.cells cur E)) (fun _ => False) (fun _ => False) :=
      ⟨rfl, rfl, rfl, by simp, fun b hb _ => hheap b hb, fun b hb _ => by rw [if_neg (by omega)], fun _ h => h.elim, fun _ h => h.elim⟩
    refine hK (fun b => if b = w.heap.size then .own (.t d) 0 0 else who b) _ _ ?_
    rw [hd]
    have hr1 := hr.stp hstp (fun _ _ _ => ⟨fun h => h, fun h => h⟩) (fun _ _ _ _ h => h) (fun b hb => by
      split at hb
      · rename_i h; subst h; simp
      · have := hr.fz b hb; simp; omega) (fun b b' j hb hb' => by
      split at hb
      · cases hb
      · split at hb'
        · cases hb'
        · exact hr.bxu b b' j hb hb') (fun _ _ _ _ _ h => by rcases h with h | h <;> exact h.elim) (fun _ _ _ h => h.elim) (fun _ _ _ h => by rcases h with h | h <;> exact h.elim) (fun b j hb hnb => by
      split at hb
      · cases hb
      · exact absurd hb hnb)
    refine hr1.put (hdst d hd) (x := .one (.c (.own E m (ds ++ es)))) ?_
    refine ⟨⟨olds ++ news, ⟨by rw [hlen', List.length_append], .inr ⟨w.heap.size, cp, cur, by rw [List.length_append], Nat.zero_le _, heap_alloc_new w.drew _, by rw [List.length_append]; exact hge, hcm, hcurl, ?_⟩⟩, ?_, fun u hu => ?_⟩, fun k hk => ?_⟩
    · rw [show (ds ++ es).length * m = (olds ++ news).length by rw [hlen', List.length_append], ← hcur]
      rw [Array.toList_append]
      exact List.take_left
    · refine (rds.append hrds hrds').keep ?_ (fun b hb hF => ?_) (fun b hb _ => hheap b hb)
      · simp
      · refine ⟨?_, ?_⟩
        · show (if b = w.heap.size then Tag.own (.t d) 0 0 else who b) = .froz
          rw [if_neg (by omega)]; exact hF
        · simp only [Value.ownBlock, ne_eq, Option.some.injEq]; omega
    · rcases List.mem_append.1 hu with hu | hu
      · exact hone u hu
      · exact hone' u hu
    · simp only [Value.ownBlock, Option.some.injEq] at hk
      subst hk; simp
  wr := by simp
  me := fun j hj => by simp [St.ids, oids, X.ids, A1.ids, CV.ids] at hj
  al := by simp
theorem op_appFullT {T : Tabs P} {α : Type} {f : α → D} {m : Nat} {g : α → List FC} [FCs f m g] {l es rs : List α} {d t E b : Nat} {s y : Operand} (hd : o.dst = some d) (ho : o.op = .call { callee := .builtin .append, args := #[s, y], argTypes := #[t, t] }) (hT : T.sl t = some (E, m, b))
    (hs : St.ev σ s = some (.one (.c (.full (l.map f))))) (hy : St.ev σ y = some (.one (.c (.arr (es.map f))))) (hc : l ++ es = rs) (hby : rs.length * b ≤ 140737488355328) (hb : b ≠ 0) (hpos : 0 < es.length) :
    Op1 P n o ⟨opKey s ++ opKey y, [.t d], []⟩ σ [(.t d, some (.one (.c (.own E m (rs.map f)))))] := by
  obtain ⟨z, hz⟩ := T.sl_ok hT
  subst hc
  have h2 : (l ++ es).length ≤ 140737488355328 := Nat.le_trans (Nat.le_mul_of_pos_right _ (Nat.pos_of_ne_zero hb)) hby
  rw [List.length_append] at hby h2
  exact op_appFull hd ho hz hs hy (FCs.lenL l) (FCs.oneL l) (FCs.lenL es) (FCs.oneL es) (by simpa using hby) (by simpa using h2) (by simpa using hpos) (by simp)
theorem op_idxFA {d T len E m k : Nat} {s i : Operand} {kk : IntKind} {zi : Int} {cs cs' : List FC} (hd : o.dst = some d) (ho : o.op = .indexAddr T s i) (hT : P.underlying T = some (.array len E)) (hE : (P.info? E).map (·.size) = some m) (hs : St.ev σ s = some (.one (.c (.fp cs))))
    (hi : St.ev σ i = some (.one (.c (.val (.int kk zi))))) (hz : zi = (k : Int)) (hk : k < len) (hc : cs.drop (k * m) = cs') :
    Op1 P n o ⟨(opKey s ++ opKey i) ++ (X.one (.c (.fp cs'))).ids.map Key.b, [.t d], []⟩ σ [(.t d, some (.one (.c (.fp cs'))))] :=
  .value _ hd fun σ' hag C who a w hrp => by
    have e2 : a.eval i = .int kk zi := hrp.ev ((ev_agree fun k hk => hag k (List.mem_append_right _ hk)).trans hi)
    obtain ⟨b, q, e, hb, h⟩ := hrp.ev ((ev_agree fun k hk => hag k (List.mem_append_left _ hk)).trans hs)
    subst hz hc
    obtain ⟨i', hi', hsz⟩ := Option.map_eq_some_iff.1 hE
    refine ⟨.pointer (some ⟨b, q + k * m, none⟩), ?_, b, q + k * m, rfl, hb, fun i c hi => ?_⟩
    · simp [execOp, ho, e, e2, Instr.indexAt, run_underlying hT, asIntOf, Instr.sureAddr, sizeOf, typeInfo, hi', hsz, hk, add_lit]
    · rw [List.getElem?_drop] at hi
      rw [Nat.add_assoc]; exact h _ c hi
end
def Tw.d (p : Tm × Tm) : D := .agg [p.1.d, p.2.d]
theorem Tw_fc (p : Tm × Tm) : (Tw.d p).fc = [.val (.bool p.1.var), .val (.int .i64 p.1.n), .arr (p.1.args.map Tm.d), .val (.bool p.2.var), .val (.int .i64 p.2.n), .arr (p.2.args.map Tm.d)] := by
  simp [Tw.d, D.fc, fcs, Tm_fc]
instance : FCs Tw.d 6 (fun p => [.val (.bool p.1.var), .val (.int .i64 p.1.n), .arr (p.1.args.map Tm.d), .val (.bool p.2.var), .val (.int .i64 p.2.n), .arr (p.2.args.map Tm.d)]) := ⟨Tw_fc, fun _ => rfl, fun _ => rfl⟩
theorem ar2 : Tryz.prog.underlying 128 = some (.array 2 75) := by kernel_rfl
theorem ar2E : (Tryz.prog.info? 75).map (·.size) = some 3 := by kernel_rfl
theorem ar2Z : zeroOf Tryz.prog 128 = some [.bool false, .int .i64 0, .slice none 0 0, .bool false, .int .i64 0, .slice none 0 0] := by kernel_rfl
section
variable {n : Nat} {o : Oper} {σ : St}
theorem op_b2 {d : Nat} {ps : Array (Nat × Operand)} {cs : List CV} (hd : o.dst = some d) (ho : o.op = .build 128 ps) (hb : buildC σ [(0, 3), (3, 3)] ps.toList [.val (.bool false), .val (.int .i64 0), .val (.slice none 0 0), .val (.bool false), .val (.int .i64 0), .val (.slice none 0 0)] = some cs) :
    Op1 Tryz.prog n o ⟨partKeys ps.toList ++ (X.one (.agg cs)).ids.map Key.b, [.t d], []⟩ σ [(.t d, some (.one (.agg cs)))] :=
  op_buildA (pl := [(0, 3), (3, 3)]) hd ho ar2 ar2E rfl ar2Z rfl hb
theorem op_idx2 {d k : Nat} {s i : Operand} {kk : IntKind} {zi : Int} {cs : List FC} (hd : o.dst = some d) (ho : o.op = .indexAddr 128 s i) (hs : St.ev σ s = some (.one (.c (.fp cs)))) (hi : St.ev σ i = some (.one (.c (.val (.int kk zi))))) (hz : zi = (k : Int)) (hk : k < 2) :
    Op1 Tryz.prog n o ⟨(opKey s ++ opKey i) ++ (X.one (.c (.fp (cs.drop (k * 3))))).ids.map Key.b, [.t d], []⟩ σ [(.t d, some (.one (.c (.fp (cs.drop (k * 3))))))] := op_idxFA hd ho ar2 ar2E hs hi hz hk rfl
end
end Go.Proofs.YtmanhdacnkpclaaGreat
/- Texts of bytes and of runes; fields of values. -/
namespace Go.Proofs.YtmanhdacnkpclaaGreat
set_option linter.all false
open Go.RowKit
def U8.d (b : UInt8) : D := .lit (.int .u8 b.toNat)
theorem U8_fc (b : UInt8) : (U8.d b).fc = [.val (.int .u8 b.toNat)] := by simp [U8.d, D.fc]
instance : FCs U8.d 1 (fun b => [.val (.int .u8 b.toNat)]) := ⟨U8_fc, fun _ => rfl, fun _ => rfl⟩
def Str.d (l : List UInt8) : D := .lit (.string ⟨l.toArray⟩)
theorem Str_fc (l : List UInt8) : (Str.d l).fc = [.val (.string ⟨l.toArray⟩)] := by simp [Str.d, D.fc]
instance : FCs Str.d 1 (fun l => [.val (.string ⟨l.toArray⟩)]) := ⟨Str_fc, fun _ => rfl, fun _ => rfl⟩
section
variable {P : Program} {n : Nat} {o : Oper} {σ : St}
end
section
variable {n : Nat} {o : Oper} {σ : St}
end
end Go.Proofs.YtmanhdacnkpclaaGreat
