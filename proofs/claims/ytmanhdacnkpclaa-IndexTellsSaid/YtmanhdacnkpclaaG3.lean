/- Walks over abstract states: what each operation does. -/
import Derived.Test.YtmanhdacnkpclaaG2
import Derived.Deep.MidRow
namespace Go.Proofs.Ytmanhdacnkpclaa
set_option linter.unusedVariables false
set_option linter.unusedSimpArgs false
open Go.RowKit

def CV.noOwn : CV → Bool
  | .own .. => false
  | _ => true
def CV.oneOk : CV → Bool
  | .any => false
  | .val v => v.oneCell'
  | _ => true
def A1.noOwn : A1 → Bool
  | .c x => x.noOwn
  | .agg cs => cs.all CV.noOwn
def X.noOwn : X → Bool
  | .one a => a.noOwn
  | .tup as => as.all A1.noOwn
  | .box _ => false
def A1.cells : A1 → List CV
  | .c x => [x]
  | .agg cs => cs

theorem cvm.re {w : World} {who : Nat → Tag} {p p' : Tag} {c : CV} {u : Value} (hn : c.noOwn = true) (h : cvm w who p c u) : cvm w who p' c u := by
  cases c <;> first | exact h | (simp [CV.noOwn] at hn)
theorem A1m.re {w : World} {who : Nat → Tag} {k k' : Key} {p p' : Nat} {A : A1} {u : Value} (hn : A.noOwn = true) (h : A1m w who k p A u) : A1m w who k' p' A u := by
  cases A with
  | c x => exact cvm.re hn h
  | agg cs =>
    obtain ⟨vs, rfl, hl, hc⟩ := h
    exact ⟨vs, rfl, hl, fun q c v hq hv => ⟨cvm.re (List.all_eq_true.1 hn c (List.mem_of_getElem? hq)) (hc q c v hq hv).1, (hc q c v hq hv).2⟩⟩
theorem Xm.re {w : World} {who : Nat → Tag} {k k' : Key} {x : X} {u : Value} (hn : x.noOwn = true) (h : Xm w who k x u) : Xm w who k' x u := by
  cases x with
  | one a => exact A1m.re hn h
  | tup as =>
    obtain ⟨us, rfl, hl, hc⟩ := h
    exact ⟨us, rfl, hl, fun p a v hp hv => A1m.re (List.all_eq_true.1 hn a (List.mem_of_getElem? hp)) (hc p a v hp hv)⟩
  | box cs => trivial
theorem rd_arr_one {w : World} {S : Nat → Prop} {ds : List D} {u : Value} (h : rd w S (.arr ds) [u]) : ∃ a c, u = .slice a ds.length c := by
  obtain ⟨a, c, e, _⟩ := h
  exact ⟨a, c, by simpa using e⟩
theorem Own.form {w : World} {B E m : Nat} {S : Nat → Prop} {v : Value} {ds : List D} (h : Own w B E m S v ds) : ∃ a c, v = .slice a ds.length c := by
  obtain ⟨xs, ⟨_, h⟩, _⟩ := h
  rcases h with ⟨rfl, e⟩ | ⟨g, cap, cur, rfl, _⟩
  · exact ⟨none, 0, by rw [e]⟩
  · exact ⟨_, _, rfl⟩
theorem cvm.one {w : World} {who : Nat → Tag} {p : Tag} {c : CV} {u : Value} (hn : c.oneOk = true) (h : cvm w who p c u) : u.oneCell' = true := by
  cases c with
  | any => simp [CV.oneOk] at hn
  | val v => simp only [cvm] at h; subst h; exact hn
  | arr ds => obtain ⟨a, c, rfl⟩ := rd_arr_one h; rfl
  | own E m ds => obtain ⟨a, c, rfl⟩ := h.1.form; rfl
  | ptr j o => obtain ⟨b, rfl, _⟩ := h; rfl
  | fp cs => obtain ⟨b, o, rfl, _⟩ := h; rfl
theorem cells_one {u : Value} (h : u.oneCell' = true) : u.cells = #[u] := by cases u <;> simp_all [Value.cells, Value.oneCell']

/-- the cells of a value -/
theorem A1m.cells {w : World} {who : Nat → Tag} {k : Key} {p : Nat} {A : A1} {u : Value} (h : A1m w who k p A u) (hok : A.cells.all CV.oneOk = true) :
    u.cells.toList.length = A.cells.length ∧ (∀ q c v, A.cells[q]? = some c → u.cells.toList[q]? = some v → cvm w who (.own k p q) c v) ∧ ∀ v ∈ u.cells.toList, v.oneCell' = true := by
  cases A with
  | c x =>
    have h1 : x.oneOk = true := by simpa [A1.cells] using hok
    have h2 := cvm.one h1 h
    rw [cells_one h2]
    refine ⟨rfl, fun q c v hq hv => ?_, by simpa using h2⟩
    cases q with
    | zero => simp [A1.cells] at hq hv; subst hq hv; exact h
    | succ q => simp [A1.cells] at hq
  | agg cs =>
    obtain ⟨vs, rfl, hl, hc⟩ := h
    refine ⟨hl, fun q c v hq hv => (hc q c v hq (by simpa [Value.cells] using hv)).1, fun v hv => ?_⟩
    have hv' : v ∈ vs := by simpa [Value.cells] using hv
    obtain ⟨q, hq, rfl⟩ := List.getElem_of_mem hv'
    exact (hc q _ _ (List.getElem?_eq_getElem (hl ▸ hq)) (List.getElem?_eq_getElem hq)).2

section
variable {P : Program} {n : Nat} {o : Oper} {σ : St}

/-- an operation that only yields a value -/
theorem Op1.value {d : Nat} {x : X} (ks : List Key) (hd : o.dst = some d)
    (h : ∀ σ', (∀ k ∈ ks, St.get σ' k = St.get σ k) → ∀ C who a w, Rep n C who σ' a w → ∃ v, (execOp a.eval o).run P w = .ok (.value v) w ∧ Xm w who (.t d) x v) :
    Op1 P n o ⟨ks ++ x.ids.map Key.b, [.t d], []⟩ σ [(.t d, some x)] where
  does := fun σ' hag _ C who a w hr hdst K Q hK => by
    obtain ⟨v, hv, hx⟩ := h σ' (fun k hk => hag k (List.mem_append_left _ hk)) C who a w hr
    unfold Oper.wp
    rw [hv]
    show K (a.put o.dst v) w
    refine hK who v w ?_
    rw [hd]
    exact hr.put (hdst d hd) hx
  wr := by simp
  me := fun j hj => by
    left
    have hj' : j ∈ x.ids := by simpa [St.ids, oids] using hj
    exact List.mem_append_right _ (List.mem_map.2 ⟨j, hj', rfl⟩)
  al := by simp

theorem op_move {d : Nat} {s : Operand} {x : X} (hd : o.dst = some d) (ho : o.op = .move s ∨ o.op = .assign s) (hs : St.ev σ s = some x) (hn : x.noOwn = true) :
    Op1 P n o ⟨opKey s ++ x.ids.map Key.b, [.t d], []⟩ σ [(.t d, some x)] :=
  .value (opKey s) hd fun σ' hag C who a w hr => ⟨a.eval s, by rcases ho with ho | ho <;> simp [execOp, ho], (hr.ev ((ev_agree hag).trans hs)).re hn⟩

def St.vv (σ : St) (s : Operand) : Value :=
  match St.ev σ s with
  | some (.one (.c (.val v))) => v
  | _ => undef
def St.isv (σ : St) (s : Operand) : Bool :=
  match St.ev σ s with
  | some (.one (.c (.val _))) => true
  | _ => false
theorem St.isv_vv {σ : St} {s : Operand} (h : St.isv σ s = true) : St.ev σ s = some (.one (.c (.val (St.vv σ s)))) := by
  unfold St.isv at h
  unfold St.vv
  split at h
  · rename_i v e; rw [e]
  · cases h
/-- an operation on values that are known -/
theorem op_pure {d : Nat} {v : Value} (hd : o.dst = some d) (hsel : ∀ cs b, o.op ≠ .select cs b) (hv : o.op.operands.toList.all (St.isv σ) = true) (hrun : ∀ w, (execOp (St.vv σ) o).run P w = .ok (.value v) w) :
    Op1 P n o ⟨o.op.operands.toList.flatMap opKey ++ (X.one (.c (.val v))).ids.map Key.b, [.t d], []⟩ σ [(.t d, some (.one (.c (.val v))))] :=
  .value _ hd fun σ' hag C who a w hr => by
    refine ⟨v, ?_, rfl⟩
    rw [← hrun w]
    congr 1
    refine execOp_congr o hsel fun s hs => ?_
    have h1 := St.isv_vv (List.all_eq_true.1 hv s (by simpa using hs))
    have h2 : St.ev σ' s = St.ev σ s := ev_agree fun k hk => hag k (List.mem_flatMap.2 ⟨s, by simpa using hs, hk⟩)
    exact hr.ev (h2.trans h1)

/-- an operator on two values -/
structure Bin (P : Program) (op : BinOp) (T : TypeId) (x y v : Value) : Prop where
  run : ∀ (s1 s2 : Operand) (w : World), (do eqGuard op T s1 s2 x y; binOp op T x y : Sem Value).run P w = .ok v w
theorem op_bin {d : Nat} {op : BinOp} {T T' : TypeId} {s1 s2 : Operand} {x y v : Value} (hd : o.dst = some d) (ho : o.op = .binOp op T s1 s2 T') (h1 : St.ev σ s1 = some (.one (.c (.val x)))) (h2 : St.ev σ s2 = some (.one (.c (.val y))))
    (hb : Bin P op T x y v) : Op1 P n o ⟨(opKey s1 ++ opKey s2) ++ (X.one (.c (.val v))).ids.map Key.b, [.t d], []⟩ σ [(.t d, some (.one (.c (.val v))))] :=
  .value _ hd fun σ' hag C who a w hr => by
    have e1 : a.eval s1 = x := hr.ev ((ev_agree fun k hk => hag k (List.mem_append_left _ hk)).trans h1)
    have e2 : a.eval s2 = y := hr.ev ((ev_agree fun k hk => hag k (List.mem_append_right _ hk)).trans h2)
    refine ⟨v, ?_, rfl⟩
    have := hb.run s1 s2 w
    simp only [execOp, ho, e1, e2, Sem.run_bind] at this ⊢
    rw [this]; rfl
section
variable {T : TypeId}
theorem bin_add {a b c : Int} (h : a + b = c) (h0 : -9223372036854775808 ≤ c ∧ c ≤ 9223372036854775807) : Bin P .add T (.int .i64 a) (.int .i64 b) (.int .i64 c) := .mk fun s1 s2 w => by
  subst h
  have e : IntKind.i64.wrap (a + b) = a + b := IntWalk.i64_in _ h0
  simp [eqGuard, binOp, Op.intArith, e]
theorem bin_sub {a b c : Int} (h : a - b = c) (h0 : -9223372036854775808 ≤ c ∧ c ≤ 9223372036854775807) : Bin P .sub T (.int .i64 a) (.int .i64 b) (.int .i64 c) := .mk fun s1 s2 w => by
  subst h
  have e : IntKind.i64.wrap (a - b) = a - b := IntWalk.i64_in _ h0
  simp [eqGuard, binOp, Op.intArith, e]
theorem bin_mul {a b c : Int} (h : a * b = c) (h0 : -9223372036854775808 ≤ c ∧ c ≤ 9223372036854775807) : Bin P .mul T (.int .i64 a) (.int .i64 b) (.int .i64 c) := .mk fun s1 s2 w => by
  subst h
  have e : IntKind.i64.wrap (a * b) = a * b := IntWalk.i64_in _ h0
  simp [eqGuard, binOp, Op.intArith, e]
theorem bin_addw {a b : Int} : Bin P .add T (.int .i64 a) (.int .i64 b) (.int .i64 (wrap64 (a + b))) := .mk fun s1 s2 w => by
  simp [eqGuard, binOp, Op.intArith, IntWalk.i64_left]
theorem bin_lss {k : IntKind} {a b : Int} {r : Bool} (h : decide (a < b) = r) : Bin P .lss T (.int k a) (.int k b) (.bool r) := .mk fun s1 s2 w => by subst h; simp [eqGuard, binOp, Op.intCmp]
theorem bin_leq {k : IntKind} {a b : Int} {r : Bool} (h : decide (a ≤ b) = r) : Bin P .leq T (.int k a) (.int k b) (.bool r) := .mk fun s1 s2 w => by subst h; simp [eqGuard, binOp, Op.intCmp]
theorem bin_gtr {k : IntKind} {a b : Int} {r : Bool} (h : decide (b < a) = r) : Bin P .gtr T (.int k a) (.int k b) (.bool r) := .mk fun s1 s2 w => by subst h; simp [eqGuard, binOp, Op.intCmp]
theorem bin_geq {k : IntKind} {a b : Int} {r : Bool} (h : decide (b ≤ a) = r) : Bin P .geq T (.int k a) (.int k b) (.bool r) := .mk fun s1 s2 w => by subst h; simp [eqGuard, binOp, Op.intCmp]
theorem bin_eql {k : IntKind} {a b : Int} {r : Bool} (h : decide (a = b) = r) : Bin P .eql T (.int k a) (.int k b) (.bool r) := .mk fun s1 s2 w => by
  subst h; simp [eqGuard, binOp, Op.intCmp]; rw [Bool.eq_iff_iff]; simp
theorem bin_neq {k : IntKind} {a b : Int} {r : Bool} (h : (!decide (a = b)) = r) : Bin P .neq T (.int k a) (.int k b) (.bool r) := .mk fun s1 s2 w => by
  subst h; simp [eqGuard, binOp, Op.intCmp]; rw [Bool.eq_iff_iff]; simp
theorem bin_eqlS {a b : ByteArray} {r : Bool} (h : (a.toList == b.toList) = r) : Bin P .eql T (.string a) (.string b) (.bool r) := .mk fun s1 s2 w => by
  subst h; simp [eqGuard, binOp, Op.stringOp]
theorem bin_neqS {a b : ByteArray} {r : Bool} (h : (!(a.toList == b.toList)) = r) : Bin P .neq T (.string a) (.string b) (.bool r) := .mk fun s1 s2 w => by
  subst h; simp [eqGuard, binOp, Op.stringOp]
end
theorem op_not {d : Nat} {T : TypeId} {s : Operand} {x : Bool} (hd : o.dst = some d) (ho : o.op = .unOp .not T s) (h1 : St.ev σ s = some (.one (.c (.val (.bool x))))) {r : Bool} (hr : (!x) = r) :
    Op1 P n o ⟨opKey s ++ (X.one (.c (.val (.bool r)))).ids.map Key.b, [.t d], []⟩ σ [(.t d, some (.one (.c (.val (.bool r)))))] :=
  .value _ hd fun σ' hag C who a w hrp => by
    have e1 : a.eval s = .bool x := hrp.ev ((ev_agree hag).trans h1)
    exact ⟨.bool r, by subst hr; simp [execOp, ho, e1, Op.unary], rfl⟩

def CV.len : CV → Option Nat
  | .arr ds => some ds.length
  | .own _ _ ds => some ds.length
  | .val (.slice _ m _) => some m
  | _ => none
theorem cvm.len {w : World} {who : Nat → Tag} {p : Tag} {c : CV} {u : Value} {m : Nat} (hl : c.len = some m) (h : cvm w who p c u) : ∃ a cap, u = .slice a m cap := by
  cases c with
  | arr ds => simp only [CV.len, Option.some.injEq] at hl; subst hl; exact rd_arr_one h
  | own E m ds => simp only [CV.len, Option.some.injEq] at hl; subst hl; exact h.1.form
  | val v =>
    have h' : u = v := h
    rw [h']
    cases v <;> simp [CV.len] at hl
    subst hl; exact ⟨_, _, rfl⟩
  | _ => simp [CV.len] at hl
theorem op_len {d : Nat} {T E : TypeId} {s : Operand} {c : CV} {m : Nat} {k : Int} (hd : o.dst = some d) (ho : o.op = .call { callee := .builtin .len, args := #[s], argTypes := #[T] }) (hT : P.underlying T = some (.slice E))
    (hs : St.ev σ s = some (.one (.c c))) (hl : c.len = some m) (hk : (m : Int) = k) :
    Op1 P n o ⟨opKey s ++ (X.one (.c (.val (.int .i64 k)))).ids.map Key.b, [.t d], []⟩ σ [(.t d, some (.one (.c (.val (.int .i64 k)))))] :=
  .value _ hd fun σ' hag C who a w hr => by
    obtain ⟨ad, cap, e⟩ := cvm.len hl (hr.ev ((ev_agree hag).trans hs))
    refine ⟨_, ?_, rfl⟩
    subst hk
    simp [execOp, ho, e, resolve, invoke, builtin, Builtin.len_, run_underlying hT, goInt]

def fieldOff (P : Program) (S f : Nat) : Option Nat :=
  match P.underlying S with
  | some (.struct fields) => (fields[f]?).bind fun fl => (P.info? fl.type).bind fun i => if i.size = 0 then none else some fl.offset
  | _ => none
theorem run_fieldAt {S f off : Nat} (h : fieldOff P S f = some off) (b q : Nat) (w : World) : (Instr.fieldAt S (.pointer (some ⟨b, q, none⟩)) f).run P w = .ok (.pointer (some ⟨b, q + off, none⟩)) w := by
  unfold fieldOff at h
  split at h
  · rename_i fields hu
    obtain ⟨fl, hf, h⟩ := Option.bind_eq_some_iff.1 h
    obtain ⟨i, hi, h⟩ := Option.bind_eq_some_iff.1 h
    split at h
    · cases h
    · rename_i hz
      injection h with h
      simp [Instr.fieldAt, run_underlying hu, hf, Instr.sureAddr, fieldPlace, sizeOf, typeInfo, hi, hz, add_lit, h]
  · cases h
theorem op_fldF {d S f off : Nat} {s : Operand} {cs cs' : List FC} (hd : o.dst = some d) (ho : o.op = .fieldAddr S s f) (hf : fieldOff P S f = some off) (hs : St.ev σ s = some (.one (.c (.fp cs)))) (hc : cs.drop off = cs') :
    Op1 P n o ⟨opKey s ++ (X.one (.c (.fp cs'))).ids.map Key.b, [.t d], []⟩ σ [(.t d, some (.one (.c (.fp cs'))))] :=
  .value _ hd fun σ' hag C who a w hr => by
    obtain ⟨b, q, e, hb, h⟩ := hr.ev ((ev_agree hag).trans hs)
    refine ⟨.pointer (some ⟨b, q + off, none⟩), by simp [execOp, ho, e, run_fieldAt hf], b, q + off, rfl, hb, fun i c hi => ?_⟩
    subst hc
    rw [List.getElem?_drop] at hi
    rw [Nat.add_assoc]; exact h _ c hi
theorem op_fldB {d S f off j q q' : Nat} {s : Operand} (hd : o.dst = some d) (ho : o.op = .fieldAddr S s f) (hf : fieldOff P S f = some off) (hs : St.ev σ s = some (.one (.c (.ptr j q)))) (hq : q + off = q') :
    Op1 P n o ⟨opKey s ++ (X.one (.c (.ptr j q'))).ids.map Key.b, [.t d], []⟩ σ [(.t d, some (.one (.c (.ptr j q'))))] :=
  .value _ hd fun σ' hag C who a w hr => by
    obtain ⟨b, e, hb⟩ := hr.ev ((ev_agree hag).trans hs)
    subst hq
    exact ⟨.pointer (some ⟨b, q + off, none⟩), by simp [execOp, ho, e, run_fieldAt hf], b, rfl, hb⟩

/-- is a type's value a row of cells? -/
def rowT (P : Program) (t : Nat) : Option (Bool × Nat) := (P.underlying t).bind fun d => (P.info? t).map fun i => (d.isRow, i.size)
theorem rowT_parts {t m : Nat} {r : Bool} (h : rowT P t = some (r, m)) : ∃ d i, P.underlying t = some d ∧ d.isRow = r ∧ P.info? t = some i ∧ i.size = m := by
  unfold rowT at h
  obtain ⟨d, hu, h⟩ := Option.bind_eq_some_iff.1 h
  obtain ⟨i, hi, h⟩ := Option.map_eq_some_iff.1 h
  injection h with h1 h2
  exact ⟨d, i, hu, h1, hi, h2⟩
theorem run_load1 {t m : Nat} (h : rowT P t = some (false, m)) {b q : Nat} {w : World} {x : Value} (hx : w.cell? ⟨b, q, none⟩ = some x) : (Instr.loadAt t (.pointer (some ⟨b, q, none⟩))).run P w = .ok x w := by
  obtain ⟨d, i, hu, hr, hi, rfl⟩ := rowT_parts h
  have hagg : (isAgg t).run P w = .ok false w := by
    unfold isAgg
    rw [Sem.run_bind, run_underlying hu w]
    cases d <;> simp_all [TypeDesc.isRow]
  simp [Instr.loadAt, Instr.sureAddr, loadVar, hagg, load, Sem.run, hx]
theorem run_loadN {t m : Nat} (h : rowT P t = some (true, m)) {b q : Nat} {w : World} {cs : List Value} (hl : cs.length = m) (hx : ∀ j v, cs[j]? = some v → w.cell? ⟨b, q + j, none⟩ = some v) :
    (Instr.loadAt t (.pointer (some ⟨b, q, none⟩))).run P w = .ok (.agg cs.toArray) w := by
  obtain ⟨d, i, hu, hr, hi, hm⟩ := rowT_parts h
  exact run_loadAt_mid w b q t cs d hx hu hr (by rw [hi]; simp [hm, hl])

theorem op_load1F {d t m : Nat} {s : Operand} {c : FC} {cs : List FC} (hd : o.dst = some d) (ho : o.op = .load t s) (hr : rowT P t = some (false, m)) (hs : St.ev σ s = some (.one (.c (.fp (c :: cs))))) {c' : CV} (hc : c.cv = c') :
    Op1 P n o ⟨opKey s ++ (X.one (.c c')).ids.map Key.b, [.t d], []⟩ σ [(.t d, some (.one (.c c')))] :=
  .value _ hd fun σ' hag C who a w hrp => by
    obtain ⟨b, q, e, hb, h⟩ := hrp.ev ((ev_agree hag).trans hs)
    obtain ⟨x, hx, hcm⟩ := h 0 c rfl
    rw [Nat.add_zero] at hx
    subst hc
    exact ⟨x, by simp [execOp, ho, e, run_load1 hr hx], by cases c <;> exact hcm⟩
theorem op_loadNF {d t m : Nat} {s : Operand} {cs : List FC} (hd : o.dst = some d) (ho : o.op = .load t s) (hr : rowT P t = some (true, m)) (hs : St.ev σ s = some (.one (.c (.fp cs)))) {cs' : List CV} (hc : (cs.take m).map FC.cv = cs') (hl : cs'.length = m)
    (hok : cs'.all CV.oneOk = true) : Op1 P n o ⟨opKey s ++ (X.one (.agg cs')).ids.map Key.b, [.t d], []⟩ σ [(.t d, some (.one (.agg cs')))] :=
  .value _ hd fun σ' hag C who a w hrp => by
    obtain ⟨b, q, e, hb, h⟩ := hrp.ev ((ev_agree hag).trans hs)
    subst hc
    have hl' : m ≤ cs.length := by rw [List.length_map, List.length_take] at hl; omega
    have hex : ∀ i, i < m → ∃ x, w.cell? ⟨b, q + i, none⟩ = some x ∧ ∀ c, cs[i]? = some c → fcm w (Fz who) c x := fun i hi => by
      obtain ⟨x, hx, hcm⟩ := h i cs[i] (List.getElem?_eq_getElem (by omega))
      refine ⟨x, hx, fun c hc => ?_⟩
      rw [List.getElem?_eq_getElem (by omega)] at hc; injection hc with hc; subst hc; exact hcm
    obtain ⟨vs, hvl, hvs⟩ : ∃ vs : List Value, vs.length = m ∧ ∀ i x, vs[i]? = some x → w.cell? ⟨b, q + i, none⟩ = some x ∧ ∀ c, cs[i]? = some c → fcm w (Fz who) c x := by
      have : ∀ m, (∀ i, i < m → ∃ x, w.cell? ⟨b, q + i, none⟩ = some x ∧ ∀ c, cs[i]? = some c → fcm w (Fz who) c x) → ∃ vs : List Value, vs.length = m ∧ ∀ i x, vs[i]? = some x → w.cell? ⟨b, q + i, none⟩ = some x ∧ ∀ c, cs[i]? = some c → fcm w (Fz who) c x := by
        intro m
        induction m with
        | zero => intro _; exact ⟨[], rfl, by simp⟩
        | succ m ih =>
          intro hex
          obtain ⟨vs, h1, h2⟩ := ih fun i hi => hex i (by omega)
          obtain ⟨x, hx⟩ := hex m (by omega)
          refine ⟨vs ++ [x], by simp [h1], fun i y hy => ?_⟩
          rcases Nat.lt_or_ge i vs.length with hi | hi
          · rw [List.getElem?_append_left hi] at hy; exact h2 i y hy
          · rw [List.getElem?_append_right hi] at hy
            have hi0 : i - vs.length = 0 := by
              rcases Nat.eq_zero_or_pos (i - vs.length) with h0 | h0
              · exact h0
              · rw [List.getElem?_eq_none (by simp; omega)] at hy; cases hy
            rw [hi0] at hy; simp at hy; subst hy
            have : i = m := by omega
            subst this; exact hx
      exact this m hex
    refine ⟨.agg vs.toArray, by simp [execOp, ho, e, run_loadN hr hvl fun j v hv => (hvs j v hv).1], vs, rfl, by rw [hl, hvl], fun i c v hc hv => ?_⟩
    have hc' := hc
    rw [List.getElem?_map, Option.map_eq_some_iff] at hc
    obtain ⟨c0, hc0, rfl⟩ := hc
    rw [List.getElem?_take] at hc0
    have him : i < m := by rw [← hvl]; exact (List.getElem?_eq_some_iff.1 hv).1
    rw [if_pos him] at hc0
    have hcm := (hvs i v hv).2 c0 hc0
    have hcv : cvm w who (.own (.t d) 0 i) c0.cv v := by cases c0 <;> exact hcm
    exact ⟨hcv, cvm.one (List.all_eq_true.1 hok _ (List.mem_of_getElem? hc')) hcv⟩

theorem box_cell {C : Ctx} {who : Nat → Tag} {σ : St} {a : Act} {w : World} (hrp : Rep n C who σ a w) {j b : Nat} {cs : List CV} (hb : who b = .bx j) (hbx : St.get σ (.b j) = some (.box cs)) :
    ∃ (vs : List Value) (E : TypeId), w.heap[b]? = some (.cells vs.toArray E (0, 0)) ∧ vs.length = cs.length ∧ (∀ i v, vs[i]? = some v → w.cell? ⟨b, i, none⟩ = some v) ∧ ∀ q c v, cs[q]? = some c → vs[q]? = some v → cvm w who (.own (.b j) 0 q) c v := by
  obtain ⟨vs, E, h1, h2, h3⟩ := hrp.box j cs hbx b hb
  exact ⟨vs, E, h1, h2, fun i v hv => by rw [cell_of_row w b i _ _ _ h1]; simpa using hv, h3⟩
theorem op_load1B {d t m j q : Nat} {s : Operand} {cs : List CV} {c : CV} (hd : o.dst = some d) (ho : o.op = .load t s) (hr : rowT P t = some (false, m)) (hs : St.ev σ s = some (.one (.c (.ptr j q)))) (hb : St.get σ (.b j) = some (.box cs))
    (hc : cs[q]? = some c) (hn : c.noOwn = true) : Op1 P n o ⟨(opKey s ++ [.b j]) ++ (X.one (.c c)).ids.map Key.b, [.t d], []⟩ σ [(.t d, some (.one (.c c)))] :=
  .value _ hd fun σ' hag C who a w hrp => by
    obtain ⟨b, e, hbw⟩ := hrp.ev ((ev_agree fun k hk => hag k (List.mem_append_left _ hk)).trans hs)
    obtain ⟨vs, E, h1, h2, h3, h4⟩ := box_cell hrp hbw ((hag _ (List.mem_append_right _ (by simp))).trans hb)
    have hq : q < vs.length := by rw [h2]; exact (List.getElem?_eq_some_iff.1 hc).1
    have hv := List.getElem?_eq_getElem hq
    exact ⟨vs[q], by simp [execOp, ho, e, run_load1 hr (h3 q _ hv)], cvm.re (p := .own (.b j) 0 q) hn (h4 q c _ hc hv)⟩
theorem op_loadNB {d t m j q : Nat} {s : Operand} {cs cs' : List CV} (hd : o.dst = some d) (ho : o.op = .load t s) (hr : rowT P t = some (true, m)) (hs : St.ev σ s = some (.one (.c (.ptr j q)))) (hb : St.get σ (.b j) = some (.box cs))
    (hc : (cs.drop q).take m = cs') (hl : cs'.length = m) (hn : cs'.all (fun c => c.noOwn && c.oneOk) = true) : Op1 P n o ⟨(opKey s ++ [.b j]) ++ (X.one (.agg cs')).ids.map Key.b, [.t d], []⟩ σ [(.t d, some (.one (.agg cs')))] :=
  .value _ hd fun σ' hag C who a w hrp => by
    obtain ⟨b, e, hbw⟩ := hrp.ev ((ev_agree fun k hk => hag k (List.mem_append_left _ hk)).trans hs)
    obtain ⟨vs, E, h1, h2, h3, h4⟩ := box_cell hrp hbw ((hag _ (List.mem_append_right _ (by simp))).trans hb)
    subst hc
    have hlen : ((vs.drop q).take m).length = m := by simp [List.length_take, List.length_drop] at hl ⊢; omega
    refine ⟨.agg ((vs.drop q).take m).toArray, by
      simp [execOp, ho, e, run_loadN hr hlen fun i v hv => by
        rw [List.getElem?_take] at hv
        split at hv
        · rw [List.getElem?_drop] at hv; exact h3 _ v hv
        · cases hv], _, rfl, by rw [hl, hlen], fun i c v hc hv => ?_⟩
    have hall := List.all_eq_true.1 hn c (List.mem_of_getElem? hc)
    simp only [Bool.and_eq_true] at hall
    rw [List.getElem?_take] at hv hc
    split at hv
    · rename_i him
      rw [if_pos him, List.getElem?_drop] at hc
      rw [List.getElem?_drop] at hv
      have h5 := h4 _ c v hc hv
      exact ⟨cvm.re hall.1 h5, cvm.one hall.2 h5⟩
    · cases hv

/-- an element of a slice that nobody writes -/
theorem op_idx {d T E m by_ : Nat} {z : Value} {s i : Operand} {ds : List D} {k : Nat} {kk : IntKind} {zi : Int} {x : D} {cs : List FC} (hd : o.dst = some d) (ho : o.op = .indexAddr T s i) (hT : SliceOf P T E m by_ z) (hs : St.ev σ s = some (.one (.c (.arr ds))))
    (hi : St.ev σ i = some (.one (.c (.val (.int kk zi))))) (hz : zi = (k : Int)) (hx : ds[k]? = some x) (hm : ∀ x ∈ ds, x.fc.length = m) (hc : x.fc = cs) :
    Op1 P n o ⟨(opKey s ++ opKey i) ++ (X.one (.c (.fp cs))).ids.map Key.b, [.t d], []⟩ σ [(.t d, some (.one (.c (.fp cs))))] :=
  .value _ hd fun σ' hag C who a w hrp => by
    have e2 : a.eval i = .int kk zi := hrp.ev ((ev_agree fun k hk => hag k (List.mem_append_right _ hk)).trans hi)
    have hrd : rd w (Fz who) (.arr ds) [a.eval s] := hrp.ev ((ev_agree fun k hk => hag k (List.mem_append_left _ hk)).trans hs)
    obtain ⟨ad, cap, e, _, _, h3⟩ := hrd
    have e1 : a.eval s = .slice ad ds.length cap := by simpa using e
    have hk : k < ds.length := (List.getElem?_eq_some_iff.1 hx).1
    rcases h3 with h3 | ⟨b, q, xs, ha, hb, hlt, hrs, hcell⟩
    · omega
    · subst ha
      obtain ⟨c, hcl, hrc, hcj⟩ := rds.nth ds xs hrs (fun d hd c hc => by rw [cellsF_len ((rd_fc d c).1 hc)]; exact hm d hd) k hk
      have hxe : ds[k] = x := by rw [List.getElem?_eq_getElem hk] at hx; injection hx
      rw [hxe] at hrc
      have hcf := (rd_fc x c).1 hrc
      rw [hc] at hcf
      obtain ⟨i', hi', hz0, hz1, hz2⟩ := info_parts hT.info
      subst hz
      refine ⟨.pointer (some ⟨b, q + k * m, none⟩), ?_, b, q + k * m, rfl, hb, fun l c' hl => ?_⟩
      · simp [execOp, ho, e1, e2, Instr.indexAt, run_underlying hT.und, asIntOf, sizeOf, typeInfo, hi', hz1, hk, add_lit]
      · obtain ⟨y, hy, hcm⟩ := cellsF_at hcf l c' hl
        exact ⟨y, by rw [Nat.add_assoc]; exact hcell _ y (hcj l y hy), hcm⟩

/-- a component of a result -/
theorem op_extract {d ix : Nat} {s : Operand} {as : List A1} {A : A1} (hd : o.dst = some d) (ho : o.op = .extract s ix) (hs : St.ev σ s = some (.tup as)) (hA : as[ix]? = some A) (hn : A.noOwn = true) :
    Op1 P n o ⟨opKey s ++ (X.one A).ids.map Key.b, [.t d], []⟩ σ [(.t d, some (.one A))] :=
  .value _ hd fun σ' hag C who a w hrp => by
    obtain ⟨us, e, hl, h⟩ := hrp.ev ((ev_agree hag).trans hs)
    have hix : ix < us.length := by rw [hl]; exact (List.getElem?_eq_some_iff.1 hA).1
    have hu := List.getElem?_eq_getElem hix
    exact ⟨us[ix], by simp [execOp, ho, e, Instr.extract, hix], A1m.re hn (h ix A _ hA hu)⟩
theorem op_pick {d : Nat} {c s1 s2 : Operand} {b : Bool} {x : X} (hd : o.dst = some d) (ho : o.op = .pick c s1 s2) (hc : St.ev σ c = some (.one (.c (.val (.bool b))))) (hs : St.ev σ (if b then s1 else s2) = some x) (hn : x.noOwn = true) :
    Op1 P n o ⟨(opKey c ++ opKey (if b then s1 else s2)) ++ x.ids.map Key.b, [.t d], []⟩ σ [(.t d, some x)] :=
  .value _ hd fun σ' hag C who a w hrp => by
    have e1 : a.eval c = .bool b := hrp.ev ((ev_agree fun k hk => hag k (List.mem_append_left _ hk)).trans hc)
    have e2 := hrp.ev ((ev_agree fun k hk => hag k (List.mem_append_right _ hk)).trans hs)
    refine ⟨a.eval (if b then s1 else s2), ?_, e2.re hn⟩
    cases b <;> simp [execOp, ho, e1, asBool]
end
end Go.Proofs.Ytmanhdacnkpclaa
