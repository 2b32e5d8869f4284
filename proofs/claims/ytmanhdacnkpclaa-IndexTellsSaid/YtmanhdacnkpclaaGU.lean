/- Plain data in the new words; from the elder contracts and to them. -/
import Derived.Test.YtmanhdacnkpclaaGT
import Derived.Test.YtmanhdacnkpclaaTm
namespace Go.Proofs.Ytmanhdacnkpclaa
set_option linter.unusedVariables false
set_option linter.unusedSimpArgs false
open Go.RowKit

theorem Tm_fc (t : Tm) : t.d.fc = [.val (.bool t.var), .val (.int .i64 t.n), .arr (t.args.map Tm.d)] := by
  obtain ⟨v, n, l⟩ := t
  simp [Tm.d, D.fc, fcs, Tm.ds_eq]
theorem Pr_fc (p : Pr) : (Pr.d p).fc = [.val (.int .i64 p.1), .val (.bool p.2.var), .val (.int .i64 p.2.n), .arr (p.2.args.map Tm.d)] := by
  simp [Pr.d, D.fc, fcs, Tm_fc]
theorem Lt_fc (p : Lt) : p.d.fc = [.val (.bool p.neg), .val (.bool p.left.var), .val (.int .i64 p.left.n), .arr (p.left.args.map Tm.d), .val (.bool p.right.var), .val (.int .i64 p.right.n), .arr (p.right.args.map Tm.d)] := by
  simp [Lt.d, D.fc, fcs, Tm_fc]
theorem Int_fc (n : Int) : (Int.d n).fc = [.val (.int .i64 n)] := by simp [Int.d, D.fc]
theorem Cl_fc (c : Cl) : (Cl.d c).fc = [.arr (c.map Lt.d)] := by simp [Cl.d, D.fc]
def Is.d (l : List Int) : D := .arr (l.map Int.d)
theorem Is_fc (l : List Int) : (Is.d l).fc = [.arr (l.map Int.d)] := by simp [Is.d, D.fc]
def Ss.d (s : List Pr) : D := .arr (s.map Pr.d)
theorem Ss_fc (l : List Pr) : (Ss.d l).fc = [.arr (l.map Pr.d)] := by simp [Ss.d, D.fc]
theorem lenL {α : Type} {f : α → D} {m : Nat} (h : ∀ x, (f x).fc.length = m) (l : List α) : ∀ d ∈ l.map f, d.fc.length = m := fun d hd => by
  obtain ⟨x, _, rfl⟩ := List.mem_map.1 hd; exact h x
theorem oneL {α : Type} {f : α → D} (h : ∀ x, (f x).fc.all FC.oneOk = true) (l : List α) : ∀ d ∈ l.map f, d.fc.all FC.oneOk = true := fun d hd => by
  obtain ⟨x, _, rfl⟩ := List.mem_map.1 hd; exact h x
theorem Tm_m (t : Tm) : t.d.fc.length = 3 := by rw [Tm_fc]; rfl
theorem Pr_m (t : Pr) : (Pr.d t).fc.length = 4 := by rw [Pr_fc]; rfl
theorem Lt_m (t : Lt) : t.d.fc.length = 7 := by rw [Lt_fc]; rfl
theorem Int_m (n : Int) : (Int.d n).fc.length = 1 := by rw [Int_fc]; rfl
theorem Cl_m (c : Cl) : (Cl.d c).fc.length = 1 := by rw [Cl_fc]; rfl
theorem Is_m (c : List Int) : (Is.d c).fc.length = 1 := by rw [Is_fc]; rfl
theorem Ss_m (c : List Pr) : (Ss.d c).fc.length = 1 := by rw [Ss_fc]; rfl
theorem Tm_1 (t : Tm) : t.d.fc.all FC.oneOk = true := by rw [Tm_fc]; rfl
theorem Pr_1 (t : Pr) : (Pr.d t).fc.all FC.oneOk = true := by rw [Pr_fc]; rfl
theorem Lt_1 (t : Lt) : t.d.fc.all FC.oneOk = true := by rw [Lt_fc]; rfl
theorem Int_1 (n : Int) : (Int.d n).fc.all FC.oneOk = true := by rw [Int_fc]; rfl
theorem Cl_1 (c : Cl) : (Cl.d c).fc.all FC.oneOk = true := by rw [Cl_fc]; rfl
theorem Is_1 (c : List Int) : (Is.d c).fc.all FC.oneOk = true := by rw [Is_fc]; rfl
theorem Ss_1 (c : List Pr) : (Ss.d c).fc.all FC.oneOk = true := by rw [Ss_fc]; rfl

/-- arguments and results -/
abbrev iA (n : Int) : A1 := .c (.val (.int .i64 n))
abbrev bA (b : Bool) : A1 := .c (.val (.bool b))
abbrev sA (s : List UInt8) : A1 := .c (.val (.string ⟨s.toArray⟩))
abbrev lA {α : Type} (f : α → D) (l : List α) : A1 := .c (.arr (l.map f))
abbrev tA (t : Tm) : A1 := .agg [.val (.bool t.var), .val (.int .i64 t.n), .arr (t.args.map Tm.d)]
abbrev pA (p : Pr) : A1 := .agg [.val (.int .i64 p.1), .val (.bool p.2.var), .val (.int .i64 p.2.n), .arr (p.2.args.map Tm.d)]
abbrev ltA (p : Lt) : A1 := .agg [.val (.bool p.neg), .val (.bool p.left.var), .val (.int .i64 p.left.n), .arr (p.left.args.map Tm.d), .val (.bool p.right.var), .val (.int .i64 p.right.n), .arr (p.right.args.map Tm.d)]
/-- a function that only computes -/
abbrev FnD (P : Program) (f : FuncId) (args : List A1) (x : X) : Prop := Fn P f args none (fun x' _ => x' = x)
theorem FnD.use {P : Program} {f : FuncId} {args : List A1} {x : X} (h : FnD P f args x) : Fn P f args none (fun x' cs' => x' = x ∧ ((none : Option (List CV)).isSome = true → cs' = [])) := fun who w vs h1 h2 h3 h4 h5 h6 =>
  (h who w vs h1 h2 h3 h4 h5 h6).mono fun _ _ ⟨v, x', cs', who', e1, e2, e3⟩ => ⟨v, x', cs', who', e1, ⟨e2, fun hh => by cases hh⟩, e3⟩

section
variable {P : Program} {n : Nat} {o : Oper} {σ : St}
theorem op_idxL {α : Type} {f : α → D} {l : List α} {d T E m by_ : Nat} {z : Value} {s i : Operand} {k : Nat} {kk : IntKind} {zi : Int} {x : α} {cs : List FC} (hd : o.dst = some d) (ho : o.op = .indexAddr T s i) (hT : SliceOf P T E m by_ z) (hs : St.ev σ s = some (.one (.c (.arr (l.map f)))))
    (hi : St.ev σ i = some (.one (.c (.val (.int kk zi))))) (hx : l[k]? = some x) (hz : zi = (k : Int)) (hm : ∀ x, (f x).fc.length = m) (hc : (f x).fc = cs) :
    Op1 P n o ⟨(opKey s ++ opKey i) ++ (X.one (.c (.fp cs))).ids.map Key.b, [.t d], []⟩ σ [(.t d, some (.one (.c (.fp cs))))] :=
  op_idx hd ho hT hs hi hz (by rw [List.getElem?_map, hx]; rfl) (lenL hm l) hc
theorem op_lenL {α : Type} {f : α → D} {l : List α} {d T E : TypeId} {s : Operand} {k : Int} (hd : o.dst = some d) (ho : o.op = .call { callee := .builtin .len, args := #[s], argTypes := #[T] }) {m by_ : Nat} {z : Value} (hT : SliceOf P T E m by_ z)
    (hs : St.ev σ s = some (.one (.c (.arr (l.map f))))) (hk : (l.length : Int) = k) :
    Op1 P n o ⟨opKey s ++ (X.one (.c (.val (.int .i64 k)))).ids.map Key.b, [.t d], []⟩ σ [(.t d, some (.one (.c (.val (.int .i64 k)))))] :=
  op_len hd ho hT.und hs (by simp only [CV.len, List.length_map]) hk
theorem op_lenO {d T E' E : TypeId} {s : Operand} {k : Int} {ds : List D} {m' : Nat} (hd : o.dst = some d) (ho : o.op = .call { callee := .builtin .len, args := #[s], argTypes := #[T] }) {m by_ : Nat} {z : Value} (hT : SliceOf P T E m by_ z)
    (hs : St.ev σ s = some (.one (.c (.own E' m' ds)))) (hk : (ds.length : Int) = k) :
    Op1 P n o ⟨opKey s ++ (X.one (.c (.val (.int .i64 k)))).ids.map Key.b, [.t d], []⟩ σ [(.t d, some (.one (.c (.val (.int .i64 k)))))] :=
  op_len hd ho hT.und hs rfl hk
theorem op_lenS {d T : TypeId} {s : Operand} {l : List UInt8} {k : Int} (hd : o.dst = some d) (ho : o.op = .call { callee := .builtin .len, args := #[s], argTypes := #[T] }) (hT : P.underlying T = some .string)
    (hs : St.ev σ s = some (.one (.c (.val (.string ⟨l.toArray⟩))))) (hk : (l.length : Int) = k) :
    Op1 P n o ⟨opKey s ++ (X.one (.c (.val (.int .i64 k)))).ids.map Key.b, [.t d], []⟩ σ [(.t d, some (.one (.c (.val (.int .i64 k)))))] :=
  .value _ hd fun σ' hag C who a w hr => by
    have e : a.eval s = .string ⟨l.toArray⟩ := hr.ev ((ev_agree hag).trans hs)
    subst hk
    refine ⟨_, ?_, rfl⟩
    have hsz : (⟨l.toArray⟩ : ByteArray).size = l.length := rfl
    simp [execOp, ho, e, resolve, invoke, builtin, Builtin.len_, run_underlying hT, goInt, hsz]
end
/-- s[k] of a list -/
theorem drop1 {α : Type} {f : α → D} {l : List α} : (l.map f).drop 1 = (l.drop 1).map f := by simp

/-! ## the elder words -/
open Classical in
noncomputable def whoS (w : World) (S : Nat → Prop) : Nat → Tag := fun b => if b < w.heap.size ∧ S b then .froz else .other
theorem whoS_froz {w : World} {S : Nat → Prop} {b : Nat} : Fz (whoS w S) b ↔ b < w.heap.size ∧ S b := by
  unfold Fz whoS
  split
  · simp; assumption
  · simp; rename_i h; exact fun h1 h2 => h ⟨h1, h2⟩
/-- an argument by the elder words -/
def ArgS (w : World) (S : Nat → Prop) : A1 → Value → Prop
  | .c (.val v), u => u = v
  | .c (.arr ds), u => rd w S (.arr ds) [u]
  | .agg cs, u => ∃ vs : List Value, u = .agg vs.toArray ∧ vs.length = cs.length ∧ ∀ (q : Nat) (c : CV) (v : Value), cs[q]? = some c → vs[q]? = some v → v.oneCell' = true ∧ (match c with | .val x => v = x | .arr ds => rd w S (.arr ds) [v] | _ => False)
  | _, _ => False
theorem RdL.argS {α : Type} {f : α → D} {w : World} {S : Nat → Prop} {l : List α} {v : Value} (h : RdL f w S l v) : ArgS w S (lA f l) v := h
theorem RdT.argS {w : World} {S : Nat → Prop} {t : Tm} {v : Value} (h : RdT w S t v) : ArgS w S (tA t) v := by
  obtain ⟨a, c, rfl, h⟩ := h
  refine ⟨[_, _, _], rfl, rfl, fun q c v hq hv => ?_⟩
  match q with
  | 0 => simp at hq hv; subst hq hv; exact ⟨rfl, rfl⟩
  | 1 => simp at hq hv; subst hq hv; exact ⟨rfl, rfl⟩
  | 2 => simp at hq hv; subst hq hv; exact ⟨rfl, h⟩
  | q + 3 => simp at hq
theorem ArgS.a1m {w : World} {S : Nat → Prop} {A : A1} {v : Value} {k : Key} {p : Nat} (h : ArgS w S A v) : A1m w (whoS w S) k p A v := by
  cases A with
  | c x =>
    cases x with
    | val u => exact h
    | arr ds => exact rd.wide h fun b hb hS => whoS_froz.2 ⟨hb, hS⟩
    | _ => exact h.elim
  | agg cs =>
    obtain ⟨vs, rfl, hl, hc⟩ := h
    refine ⟨vs, rfl, hl, fun q c v hq hv => ?_⟩
    obtain ⟨h1, h2⟩ := hc q c v hq hv
    refine ⟨?_, h1⟩
    cases c with
    | val u => exact h2
    | arr ds => exact rd.wide h2 fun b hb hS => whoS_froz.2 ⟨hb, hS⟩
    | _ => exact h2.elim
theorem Adv.below {w w' : World} {S : Nat → Prop} {who' : Nat → Tag} (h : Adv ⟨w, whoS w S⟩ who' w') : Below w.heap.size w w' :=
  ⟨h.os, h.tape, h.output, h.size, fun b hb => h.keep b hb (by show whoS w S b = _ ∨ whoS w S b = _; unfold whoS; split <;> simp)⟩
/-- from the new words to the elder ones -/
theorem Fn.elder {P : Program} {f : FuncId} {args : List A1} {x : X} (h : FnD P f args x) (w : World) (S : Nat → Prop) (vs : List Value) (hl : vs.length = args.length) (ha : ∀ (i : Nat) (A : A1) (v : Value), args[i]? = some A → vs[i]? = some v → ArgS w S A v) :
    Calls P f vs.toArray w fun e w' => ∃ v who', e = .returned v ∧ Xm w' who' (.t 0) x v ∧ Below w.heap.size w w' ∧ (∀ b, b < w.heap.size → Fz who' b → S b) := by
  refine (h (whoS w S) w vs ?_ ?_ ?_ hl (fun i A v hA hv => (ha i A v hA hv).a1m) (fun cs h => by cases h)).mono ?_
  · intro b hb
    unfold whoS at hb
    split at hb
    · rename_i h; exact h.1
    · exact absurd rfl hb
  · intro b b' j hb
    unfold whoS at hb
    split at hb <;> cases hb
  · intro b
    unfold whoS
    split <;> trivial
  · rintro e w' ⟨v, x', cs', who', rfl, rfl, _, hx, _, hadv, _, _⟩
    refine ⟨v, who', rfl, hx, hadv.below, fun b hb hf => ?_⟩
    have := hadv.tag b hb (by show whoS w S b = _ ∨ whoS w S b = _ ∨ _; unfold whoS; split <;> simp)
    have hf' : who' b = .froz := hf
    rw [hf'] at this
    exact (whoS_froz.1 this.symm).2
theorem Fn.elderV {P : Program} {f : FuncId} {args : List A1} {u : Value} (h : FnD P f args (.one (.c (.val u)))) (w : World) (S : Nat → Prop) (vs : List Value) (hl : vs.length = args.length) (ha : ∀ (i : Nat) (A : A1) (v : Value), args[i]? = some A → vs[i]? = some v → ArgS w S A v) :
    Calls P f vs.toArray w fun e w' => e = .returned u ∧ Below w.heap.size w w' :=
  (Fn.elder h w S vs hl ha).mono fun e w' ⟨v, who', he, hx, hb, _⟩ => ⟨by rw [he, show v = u from hx], hb⟩

/-- what the elder words ask of an argument -/
theorem A1m.rdt {w : World} {who : Nat → Tag} {k : Key} {p : Nat} {t : Tm} {v : Value} (h : A1m w who k p (tA t) v) : RdT w (Fz who) t v := by
  obtain ⟨vs, rfl, hl, hc⟩ := h
  match vs, hl with
  | [x, y, z], _ =>
    have h0 : x = .bool t.var := (hc 0 _ x rfl rfl).1
    have h1 : y = .int .i64 t.n := (hc 1 _ y rfl rfl).1
    have h2 : rd w (Fz who) (.arr (t.args.map Tm.d)) [z] := (hc 2 _ z rfl rfl).1
    obtain ⟨a, c, e⟩ := rd_arr_one h2
    rw [List.length_map] at e
    subst h0 h1 e
    exact ⟨a, c, rfl, h2⟩
/-- from the elder words to the new ones -/
theorem Fn.ofElder {P : Program} {f : FuncId} {args : List A1} {u : Value} (h : ∀ (who : Nat → Tag) (w : World) (vs : List Value), vs.length = args.length → (∀ (i : Nat) (A : A1) (v : Value), args[i]? = some A → vs[i]? = some v → A1m w who (.t i) 0 A v) →
    Calls P f vs.toArray w fun e w' => e = .returned u ∧ Below w.heap.size w w') : FnD P f args (.one (.c (.val u))) := fun who w vs hfz hbu hin hl ha _ => by
  refine (h who w vs hl ha).mono ?_
  rintro e w' ⟨rfl, hb⟩
  exact ⟨u, _, [], who, rfl, rfl, rfl, rfl, (fun h => by cases h), ⟨hb.os, hb.tape, hb.output, hb.size, fun b hlt _ => hb.block b hlt, fun _ _ _ => rfl⟩, fun b h => Nat.lt_of_lt_of_le (hfz b h) hb.size, hbu⟩
end Go.Proofs.Ytmanhdacnkpclaa
