/- This program's types, for the walks over abstract states; plain data as cells; the elder contracts in the new words. -/
import Derived.Test.YtmanhdacnkpclaaGreatDoorzdFb
import Derived.Test.YtmanhdacnkpclaaGreatDoorRows
import Derived.Test.YtmanhdacnkpclaaGreatDoorzdFa
/- This program's types, for the walks over abstract states; plain data as cells; the elder contracts in the new words. -/
namespace Go.Proofs.YtmanhdacnkpclaaGreatDoor
set_option linter.unusedVariables false
set_option linter.unusedSimpArgs false
open Go.RowKit

theorem mixed : Tryz.prog.follows .mixedOrders = true := by kernel_rfl

/-- fields: struct, field, offset -/
def foT : List (Nat × Nat × Nat) := [(36, 0, 0), (36, 1, 1), (36, 2, 2), (38, 0, 0), (38, 1, 1)
  , (44, 0, 0), (44, 1, 1), (44, 2, 4)
  , (98, 0, 0), (98, 1, 1), (98, 2, 2)
  ]
def look3 : List (Nat × Nat × Nat) → Nat → Nat → Option Nat
  | [], _, _ => none
  | (a, b, c) :: l, x, y => bif Nat.beq a x && Nat.beq b y then some c else look3 l x y
theorem foT_ok : (foT.all fun x => decide (fieldOff Tryz.prog x.1 x.2.1 = some x.2.2)) = true := by kernel_rfl
theorem look3_mem : ∀ {l : List (Nat × Nat × Nat)} {x y c : Nat}, look3 l x y = some c → (x, y, c) ∈ l
  | [], _, _, _, h => by simp [look3] at h
  | (a, b, c') :: l, x, y, c, h => by
    simp only [look3] at h
    cases e : (Nat.beq a x && Nat.beq b y)
    · rw [e] at h; exact List.mem_cons_of_mem _ (look3_mem h)
    · rw [e] at h
      simp only [Bool.and_eq_true] at e
      have e1 := Nat.eq_of_beq_eq_true e.1
      have e2 := Nat.eq_of_beq_eq_true e.2
      simp only [cond_true, Option.some.injEq] at h
      subst e1 e2 h; exact List.mem_cons_self ..
theorem fo_of {S f off : Nat} (h : look3 foT S f = some off) : fieldOff Tryz.prog S f = some off := by
  have := List.all_eq_true.1 foT_ok _ (look3_mem h)
  simpa using this
/-- types: is it a row of cells, of how many -/
def rwT : List (Nat × Bool × Nat) := [(3, false, 1), (4, false, 1), (36, true, 3), (38, true, 4), (34, false, 1), (22, false, 1), (23, false, 1), (27, false, 1), (9, false, 1), (5, false, 1), (28, false, 1)
  , (44, true, 7), (25, false, 1)
  , (98, true, 3)
  , (133, false, 1)
  ]
def look2 {α : Type} : List (Nat × α) → Nat → Option α
  | [], _ => none
  | (a, c) :: l, x => bif Nat.beq a x then some c else look2 l x
theorem look2_mem {α : Type} : ∀ {l : List (Nat × α)} {x : Nat} {c : α}, look2 l x = some c → (x, c) ∈ l
  | [], _, _, h => by simp [look2] at h
  | (a, c') :: l, x, c, h => by
    simp only [look2] at h
    cases e : Nat.beq a x
    · rw [e] at h; exact List.mem_cons_of_mem _ (look2_mem h)
    · rw [e] at h
      have e1 := Nat.eq_of_beq_eq_true e
      simp only [cond_true, Option.some.injEq] at h
      subst e1 h; exact List.mem_cons_self ..
theorem rwT_ok : (rwT.all fun x => decide (rowT Tryz.prog x.1 = some (x.2.1, x.2.2))) = true := by kernel_rfl
theorem rw_of {T m : Nat} {r : Bool} (h : look2 rwT T = some (r, m)) : rowT Tryz.prog T = some (r, m) := by
  have := List.all_eq_true.1 rwT_ok _ (look2_mem h)
  simpa using this
theorem slInt : SliceOf Tryz.prog 22 3 1 8 (.int .i64 0) := ⟨by kernel_rfl, by kernel_rfl, rfl, by decide⟩
theorem slSig : SliceOf Tryz.prog 23 3 1 8 (.int .i64 0) := ⟨by kernel_rfl, by kernel_rfl, rfl, by decide⟩
theorem slTerm : SliceOf Tryz.prog 34 36 3 40 (.agg #[.bool false, .int .i64 0, .slice none 0 0]) := ⟨by kernel_rfl, by kernel_rfl, rfl, by decide⟩
theorem slSub : SliceOf Tryz.prog 27 38 4 48 (.agg #[.int .i64 0, .bool false, .int .i64 0, .slice none 0 0]) := ⟨by kernel_rfl, by kernel_rfl, rfl, by decide⟩
theorem slClause : SliceOf Tryz.prog 25 44 7 88 (.agg #[.bool false, .bool false, .int .i64 0, .slice none 0 0, .bool false, .int .i64 0, .slice none 0 0]) := ⟨by kernel_rfl, by kernel_rfl, rfl, by decide⟩
theorem slStrs : SliceOf Tryz.prog 53 9 1 16 (.string ⟨#[]⟩) := ⟨by kernel_rfl, by kernel_rfl, rfl, by decide⟩
theorem slBytes : SliceOf Tryz.prog 80 5 1 1 (.int .u8 0) := ⟨by kernel_rfl, by kernel_rfl, rfl, by decide⟩
theorem bin_eqlB {a b r : Bool} (h : (a == b) = r) : Bin Tryz.prog .eql 4 (.bool a) (.bool b) (.bool r) := .mk fun s1 s2 w => by subst h; kernel_rfl
theorem bin_neqB {a b r : Bool} (h : (a != b) = r) : Bin Tryz.prog .neq 4 (.bool a) (.bool b) (.bool r) := .mk fun s1 s2 w => by subst h; kernel_rfl
end Go.Proofs.YtmanhdacnkpclaaGreatDoor

/- Plain data in the new words; from the elder contracts and to them. -/
namespace Go.Proofs.YtmanhdacnkpclaaGreatDoor
set_option linter.unusedVariables false
set_option linter.unusedSimpArgs false
open Go.RowKit

theorem Tm_fc (t : Tm) : t.d.fc = [.val (.bool t.var), .val (.int .i64 t.n), .arr (t.args.map Tm.d)] := by
  obtain ⟨v, n, l⟩ := t
  simp [Tm.d, D.fc, fcs, Tm.ds_eq]
theorem Pr_fc (p : Pr) : (Pr.d p).fc = [.val (.int .i64 p.1), .val (.bool p.2.var), .val (.int .i64 p.2.n), .arr (p.2.args.map Tm.d)] := by
  simp [Pr.d, D.fc, fcs, Tm_fc]
theorem Lt_fc (p : Lt) : p.d.fc = [.val (.bool p.neg), .val (.bool p.left.var), .val (.int .i64 p.left.n), .arr (p.left.args.map Tm.d), .val (.bool p.right.var), .val (.int .i64 p.right.n), .arr (p.right.args.map Tm.d)] := by
  simp [Lt.d, D.fc, fcs, Tm_fc]
theorem Int_fc (n : Int) : (Int.d n).fc = [.val (.int .i64 n)] := by simp [Int.d, D.fc]
theorem Cl_fc (c : Cl) : (Cl.d c).fc = [.arr (c.map Lt.d)] := by simp [Cl.d, D.fc]
def Is.d (l : List Int) : D := .arr (l.map Int.d)
theorem Is_fc (l : List Int) : (Is.d l).fc = [.arr (l.map Int.d)] := by simp [Is.d, D.fc]
def Ss.d (s : List Pr) : D := .arr (s.map Pr.d)
theorem Ss_fc (l : List Pr) : (Ss.d l).fc = [.arr (l.map Pr.d)] := by simp [Ss.d, D.fc]
theorem lenL {α : Type} {f : α → D} {m : Nat} (h : ∀ x, (f x).fc.length = m) (l : List α) : ∀ d ∈ l.map f, d.fc.length = m := fun d hd => by
  obtain ⟨x, _, rfl⟩ := List.mem_map.1 hd; exact h x
theorem oneL {α : Type} {f : α → D} (h : ∀ x, (f x).fc.all FC.oneOk = true) (l : List α) : ∀ d ∈ l.map f, d.fc.all FC.oneOk = true := fun d hd => by
  obtain ⟨x, _, rfl⟩ := List.mem_map.1 hd; exact h x
/-- arguments and results -/
abbrev iA (n : Int) : A1 := .c (.val (.int .i64 n))
abbrev bA (b : Bool) : A1 := .c (.val (.bool b))
abbrev sA (s : List UInt8) : A1 := .c (.val (.string ⟨s.toArray⟩))
abbrev lA {α : Type} (f : α → D) (l : List α) : A1 := .c (.arr (l.map f))
abbrev tA (t : Tm) : A1 := .agg [.val (.bool t.var), .val (.int .i64 t.n), .arr (t.args.map Tm.d)]
abbrev ltA (p : Lt) : A1 := .agg [.val (.bool p.neg), .val (.bool p.left.var), .val (.int .i64 p.left.n), .arr (p.left.args.map Tm.d), .val (.bool p.right.var), .val (.int .i64 p.right.n), .arr (p.right.args.map Tm.d)]
/-- a function that only computes -/
abbrev FnD (P : Program) (f : FuncId) (args : List A1) (x : X) : Prop := Fn P f args none (fun x' _ => x' = x)
theorem FnD.use {P : Program} {f : FuncId} {args : List A1} {x : X} (h : FnD P f args x) : Fn P f args none (fun x' cs' => x' = x ∧ ((none : Option (List CV)).isSome = true → cs' = [])) := fun who w vs h1 h2 h3 h4 h5 h6 =>
  (h who w vs h1 h2 h3 h4 h5 h6).mono fun _ _ ⟨v, x', cs', who', e1, e2, e3⟩ => ⟨v, x', cs', who', e1, ⟨e2, fun hh => by cases hh⟩, e3⟩

section
variable {P : Program} {n : Nat} {o : Oper} {σ : St}
theorem op_lenL {α : Type} {f : α → D} {l : List α} {d T E : TypeId} {s : Operand} {k : Int} (hd : o.dst = some d) (ho : o.op = .call { callee := .builtin .len, args := #[s], argTypes := #[T] }) {m by_ : Nat} {z : Value} (hT : SliceOf P T E m by_ z)
    (hs : St.ev σ s = some (.one (.c (.arr (l.map f))))) (hk : (l.length : Int) = k) :
    Op1 P n o ⟨opKey s ++ (X.one (.c (.val (.int .i64 k)))).ids.map Key.b, [.t d], []⟩ σ [(.t d, some (.one (.c (.val (.int .i64 k)))))] :=
  op_len hd ho hT.und hs (by simp only [CV.len, List.length_map]) hk
theorem op_lenS {d T : TypeId} {s : Operand} {l : List UInt8} {k : Int} (hd : o.dst = some d) (ho : o.op = .call { callee := .builtin .len, args := #[s], argTypes := #[T] }) (hT : P.underlying T = some .string)
    (hs : St.ev σ s = some (.one (.c (.val (.string ⟨l.toArray⟩))))) (hk : (l.length : Int) = k) :
    Op1 P n o ⟨opKey s ++ (X.one (.c (.val (.int .i64 k)))).ids.map Key.b, [.t d], []⟩ σ [(.t d, some (.one (.c (.val (.int .i64 k)))))] :=
  .value _ hd fun σ' hag C who a w hr => by
    have e : a.eval s = .string ⟨l.toArray⟩ := hr.ev ((ev_agree hag).trans hs)
    subst hk
    refine ⟨_, ?_, rfl⟩
    have hsz : (⟨l.toArray⟩ : ByteArray).size = l.length := rfl
    simp [execOp, ho, e, resolve, invoke, builtin, Builtin.len_, run_underlying hT, goInt, hsz]
end
/-! ## the elder words -/
open Classical in
noncomputable def whoS (w : World) (S : Nat → Prop) : Nat → Tag := fun b => if b < w.heap.size ∧ S b then .froz else .other
theorem whoS_froz {w : World} {S : Nat → Prop} {b : Nat} : Fz (whoS w S) b ↔ b < w.heap.size ∧ S b := by
  unfold Fz whoS
  split
  · simp; assumption
  · simp; rename_i h; exact fun h1 h2 => h ⟨h1, h2⟩
theorem whoS_two {w : World} {S : Nat → Prop} {b : Nat} : whoS w S b = .other ∨ whoS w S b = .froz := by
  unfold whoS
  split
  · exact .inr rfl
  · exact .inl rfl
theorem glob_of {w : World} {S : Nat → Prop} (h : ∀ g ∈ globs, ∃ m : Int, w.cell? ⟨g, 0, none⟩ = some (.int .i64 m)) : Glob w (whoS w S) := fun g hg => by
  obtain ⟨m, hm⟩ := h g hg
  exact ⟨⟨m, hm⟩, World.block_lt_of_cell? w _ hm, whoS_two⟩
/-- an argument by the elder words -/
def ArgS (w : World) (S : Nat → Prop) : A1 → Value → Prop
  | .c (.val v), u => u = v
  | .c (.arr ds), u => rd w S (.arr ds) [u]
  | .agg cs, u => ∃ vs : List Value, u = .agg vs.toArray ∧ vs.length = cs.length ∧ ∀ (q : Nat) (c : CV) (v : Value), cs[q]? = some c → vs[q]? = some v → v.oneCell' = true ∧ (match c with | .val x => v = x | .arr ds => rd w S (.arr ds) [v] | _ => False)
  | _, _ => False
theorem RdL.argS {α : Type} {f : α → D} {w : World} {S : Nat → Prop} {l : List α} {v : Value} (h : RdL f w S l v) : ArgS w S (lA f l) v := h
theorem ArgS.a1m {w : World} {S : Nat → Prop} {A : A1} {v : Value} {k : Key} {p : Nat} (h : ArgS w S A v) : A1m w (whoS w S) k p A v := by
  cases A with
  | c x =>
    cases x with
    | val u => exact h
    | arr ds => exact rd.wide h fun b hb hS => whoS_froz.2 ⟨hb, hS⟩
    | _ => exact h.elim
  | agg cs =>
    obtain ⟨vs, rfl, hl, hc⟩ := h
    refine ⟨vs, rfl, hl, fun q c v hq hv => ?_⟩
    obtain ⟨h1, h2⟩ := hc q c v hq hv
    refine ⟨?_, h1⟩
    cases c with
    | val u => exact h2
    | arr ds => exact rd.wide h2 fun b hb hS => whoS_froz.2 ⟨hb, hS⟩
    | _ => exact h2.elim
theorem Adv.below {w w' : World} {S : Nat → Prop} {who' : Nat → Tag} {hg : Glob w (whoS w S)} (h : Adv ⟨w, whoS w S, hg⟩ who' w') : Below w.heap.size w w' :=
  ⟨h.os, h.tape, h.output, h.size, fun b hb => h.keep b hb (by show whoS w S b = _ ∨ whoS w S b = _; unfold whoS; split <;> simp)⟩
/-- from the new words to the elder ones -/
theorem Fn.elder {P : Program} {f : FuncId} {args : List A1} {x : X} (h : FnD P f args x) (w : World) (S : Nat → Prop) (hg : Glob w (whoS w S)) (vs : List Value) (hl : vs.length = args.length) (ha : ∀ (i : Nat) (A : A1) (v : Value), args[i]? = some A → vs[i]? = some v → ArgS w S A v) :
    Calls P f vs.toArray w fun e w' => ∃ v who', e = .returned v ∧ Xm w' who' (.t 0) x v ∧ Below w.heap.size w w' ∧ (∀ b, b < w.heap.size → Fz who' b → S b) := by
  refine (h (whoS w S) w vs ⟨?_, hg⟩ ?_ ?_ hl (fun i A v hA hv => (ha i A v hA hv).a1m) (fun cs h => by cases h)).mono ?_
  · intro b hb
    unfold whoS at hb
    split at hb
    · rename_i h; exact h.1
    · exact absurd rfl hb
  · intro b b' j hb
    unfold whoS at hb
    split at hb <;> cases hb
  · intro b
    unfold whoS
    split <;> trivial
  · rintro e w' ⟨v, x', cs', who', rfl, rfl, _, hx, _, hadv, _, _⟩
    refine ⟨v, who', rfl, hx, hadv.below, fun b hb hf => ?_⟩
    have := hadv.tag b hb (by show whoS w S b = _ ∨ whoS w S b = _ ∨ _; unfold whoS; split <;> simp)
    have hf' : who' b = .froz := hf
    rw [hf'] at this
    exact (whoS_froz.1 this.symm).2
theorem Fn.elderV {P : Program} {f : FuncId} {args : List A1} {u : Value} (h : FnD P f args (.one (.c (.val u)))) (w : World) (S : Nat → Prop) (hg : Glob w (whoS w S)) (vs : List Value) (hl : vs.length = args.length) (ha : ∀ (i : Nat) (A : A1) (v : Value), args[i]? = some A → vs[i]? = some v → ArgS w S A v) :
    Calls P f vs.toArray w fun e w' => e = .returned u ∧ Below w.heap.size w w' :=
  (Fn.elder h w S hg vs hl ha).mono fun e w' ⟨v, who', he, hx, hb, _⟩ => ⟨by rw [he, show v = u from hx], hb⟩

/-- what the elder words ask of an argument -/
theorem A1m.rdt {w : World} {who : Nat → Tag} {k : Key} {p : Nat} {t : Tm} {v : Value} (h : A1m w who k p (tA t) v) : RdT w (Fz who) t v := by
  obtain ⟨vs, rfl, hl, hc⟩ := h
  match vs, hl with
  | [x, y, z], _ =>
    have h0 : x = .bool t.var := (hc 0 _ x rfl rfl).1
    have h1 : y = .int .i64 t.n := (hc 1 _ y rfl rfl).1
    have h2 : rd w (Fz who) (.arr (t.args.map Tm.d)) [z] := (hc 2 _ z rfl rfl).1
    obtain ⟨a, c, e⟩ := rd_arr_one h2
    rw [List.length_map] at e
    subst h0 h1 e
    exact ⟨a, c, rfl, h2⟩
/-- from the elder words to the new ones -/
theorem Fn.ofElder {P : Program} {f : FuncId} {args : List A1} {u : Value} (h : ∀ (who : Nat → Tag) (w : World) (vs : List Value), vs.length = args.length → (∀ (i : Nat) (A : A1) (v : Value), args[i]? = some A → vs[i]? = some v → A1m w who (.t i) 0 A v) →
    Calls P f vs.toArray w fun e w' => e = .returned u ∧ Below w.heap.size w w') : FnD P f args (.one (.c (.val u))) := fun who w vs hfz hbu hin hl ha _ => by
  refine (h who w vs hl ha).mono ?_
  rintro e w' ⟨rfl, hb⟩
  exact ⟨u, _, [], who, rfl, rfl, rfl, rfl, (fun h => by cases h), ⟨hb.os, hb.tape, hb.output, hb.size, fun b hlt _ => hb.block b hlt, fun _ _ _ => rfl⟩, fun b h => Nat.lt_of_lt_of_le (hfz.1 b h) hb.size, hbu⟩
end Go.Proofs.YtmanhdacnkpclaaGreatDoor

/- Ends of walks over abstract states. -/
namespace Go.Proofs.YtmanhdacnkpclaaGreatDoor
set_option linter.unusedVariables false
set_option linter.unusedSimpArgs false
open Go.RowKit

inductive ResL (P : Program) (σ : St) : List ResultVar → List A1 → Prop
  | nil : ResL P σ [] []
  | tmp {t : Nat} {A : A1} {rs : List ResultVar} {As : List A1} (h : St.get σ (.t t) = some (.one A)) (hr : ResL P σ rs As) : ResL P σ (.tmp t :: rs) (A :: As)
  | cell1 {a T j q m : Nat} {cs : List CV} {c : CV} {rs : List ResultVar} {As : List A1} (h : St.get σ (.t a) = some (.one (.c (.ptr j q)))) (hb : St.get σ (.b j) = some (.box cs)) (hT : rowT P T = some (false, m)) (hc : cs[q]? = some c) (hr : ResL P σ rs As) (hmc : Nat.ble j EXT = true := by rfl) :
      ResL P σ (.cell a T :: rs) (.c c :: As)
  | cellN {a T j q m : Nat} {cs cs' : List CV} {rs : List ResultVar} {As : List A1} (h : St.get σ (.t a) = some (.one (.c (.ptr j q)))) (hb : St.get σ (.b j) = some (.box cs)) (hT : rowT P T = some (true, m)) (hc : (cs.drop q).take m = cs') (hl : cs'.length = m) (hr : ResL P σ rs As) (hmc : Nat.ble j EXT = true := by rfl) :
      ResL P σ (.cell a T :: rs) (.agg cs' :: As)
theorem ResL.mapM {P : Program} {σ : St} {rs : List ResultVar} {As : List A1} (h : ResL P σ rs As) : rs.mapM (resOf P σ) = some As := by
  induction h with
  | nil => rfl
  | tmp h _ ih => rw [List.mapM_cons, ih]; simp [resOf, h]
  | cell1 h hb hT hc _ hmc ih => rw [List.mapM_cons, ih]; simp [resOf, h, hb, hT, hc, hmc]
  | cellN h hb hT hc hl _ hmc ih =>
    rw [List.mapM_cons, ih]
    subst hc
    simp only [resOf, h, hb, hT, hl, hmc, Nat.beq_refl, cond_true]; rfl
section
variable {P : Program} {σ : St} {rs : List ResultVar} {As : List A1} {pre : Bool} {R : X → List CV → Prop} {cs : List CV}
theorem finR (h : ResL P σ rs As) (hn : As.all (fun A => A.noOwn && A.cells.all CV.oneOk) = true) (hi : (mkX As).ids = []) (hR : R (mkX As) []) : finD P rs false R .ret σ := ⟨σ, fun _ => .refl, _, [], .all As h.mapM hn hi, (fun h => by cases h), hR⟩
theorem finN (h : ResL P σ rs As) (hn : As.all (fun A => A.noOwn && A.cells.all CV.oneOk) = true) (hi : (mkX As).ids = []) (hR : R (mkX As) []) : finD P rs false R .normal σ := finR h hn hi hR
theorem finRB (h : ResL P σ rs As) (hn : As.all (fun A => A.noOwn && A.cells.all CV.oneOk) = true) (hi : (mkX As).ids = []) (hb : St.get σ (.b EXT) = some (.box cs)) (hc : cs.flatMap CV.ids = []) (hR : R (mkX As) cs) : finD P rs pre R .ret σ := ⟨σ, fun _ => .refl, _, cs, .all As h.mapM hn hi, fun _ => ⟨hb, hc⟩, hR⟩
theorem finNB (h : ResL P σ rs As) (hn : As.all (fun A => A.noOwn && A.cells.all CV.oneOk) = true) (hi : (mkX As).ids = []) (hb : St.get σ (.b EXT) = some (.box cs)) (hc : cs.flatMap CV.ids = []) (hR : R (mkX As) cs) : finD P rs pre R .normal σ := finRB h hn hi hb hc hR
theorem finO {t E m : Nat} {ds : List D} (hs : St.get σ (.t t) = some (.one (.c (.own E m ds)))) (hR : R (.one (.c (.own E m ds))) []) : finD P [.tmp t] false R .ret σ := ⟨σ, fun _ => .refl, _, [], .own t E m ds rfl hs, (fun h => by cases h), hR⟩
end
theorem fin_wk {P : Program} {σ σ1 : St} {rs : List ResultVar} {pre : Bool} {R : X → List CV → Prop} {e : Exit} (hw : ∀ n, Wk n σ σ1) (h : finD P rs pre R e σ1) : finD P rs pre R e σ := by
  cases e with
  | normal => obtain ⟨σ', hw', h'⟩ := h; exact ⟨σ', fun n => (hw n).trans (hw' n), h'⟩
  | ret => obtain ⟨σ', hw', h'⟩ := h; exact ⟨σ', fun n => (hw n).trans (hw' n), h'⟩
  | _ => exact h
theorem Xb {b b' : Bool} (h : b = b') : (.one (bA b) : X) = .one (bA b') := by rw [h]
theorem Xi {b b' : Int} (h : b = b') : (.one (iA b) : X) = .one (iA b') := by rw [h]
theorem Xt {b b' : Tm} (h : b = b') : (.one (tA b) : X) = .one (tA b') := by rw [h]
theorem Xl {α : Type} {f : α → D} {b b' : List α} (h : b = b') : (.one (lA f b) : X) = .one (lA f b') := by rw [h]
end Go.Proofs.YtmanhdacnkpclaaGreatDoor

/- Which rule is next: by the goal's head alone. -/
namespace Go.Proofs.YtmanhdacnkpclaaGreatDoor
set_option linter.unusedVariables false
set_option linter.unusedSimpArgs false
open Go.RowKit
section
variable {P : Program} {n : Nat} {c : Code} {Q : Exit → St → Prop} {σ : St} {dr : Bool} {ops : Array Oper} {os : List Oper} {acc : List Info} {K : St → Prop} {o : Oper}
theorem id_dwp (h : dwp P n c Q σ) : dwp P n c Q σ := h
theorem id_sq (h : SqA P n dr ops (o :: os) acc σ K) : SqA P n dr ops (o :: os) acc σ K := h
theorem id_cond {s : Operand} {x y : Code} (h : dwp P n (.cond s x y) Q σ) : dwp P n (.cond s x y) Q σ := h
theorem id_reg {id : Nat} {ops : Array Oper} {b : Bool} (h : dwp P n (.region id ops b) Q σ) : dwp P n (.region id ops b) Q σ := h
variable {d : Option Tmp} {ty : TypeId} {pos : String} {af : Array Edge} {gd : Option (Nat × Bool)}
theorem id_move {s : Operand} (h : SqA P n dr ops (⟨d, .move s, ty, pos, af, gd⟩ :: os) acc σ K) : SqA P n dr ops (⟨d, .move s, ty, pos, af, gd⟩ :: os) acc σ K := h
theorem id_assign {s : Operand} (h : SqA P n dr ops (⟨d, .assign s, ty, pos, af, gd⟩ :: os) acc σ K) : SqA P n dr ops (⟨d, .assign s, ty, pos, af, gd⟩ :: os) acc σ K := h
theorem id_bin {b : BinOp} {t t' : TypeId} {s s' : Operand} (h : SqA P n dr ops (⟨d, .binOp b t s s' t', ty, pos, af, gd⟩ :: os) acc σ K) : SqA P n dr ops (⟨d, .binOp b t s s' t', ty, pos, af, gd⟩ :: os) acc σ K := h
theorem id_un {b : UnOp} {t : TypeId} {s : Operand} (h : SqA P n dr ops (⟨d, .unOp b t s, ty, pos, af, gd⟩ :: os) acc σ K) : SqA P n dr ops (⟨d, .unOp b t s, ty, pos, af, gd⟩ :: os) acc σ K := h
theorem id_load {t : TypeId} {s : Operand} (h : SqA P n dr ops (⟨d, .load t s, ty, pos, af, gd⟩ :: os) acc σ K) : SqA P n dr ops (⟨d, .load t s, ty, pos, af, gd⟩ :: os) acc σ K := h
theorem id_store {t : TypeId} {s s' : Operand} (h : SqA P n dr ops (⟨d, .store t s s', ty, pos, af, gd⟩ :: os) acc σ K) : SqA P n dr ops (⟨d, .store t s s', ty, pos, af, gd⟩ :: os) acc σ K := h
theorem id_fld {t f : Nat} {s : Operand} (h : SqA P n dr ops (⟨d, .fieldAddr t s f, ty, pos, af, gd⟩ :: os) acc σ K) : SqA P n dr ops (⟨d, .fieldAddr t s f, ty, pos, af, gd⟩ :: os) acc σ K := h
theorem id_idx {t : Nat} {s s' : Operand} (h : SqA P n dr ops (⟨d, .indexAddr t s s', ty, pos, af, gd⟩ :: os) acc σ K) : SqA P n dr ops (⟨d, .indexAddr t s s', ty, pos, af, gd⟩ :: os) acc σ K := h
theorem id_call {c : Call} (h : SqA P n dr ops (⟨d, .call c, ty, pos, af, gd⟩ :: os) acc σ K) : SqA P n dr ops (⟨d, .call c, ty, pos, af, gd⟩ :: os) acc σ K := h
theorem id_callb {b : Builtin} {xs : Array Operand} {ts : Array TypeId} (h : SqA P n dr ops (⟨d, .call ⟨.builtin b, xs, ts⟩, ty, pos, af, gd⟩ :: os) acc σ K) : SqA P n dr ops (⟨d, .call ⟨.builtin b, xs, ts⟩, ty, pos, af, gd⟩ :: os) acc σ K := h
theorem id_box {t : TypeId} {s : Operand} (h : SqA P n dr ops (⟨d, .box t s, ty, pos, af, gd⟩ :: os) acc σ K) : SqA P n dr ops (⟨d, .box t s, ty, pos, af, gd⟩ :: os) acc σ K := h
theorem id_alloc {t : TypeId} (h : SqA P n dr ops (⟨d, .alloc t, ty, pos, af, gd⟩ :: os) acc σ K) : SqA P n dr ops (⟨d, .alloc t, ty, pos, af, gd⟩ :: os) acc σ K := h
theorem id_extract {s : Operand} {i : Nat} (h : SqA P n dr ops (⟨d, .extract s i, ty, pos, af, gd⟩ :: os) acc σ K) : SqA P n dr ops (⟨d, .extract s i, ty, pos, af, gd⟩ :: os) acc σ K := h
theorem id_build {t : TypeId} {ps : Array (Nat × Operand)} (h : SqA P n dr ops (⟨d, .build t ps, ty, pos, af, gd⟩ :: os) acc σ K) : SqA P n dr ops (⟨d, .build t ps, ty, pos, af, gd⟩ :: os) acc σ K := h
theorem id_bs {t l : Nat} {ps : Array (Nat × Operand)} (h : SqA P n dr ops (⟨d, .buildSlice t l ps, ty, pos, af, gd⟩ :: os) acc σ K) : SqA P n dr ops (⟨d, .buildSlice t l ps, ty, pos, af, gd⟩ :: os) acc σ K := h
theorem id_pick {s s1 s2 : Operand} (h : SqA P n dr ops (⟨d, .pick s s1 s2, ty, pos, af, gd⟩ :: os) acc σ K) : SqA P n dr ops (⟨d, .pick s s1 s2, ty, pos, af, gd⟩ :: os) acc σ K := h
theorem id_index {t : Nat} {s s' : Operand} (h : SqA P n dr ops (⟨d, .index t s s', ty, pos, af, gd⟩ :: os) acc σ K) : SqA P n dr ops (⟨d, .index t s s', ty, pos, af, gd⟩ :: os) acc σ K := h
theorem id_slice {t : Nat} {s : Operand} {l hh m : Option Operand} (h : SqA P n dr ops (⟨d, .slice t s l hh m, ty, pos, af, gd⟩ :: os) acc σ K) : SqA P n dr ops (⟨d, .slice t s l hh m, ty, pos, af, gd⟩ :: os) acc σ K := h
end
end Go.Proofs.YtmanhdacnkpclaaGreatDoor

/- More operations for walks over abstract states. -/
namespace Go.Proofs.YtmanhdacnkpclaaGreatDoor
set_option linter.unusedVariables false
set_option linter.unusedSimpArgs false
open Go.RowKit

section
variable {P : Program} {n : Nat} {o : Oper} {σ : St}
/-- the empty slice literal -/
theorem op_lit0 {d T E m by_ : Nat} {z : Value} (hd : o.dst = some d) (ho : o.op = .buildSlice T 0 #[]) (hT : SliceOf P T E m by_ z) : Op1 P n o ⟨[], [.t d], []⟩ σ [(.t d, some (.one (.c (.own E m []))))] where
  does := fun σ' hag hal C who a w hr hdst K Q hK => by
    obtain ⟨i', hi', hz0, hz1, hz2⟩ := info_parts hT.info
    have hrun : (execOp a.eval o).run P w = .ok (.value (.slice (some ⟨w.heap.size, 0, none⟩) 0 0)) (w.alloc (.cells #[] E)) := by
      simp [execOp, ho, Instr.buildSlice, run_underlying hT.und, sizeOf, typeInfo, hi', Instr.fill, newRow]
      have : Array.range 0 = #[] := by decide
      rw [this, Array.map_empty]
    unfold Oper.wp
    rw [hrun]
    show K (a.put o.dst _) _
    have hnew : who w.heap.size = .other := by
      rcases Classical.em (who w.heap.size = .other) with h | h
      · exact h
      · exact absurd (hr.fz _ h) (Nat.lt_irrefl _)
    have hstp : Stp who w (fun b => if b = w.heap.size then .own (.t d) 0 0 else who b) (w.alloc (.cells #[] E)) (fun _ => False) (fun _ => False) :=
      ⟨rfl, rfl, rfl, by simp, fun b hb _ => Below.heap_alloc w _ b hb, fun b hb _ => by rw [if_neg (by omega)], fun _ h => h.elim, fun _ h => h.elim⟩
    refine hK (fun b => if b = w.heap.size then .own (.t d) 0 0 else who b) _ _ ?_
    rw [hd]
    have hr1 := hr.stp hstp (fun _ _ _ => ⟨fun h => h, fun h => h⟩) (fun _ _ _ _ h => h) (fun b hb => by
      split at hb
      · rename_i h; subst h; simp
      · have := hr.fz b hb; simp; omega) (fun b b' j hb hb' => by
      split at hb
      · cases hb
      · split at hb'
        · cases hb'
        · exact hr.bxu b b' j hb hb') (fun _ _ _ _ _ h => by rcases h with h | h <;> exact h.elim) (fun _ _ _ h => h.elim) (fun _ _ _ h => by rcases h with h | h <;> exact h.elim) (fun b j hb hnb => by
      split at hb
      · cases hb
      · exact absurd hb hnb)
    refine hr1.put (hdst d hd) (x := .one (.c (.own E m []))) ⟨Own.lit0 (Nat.zero_le _), fun k hk => ?_⟩
    simp only [Value.ownBlock, Option.some.injEq] at hk
    subst hk; simp
  wr := by simp
  me := fun j hj => by simp [St.ids, oids, X.ids, A1.ids, CV.ids] at hj
  al := by simp
end
section
variable {P : Program} {n : Nat} {σ : St} {Q : Exit → St → Prop} {c : Code}
/-- no slice is too long -/
theorem dwp_len {t : Nat} {ds : List D} (hs : St.get σ (.t t) = some (.one (.c (.arr ds)))) (h : ds.length ≤ 9223372036854775807 → dwp P n c Q σ) : dwp P n c Q σ := fun C who a w hr => by
  have hx : rd w (Fz who) (.arr ds) [a.tmps.getD t undef] := hr.slot t _ hs
  obtain ⟨ad, cap, _, h1, h2, _⟩ := hx
  exact h (by simp only [maxLen] at h2; omega) C who a w hr
theorem dwp_lenA {t q : Nat} {cs : List CV} {ds : List D} (hs : St.get σ (.t t) = some (.one (.agg cs))) (hc : cs[q]? = some (.arr ds)) (h : ds.length ≤ 9223372036854775807 → dwp P n c Q σ) : dwp P n c Q σ := fun C who a w hr => by
  obtain ⟨vs, e, hl, hx⟩ : A1m w who (.t t) 0 (.agg cs) (a.tmps.getD t undef) := hr.slot t _ hs
  have hq : q < vs.length := by rw [hl]; exact (List.getElem?_eq_some_iff.1 hc).1
  obtain ⟨ad, cap, _, h1, h2, _⟩ : rd w (Fz who) (.arr ds) [vs[q]] := (hx q _ _ hc (List.getElem?_eq_getElem hq)).1
  exact h (by simp only [maxLen] at h2; omega) C who a w hr
end
end Go.Proofs.YtmanhdacnkpclaaGreatDoor

/- What most operations do, reckoned. -/
namespace Go.Proofs.YtmanhdacnkpclaaGreatDoor
set_option linter.unusedVariables false
set_option linter.unusedSimpArgs false
open Go.RowKit

structure Tabs (P : Program) where
  fo : Nat → Nat → Option Nat
  fo_ok : ∀ {S f off : Nat}, fo S f = some off → fieldOff P S f = some off
  rw : Nat → Option (Bool × Nat)
  rw_ok : ∀ {T m : Nat} {r : Bool}, rw T = some (r, m) → rowT P T = some (r, m)
  zo : Nat → Option (List Value)
  zo_ok : ∀ {T : Nat} {zs : List Value}, zo T = some zs → zeroOf P T = some zs
  sl : Nat → Option (Nat × Nat × Nat)
  sl_ok : ∀ {T E m b : Nat}, sl T = some (E, m, b) → ∃ z, SliceOf P T E m b z
  fp : Nat → Option (List (Nat × Nat))
  fp_ok : ∀ {T : Nat} {l : List (Nat × Nat)}, fp T = some l → fieldPl P T = some l
  bt : Nat → Bool
  bt_ok : ∀ {T : Nat}, bt T = true → ∀ a b : Bool, Bin P .eql T (.bool a) (.bool b) (.bool (a == b)) ∧ Bin P .neq T (.bool a) (.bool b) (.bool (a != b))
  st : Nat → Bool
  st_ok : ∀ {T : Nat}, st T = true → P.underlying T = some .string

section
variable {P : Program} (T : Tabs P)
def vI (d : Nat) (ks : List Key) (x : X) : Info × St := (⟨ks ++ x.ids.map Key.b, [.t d], []⟩, [(.t d, some x)])
def stLoad (d : Nat) (s : Operand) (σ : St) (row : Bool) (m : Nat) : Option X → Option (Info × St)
  | some (.one (.c (.ptr j q))) => bif Nat.ble j EXT then (match St.get σ (.b j) with
    | some (.box cs) => bif row then
        (bif Nat.beq ((cs.drop q).take m).length m && ((cs.drop q).take m).all (fun c => c.noOwn && c.oneOk) then some (vI d (opKey s ++ [.b j]) (.one (.agg ((cs.drop q).take m)))) else none)
      else match cs[q]? with
        | some (.own E m' ds) => some (⟨(opKey s ++ [.b j]) ++ ((cs.set q .any).flatMap CV.ids).map Key.b, [.t d, .b j], []⟩, [(.t d, some (.one (.c (.own E m' ds)))), (.b j, some (.box (cs.set q .any)))])
        | some c => bif c.noOwn then some (vI d (opKey s ++ [.b j]) (.one (.c c))) else none
        | none => none
    | _ => none) else none
  | some (.one (.c (.fp (c :: cs)))) => bif row then
      (bif Nat.beq (((c :: cs).take m).map FC.cv).length m && (((c :: cs).take m).map FC.cv).all CV.oneOk then some (vI d (opKey s) (.one (.agg (((c :: cs).take m).map FC.cv)))) else none)
      else some (vI d (opKey s) (.one (.c c.cv)))
  | _ => none
def stStore (s v : Operand) (σ : St) (row : Bool) (m : Nat) : Option X → Option X → Option (Info × St)
  | some (.one (.c (.ptr j q))), some (.one A) => bif Nat.ble j EXT then (match St.get σ (.b j) with
    | some (.box cs) => bif A.noOwn then
        (bif A.cells.all CV.oneOk && Nat.beq A.cells.length m && Nat.ble (q + m) cs.length then
          some (⟨(opKey s ++ opKey v ++ [.b j]) ++ ((cs ++ A.cells).flatMap CV.ids).map Key.b, [.b j], []⟩, [(.b j, some (.box (splL cs q A.cells)))]) else none)
      else match v, A, row, m with
        | .tmp tv, .c (.own E m' ds), false, 1 => bif Nat.blt q cs.length then some (⟨(opKey s ++ [.t tv, .b j]) ++ ((cs.set q (.own E m' ds)).flatMap CV.ids).map Key.b, [.b j, .t tv], []⟩, [(.b j, some (.box (cs.set q (.own E m' ds)))), (.t tv, none)]) else none
        | _, _, _, _ => none
    | _ => none) else none
  | _, _ => none
/-- what an operation does, and what it looks at -/
def stepD (o : Oper) (σ : St) : Option (Info × St) :=
  match o.dst, o.op with
  | some d, .move s | some d, .assign s => match St.ev σ s with
    | some x => bif x.noOwn then some (vI d (opKey s) x) else match s, x with
      | .tmp t, .one (.c (.own E m ds)) => some (⟨[.t t], [.t d, .t t], []⟩, [(.t d, some (.one (.c (.own E m ds)))), (.t t, none)])
      | _, _ => none
    | none => none
  | some d, .fieldAddr S s f => match T.fo S f, St.ev σ s with
    | some off, some (.one (.c (.ptr j q))) => some (vI d (opKey s) (.one (.c (.ptr j (q + off)))))
    | some off, some (.one (.c (.fp cs))) => some (vI d (opKey s) (.one (.c (.fp (cs.drop off)))))
    | _, _ => none
  | some d, .load t s => match T.rw t with
    | some (row, m) => stLoad d s σ row m (St.ev σ s)
    | none => none
  | none, .store t s v => match T.rw t with
    | some (row, m) => stStore s v σ row m (St.ev σ s) (St.ev σ v)
    | none => none
  | some d, .box _ s => match St.ev σ s with
    | some (.one A) => bif A.noOwn && A.cells.all CV.oneOk && (!(Nat.beq d EXT) && Nat.ble d EXT) then some (⟨opKey s ++ (A.cells.flatMap CV.ids).map Key.b, [.t d, .b d], [d]⟩, [(.t d, some (.one (.c (.ptr d 0)))), (.b d, some (.box A.cells))]) else none
    | _ => none
  | some d, .alloc E => match T.zo E with
    | some zs => bif !(Nat.beq d EXT) && Nat.ble d EXT then some (⟨[], [.t d, .b d], [d]⟩, [(.t d, some (.one (.c (.ptr d 0)))), (.b d, some (.box (zs.map CV.val)))]) else none
    | none => none
  | some d, .extract s ix => match St.ev σ s with
    | some (.tup As) => match As[ix]? with
      | some A => bif A.noOwn then some (vI d (opKey s) (.one A)) else none
      | none => none
    | _ => none
  | some d, .build t ps => match T.fp t, T.zo t with
    | some pl, some zs => bif zs.all Value.oneCell' then (match buildC σ pl ps.toList (zs.map CV.val) with
      | some cs => some (vI d (partKeys ps.toList) (.one (.agg cs)))
      | none => none) else none
    | _, _ => none
  | some d, .pick c s1 s2 => match St.ev σ c with
    | some (.one (.c (.val (.bool b)))) => match St.ev σ (if b then s1 else s2) with
      | some x => bif x.noOwn then some (vI d (opKey c ++ opKey (if b then s1 else s2)) x) else none
      | none => none
    | _ => none
  | some d, .unOp .not _ s => match St.ev σ s with
    | some (.one (.c (.val (.bool b)))) => some (vI d (opKey s) (.one (.c (.val (.bool (!b))))))
    | _ => none
  | some d, .binOp .eql t s1 s2 _ => match St.ev σ s1, St.ev σ s2 with
    | some (.one (.c (.val (.bool a)))), some (.one (.c (.val (.bool b)))) => bif T.bt t then some (vI d (opKey s1 ++ opKey s2) (.one (.c (.val (.bool (a == b)))))) else none
    | some (.one (.c (.val (.string a)))), some (.one (.c (.val (.string b)))) => some (vI d (opKey s1 ++ opKey s2) (.one (.c (.val (.bool (a.toList == b.toList))))))
    | _, _ => none
  | some d, .binOp .neq t s1 s2 _ => match St.ev σ s1, St.ev σ s2 with
    | some (.one (.c (.val (.bool a)))), some (.one (.c (.val (.bool b)))) => bif T.bt t then some (vI d (opKey s1 ++ opKey s2) (.one (.c (.val (.bool (a != b)))))) else none
    | some (.one (.c (.val (.string a)))), some (.one (.c (.val (.string b)))) => some (vI d (opKey s1 ++ opKey s2) (.one (.c (.val (.bool (!(a.toList == b.toList)))))))
    | _, _ => none
  | some d, .buildSlice t 0 ps => match T.sl t, ps.toList with
    | some (E, m, _), [] => some (⟨[], [.t d], []⟩, [(.t d, some (.one (.c (.own E m []))))])
    | _, _ => none
  | _, _ => none

variable {T} {n : Nat} {o : Oper} {σ : St}
theorem stLoad_ok {d t : Nat} {s : Operand} {row : Bool} {m : Nat} {i : Info} {δ : St} (hd : o.dst = some d) (ho : o.op = .load t s) (hr : rowT P t = some (row, m)) (h : stLoad d s σ row m (St.ev σ s) = some (i, δ)) : Op1 P n o i σ δ := by
  unfold stLoad at h
  split at h
  · rename_i j q e
    cases hmc : Nat.ble j EXT
    · rw [hmc] at h; cases h
    rw [hmc, cond_true] at h
    split at h
    · rename_i cs eb
      cases row
      · simp only [cond_false] at h
        split at h
        · rename_i E m' ds ec
          injection h with h; injection h with h1 h2; subst h1 h2
          exact op_loadOwn hd ho hr e eb ec rfl hmc
        · rename_i c hno ec
          cases hn : c.noOwn
          · rw [hn] at h; cases h
          · rw [hn] at h
            injection h with h; injection h with h1 h2; subst h1 h2
            exact op_load1B hd ho hr e eb ec hn hmc
        · cases h
      · simp only [cond_true] at h
        cases hc : (Nat.beq ((cs.drop q).take m).length m && ((cs.drop q).take m).all (fun c => c.noOwn && c.oneOk))
        · rw [hc] at h; cases h
        · rw [hc] at h
          simp only [Bool.and_eq_true] at hc
          injection h with h; injection h with h1 h2; subst h1 h2
          exact op_loadNB hd ho hr e eb rfl (Nat.eq_of_beq_eq_true hc.1) hc.2 hmc
    · cases h
  · rename_i c cs e
    cases row
    · simp only [cond_false] at h
      injection h with h; injection h with h1 h2; subst h1 h2
      exact op_load1F hd ho hr e rfl
    · simp only [cond_true] at h
      cases hc : (Nat.beq (((c :: cs).take m).map FC.cv).length m && (((c :: cs).take m).map FC.cv).all CV.oneOk)
      · rw [hc] at h; cases h
      · rw [hc] at h
        simp only [Bool.and_eq_true] at hc
        injection h with h; injection h with h1 h2; subst h1 h2
        exact op_loadNF hd ho hr e rfl (Nat.eq_of_beq_eq_true hc.1) hc.2
  · cases h
theorem stStore_ok {t : Nat} {s v : Operand} {row : Bool} {m : Nat} {i : Info} {δ : St} (hd : o.dst = none) (ho : o.op = .store t s v) (hr : rowT P t = some (row, m)) (h : stStore s v σ row m (St.ev σ s) (St.ev σ v) = some (i, δ)) : Op1 P n o i σ δ := by
  unfold stStore at h
  split at h
  · rename_i j q A e ev
    cases hmc : Nat.ble j EXT
    · rw [hmc] at h; cases h
    rw [hmc, cond_true] at h
    split at h
    · rename_i cs eb
      cases hn : A.noOwn
      · rw [hn] at h
        simp only [cond_false] at h
        split at h
        · rename_i tv E m' ds
          cases hq : Nat.blt q cs.length
          · rw [hq] at h; cases h
          · rw [hq] at h
            injection h with h; injection h with h1 h2; subst h1 h2
            exact op_storeOwn hd ho e eb hr ev hq rfl hmc
        · cases h
      · rw [hn] at h
        simp only [cond_true] at h
        cases hc : (A.cells.all CV.oneOk && Nat.beq A.cells.length m && Nat.ble (q + m) cs.length)
        · rw [hc] at h; cases h
        · rw [hc] at h
          simp only [Bool.and_eq_true] at hc
          injection h with h; injection h with h1 h2; subst h1 h2
          exact op_store hd ho e eb hr ev hn hc.1.1 rfl (Nat.eq_of_beq_eq_true hc.1.2) (Nat.le_of_ble_eq_true hc.2) rfl hmc
    · cases h
  · cases h
theorem vI_eq {d : Nat} {ks : List Key} {x : X} {i : Info} {δ : St} (h : some (vI d ks x) = some (i, δ)) : i = ⟨ks ++ x.ids.map Key.b, [.t d], []⟩ ∧ δ = [(.t d, some x)] := by
  injection h with h; injection h with h1 h2; exact ⟨h1.symm, h2.symm⟩

theorem stepD_ok {i : Info} {δ : St} (h : stepD T o σ = some (i, δ)) : Op1 P n o i σ δ := by
  unfold stepD at h
  split at h
  · rename_i d s hd ho
    split at h
    · rename_i x e
      cases hn : x.noOwn
      · rw [hn] at h
        simp only [cond_false] at h
        split at h
        · injection h with h; injection h with h1 h2; subst h1 h2
          exact op_moveOwn hd (.inl ho) e
        · cases h
      · rw [hn] at h
        obtain ⟨rfl, rfl⟩ := vI_eq h
        exact op_move hd (.inl ho) e hn
    · cases h
  · rename_i d s hd ho
    split at h
    · rename_i x e
      cases hn : x.noOwn
      · rw [hn] at h
        simp only [cond_false] at h
        split at h
        · injection h with h; injection h with h1 h2; subst h1 h2
          exact op_moveOwn hd (.inr ho) e
        · cases h
      · rw [hn] at h
        obtain ⟨rfl, rfl⟩ := vI_eq h
        exact op_move hd (.inr ho) e hn
    · cases h
  · rename_i d S s f hd ho
    split at h
    · rename_i off j q e1 e2
      obtain ⟨rfl, rfl⟩ := vI_eq h
      exact op_fldB hd ho (T.fo_ok e1) e2 rfl
    · rename_i off cs e1 e2
      obtain ⟨rfl, rfl⟩ := vI_eq h
      exact op_fldF hd ho (T.fo_ok e1) e2 rfl
    · cases h
  · rename_i d t s hd ho
    split at h
    · rename_i row m e
      exact stLoad_ok hd ho (T.rw_ok e) h
    · cases h
  · rename_i t s v hd ho
    split at h
    · rename_i row m e
      exact stStore_ok hd ho (T.rw_ok e) h
    · cases h
  · rename_i d E s hd ho
    split at h
    · rename_i A e
      cases hc : (A.noOwn && A.cells.all CV.oneOk && (!(Nat.beq d EXT) && Nat.ble d EXT))
      · rw [hc] at h; cases h
      · rw [hc] at h
        simp only [Bool.and_eq_true, Bool.not_eq_true'] at hc
        injection h with h; injection h with h1 h2; subst h1 h2
        exact op_box hd ho e hc.1.1 hc.1.2 rfl hc.2.1 hc.2.2
    · cases h
  · rename_i d E hd ho
    split at h
    · rename_i zs e
      cases hc : (!(Nat.beq d EXT) && Nat.ble d EXT)
      · rw [hc] at h; cases h
      · rw [hc] at h
        simp only [Bool.and_eq_true, Bool.not_eq_true'] at hc
        injection h with h; injection h with h1 h2; subst h1 h2
        exact op_alloc hd ho (T.zo_ok e) rfl hc.1 hc.2
    · cases h
  · rename_i d s ix hd ho
    split at h
    · rename_i As e
      split at h
      · rename_i A eA
        cases hn : A.noOwn
        · rw [hn] at h; cases h
        · rw [hn] at h
          obtain ⟨rfl, rfl⟩ := vI_eq h
          exact op_extract hd ho e eA hn
      · cases h
    · cases h
  · rename_i d t ps hd ho
    split at h
    · rename_i pl zs e1 e2
      cases hz : zs.all Value.oneCell'
      · rw [hz] at h; cases h
      · rw [hz] at h
        simp only [cond_true] at h
        split at h
        · rename_i cs eb
          obtain ⟨rfl, rfl⟩ := vI_eq h
          exact op_build hd ho (T.fp_ok e1) (T.zo_ok e2) hz eb
        · cases h
    · cases h
  · rename_i d c s1 s2 hd ho
    split at h
    · rename_i b e
      split at h
      · rename_i x ex
        cases hn : x.noOwn
        · rw [hn] at h; cases h
        · rw [hn] at h
          obtain ⟨rfl, rfl⟩ := vI_eq h
          exact op_pick hd ho e ex hn
      · cases h
    · cases h
  · rename_i d t s hd ho
    split at h
    · rename_i b e
      obtain ⟨rfl, rfl⟩ := vI_eq h
      exact op_not hd ho e rfl
    · cases h
  · rename_i d t s1 s2 t' hd ho
    split at h
    · rename_i a b e1 e2
      cases hb : T.bt t
      · rw [hb] at h; cases h
      · rw [hb] at h
        obtain ⟨rfl, rfl⟩ := vI_eq h
        exact op_bin hd ho e1 e2 (T.bt_ok hb a b).1
    · rename_i a b e1 e2
      obtain ⟨rfl, rfl⟩ := vI_eq h
      exact op_bin hd ho e1 e2 (bin_eqlS rfl)
    · cases h
  · rename_i d t s1 s2 t' hd ho
    split at h
    · rename_i a b e1 e2
      cases hb : T.bt t
      · rw [hb] at h; cases h
      · rw [hb] at h
        obtain ⟨rfl, rfl⟩ := vI_eq h
        exact op_bin hd ho e1 e2 (T.bt_ok hb a b).2
    · rename_i a b e1 e2
      obtain ⟨rfl, rfl⟩ := vI_eq h
      exact op_bin hd ho e1 e2 (bin_neqS rfl)
    · cases h
  · rename_i d t ps hd ho
    split at h
    · rename_i E m b e1 e2
      injection h with h; injection h with h1 h2; subst h1 h2
      obtain ⟨z, hz⟩ := T.sl_ok e1
      have : ps = #[] := by cases ps; simp at e2; subst e2; rfl
      subst this
      exact op_lit0 hd ho hz
    · cases h
  · cases h

/-- comparisons of numbers -/
def cmpP : BinOp → Int → Int → Prop
  | .lss, a, b => a < b
  | .leq, a, b => a ≤ b
  | .gtr, a, b => b < a
  | .geq, a, b => b ≤ a
  | .eql, a, b => a = b
  | .neq, a, b => a ≠ b
  | _, _, _ => False
def isCmp : BinOp → Bool
  | .lss | .leq | .gtr | .geq | .eql | .neq => true
  | _ => false
def cmpB : BinOp → Int → Int → Bool
  | .lss, a, b => decide (a < b)
  | .leq, a, b => decide (a ≤ b)
  | .gtr, a, b => decide (b < a)
  | .geq, a, b => decide (b ≤ a)
  | .eql, a, b => decide (a = b)
  | .neq, a, b => !decide (a = b)
  | _, _, _ => false
structure CmpR (op : BinOp) (a b : Int) (r : Bool) : Prop where
  eq : cmpB op a b = r
theorem cmpT {op : BinOp} {a b : Int} (h : cmpP op a b) : CmpR op a b true := ⟨by cases op <;> simp_all [cmpP, cmpB]⟩
theorem cmpF {op : BinOp} {a b : Int} (h : ¬ cmpP op a b) : CmpR op a b false := ⟨by cases op <;> simp_all [cmpP, cmpB]⟩
theorem cmpD {op : BinOp} {a b : Int} : CmpR op a b (cmpB op a b) := ⟨rfl⟩
theorem bin_cmp {op : BinOp} {t : Nat} {k : IntKind} {a b : Int} {r : Bool} (hop : isCmp op = true) (h : CmpR op a b r) : Bin P op t (.int k a) (.int k b) (.bool r) := by
  obtain ⟨h⟩ := h
  cases op <;> first | (simp [isCmp] at hop; done) | exact bin_lss h | exact bin_leq h | exact bin_gtr h | exact bin_geq h | exact bin_eql h | exact bin_neq h
theorem op_cmp {d : Nat} {op : BinOp} {t t' : TypeId} {s1 s2 : Operand} {k : IntKind} {a b : Int} {r : Bool} (hd : o.dst = some d) (ho : o.op = .binOp op t s1 s2 t') (hop : isCmp op = true) (h1 : St.ev σ s1 = some (.one (.c (.val (.int k a))))) (h2 : St.ev σ s2 = some (.one (.c (.val (.int k b)))))
    (hb : CmpR op a b r) : Op1 P n o ⟨(opKey s1 ++ opKey s2) ++ (X.one (.c (.val (.bool r)))).ids.map Key.b, [.t d], []⟩ σ [(.t d, some (.one (.c (.val (.bool r)))))] := op_bin hd ho h1 h2 (bin_cmp hop hb)

/-- data of one kind: what cells it has -/
class FCs {α : Type} (f : α → D) (m : outParam Nat) (g : outParam (α → List FC)) : Prop where
  eq : ∀ x, (f x).fc = g x
  len : ∀ x, (g x).length = m
  one : ∀ x, (g x).all FC.oneOk = true
theorem FCs.lenL {α : Type} {f : α → D} {m : Nat} {g : α → List FC} [h : FCs f m g] (l : List α) : ∀ d ∈ l.map f, d.fc.length = m := Go.Proofs.YtmanhdacnkpclaaGreatDoor.lenL (fun x => by rw [h.eq]; exact h.len x) l
theorem FCs.oneL {α : Type} {f : α → D} {m : Nat} {g : α → List FC} [h : FCs f m g] (l : List α) : ∀ d ∈ l.map f, d.fc.all FC.oneOk = true := Go.Proofs.YtmanhdacnkpclaaGreatDoor.oneL (fun x => by rw [h.eq]; exact h.one x) l
theorem op_lenT {α : Type} {f : α → D} {l : List α} {d t E m b : Nat} {s : Operand} (hd : o.dst = some d) (ho : o.op = .call { callee := .builtin .len, args := #[s], argTypes := #[t] }) (hT : T.sl t = some (E, m, b)) (hs : St.ev σ s = some (.one (.c (.arr (l.map f))))) :
    Op1 P n o ⟨opKey s ++ (X.one (iA l.length)).ids.map Key.b, [.t d], []⟩ σ [(.t d, some (.one (iA l.length)))] := by
  obtain ⟨z, hz⟩ := T.sl_ok hT
  exact op_lenL hd ho hz hs rfl
theorem op_idxT {α : Type} {f : α → D} {m : Nat} {g : α → List FC} [FCs f m g] {l : List α} {d t E b : Nat} {s i : Operand} {k : Nat} {kk : IntKind} {zi : Int} {x : α} (hd : o.dst = some d) (ho : o.op = .indexAddr t s i) (hT : T.sl t = some (E, m, b)) (hs : St.ev σ s = some (.one (.c (.arr (l.map f)))))
    (hi : St.ev σ i = some (.one (.c (.val (.int kk zi))))) (hx : l[k]? = some x) (hz : zi = (k : Int)) :
    Op1 P n o ⟨(opKey s ++ opKey i) ++ (X.one (.c (.fp (g x)))).ids.map Key.b, [.t d], []⟩ σ [(.t d, some (.one (.c (.fp (g x)))))] := by
  obtain ⟨z, hzz⟩ := T.sl_ok hT
  exact op_idx hd ho hzz hs hi hz (by rw [List.getElem?_map, hx]; rfl) (FCs.lenL l) (FCs.eq x)
theorem op_appT {α : Type} {f : α → D} {m : Nat} {g : α → List FC} [FCs f m g] {l es rs : List α} {d t E b t1 : Nat} {y : Operand} (hd : o.dst = some d) (ho : o.op = .call { callee := .builtin .append, args := #[.tmp t1, y], argTypes := #[t, t] }) (hT : T.sl t = some (E, m, b))
    (hs : St.get σ (.t t1) = some (.one (.c (.own E m (l.map f))))) (hy : St.ev σ y = some (.one (.c (.arr (es.map f))))) (hc : l ++ es = rs) (hby : rs.length * b ≤ 140737488355328) (hb : b ≠ 0) :
    Op1 P n o ⟨[.t t1] ++ opKey y, [.t d, .t t1], []⟩ σ [(.t d, some (.one (.c (.own E m (rs.map f))))), (.t t1, none)] := by
  obtain ⟨z, hz⟩ := T.sl_ok hT
  subst hc
  have h2 : (l ++ es).length ≤ 140737488355328 := Nat.le_trans (Nat.le_mul_of_pos_right _ (Nat.pos_of_ne_zero hb)) hby
  rw [List.length_append] at hby h2
  exact op_app hd ho hz hs hy (FCs.lenL es) (FCs.oneL es) (by simpa using hby) (by simp; omega) (by simp)
theorem fcs_map {α : Type} {f : α → D} {m : Nat} {g : α → List FC} [FCs f m g] : ∀ l : List α, fcs (l.map f) = l.flatMap g
  | [] => rfl
  | x :: l => by simp only [List.map_cons, fcs, List.flatMap_cons, fcs_map l, FCs.eq x]
theorem op_bsT {α : Type} {f : α → D} {m : Nat} {g : α → List FC} [FCs f m g] (l : List α) {d t E b len : Nat} {ps : Array (Nat × Operand)} {zs : List Value} {cs : List CV} (hd : o.dst = some d) (ho : o.op = .buildSlice t len ps) (hT : T.sl t = some (E, m, b)) (hz : T.zo E = some zs)
    (hlen : Nat.ble (len * m) 16777216 = true) (hl0 : Nat.blt 0 len = true) (hzo : zs.all Value.oneCell' = true) (hzm : zs.length = m)
    (hb : buildC σ ((List.range len).map fun i => (i * m, m)) ps.toList ((List.replicate len (zs.map CV.val)).flatten) = some cs) (hds : (l.flatMap g).map FC.cv = cs) (hdl : l.length = len) :
    Op1 P n o ⟨partKeys ps.toList, [.t d], []⟩ σ [(.t d, some (.one (.c (.arr (l.map f)))))] := by
  obtain ⟨z, hzz⟩ := T.sl_ok hT
  exact op_buildSlice hd ho hzz (Nat.le_of_ble_eq_true hlen) (Nat.lt_of_succ_le (Nat.le_of_ble_eq_true hl0)) (T.zo_ok hz) hzo hzm hb (by rw [fcs_map]; exact hds) (by simp [hdl])
end
section
variable {P : Program} {n : Nat} {dr : Bool} {ops : Array Oper} {os : List Oper} {o : Oper} {acc : List Info} {i : Info} {σ : St} {K : St → Prop}
theorem SqA.a1 (T : Tabs P) {e : Key × Option X} (h : stepD T o σ = some (i, [e])) (hg : guardIs ops o σ = some true) (hal : i.al.all (fun j => nomem j (St.ids σ)) = true) (hk : SqA P n dr ops os (⟨guardKeys ops o ++ i.rd, i.wr, i.al⟩ :: acc) (e :: σ) K) : SqA P n dr ops (o :: os) acc σ K :=
  .goG (stepD_ok h) hg hal hk
theorem SqA.a2 (T : Tabs P) {e e' : Key × Option X} (h : stepD T o σ = some (i, [e, e'])) (hg : guardIs ops o σ = some true) (hal : i.al.all (fun j => nomem j (St.ids σ)) = true) (hk : SqA P n dr ops os (⟨guardKeys ops o ++ i.rd, i.wr, i.al⟩ :: acc) (e :: e' :: σ) K) : SqA P n dr ops (o :: os) acc σ K :=
  .goG (stepD_ok h) hg hal hk
theorem SqA.b1 {e : Key × Option X} (h : Op1 P n o i σ [e]) (hg : guardIs ops o σ = some true) (hal : i.al.all (fun j => nomem j (St.ids σ)) = true) (hk : SqA P n dr ops os (⟨guardKeys ops o ++ i.rd, i.wr, i.al⟩ :: acc) (e :: σ) K) : SqA P n dr ops (o :: os) acc σ K := .goG h hg hal hk
theorem SqA.b2 {e e' : Key × Option X} (h : Op1 P n o i σ [e, e']) (hg : guardIs ops o σ = some true) (hal : i.al.all (fun j => nomem j (St.ids σ)) = true) (hk : SqA P n dr ops os (⟨guardKeys ops o ++ i.rd, i.wr, i.al⟩ :: acc) (e :: e' :: σ) K) : SqA P n dr ops (o :: os) acc σ K := .goG h hg hal hk
end

section
variable {P : Program} {n : Nat} {x y : Code} {s : Operand} {Q : Exit → St → Prop} {σ : St} {b : Bool}
end
/-! ## this program's tables -/
def zoT : List (Nat × List Value) := [(3, [.int .i64 0]), (4, [.bool false]), (9, [.string ⟨#[]⟩]), (5, [.int .u8 0]), (28, [.int .i64 0]), (36, [.bool false, .int .i64 0, .slice none 0 0]), (38, [.int .i64 0, .bool false, .int .i64 0, .slice none 0 0]),
  (22, [.slice none 0 0]), (23, [.slice none 0 0]), (34, [.slice none 0 0]), (27, [.slice none 0 0])
  , (44, [.bool false, .bool false, .int .i64 0, .slice none 0 0, .bool false, .int .i64 0, .slice none 0 0])
  , (25, [.slice none 0 0])
  , (98, [.slice none 0 0, .string ⟨#[]⟩, .int .i64 0])
  , (133, [.nilFunc])
  ]
theorem zoT_all : ∀ e ∈ zoT, zeroOf Tryz.prog e.1 = some e.2 := by
  unfold zoT
  repeat (first | exact List.forall_mem_nil _ | refine List.forall_mem_cons.2 ⟨(by kernel_rfl), ?_⟩)
theorem zoT_ok {t : Nat} {zs : List Value} (h : look2 zoT t = some zs) : zeroOf Tryz.prog t = some zs := zoT_all (t, zs) (look2_mem h)
def slT : List (Nat × Nat × Nat × Nat) := [
  (22, 3, 1, 8)
  , (23, 3, 1, 8)
  , (34, 36, 3, 40)
  , (27, 38, 4, 48)
  , (25, 44, 7, 88)
  , (53, 9, 1, 16)
  , (80, 5, 1, 1)
  ]
theorem slT_all : ∀ e ∈ slT, ∃ z, SliceOf Tryz.prog e.1 e.2.1 e.2.2.1 e.2.2.2 z := by
  unfold slT
  repeat (first | exact List.forall_mem_nil _ | refine List.forall_mem_cons.2 ⟨(by first | exact ⟨_, slInt⟩ | exact ⟨_, slSig⟩ | exact ⟨_, slTerm⟩ | exact ⟨_, slSub⟩ | exact ⟨_, slIntss⟩ | exact ⟨_, slClause⟩ | exact ⟨_, slClauses⟩ | exact ⟨_, slSteps⟩ | exact ⟨_, slSubs⟩ | exact ⟨_, slTwos⟩ | exact ⟨_, slStrs⟩ | exact ⟨_, slBytes⟩ | exact ⟨_, slBools⟩ | exact ⟨_, slClausess⟩), ?_⟩)
theorem slT_ok {t E m b : Nat} (h : look2 slT t = some (E, m, b)) : ∃ z, SliceOf Tryz.prog t E m b z := slT_all (t, E, m, b) (look2_mem h)
def fpT : List (Nat × List (Nat × Nat)) := [
  (36, [(0, 1), (1, 1), (2, 1)])
  , (38, [(0, 1), (1, 3)])
  , (44, [(0, 1), (1, 3), (4, 3)])
  , (98, [(0, 1), (1, 1), (2, 1)])
  ]
theorem fpT_all : ∀ e ∈ fpT, fieldPl Tryz.prog e.1 = some e.2 := by
  unfold fpT
  repeat (first | exact List.forall_mem_nil _ | refine List.forall_mem_cons.2 ⟨(by kernel_rfl), ?_⟩)
theorem fpT_ok {t : Nat} {l : List (Nat × Nat)} (h : look2 fpT t = some l) : fieldPl Tryz.prog t = some l := fpT_all (t, l) (look2_mem h)
def TB : Tabs Tryz.prog where
  fo := look3 foT
  fo_ok := fo_of
  rw := look2 rwT
  rw_ok := rw_of
  zo := look2 zoT
  zo_ok := zoT_ok
  sl := look2 slT
  sl_ok := slT_ok
  fp := look2 fpT
  fp_ok := fpT_ok
  bt := fun t => Nat.beq t 4
  bt_ok := fun {t} h a b => by
    have := Nat.eq_of_beq_eq_true h
    subst this
    exact ⟨bin_eqlB rfl, bin_neqB rfl⟩
  st := fun t => Nat.beq t 9
  st_ok := fun {t} h => by
    have := Nat.eq_of_beq_eq_true h
    subst this
    show Tryz.prog.underlying 9 = some .string
    kernel_rfl
instance : FCs Tm.d 3 (fun t => [.val (.bool t.var), .val (.int .i64 t.n), .arr (t.args.map Tm.d)]) := ⟨Tm_fc, fun _ => rfl, fun _ => rfl⟩
instance : FCs Pr.d 4 (fun p => [.val (.int .i64 p.1), .val (.bool p.2.var), .val (.int .i64 p.2.n), .arr (p.2.args.map Tm.d)]) := ⟨Pr_fc, fun _ => rfl, fun _ => rfl⟩
instance : FCs Lt.d 7 (fun p => [.val (.bool p.neg), .val (.bool p.left.var), .val (.int .i64 p.left.n), .arr (p.left.args.map Tm.d), .val (.bool p.right.var), .val (.int .i64 p.right.n), .arr (p.right.args.map Tm.d)]) := ⟨Lt_fc, fun _ => rfl, fun _ => rfl⟩
instance : FCs Int.d 1 (fun n => [.val (.int .i64 n)]) := ⟨Int_fc, fun _ => rfl, fun _ => rfl⟩
instance : FCs Cl.d 1 (fun c => [.arr (c.map Lt.d)]) := ⟨Cl_fc, fun _ => rfl, fun _ => rfl⟩
instance : FCs Is.d 1 (fun l => [.arr (l.map Int.d)]) := ⟨Is_fc, fun _ => rfl, fun _ => rfl⟩
instance : FCs Ss.d 1 (fun l => [.arr (l.map Pr.d)]) := ⟨Ss_fc, fun _ => rfl, fun _ => rfl⟩
end Go.Proofs.YtmanhdacnkpclaaGreatDoor

/- Still more operations. -/
namespace Go.Proofs.YtmanhdacnkpclaaGreatDoor
set_option linter.unusedVariables false
set_option linter.unusedSimpArgs false
open Go.RowKit

section
variable {P : Program} {n : Nat} {o : Oper} {σ : St}
theorem op_sliceLoT {T : Tabs P} {α : Type} {f : α → D} {m : Nat} {g : α → List FC} [FCs f m g] {l : List α} {d t E b : Nat} {zi : Int} {s i : Operand} (hd : o.dst = some d) (ho : o.op = .slice t s (some i) none none) (hT : T.sl t = some (E, m, b)) (hs : St.ev σ s = some (.one (.c (.arr (l.map f)))))
    (hi0 : St.ev σ i = some (.one (.c (.val (.int .i64 zi))))) (h0 : 0 ≤ zi) (hkk : zi.toNat ≤ l.length) : Op1 P n o ⟨(opKey s ++ opKey i) ++ [], [.t d], []⟩ σ [(.t d, some (.one (.c (.arr ((l.drop zi.toNat).map f)))))] := by
  obtain ⟨z, hz⟩ := T.sl_ok hT
  obtain ⟨k, rfl⟩ := Int.eq_ofNat_of_zero_le h0
  have hi := hi0
  have hk : k ≤ l.length := by simpa using hkk
  rw [Int.toNat_natCast]
  have := op_slice (o := o) (n := n) (σ := σ) (l := k) (h := (l.map f).length) (lo := some i) (hi := none) (rs := (l.drop k).map f) hd ho hz hs hi rfl (by simpa using hk) (Nat.le_refl _) (FCs.lenL l) (by
    rw [List.take_of_length_le (by simp), ← List.map_drop])
  simpa [X.ids, A1.ids, CV.ids] using this
theorem op_min {d : Nat} {s1 s2 : Operand} {ts : Array TypeId} {a b c : Int} (hd : o.dst = some d) (ho : o.op = .call { callee := .builtin .min, args := #[s1, s2], argTypes := ts }) (h1 : St.ev σ s1 = some (.one (.c (.val (.int .i64 a))))) (h2 : St.ev σ s2 = some (.one (.c (.val (.int .i64 b))))) (hc : (if b < a then b else a) = c) :
    Op1 P n o ⟨(opKey s1 ++ opKey s2) ++ (X.one (iA c)).ids.map Key.b, [.t d], []⟩ σ [(.t d, some (.one (iA c)))] :=
  .value _ hd fun σ' hag C who x w hr => by
    have e1 : x.eval s1 = .int .i64 a := hr.ev ((ev_agree fun k hk => hag k (List.mem_append_left _ hk)).trans h1)
    have e2 : x.eval s2 = .int .i64 b := hr.ev ((ev_agree fun k hk => hag k (List.mem_append_right _ hk)).trans h2)
    refine ⟨_, ?_, rfl⟩
    subst hc
    simp [execOp, ho, e1, e2, resolve, invoke, builtin, Builtin.min_, Builtin.min2]
end
end Go.Proofs.YtmanhdacnkpclaaGreatDoor
