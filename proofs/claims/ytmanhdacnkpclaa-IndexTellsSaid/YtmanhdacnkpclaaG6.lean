/- Walks over abstract states: code, loops, and what a function does. -/
import Derived.Test.YtmanhdacnkpclaaG5
import Derived.Deep.LoopGhost
namespace Go.Proofs.Ytmanhdacnkpclaa
set_option linter.unusedVariables false
set_option linter.unusedSimpArgs false
open Go.RowKit

def lift (n : Nat) (C : Ctx) (Q : Exit → St → Prop) : Exit → Act → World → Prop := fun e a w => ∃ who σ, Rep n C who σ a w ∧ Q e σ
def dwp (P : Program) (n : Nat) (c : Code) (Q : Exit → St → Prop) (σ : St) : Prop := ∀ (C : Ctx) (who : Nat → Tag) (a : Act) (w : World), Rep n C who σ a w → c.wp P (lift n C Q) a w
def thenD (K : St → Prop) (Q : Exit → St → Prop) : Exit → St → Prop
  | .normal, σ => K σ
  | e, σ => Q e σ
def inB (id : Nat) (Q : Exit → St → Prop) : Exit → St → Prop
  | .exit id', σ => if id' = id then Q .normal σ else Q (.exit id') σ
  | e, σ => Q e σ
/-- the same frame and world, said by another state -/
def Wk (n : Nat) (σ σ' : St) : Prop := ∀ (C : Ctx) (who : Nat → Tag) (a : Act) (w : World), Rep n C who σ a w → ∃ who', Rep n C who' σ' a w

section
variable {P : Program} {n : Nat} {Q : Exit → St → Prop} {σ : St}
theorem dwp_skip (h : Q .normal σ) : dwp P n .skip Q σ := fun C who a w hr => wp_skip ⟨who, σ, hr, h⟩
theorem dwp_label {l : Nat} (h : Q .normal σ) : dwp P n (.label l) Q σ := fun C who a w hr => wp_label ⟨who, σ, hr, h⟩
theorem dwp_exit {id : Nat} (h : Q (.exit id) σ) : dwp P n (.exit id) Q σ := fun C who a w hr => wp_exit ⟨who, σ, hr, h⟩
theorem dwp_ret (h : Q .ret σ) : dwp P n .ret Q σ := fun C who a w hr => wp_ret ⟨who, σ, hr, h⟩
theorem dwp_seq {x y : Code} (h : dwp P n x (thenD (dwp P n y Q) Q) σ) : dwp P n (.seq x y) Q σ := fun C who a w hr =>
  wp_seq (wp_mono (h C who a w hr) fun e a' w' ⟨who', σ', hr', hq⟩ => by
    cases e with
    | normal => exact hq C who' a' w' hr'
    | _ => exact ⟨who', σ', hr', hq⟩)
theorem dwp_block {id : Nat} {c : Code} (h : dwp P n c (inB id Q) σ) : dwp P n (.block id c) Q σ := fun C who a w hr =>
  wp_block (wp_mono (h C who a w hr) fun e a' w' ⟨who', σ', hr', hq⟩ => by
    cases e with
    | exit id' =>
      simp only [Exit.inBlock]
      simp only [inB] at hq
      split
      · rename_i h; rw [if_pos h] at hq; exact ⟨who', σ', hr', hq⟩
      · rename_i h; rw [if_neg h] at hq; exact ⟨who', σ', hr', hq⟩
    | _ => exact ⟨who', σ', hr', hq⟩)
theorem dwp_cond {c : Operand} {x y : Code} {b : Bool} (hc : St.ev σ c = some (.one (.c (.val (.bool b))))) (ht : b = true → dwp P n x Q σ) (hf : b = false → dwp P n y Q σ) : dwp P n (.cond c x y) Q σ := fun C who a w hr => by
  have e : a.eval c = .bool b := hr.ev hc
  exact wp_cond_split e (fun h => ht h C who a w hr) (fun h => hf h C who a w hr)
theorem dwp_condT {c : Operand} {x y : Code} (hc : St.ev σ c = some (.one (.c (.val (.bool true))))) (ht : dwp P n x Q σ) : dwp P n (.cond c x y) Q σ := dwp_cond hc (fun _ => ht) (fun h => by cases h)
theorem dwp_condF {c : Operand} {x y : Code} (hc : St.ev σ c = some (.one (.c (.val (.bool false))))) (hf : dwp P n y Q σ) : dwp P n (.cond c x y) Q σ := dwp_cond hc (fun h => by cases h) (fun _ => hf)
theorem thenD_n {K : St → Prop} (h : K σ) : thenD K Q .normal σ := h
theorem thenD_ret {K : St → Prop} (h : Q .ret σ) : thenD K Q .ret σ := h
theorem thenD_exit {K : St → Prop} {id : Nat} (h : Q (.exit id) σ) : thenD K Q (.exit id) σ := h
theorem inB_n {id : Nat} (h : Q .normal σ) : inB id Q .normal σ := h
theorem inB_ret {id : Nat} (h : Q .ret σ) : inB id Q .ret σ := h
theorem inB_same {id : Nat} (h : Q .normal σ) : inB id Q (.exit id) σ := by simp only [inB, if_pos rfl]; exact h
theorem inB_ne {id id' : Nat} (hne : Nat.beq id' id = false) (h : Q (.exit id') σ) : inB id Q (.exit id') σ := by
  have : id' ≠ id := fun e => by rw [e, Nat.beq_refl] at hne; cases hne
  simp only [inB, if_neg this]; exact h

theorem Wk.refl : Wk n σ σ := fun _ who _ _ h => ⟨who, h⟩
theorem Wk.trans {σ' σ'' : St} (h : Wk n σ σ') (h' : Wk n σ' σ'') : Wk n σ σ'' := fun C who a w hr => by
  obtain ⟨who', hr'⟩ := h C who a w hr
  exact h' C who' a w hr'
theorem dwp_wk {c : Code} {σ' : St} (h : Wk n σ σ') (h' : dwp P n c Q σ') : dwp P n c Q σ := fun C who a w hr => by
  obtain ⟨who', hr'⟩ := h C who a w hr
  exact h' C who' a w hr'
/-- what is forgotten -/
def Fg (σ' σ : St) : Prop := ∀ k x, St.get σ' k = some x → St.get σ k = some x
theorem Fg.nil : Fg [] σ := fun k x h => by simp [St.get] at h
theorem Fg.cons {k : Key} {x : Option X} {σ' : St} (h : St.get σ k = x) (h' : Fg σ' σ) : Fg ((k, x) :: σ') σ := fun k' x' hx => by
  simp only [St.get] at hx
  cases e : Key.is k k'
  · rw [e] at hx; exact h' k' x' hx
  · rw [e] at hx
    have := Key.is_iff.1 e
    subst this; rw [h]; exact hx
theorem Fg.wk {σ' : St} (h : Fg σ' σ) : Wk n σ σ' := fun _ who _ _ hr => ⟨who, hr.forget h⟩
theorem Wk.freeze {d E m : Nat} {ds : List D} : Wk n ((.t d, some (.one (.c (.own E m ds)))) :: σ) ((.t d, some (.one (.c (.arr ds)))) :: σ) := fun _ _ _ _ hr => hr.freeze
theorem Wk.add {d : Nat} {x : X} (h : ∀ C who a w, Rep n C who σ a w → Xm w who (.t d) x (a.tmps.getD d undef)) : Wk n σ ((.t d, some x) :: σ) := fun C who a w hr => ⟨who, hr.addSlot (h C who a w hr)⟩
theorem Wk.nilOwn {d E m : Nat} (h : St.get σ (.t d) = some (.one (.c (.val (.slice none 0 0))))) : Wk n σ ((.t d, some (.one (.c (.own E m [])))) :: σ) :=
  Wk.add fun C who a w hr => by
    have e : a.tmps.getD d undef = .slice none 0 0 := hr.slot d _ h
    rw [e]
    exact ⟨Own.nil _ _ _ _ _, fun k hk => by simp [Value.ownBlock] at hk⟩
theorem rd_nil {w : World} {F : Nat → Prop} : rd w F (.arr []) [.slice none 0 0] := ⟨none, 0, rfl, Nat.le_refl _, by simp [maxLen], .inl rfl⟩
theorem Wk.nilArr {d : Nat} (h : St.get σ (.t d) = some (.one (.c (.val (.slice none 0 0))))) : Wk n σ ((.t d, some (.one (.c (.arr [])))) :: σ) :=
  Wk.add fun C who a w hr => by
    have e : a.tmps.getD d undef = .slice none 0 0 := hr.slot d _ h
    rw [e]; exact rd_nil
/-- freezes a slot wherever it stands -/
theorem Wk.freezeAt {d E m : Nat} {ds : List D} (h : St.get σ (.t d) = some (.one (.c (.own E m ds)))) : Wk n σ ((.t d, some (.one (.c (.arr ds)))) :: σ) := by
  refine Wk.trans (σ' := (.t d, some (.one (.c (.own E m ds)))) :: σ) ?_ Wk.freeze
  exact Wk.add fun C who a w hr => hr.slot d _ h

theorem dwp_loop {α : Type} {c : Code} (I : α → St) (J : α → Prop) (μ : α → Nat) (x0 : α) (hJ : J x0) (h0 : Wk n σ (I x0))
    (round : ∀ x, J x → dwp P n c (thenD (fun σ' => ∃ x', J x' ∧ Wk n σ' (I x') ∧ μ x' < μ x) Q) (I x)) : dwp P n (.loop c) Q σ := fun C who a w hr => by
  obtain ⟨who', hr'⟩ := h0 C who a w hr
  refine wp_loop_ghost (fun k a w => ∃ x who, J x ∧ μ x = k ∧ Rep n C who (I x) a w) (μ x0) ⟨x0, who', hJ, rfl, hr'⟩ ?_
  rintro k a w ⟨x, who, hJx, rfl, hrx⟩
  refine wp_mono (round x hJx C who a w hrx) fun e a' w' ⟨who', σ', hr', hq⟩ => ?_
  cases e with
  | normal =>
    obtain ⟨x', hJ', hwk, hlt⟩ := hq
    obtain ⟨who'', hr''⟩ := hwk C who' a' w' hr'
    exact ⟨μ x', hlt, x', who'', hJ', rfl, hr''⟩
  | _ => exact ⟨who', σ', hr', hq⟩

theorem Rep.drew {C : Ctx} {who : Nat → Tag} {a : Act} {w : World} (h : Rep n C who σ a w) : Rep n C who σ a { w with drawn := w.drawn + 1 } := by
  have hs : Stp who w who { w with drawn := w.drawn + 1 } (fun _ => False) (fun _ => False) := ⟨rfl, rfl, rfl, Nat.le_refl _, fun _ _ _ => rfl, fun _ _ _ => rfl, fun _ h => h.elim, fun _ h => h.elim⟩
  exact h.stp hs (fun _ _ _ => ⟨fun h => h, fun h => h⟩) (fun _ _ _ _ h => h) h.fz h.bxu (fun _ _ _ _ _ h => by rcases h with h | h <;> exact h.elim) (fun _ _ _ h => h.elim) (fun _ _ _ h => by rcases h with h | h <;> exact h.elim) (fun _ _ h h' => absurd h h')

def dstsLt (n : Nat) (ops : List Oper) : Bool := ops.all fun o => match o.dst with | some d => Nat.blt d n | none => true
theorem dstsLt_spec {ops : List Oper} (h : dstsLt n ops = true) : ∀ o ∈ ops, ∀ d, o.dst = some d → d < n := fun o ho d hd => by
  have := List.all_eq_true.1 h o ho
  rw [hd] at this
  exact Nat.lt_of_succ_le (Nat.le_of_ble_eq_true this)
theorem dwp_region {id : Nat} {ops : List Oper} {is : List Info} (h : Sq P n ops.toArray ops is σ (fun σ' => Q .normal σ')) (hd : dstsLt n ops = true) : dwp P n (.region id ops.toArray false) Q σ := fun C who a w hr =>
  wp_region_lit (Sq.list (fun σ' who' a' w' hq hr' => ⟨who', σ', hr', hq⟩) ops is σ who a w (dstsLt_spec hd) h hr)
theorem dwp_draw (hm : P.follows .mixedOrders = true) {id : Nat} {ops : List Oper} {is : List Info} (h : Sq P n ops.toArray ops is σ (fun σ' => Q .normal σ')) (hd : dstsLt n ops = true) (hchk : chk ops.toArray is = true) : dwp P n (.region id ops.toArray true) Q σ := fun C who a w hr =>
  wp_region_any hm (Sq.any (K := fun σ' => Q .normal σ') h hchk (dstsLt_spec hd) (fun σ' who' a' w' hq hr' => ⟨who', σ', hr', hq⟩) hr.drew)

variable {ops : Array Oper} {os : List Oper} {o : Oper} {K : St → Prop} {is : List Info}
theorem Sq.go {i : Info} {δ : St} (h : Op1 P n o i σ δ) (hg : o.guard = none) (hal : i.al.all (fun j => nomem j (St.ids σ)) = true) (hk : Sq P n ops os is (δ ++ σ) K) : Sq P n ops (o :: os) (i :: is) σ K :=
  ⟨i, is, δ, rfl, ⟨by simp [guardKeys, hg], .inl ⟨by simp [guardIs, hg], h, fun j hj => nomem_iff.1 (List.all_eq_true.1 hal j hj)⟩⟩, hk⟩
theorem Op1.more {i : Info} {δ : St} (h : Op1 P n o i σ δ) (ks : List Key) : Op1 P n o ⟨ks ++ i.rd, i.wr, i.al⟩ σ δ :=
  ⟨fun σ' hag hal => h.does σ' (fun k hk => hag k (List.mem_append_right _ hk)) hal, h.wr, fun j hj => (h.me j hj).imp (fun h => List.mem_append_right _ h) id, h.al⟩
theorem Sq.goG {i : Info} {δ : St} (h : Op1 P n o i σ δ) (hg : guardIs ops o σ = some true) (hal : i.al.all (fun j => nomem j (St.ids σ)) = true) (hk : Sq P n ops os is (δ ++ σ) K) : Sq P n ops (o :: os) (⟨guardKeys ops o ++ i.rd, i.wr, i.al⟩ :: is) σ K :=
  ⟨_, is, δ, rfl, ⟨fun k hk => List.mem_append_left _ hk, .inl ⟨hg, h.more _, fun j hj => nomem_iff.1 (List.all_eq_true.1 hal j hj)⟩⟩, hk⟩
theorem Sq.noG (hg : guardIs ops o σ = some false) (hk : Sq P n ops os is (killDst o ++ σ) K) : Sq P n ops (o :: os) (⟨guardKeys ops o, (killDst o).map (·.1), []⟩ :: is) σ K :=
  ⟨_, is, killDst o, rfl, ⟨fun k hk => hk, .inr ⟨hg, rfl, fun e he => List.mem_map.2 ⟨e, he, rfl⟩⟩⟩, hk⟩
end

/-! ## what a function does -/
def ent : Nat → List A1 → St
  | _, [] => []
  | i, A :: l => (.t i, some (.one A)) :: ent (i + 1) l
def entB : Option (List CV) → St
  | some cs => [(.b EXT, some (.box cs))]
  | none => []
def inTag : Tag → Prop
  | .other => True
  | .froz => True
  | .bx j => j = EXT
  | .own k _ _ => k = .b EXT

def Fn (P : Program) (f : FuncId) (args : List A1) (pre : Option (List CV)) (R : X → List CV → Prop) : Prop :=
  ∀ (who : Nat → Tag) (w : World) (vs : List Value), (∀ b, who b ≠ .other → b < w.heap.size) → (∀ b b' j, who b = .bx j → who b' = .bx j → b = b') → (∀ b, inTag (who b)) →
    vs.length = args.length → (∀ i A v, args[i]? = some A → vs[i]? = some v → A1m w who (.t i) 0 A v) → (∀ cs, pre = some cs → Boxm w who EXT cs) →
    Calls P f vs.toArray w fun e w' => ∃ v x cs' who', e = .returned v ∧ R x cs' ∧ x.ids = [] ∧ Xm w' who' (.t 0) x v ∧ (pre.isSome = true → cs'.flatMap CV.ids = [] ∧ Boxm w' who' EXT cs') ∧ Adv ⟨w, who⟩ who' w' ∧
      (∀ b, who' b ≠ .other → b < w'.heap.size) ∧ (∀ b b' j, who' b = .bx j → who' b' = .bx j → b = b')

def resOf (P : Program) (σ : St) : ResultVar → Option A1
  | .tmp t => match St.get σ (.t t) with
    | some (.one A) => some A
    | _ => none
  | .cell a T => match St.get σ (.t a) with
    | some (.one (.c (.ptr j q))) => match St.get σ (.b j), rowT P T with
      | some (.box cs), some (false, _) => (cs[q]?).map A1.c
      | some (.box cs), some (true, m) => bif Nat.beq ((cs.drop q).take m).length m then some (.agg ((cs.drop q).take m)) else none
      | _, _ => none
    | _ => none
def mkX : List A1 → X
  | [A] => .one A
  | as => .tup as
/-- what is handed back -/
inductive ResX (P : Program) (rs : List ResultVar) (σ : St) : X → Prop
  | all (as : List A1) (h : rs.mapM (resOf P σ) = some as) (hn : as.all (fun A => A.noOwn && A.cells.all CV.oneOk) = true) (hi : (mkX as).ids = []) : ResX P rs σ (mkX as)
  | own (t E m : Nat) (ds : List D) (h : rs = [.tmp t]) (hs : St.get σ (.t t) = some (.one (.c (.own E m ds)))) : ResX P rs σ (.one (.c (.own E m ds)))
def finD (P : Program) (rs : List ResultVar) (pre : Bool) (R : X → List CV → Prop) : Exit → St → Prop
  | .normal, σ | .ret, σ => ∃ σ', (∀ n, Wk n σ σ') ∧ ∃ x cs', ResX P rs σ' x ∧ (pre = true → St.get σ' (.b EXT) = some (.box cs') ∧ cs'.flatMap CV.ids = []) ∧ R x cs'
  | _, _ => False

def resRun (a : Act) : ResultVar → Sem Value
  | .tmp t => pure (a.tmps.getD t undef)
  | .cell x t => do loadVar t (← asAddr (a.tmps.getD x undef))
theorem run_resOf {P : Program} {n : Nat} {C : Ctx} {who : Nat → Tag} {σ : St} {a : Act} {w : World} (hr : Rep n C who σ a w) {r : ResultVar} {A : A1} (h : resOf P σ r = some A) (hn : A.noOwn = true) (hok : A.cells.all CV.oneOk = true) :
    ∃ v, (resRun a r).run P w = .ok v w ∧ ∀ k p, A1m w who k p A v := by
  cases r with
  | tmp t =>
    simp only [resOf] at h
    split at h
    · rename_i A' e
      injection h with h; subst h
      exact ⟨_, rfl, fun k p => A1m.re hn (hr.slot t _ e)⟩
    · cases h
  | cell x T =>
    simp only [resOf] at h
    split at h
    · rename_i j q e
      obtain ⟨b, eb, hb⟩ := hr.slot x _ e
      have eb' : a.tmps.getD x undef = .pointer (some ⟨b, q, none⟩) := eb
      split at h
      · rename_i cs m e1 e2
        obtain ⟨vs, E, h1, h2, h3, h4⟩ := box_cell hr hb e1
        obtain ⟨c, hc, rfl⟩ := Option.map_eq_some_iff.1 h
        have hq : q < vs.length := by rw [h2]; exact (List.getElem?_eq_some_iff.1 hc).1
        have hv := List.getElem?_eq_getElem hq
        refine ⟨vs[q], ?_, fun k p => cvm.re (p := .own (.b j) 0 q) hn (h4 q c _ hc hv)⟩
        have := run_load1 e2 (h3 q _ hv)
        simp only [Instr.loadAt, Instr.sureAddr, Sem.run_bind, Sem.run_pure, Result.andThen_ok] at this
        simp [resRun, eb', asAddr, this]
      · rename_i cs m e1 e2
        obtain ⟨vs, E, h1, h2, h3, h4⟩ := box_cell hr hb e1
        cases hbq : Nat.beq ((cs.drop q).take m).length m
        · rw [hbq] at h; cases h
        · rw [hbq] at h
          simp only [cond_true, Option.some.injEq] at h
          subst h
          have hl := Nat.eq_of_beq_eq_true hbq
          have hlen : ((vs.drop q).take m).length = m := by simp [List.length_take, List.length_drop] at hl ⊢; omega
          have := run_loadN e2 (b := b) (q := q) (w := w) hlen fun i v hv => by
            rw [List.getElem?_take] at hv
            split at hv
            · rw [List.getElem?_drop] at hv; exact h3 _ v hv
            · cases hv
          simp only [Instr.loadAt, Instr.sureAddr, Sem.run_bind, Sem.run_pure, Result.andThen_ok] at this
          refine ⟨.agg ((vs.drop q).take m).toArray, by simp [resRun, eb', asAddr, this], fun k p => ⟨_, rfl, by rw [hl, hlen], fun i c v hc hv => ?_⟩⟩
          have hnc := List.all_eq_true.1 hn c (List.mem_of_getElem? hc)
          have hok' := List.all_eq_true.1 hok c (List.mem_of_getElem? hc)
          rw [List.getElem?_take] at hv hc
          split at hv
          · rename_i him
            rw [if_pos him, List.getElem?_drop] at hc
            rw [List.getElem?_drop] at hv
            have h5 := h4 _ c v hc hv
            exact ⟨cvm.re hnc h5, cvm.one hok' h5⟩
          · cases hv
      · cases h
    · cases h

theorem run_results {P : Program} {n : Nat} {C : Ctx} {who : Nat → Tag} {σ : St} {a : Act} {w : World} (hr : Rep n C who σ a w) : ∀ {rs : List ResultVar} {as : List A1}, rs.mapM (resOf P σ) = some as → as.all (fun A => A.noOwn && A.cells.all CV.oneOk) = true →
    ∃ vs : List Value, (rs.mapM (resRun a)).run P w = .ok vs w ∧ vs.length = as.length ∧ ∀ (p : Nat) (A : A1) (v : Value), as[p]? = some A → vs[p]? = some v → ∀ k p', A1m w who k p' A v
  | [], as, h, _ => by
    simp at h; subst h
    exact ⟨[], by simp, rfl, by simp⟩
  | r :: rs, as, h, hn => by
    simp only [List.mapM_cons, Option.bind_eq_bind, Option.bind_eq_some_iff] at h
    obtain ⟨A, hA, as', has, e⟩ := h
    simp at e; subst e
    simp only [List.all_cons, Bool.and_eq_true] at hn
    obtain ⟨v, hv, hm⟩ := run_resOf hr hA hn.1.1 hn.1.2
    obtain ⟨vs, hvs, hl, hms⟩ := run_results hr has hn.2
    refine ⟨v :: vs, ?_, by simp [hl], fun p A' v' hp hv' => ?_⟩
    · rw [List.mapM_cons, Sem.run_bind, hv]
      simp only [Result.andThen_ok, Sem.run_bind, hvs, Sem.run_pure]
    · cases p with
      | zero => simp at hp hv'; subst hp hv'; exact hm
      | succ p => exact hms p A' v' (by simpa using hp) (by simpa using hv')

open Classical in
/-- the tags that a call leaves -/
noncomputable def outTag (who : Nat → Tag) (r : Option Key) : Nat → Tag := fun b => match who b with
  | .froz => .froz
  | .other => .other
  | .bx j => if j = EXT then .bx j else .other
  | .own k p q => if k = .b EXT then .own k p q else if r = some k ∧ p = 0 ∧ q = 0 then .own (.t 0) 0 0 else .other

theorem ent_get {t : Nat} {x : X} {pre : Option (List CV)} : ∀ {args : List A1} {i : Nat}, St.get (ent i args ++ entB pre) (.t t) = some x → i ≤ t ∧ ∃ A, args[t - i]? = some A ∧ x = .one A
  | [], i, h => by
    cases pre <;> simp [ent, entB, St.get, Key.is] at h
  | A :: l, i, h => by
    simp only [ent, List.cons_append, St.get] at h
    cases e : Key.is (.t i) (.t t)
    · rw [e] at h
      obtain ⟨h1, A', h2, h3⟩ := ent_get (i := i + 1) h
      refine ⟨by omega, A', ?_, h3⟩
      rw [show t - i = (t - (i + 1)) + 1 by omega]; simpa using h2
    · rw [e] at h
      have := Key.is_iff.1 e
      injection this with this; subst this
      simp only [cond_true, Option.some.injEq] at h
      exact ⟨Nat.le_refl _, A, by simp, h.symm⟩
theorem ent_getB {j : Nat} {x : X} {pre : Option (List CV)} : ∀ {args : List A1} {i : Nat}, St.get (ent i args ++ entB pre) (.b j) = some x → j = EXT ∧ ∃ cs, pre = some cs ∧ x = .box cs
  | [], i, h => by
    cases pre with
    | none => simp [ent, entB, St.get] at h
    | some cs =>
      simp only [ent, List.nil_append, entB, St.get] at h
      cases e : Key.is (.b EXT) (.b j)
      · rw [e] at h; simp at h
      · rw [e] at h
        have := Key.is_iff.1 e
        injection this with this
        simp only [cond_true, Option.some.injEq] at h
        exact ⟨this.symm, cs, rfl, h.symm⟩
  | A :: l, i, h => by
    simp only [ent, List.cons_append, St.get] at h
    rw [Key.is_ne (by simp)] at h
    exact ent_getB (i := i + 1) h

theorem Fn.of {P : Program} {f : FuncId} {fn : Func} {c : Code} {n : Nat} {args : List A1} {pre : Option (List CV)} {R : X → List CV → Prop} {rs : List ResultVar} (hf : P.funcs[f]? = some fn) (hb : fn.body = some c) (hn : fn.ntmps = n)
    (hrs : fn.results = rs.toArray) (hl : args.length ≤ n) (h : dwp P n c (finD P rs pre.isSome R) (ent 0 args ++ entB pre)) : Fn P f args pre R := by
  intro who w vs hfz hbu hin hlen hargs hbox
  refine calls_of_wp hf hb ?_
  have hr0 : Rep n ⟨w, who⟩ who (ent 0 args ++ entB pre) { tmps := vs.toArray ++ Array.replicate (fn.ntmps - vs.toArray.size) undef, defers := [] } w := by
    refine ⟨rfl, by simp [hn]; omega, fun b j hb => ?_, ⟨rfl, rfl, rfl, Nat.le_refl _, fun _ _ _ => rfl, fun _ _ _ => rfl⟩, hfz, hbu, fun t x hx => ?_, fun j cs hx => ?_⟩
    · have := hin b
      rw [show who b = .bx j from hb] at this; exact this
    · obtain ⟨_, A, hA, rfl⟩ := ent_get hx
      simp only [Nat.sub_zero] at hA
      have ht : t < vs.length := by rw [hlen]; exact (List.getElem?_eq_some_iff.1 hA).1
      have hv := List.getElem?_eq_getElem ht
      have : (vs.toArray ++ Array.replicate (fn.ntmps - vs.toArray.size) undef).getD t undef = vs[t] := by
        simp [Array.getElem?_append, ht]
      rw [this]
      exact hargs t A _ hA hv
    · obtain ⟨rfl, cs', hcs, e⟩ := ent_getB hx
      injection e with e; subst e
      exact hbox _ hcs
  refine wp_mono (h ⟨w, who⟩ who _ w hr0) fun e a w' ⟨who', σ', hr', hq⟩ => ?_
  have key : ∀ (σ' : St) (who' : Nat → Tag) (_ : Rep n ⟨w, who⟩ who' σ' a w') x cs', ResX P rs σ' x → (pre.isSome = true → St.get σ' (.b EXT) = some (.box cs') ∧ cs'.flatMap CV.ids = []) → R x cs' → a.defers = [] ∧ ∃ v, (results fn a.tmps).run P w' = .ok v w' ∧
      ∃ v' x cs' who', Ending.returned v = .returned v' ∧ R x cs' ∧ x.ids = [] ∧ Xm w' who' (.t 0) x v' ∧ (pre.isSome = true → cs'.flatMap CV.ids = [] ∧ Boxm w' who' EXT cs') ∧ Adv ⟨w, who⟩ who' w' ∧
        (∀ b, who' b ≠ .other → b < w'.heap.size) ∧ (∀ b b' j, who' b = .bx j → who' b' = .bx j → b = b') := by
    intro σ' who' hr' x cs' hx hbx hR
    refine ⟨hr'.nd, ?_⟩
    have hmap : ∀ vs : List Value, (rs.mapM (resRun a)).run P w' = .ok vs w' →
        (results fn a.tmps).run P w' = .ok (if h : vs.length = 1 then vs[0] else .tuple vs.toArray) w' := by
      intro vs hvs
      have e0 : results fn a.tmps = (do let vs ← fn.results.mapM (resRun a); pure (if h : vs.size = 1 then vs[0] else .tuple vs) : Sem Value) := rfl
      rw [e0, hrs, List.mapM_toArray]
      simp only [Sem.run_bind, Sem.run_map]
      have : (rs.mapM (resRun a)).run P w' = .ok vs w' := hvs
      rw [this]
      simp
    cases hx with
    | all as has hnn hii =>
      obtain ⟨vs, hvs, hvl, hvm⟩ := run_results hr' has hnn
      refine ⟨_, hmap vs hvs, _, _, cs', who', rfl, hR, hii, ?_, fun hp => ⟨(hbx hp).2, hr'.box EXT cs' (hbx hp).1⟩, hr'.adv, hr'.fz, hr'.bxu⟩
      match as, vs, hvl with
      | [], [], _ => exact ⟨[], rfl, rfl, by simp⟩
      | [A], [v], _ => exact hvm 0 A v rfl rfl _ _
      | A :: B :: as, v :: u :: vs, hvl =>
        exact ⟨v :: u :: vs, by simp, hvl, fun p A' v' hp hv' => hvm p A' v' hp hv' _ _⟩
    | own t E m ds hrt hs =>
      subst hrt
      have hxs := hr'.slot t _ hs
      obtain ⟨g1, g2⟩ : Own w' 0 E m (Fz who') (a.tmps.getD t undef) ds ∧ ∀ k, (a.tmps.getD t undef).ownBlock = some k → who' k = .own (.t t) 0 0 := hxs
      have hres := hmap [a.tmps.getD t undef] (by simp [resRun])
      simp only [List.length_cons, List.length_nil, Nat.zero_add, dite_true, List.getElem_cons_zero] at hres
      have hfzo : ∀ b, Fz who' b → Fz (outTag who' (some (.t t))) b := fun b hb => by
        have hb' : who' b = .froz := hb
        show outTag who' (some (.t t)) b = .froz
        simp [outTag, hb']
      have hne : ∀ b, outTag who' (some (.t t)) b ≠ .other → who' b ≠ .other := fun b hb h0 => hb (by simp [outTag, h0])
      have hbxo : ∀ b j, outTag who' (some (.t t)) b = .bx j → who' b = .bx j ∧ j = EXT := fun b j hb => by
        unfold outTag at hb
        split at hb
        · cases hb
        · cases hb
        · split at hb
          · rename_i i e hj; injection hb with hb; subst hb; exact ⟨e, hj⟩
          · cases hb
        · split at hb
          · cases hb
          · split at hb <;> cases hb
      have hstp : Stp who' w' (outTag who' (some (.t t))) w' (fun _ => False) (fun b => outTag who' (some (.t t)) b ≠ who' b) :=
        ⟨rfl, rfl, rfl, Nat.le_refl _, fun _ _ _ => rfl, fun b _ hb => Classical.not_not.1 hb, fun _ h => h.elim, fun b hb h0 => hb (by simp [outTag, h0])⟩
      refine ⟨_, hres, _, _, cs', outTag who' (some (.t t)), rfl, hR, rfl, ⟨g1.wide (fun b _ hb => hfzo b hb) (Nat.le_refl _), fun k hk => by simp [outTag, g2 k hk]⟩, fun hp => ⟨(hbx hp).2, fun b hb => ?_⟩, ?_, fun b hb => hr'.fz b (hne b hb), fun b b' j hb hb' => hr'.bxu b b' j (hbxo b j hb).1 (hbxo b' j hb').1⟩
      · obtain ⟨vs, E', h1, h2⟩ := hr'.box EXT cs' (hbx hp).1 b (hbxo b EXT hb).1
        refine ⟨vs, E', h1, cellsm.stp h2 hstp hr'.fz (fun q b' hb' => ⟨fun h => h, fun hG => hG (by simp [outTag, hb'])⟩) fun j hj b' hb' hG => ?_⟩
        rw [(hbx hp).2] at hj; cases hj
      · refine ⟨hr'.adv.os, hr'.adv.tape, hr'.adv.output, hr'.adv.size, hr'.adv.keep, fun b hb ho => ?_⟩
        have := hr'.adv.tag b hb ho
        rcases ho with ho | ho | ⟨j, ho⟩
        · rw [ho] at this ⊢; simp [outTag, this]
        · rw [ho] at this ⊢; simp [outTag, this]
        · have hj := hr'.ext b j ho
          rw [ho] at this ⊢; simp [outTag, this, hj]
  cases e with
  | normal => obtain ⟨σ1, hw, x, cs', hx, hbx, hR⟩ := hq; obtain ⟨who1, hr1⟩ := hw n _ _ _ _ hr'; exact key σ1 who1 hr1 x cs' hx hbx hR
  | ret => obtain ⟨σ1, hw, x, cs', hx, hbx, hR⟩ := hq; obtain ⟨who1, hr1⟩ := hw n _ _ _ _ hr'; exact key σ1 who1 hr1 x cs' hx hbx hR
  | _ => exact hq.elim
end Go.Proofs.Ytmanhdacnkpclaa
