/- Walks over abstract states: one region, in whatever order it is drawn, does what it does in the order of its text. -/
import Derived.Test.YtmanhdacnkpclaaG1
namespace Go.Proofs.Ytmanhdacnkpclaa
set_option linter.unusedVariables false
set_option linter.unusedSimpArgs false
open Go.RowKit

/-- what an operation looks at, what it writes, which boxes it makes -/
structure Info where
  rd : List Key
  wr : List Key
  al : List Nat

def Does (P : Program) (n : Nat) (o : Oper) (σ σ' : St) : Prop :=
  ∀ (C : Ctx) (who : Nat → Tag) (a : Act) (w : World), Rep n C who σ a w → (∀ d, o.dst = some d → d < n) →
    ∀ (K : Act → World → Prop) (Q : Exit → Act → World → Prop), (∀ who' v w', Rep n C who' σ' (a.put o.dst v) w' → K (a.put o.dst v) w') → o.wp P a w K Q

structure Op1 (P : Program) (n : Nat) (o : Oper) (i : Info) (σ δ : St) : Prop where
  does : ∀ σ', (∀ k ∈ i.rd, St.get σ' k = St.get σ k) → (∀ j ∈ i.al, j ∉ St.ids σ') → Does P n o σ' (δ ++ σ')
  wr : ∀ e ∈ δ, e.1 ∈ i.wr
  me : ∀ j ∈ St.ids δ, Key.b j ∈ i.rd ∨ j ∈ i.al
  al : ∀ j ∈ i.al, Key.b j ∈ i.wr

def guardIs (ops : Array Oper) (o : Oper) (σ : St) : Option Bool :=
  match o.guard with
  | none => some true
  | some (j, want) => match (ops[j]?).bind (·.dst) with
    | some t => match St.get σ (.t t) with
      | some (.one (.c (.val (.bool b)))) => some (b == want)
      | some (.one (.c (.val (.tuple _)))) => some false
      | _ => none
    | none => none
def guardKeys (ops : Array Oper) (o : Oper) : List Key :=
  match o.guard with
  | none => []
  | some (j, _) => match (ops[j]?).bind (·.dst) with
    | some t => [.t t]
    | none => []
def killDst (o : Oper) : St := match o.dst with | some d => [(.t d, some (.one (.c (.val (.tuple #[])))))] | none => []

def StepI (P : Program) (n : Nat) (ops : Array Oper) (o : Oper) (i : Info) (σ δ : St) : Prop :=
  (∀ k ∈ guardKeys ops o, k ∈ i.rd) ∧
  ((guardIs ops o σ = some true ∧ Op1 P n o i σ δ ∧ (∀ j ∈ i.al, j ∉ St.ids σ)) ∨ (guardIs ops o σ = some false ∧ δ = killDst o ∧ (∀ e ∈ δ, e.1 ∈ i.wr)))

theorem guard_agree {ops : Array Oper} {o : Oper} {σ σ' : St} (h : ∀ k ∈ guardKeys ops o, St.get σ' k = St.get σ k) : guardIs ops o σ' = guardIs ops o σ := by
  unfold guardKeys at h
  unfold guardIs
  cases hg : o.guard with
  | none => rfl
  | some jw =>
    obtain ⟨j, want⟩ := jw
    rw [hg] at h
    simp only at h ⊢
    cases ht : (ops[j]?).bind (·.dst) with
    | none => rfl
    | some t =>
      rw [ht] at h
      simp only at h ⊢
      rw [h (.t t) (by simp)]

theorem wanted_of {n : Nat} {C : Ctx} {who : Nat → Tag} {ops : Array Oper} {o : Oper} {σ : St} {a : Act} {w : World} {r : Bool} (h : Rep n C who σ a w) (hg : guardIs ops o σ = some r) : Region.wanted o (yielded ops a.tmps) = r := by
  unfold guardIs at hg
  unfold Region.wanted
  cases hgd : o.guard with
  | none => rw [hgd] at hg; simp at hg; simp [hg]
  | some jw =>
    obtain ⟨j, want⟩ := jw
    rw [hgd] at hg
    simp only at hg ⊢
    cases ht : (ops[j]?).bind (·.dst) with
    | none => rw [ht] at hg; simp at hg
    | some t =>
      rw [ht] at hg
      simp only at hg
      cases hx : St.get σ (.t t) with
      | none => rw [hx] at hg; simp at hg
      | some x =>
        rw [hx] at hg
        split at hg
        · rename_i b e
          injection e with e; subst e
          have hs : a.tmps.getD t undef = .bool b := h.slot t _ hx
          have hy : yielded ops a.tmps j = some b := by
            unfold yielded
            rw [ht]
            simp only [Option.bind_some]
            cases hq : a.tmps[t]? with
            | none => rw [Array.getD_eq_getD_getElem?, hq] at hs; simp [undef] at hs
            | some v => rw [Array.getD_eq_getD_getElem?, hq] at hs; simp at hs; simp [hs]
          rw [hy]
          exact Option.some.inj hg
        · rename_i vs e
          injection e with e; subst e
          have hs : a.tmps.getD t undef = .tuple vs := h.slot t _ hx
          have hy : yielded ops a.tmps j = none := by
            unfold yielded
            rw [ht]
            simp only [Option.bind_some]
            cases hq : a.tmps[t]? with
            | none => rfl
            | some v => rw [Array.getD_eq_getD_getElem?, hq] at hs; simp at hs; simp [hs]
          rw [hy]
          exact Option.some.inj hg
        · cases hg

/-- one operation, at a state that is as it wants it -/
theorem StepI.run {P : Program} {n : Nat} {ops : Array Oper} {o : Oper} {i : Info} {σ δ σ' : St} (h : StepI P n ops o i σ δ) (hag : ∀ k ∈ i.rd, St.get σ' k = St.get σ k) (hal : ∀ j ∈ i.al, j ∉ St.ids σ')
    {C : Ctx} {who : Nat → Tag} {a : Act} {w : World} (hr : Rep n C who σ' a w) (hd : ∀ d, o.dst = some d → d < n) {K : Act → World → Prop} {Q : Exit → Act → World → Prop}
    (hK : ∀ who' v w', Rep n C who' (δ ++ σ') (a.put o.dst v) w' → K (a.put o.dst v) w') :
    if Region.wanted o (yielded ops a.tmps) = true then o.wp P a w K Q else K (a.put o.dst undef) w := by
  obtain ⟨hk, h⟩ := h
  have hg := guard_agree (ops := ops) (o := o) fun k hk' => hag k (hk k hk')
  rcases h with ⟨h1, h2, h3⟩ | ⟨h1, rfl, h3⟩
  · rw [wanted_of hr (hg.trans h1), if_pos rfl]
    exact h2.does σ' hag hal C who a w hr hd K Q hK
  · rw [wanted_of hr (hg.trans h1), if_neg (by simp)]
    refine hK who undef w ?_
    unfold killDst
    cases hdst : o.dst with
    | none => simpa [Act.put] using hr
    | some d => exact hr.put (hd d hdst) rfl

/-- the operations in the order of the text -/
def Sq (P : Program) (n : Nat) (ops : Array Oper) : List Oper → List Info → St → (St → Prop) → Prop
  | [], is, σ, K => is = [] ∧ K σ
  | o :: os, is, σ, K => ∃ i is' δ, is = i :: is' ∧ StepI P n ops o i σ δ ∧ Sq P n ops os is' (δ ++ σ) K
theorem Sq.nil {P : Program} {n : Nat} {ops : Array Oper} {σ : St} {K : St → Prop} (h : K σ) : Sq P n ops [] [] σ K := ⟨rfl, h⟩

/-- a region that is not drawn -/
theorem Sq.list {P : Program} {n : Nat} {ops : Array Oper} {C : Ctx} {Q : Exit → Act → World → Prop} {K : St → Prop} (hK : ∀ σ who a w, K σ → Rep n C who σ a w → Q .normal a w) :
    ∀ (os : List Oper) (is : List Info) (σ : St) (who : Nat → Tag) (a : Act) (w : World), (∀ o ∈ os, ∀ d, o.dst = some d → d < n) → Sq P n ops os is σ K → Rep n C who σ a w → wpList P ops Q os a w
  | [], _, σ, who, a, w, _, h, hr => hK σ who a w h.2 hr
  | o :: os, _, σ, who, a, w, hd, ⟨i, is', δ, rfl, hs, h⟩, hr => by
    have hal : ∀ j ∈ i.al, j ∉ St.ids σ ∨ guardIs ops o σ = some false := fun j hj => by
      rcases hs.2 with ⟨_, _, h3⟩ | ⟨h1, _⟩
      · exact .inl (h3 j hj)
      · exact .inr h1
    have key : if Region.wanted o (yielded ops a.tmps) = true then o.wp P a w (wpList P ops Q os) Q else wpList P ops Q os (a.put o.dst undef) w := by
      rcases hs.2 with ⟨h1, h2, h3⟩ | ⟨h1, h2, h3⟩
      · exact hs.run (fun _ _ => rfl) h3 hr (hd o (by simp)) fun who' v w' hr' => Sq.list hK os is' _ who' _ w' (fun o' ho' => hd o' (by simp [ho'])) h hr'
      · rw [wanted_of hr h1, if_neg (by simp)]
        refine Sq.list hK os is' _ who _ w (fun o' ho' => hd o' (by simp [ho'])) h ?_
        subst h2
        unfold killDst
        cases hdst : o.dst with
        | none => simpa [Act.put] using hr
        | some d => exact hr.put (hd o (by simp) d hdst) rfl
    show if _ then _ else _
    split
    · rename_i hw; rw [if_pos hw] at key; exact .inl key
    · rename_i hw; rw [if_neg hw] at key; exact key

def Chain (P : Program) (n : Nat) (ops : Array Oper) : List Oper → List Info → List St → St → Prop
  | [], [], [], _ => True
  | o :: os, i :: is, δ :: δs, σ => StepI P n ops o i σ δ ∧ Chain P n ops os is δs (δ ++ σ)
  | _, _, _, _ => False
/-- what those of the operations do that L names, in the order of the text -/
def look (L : Nat → Bool) : Nat → List St → St → St
  | _, [], σ => σ
  | i, δ :: δs, σ => look L (i + 1) δs (bif L i then δ ++ σ else σ)

theorem look_none {L : Nat → Bool} : ∀ (δs : List St) (f : Nat) (σ : St), (∀ m, f ≤ m → L m = false) → look L f δs σ = σ
  | [], _, _, _ => rfl
  | δ :: δs, f, σ, h => by
    simp only [look, h f (Nat.le_refl _), cond_false]
    exact look_none δs (f + 1) σ fun m hm => h m (by omega)
theorem look_eq {L L' : Nat → Bool} : ∀ (δs : List St) (f : Nat) (σ : St), (∀ m, f ≤ m → m < f + δs.length → L m = L' m) → look L f δs σ = look L' f δs σ
  | [], _, _, _ => rfl
  | δ :: δs, f, σ, h => by
    simp only [look]
    rw [h f (Nat.le_refl _) (by simp)]
    exact look_eq δs (f + 1) _ fun m hm hm' => h m (by omega) (by simp; omega)
theorem look_get {L L' : Nat → Bool} {r : Key} : ∀ (δs : List St) (f : Nat) (σ σ' : St), St.get σ r = St.get σ' r → (∀ m δ, δs[m]? = some δ → L (f + m) ≠ L' (f + m) → keyIn r δ = false) →
    St.get (look L f δs σ) r = St.get (look L' f δs σ') r
  | [], _, _, _, h, _ => h
  | δ :: δs, f, σ, σ', h, hd => by
    simp only [look]
    refine look_get δs (f + 1) _ _ ?_ fun m δ' hm hne => hd (m + 1) δ' (by simpa using hm) (by rw [← Nat.add_assoc, Nat.add_right_comm]; exact hne)
    have h0 := hd 0 δ rfl
    simp only [Nat.add_zero] at h0
    cases e1 : L f <;> cases e2 : L' f <;> rw [e1, e2] at h0 <;> simp only [cond_true, cond_false, St.get_app]
    · exact h
    · rw [h0 (by simp)]; exact h
    · rw [h0 (by simp)]; exact h
    · rw [h]
theorem look_succ {k : Nat} {δ : St} : ∀ (δs : List St) (f : Nat) (σ : St), δs[k]? = some δ → look (fun m => decide (m < f + k + 1)) f δs σ = δ ++ look (fun m => decide (m < f + k)) f δs σ := by
  induction k with
  | zero =>
    intro δs f σ h
    cases δs with
    | nil => simp at h
    | cons d ds =>
      simp at h; subst h
      simp only [look, Nat.add_zero, Nat.lt_irrefl, decide_false, cond_false, Nat.lt_succ_self, decide_true, cond_true]
      rw [look_none ds (f + 1) _ (fun m hm => by simp; omega), look_none ds (f + 1) _ (fun m hm => by simp; omega)]
  | succ k ih =>
    intro δs f σ h
    cases δs with
    | nil => simp at h
    | cons d ds =>
      simp at h
      have e1 : (decide (f < f + (k + 1) + 1)) = true := by simp; omega
      have e2 : (decide (f < f + (k + 1))) = true := by simp
      simp only [look, e1, e2, cond_true]
      have := ih ds (f + 1) (d ++ σ) h
      rw [show f + 1 + k + 1 = f + (k + 1) + 1 by omega, show f + 1 + k = f + (k + 1) by omega] at this
      exact this
theorem Chain.at {P : Program} {n : Nat} {ops : Array Oper} : ∀ {os : List Oper} {is : List Info} {δs : List St} {σ : St} (f : Nat), Chain P n ops os is δs σ → ∀ k o, os[k]? = some o →
    ∃ i δ, is[k]? = some i ∧ δs[k]? = some δ ∧ StepI P n ops o i (look (fun m => decide (m < f + k)) f δs σ) δ
  | [], _, _, _, _, _, k, o, h => by simp at h
  | o' :: os, [], _, _, _, hc, _, _, _ => by simp [Chain] at hc
  | o' :: os, i :: is, [], _, _, hc, _, _, _ => by simp [Chain] at hc
  | o' :: os, i :: is, δ :: δs, σ, f, hc, 0, o, h => by
    simp at h; subst h
    refine ⟨i, δ, rfl, rfl, ?_⟩
    rw [look_none _ _ _ fun m hm => by simp; omega]
    exact hc.1
  | o' :: os, i :: is, δ :: δs, σ, f, hc, k + 1, o, h => by
    simp at h
    obtain ⟨i', δ', h1, h2, h3⟩ := Chain.at (f + 1) hc.2 k o h
    refine ⟨i', δ', by simpa using h1, by simpa using h2, ?_⟩
    have e2 : (decide (f < f + (k + 1))) = true := by simp
    simp only [look, e2, cond_true]
    rw [show f + 1 + k = f + (k + 1) by omega] at h3
    exact h3
theorem Chain.len {P : Program} {n : Nat} {ops : Array Oper} : ∀ {os : List Oper} {is : List Info} {δs : List St} {σ : St}, Chain P n ops os is δs σ → δs.length = os.length
  | [], [], [], _, _ => rfl
  | [], [], _ :: _, _, h => by simp [Chain] at h
  | [], _ :: _, _, _, h => by simp [Chain] at h
  | _ :: _, [], _, _, h => by simp [Chain] at h
  | _ :: _, _ :: _, [], _, h => by simp [Chain] at h
  | _ :: _, _ :: _, _ :: _, _, h => by simp [Chain.len h.2]
theorem Sq.chain {P : Program} {n : Nat} {ops : Array Oper} {K : St → Prop} : ∀ {os : List Oper} {is : List Info} {σ : St}, Sq P n ops os is σ K → ∃ δs, Chain P n ops os is δs σ ∧ K (look (fun _ => true) 0 δs σ)
  | [], _, σ, ⟨rfl, h⟩ => ⟨[], trivial, h⟩
  | o :: os, _, σ, ⟨i, is', δ, rfl, hs, h⟩ => by
    obtain ⟨δs, h1, h2⟩ := Sq.chain h
    refine ⟨δ :: δs, ⟨hs, h1⟩, ?_⟩
    have : ∀ (δs : List St) (f g : Nat) (σ : St), look (fun _ => true) f δs σ = look (fun _ => true) g δs σ := by
      intro δs
      induction δs with
      | nil => intro _ _ _; rfl
      | cons d ds ih => intro f g σ; exact ih _ _ _
    show K (look (fun _ => true) 1 δs (δ ++ σ))
    rw [this δs 1 0]; exact h2

def memK (k : Key) (l : List Key) : Bool := l.any (Key.is k)
theorem memK_iff {k : Key} {l : List Key} : memK k l = true ↔ k ∈ l := by
  simp only [memK, List.any_eq_true, Key.is_iff]
  exact ⟨fun ⟨x, hx, e⟩ => e ▸ hx, fun h => ⟨k, h, rfl⟩⟩
def confl (a b : Info) : Bool := a.wr.any (fun k => memK k b.rd || memK k b.wr) || a.rd.any (fun k => memK k b.wr)
def bnd (e : Edge) : Bool := Region.binds .any e
/-- what gets in each other's way stands in order -/
def chk (ops : Array Oper) (is : List Info) : Bool :=
  let M := (Region.before ops).toList
  (List.range ops.size).all fun k => ((ops[k]?).any fun o => o.after.all fun e => !bnd e || decide (e.on < k)) &&
    (List.range k).all fun i => (!(Nat.testBit (M.getD k 0) i) || (ops[k]?).any fun o => o.after.any fun e => bnd e && (Nat.beq e.on i || (decide (e.on < k) && decide (i < e.on) && Nat.testBit (M.getD e.on 0) i))) &&
      (!((is[i]?).any fun a => (is[k]?).any fun b => confl a b) || Nat.testBit (M.getD k 0) i)

section
variable {ops : Array Oper} {is : List Info}
theorem chk_edge (h : chk ops is = true) {k : Nat} {o : Oper} (hk : ops[k]? = some o) {e : Edge} (he : e ∈ o.after) (hb : bnd e = true) : e.on < k := by
  unfold chk at h
  have hlt : k < ops.size := (Array.getElem?_eq_some_iff.1 hk).1
  have h1 := List.all_eq_true.1 h k (List.mem_range.2 hlt)
  simp only [Bool.and_eq_true, hk, Option.any_some] at h1
  have h2 := (Array.all_eq_true_iff_forall_mem.1 h1.1) e he
  simpa [hb] using h2
theorem chk_anc (h : chk ops is = true) {L : Nat → Bool} (hL : ∀ m o e, L m = true → ops[m]? = some o → e ∈ o.after → bnd e = true → L e.on = true) :
    ∀ k o i, ops[k]? = some o → (∀ e ∈ o.after, bnd e = true → L e.on = true) → i < k → Nat.testBit ((Region.before ops).toList.getD k 0) i = true → L i = true := by
  intro k
  induction k using Nat.strongRecOn with
  | ind k ih =>
    intro o i hk hrd hi ht
    have h' := h
    unfold chk at h'
    have hlt : k < ops.size := (Array.getElem?_eq_some_iff.1 hk).1
    have h1 := List.all_eq_true.1 h' k (List.mem_range.2 hlt)
    simp only [Bool.and_eq_true, hk, Option.any_some] at h1
    have h2 := List.all_eq_true.1 h1.2 i (List.mem_range.2 hi)
    simp only [Bool.and_eq_true, ht, Bool.not_true, Bool.false_or, Option.any_some] at h2
    obtain ⟨ie, hie, h3⟩ := Array.any_eq_true.1 h2.1
    obtain ⟨e, he, hee⟩ : ∃ e ∈ o.after, e = o.after[ie] := ⟨_, Array.getElem_mem hie, rfl⟩
    rw [← hee] at h3
    simp only [Bool.and_eq_true, Bool.or_eq_true, decide_eq_true_eq] at h3
    obtain ⟨hb, h3⟩ := h3
    have hLe := hrd e he hb
    rcases h3 with h3 | ⟨⟨h3, h5⟩, h4⟩
    · rw [← Nat.eq_of_beq_eq_true h3]; exact hLe
    · obtain ⟨o', ho'⟩ : ∃ o', ops[e.on]? = some o' := ⟨ops[e.on]'(by omega), Array.getElem?_eq_getElem _⟩
      exact ih e.on h3 o' i ho' (fun e' he' hb' => hL _ _ _ hLe ho' he' hb') h5 h4
theorem chk_confl (h : chk ops is = true) {k i : Nat} {a b : Info} (hk : k < ops.size) (hi : i < k) (ha : is[i]? = some a) (hb : is[k]? = some b) (hc : confl a b = true) : Nat.testBit ((Region.before ops).toList.getD k 0) i = true := by
  unfold chk at h
  have h1 := List.all_eq_true.1 h k (List.mem_range.2 hk)
  simp only [Bool.and_eq_true] at h1
  have h2 := List.all_eq_true.1 h1.2 i (List.mem_range.2 hi)
  simp only [Bool.and_eq_true, ha, hb, Option.any_some, hc, Bool.not_true, Bool.false_or] at h2
  exact h2.2
end
theorem confl_rw {a b : Info} {k : Key} (h1 : k ∈ a.rd) (h2 : k ∈ b.wr) : confl a b = true := by
  simp only [confl, Bool.or_eq_true, List.any_eq_true, memK_iff]
  exact .inr ⟨k, h1, h2⟩
theorem confl_wr {a b : Info} {k : Key} (h1 : k ∈ a.wr) (h2 : k ∈ b.rd) : confl a b = true := by
  simp only [confl, Bool.or_eq_true, List.any_eq_true, memK_iff]
  exact .inl ⟨k, h1, .inl h2⟩
theorem confl_ww {a b : Info} {k : Key} (h1 : k ∈ a.wr) (h2 : k ∈ b.wr) : confl a b = true := by
  simp only [confl, Bool.or_eq_true, List.any_eq_true, memK_iff]
  exact .inl ⟨k, h1, .inr h2⟩

theorem StepI.wr {P : Program} {n : Nat} {ops : Array Oper} {o : Oper} {i : Info} {σ δ : St} (h : StepI P n ops o i σ δ) : ∀ e ∈ δ, e.1 ∈ i.wr := by
  rcases h.2 with ⟨_, h, _⟩ | ⟨_, _, h⟩
  · exact h.wr
  · exact h
theorem StepI.wrk {P : Program} {n : Nat} {ops : Array Oper} {o : Oper} {i : Info} {σ δ : St} {r : Key} (h : StepI P n ops o i σ δ) (hr : keyIn r δ = true) : r ∈ i.wr := by
  obtain ⟨e, he, rfl⟩ := keyIn_mem hr
  exact h.wr e he

/-- a region in whatever order -/
theorem any_run {P : Program} {n : Nat} {ops : Array Oper} {is : List Info} {δs : List St} {σ0 : St} {Q : Exit → Act → World → Prop} {C : Ctx} (hc : Chain P n ops ops.toList is δs σ0) (hchk : chk ops is = true)
    (hd : ∀ o ∈ ops.toList, ∀ d, o.dst = some d → d < n) (hQ : ∀ who a w, Rep n C who (look (fun _ => true) 0 δs σ0) a w → Q .normal a w) :
    ∀ (fuel : Nat) (listed : Array Bool) (σ : St) (who : Nat → Tag) (a : Act) (w : World), listed.size = ops.size → ((List.range ops.size).filter (fun m => !listed.getD m false)).length ≤ fuel →
      (∀ m o e, listed.getD m false = true → ops[m]? = some o → e ∈ o.after → bnd e = true → listed.getD e.on false = true) →
      (∀ r, St.get σ r = St.get (look (fun m => listed.getD m false) 0 δs σ0) r) → (∀ j ∈ St.ids σ, j ∈ St.ids σ0 ∨ ∃ m δ, listed.getD m false = true ∧ δs[m]? = some δ ∧ j ∈ St.ids δ) →
      Rep n C who σ a w → wpAny P .any ops Q fuel listed a w := by
  have hlen : δs.length = ops.size := by rw [hc.len]; simp
  intro fuel
  induction fuel with
  | zero =>
    intro listed σ who a w hls hcnt hcl hst hids hr
    have hall : ∀ m, m < ops.size → listed.getD m false = true := by
      intro m hm
      have h0 : (List.range ops.size).filter (fun m => !listed.getD m false) = [] := List.eq_nil_of_length_eq_zero (by omega)
      have := List.filter_eq_nil_iff.1 h0 m (List.mem_range.2 hm)
      simpa using this
    refine ⟨?_, hQ who a w (hr.congr fun r => ?_)⟩
    · cases hq : Region.ready .any ops listed with
      | nil => rfl
      | cons j l =>
        have hj : j ∈ Region.ready .any ops listed := by rw [hq]; exact List.mem_cons_self ..
        obtain ⟨h1, o, ho, _⟩ := mem_ready.1 hj
        have := hall j (Array.getElem?_eq_some_iff.1 ho).1
        have hjl : j < listed.size := by rw [hls]; exact (Array.getElem?_eq_some_iff.1 ho).1
        simp [hjl] at h1 this
        rw [h1] at this; cases this
    · rw [hst r]
      refine (look_get δs 0 σ0 σ0 rfl fun m δ hm hne => ?_).symm
      exact absurd (by simp [hall m (by rw [← hlen]; exact (List.getElem?_eq_some_iff.1 hm).1)]) hne
  | succ fuel ih =>
    intro listed σ who a w hls hcnt hcl hst hids hr
    refine ⟨fun hnil => hQ who a w (hr.congr fun r => ?_), fun k hk => ?_⟩
    · have hall : ∀ m, m < ops.size → listed.getD m false = true := by
        intro m
        induction m using Nat.strongRecOn with
        | ind m ihm =>
          intro hm
          cases hq : listed.getD m false
          · have ho : ops[m]? = some ops[m] := Array.getElem?_eq_getElem hm
            have : m ∈ Region.ready .any ops listed := by
              refine mem_ready.2 ⟨?_, _, ho, fun e he hb => ?_⟩
              · have hml : m < listed.size := by omega
                simp [hml] at hq ⊢; exact hq
              · have hlt := chk_edge hchk ho he hb
                exact ihm e.on hlt (by omega)
            rw [hnil] at this; cases this
          · rfl
      rw [hst r]
      refine (look_get δs 0 σ0 σ0 rfl fun m δ hm hne => ?_).symm
      exact absurd (by simp [hall m (by rw [← hlen]; exact (List.getElem?_eq_some_iff.1 hm).1)]) hne
    · obtain ⟨hk0, o, ho, hed⟩ := mem_ready.1 hk
      have hks : k < ops.size := (Array.getElem?_eq_some_iff.1 ho).1
      have hkl : k < listed.size := by omega
      have hkf : listed.getD k false = false := by simp [hkl] at hk0 ⊢; exact hk0
      have hol : ops.toList[k]? = some o := by simpa using ho
      obtain ⟨i, δ, hi, hδ, hs⟩ := Chain.at 0 hc k o hol
      simp only [Nat.zero_add] at hs
      -- who stands ahead in the text and writes what k looks at or writes is listed
      have hahead : ∀ m i' , m < k → is[m]? = some i' → confl i' i = true → listed.getD m false = true := fun m i' hm hi' hcf =>
        chk_anc hchk hcl k o m ho (fun e he hb => hed e he hb) hm (chk_confl hchk hks hm hi' hi hcf)
      -- who stands behind it and gets in its way is not listed
      have hbehind : ∀ m i', k < m → m < ops.size → is[m]? = some i' → confl i i' = true → listed.getD m false = false := fun m i' hm hms hi' hcf => by
        cases hq : listed.getD m false
        · rfl
        · have hom : ops[m]? = some ops[m] := Array.getElem?_eq_getElem hms
          have := chk_anc hchk hcl m _ k hom (fun e he hb => hcl m _ e hq hom he hb) hm (chk_confl hchk hms hm hi hi' hcf)
          rw [this] at hkf; cases hkf
      have hat : ∀ m δ', δs[m]? = some δ' → ∃ i' o', is[m]? = some i' ∧ m < ops.size ∧ StepI P n ops o' i' (look (fun x => decide (x < m)) 0 δs σ0) δ' := fun m δ' hm => by
        have hms : m < ops.size := by rw [← hlen]; exact (List.getElem?_eq_some_iff.1 hm).1
        obtain ⟨i', δ'', h1, h2, h3⟩ := Chain.at 0 hc m ops[m] (by simp [hms])
        rw [hm] at h2; injection h2 with h2; subst h2
        simp only [Nat.zero_add] at h3
        exact ⟨i', _, h1, hms, h3⟩
      have hag : ∀ r ∈ i.rd, St.get σ r = St.get (look (fun m => decide (m < k)) 0 δs σ0) r := fun r hr' => by
        rw [hst r]
        refine look_get δs 0 σ0 σ0 rfl fun m δ' hm hne => ?_
        simp only [Nat.zero_add] at hne
        obtain ⟨i', o', hi', hms, hs'⟩ := hat m δ' hm
        cases hki : keyIn r δ'
        · rfl
        · have hw := hs'.wrk hki
          rcases Nat.lt_trichotomy m k with hlt | heq | hgt
          · have := hahead m i' hlt hi' (confl_wr hw hr')
            exact absurd (by rw [this]; simp [hlt]) hne
          · subst heq; exact absurd (by rw [hkf]; simp) hne
          · have := hbehind m i' hgt hms hi' (confl_rw hr' hw)
            exact absurd (by rw [this]; simp; omega) hne
      have hgi : ∀ j ∈ i.al, j ∉ St.ids σ ∨ ¬ Region.wanted o (yielded ops a.tmps) = true := fun j hj => by
        rcases hs.2 with ⟨h1, h2, h3⟩ | ⟨h1, _⟩
        · left
          intro hjm
          have hnot := h3 j hj
          have hsub : ∀ (δs : List St) (f : Nat) (L : Nat → Bool) (τ : St), j ∉ St.ids (look L f δs τ) → j ∉ St.ids τ ∧ ∀ m δ, L (f + m) = true → δs[m]? = some δ → j ∉ St.ids δ := by
            intro δs
            induction δs with
            | nil => intro f L τ h; exact ⟨h, fun m δ _ hm => by simp at hm⟩
            | cons d ds ihd =>
              intro f L τ h
              obtain ⟨g1, g2⟩ := ihd (f + 1) L _ h
              have g1' : j ∉ St.ids τ := fun hh => g1 (by
                cases L f
                · exact hh
                · simp only [cond_true, St.ids, List.flatMap_append, List.mem_append]; exact .inr hh)
              refine ⟨g1', fun m δ hL hm => ?_⟩
              cases m with
              | zero =>
                simp at hm; subst hm
                intro hh
                refine g1 ?_
                rw [Nat.add_zero] at hL
                rw [hL]
                simp only [cond_true, St.ids, List.flatMap_append, List.mem_append]; exact .inl hh
              | succ m => exact g2 m δ (by rw [show f + 1 + m = f + (m + 1) by omega]; exact hL) (by simpa using hm)
          obtain ⟨g1, g2⟩ := hsub δs 0 _ σ0 hnot
          rcases hids j hjm with hj0 | ⟨m, δ', hml, hm, hjδ⟩
          · exact g1 hj0
          · obtain ⟨i', o', hi', hms, hs'⟩ := hat m δ' hm
            rcases Nat.lt_trichotomy m k with hlt | heq | hgt
            · exact g2 m δ' (by simp [hlt]) hm hjδ
            · subst heq; rw [hkf] at hml; cases hml
            · rcases hs'.2 with ⟨_, h2', _⟩ | ⟨_, h2', _⟩
              · rcases h2'.me j hjδ with hme | hme
                · have := hbehind m i' hgt hms hi' (confl_wr (h2.al j hj) hme)
                  rw [this] at hml; cases hml
                · have := hbehind m i' hgt hms hi' (confl_ww (h2.al j hj) (h2'.al j hme))
                  rw [this] at hml; cases hml
              · rw [h2'] at hjδ
                unfold killDst at hjδ
                cases hdst : o'.dst <;> rw [hdst] at hjδ <;> simp [St.ids, oids, X.ids, A1.ids, CV.ids] at hjδ
        · right
          rw [wanted_of hr ((guard_agree fun k' hk' => hag k' (hs.1 k' hk')).trans h1)]; simp
      have hnext : ∀ who' v w', Rep n C who' (δ ++ σ) (a.put o.dst v) w' → wpAny P .any ops Q fuel (listed.setIfInBounds k true) (a.put o.dst v) w' := fun who' v w' hr' => by
        have hg : ∀ m, (listed.setIfInBounds k true).getD m false = (listed.getD m false || Nat.beq m k) := fun m => by
          rcases Classical.em (m = k) with rfl | hne
          · simp [hkl]
          · have : Nat.beq m k = false := by
              cases e : Nat.beq m k
              · rfl
              · exact absurd (Nat.eq_of_beq_eq_true e) hne
            rw [getD_set_ne false (Ne.symm hne), this, Bool.or_false]
        have hgk : (listed.setIfInBounds k true).getD k false = true := by rw [hg, Nat.beq_refl, Bool.or_true]
        refine ih _ (δ ++ σ) who' _ w' (by simp [hls]) ?_ ?_ ?_ ?_ hr'
        · have h1 : (List.range ops.size).filter (fun m => !(listed.setIfInBounds k true).getD m false) = ((List.range ops.size).filter (fun m => !listed.getD m false)).filter (fun m => !Nat.beq m k) := by
            rw [List.filter_filter]
            refine List.filter_congr fun m _ => ?_
            rw [hg]; cases listed.getD m false <;> cases Nat.beq m k <;> rfl
          rw [h1]
          have h2 : k ∈ (List.range ops.size).filter (fun m => !listed.getD m false) := List.mem_filter.2 ⟨List.mem_range.2 hks, by rw [hkf]; rfl⟩
          have h3 := (List.length_filter_lt_length_iff_exists (p := fun m => !Nat.beq m k)).2 ⟨k, h2, by rw [Nat.beq_refl]; simp⟩
          omega
        · intro m o' e hm ho' he hb
          rw [hg] at hm ⊢
          cases hm' : listed.getD m false
          · rw [hm', Bool.false_or] at hm
            have : m = k := Nat.eq_of_beq_eq_true hm
            subst this
            rw [ho] at ho'; injection ho' with ho'; subst ho'
            rw [hed e he hb, Bool.true_or]
          · rw [hcl m o' e hm' ho' he hb, Bool.true_or]
        · intro r
          rw [St.get_app]
          cases hki : keyIn r δ
          · simp only [cond_false]
            rw [hst r]
            refine look_get δs 0 σ0 σ0 rfl fun m δ' hm hne => ?_
            simp only [Nat.zero_add] at hne
            rcases Classical.em (m = k) with rfl | hmk
            · rw [hδ] at hm; injection hm with hm; subst hm; exact hki
            · exact absurd (by rw [getD_set_ne false (Ne.symm hmk)]) hne
          · simp only [cond_true]
            have hw := hs.wrk hki
            have e1 : St.get (look (fun m => (listed.setIfInBounds k true).getD m false) 0 δs σ0) r = St.get (look (fun m => decide (m < 0 + k + 1)) 0 δs σ0) r := by
              refine look_get δs 0 σ0 σ0 rfl fun m δ' hm hne => ?_
              simp only [Nat.zero_add] at hne
              obtain ⟨i', o', hi', hms, hs'⟩ := hat m δ' hm
              cases hki' : keyIn r δ'
              · rfl
              · have hw' := hs'.wrk hki'
                rcases Nat.lt_trichotomy m k with hlt | heq | hgt
                · have := hahead m i' hlt hi' (confl_ww hw' hw)
                  refine absurd ?_ hne
                  rw [hg, this, Bool.true_or]; simp; omega
                · subst heq
                  refine absurd ?_ hne
                  rw [hgk]; simp
                · have := hbehind m i' hgt hms hi' (confl_ww hw hw')
                  refine absurd ?_ hne
                  rw [getD_set_ne false (by omega), this]; simp; omega
            rw [e1, look_succ δs 0 σ0 hδ, St.get_app, hki, cond_true]
        · intro j hj
          simp only [St.ids, List.flatMap_append, List.mem_append] at hj
          rcases hj with hj | hj
          · exact .inr ⟨k, δ, hgk, hδ, hj⟩
          · rcases hids j hj with h | ⟨m, δ', h1, h2, h3⟩
            · exact .inl h
            · exact .inr ⟨m, δ', by rw [hg, h1, Bool.true_or], h2, h3⟩
      unfold wpOp
      rw [ho]
      simp only
      have hmem : o ∈ ops.toList := List.mem_of_getElem? hol
      rcases Classical.em (Region.wanted o (yielded ops a.tmps) = true) with hw | hw
      · have := hs.run hag (fun j hj => (hgi j hj).resolve_right fun h => h hw) hr (hd o hmem) (Q := Q) hnext
        rw [if_pos hw] at this ⊢
        exact .inl this
      · have hw' : guardIs ops o (look (fun m => decide (m < k)) 0 δs σ0) = some false ∧ δ = killDst o := by
          rcases hs.2 with ⟨h1, h2, h3⟩ | ⟨h1, h2, h3⟩
          · exact absurd (wanted_of hr ((guard_agree fun k' hk' => hag k' (hs.1 k' hk')).trans h1)) hw
          · exact ⟨h1, h2⟩
        rw [if_neg hw]
        refine hnext who undef w ?_
        rw [hw'.2]
        unfold killDst
        cases hdst : o.dst with
        | none => simpa [Act.put] using hr
        | some d => exact hr.put (hd o hmem d hdst) rfl

/-- a region in whatever order, from where it begins -/
theorem Sq.any {P : Program} {n : Nat} {ops : Array Oper} {is : List Info} {σ : St} {K : St → Prop} {C : Ctx} {Q : Exit → Act → World → Prop} (h : Sq P n ops ops.toList is σ K) (hchk : chk ops is = true)
    (hd : ∀ o ∈ ops.toList, ∀ d, o.dst = some d → d < n) (hK : ∀ σ who a w, K σ → Rep n C who σ a w → Q .normal a w) {who : Nat → Tag} {a : Act} {w : World} (hr : Rep n C who σ a w) :
    wpAny P .any ops Q ops.size (Array.replicate ops.size false) a w := by
  obtain ⟨δs, hc, hk⟩ := Sq.chain h
  have hf : ∀ m, (Array.replicate ops.size false).getD m false = false := fun m => by
    rw [Array.getD_eq_getD_getElem?]; by_cases h : m < ops.size <;> simp [h]
  refine any_run hc hchk hd (fun who a w hr => hK _ who a w hk hr) ops.size _ σ who a w (by simp) ?_ ?_ ?_ ?_ hr
  · exact Nat.le_trans (List.length_filter_le _ _) (by simp)
  · intro m o e hm; rw [hf] at hm; cases hm
  · intro r
    rw [look_none δs 0 σ (fun m _ => hf m)]
  · intro j hj; exact .inl hj
end Go.Proofs.Ytmanhdacnkpclaa
