/- Walks over abstract states: calls. -/
import Derived.Test.YtmanhdacnkpclaaG6
namespace Go.Proofs.Ytmanhdacnkpclaa
set_option linter.unusedVariables false
set_option linter.unusedSimpArgs false
open Go.RowKit

def enters (P : Program) (f : FuncId) : Bool := (P.funcs[f]?).any fun fn => fn.body.isSome && !(fn.name == "runtime.NumGoroutine")
theorem run_enters {P : Program} {f : FuncId} (h : enters P f = true) (args : Array Value) (w : World) : (callFunc f args).run P w = .ok (.enter f args) w := by
  unfold enters at h
  cases hf : P.funcs[f]? with
  | none => rw [hf] at h; simp at h
  | some fn =>
    rw [hf] at h
    simp only [Option.any_some, Bool.and_eq_true, Bool.not_eq_true'] at h
    have h2 : ¬ (fn.name = "runtime.NumGoroutine") := by
      have := h.2
      simpa using this
    cases hb : fn.body with
    | none => rw [hb] at h; simp at h
    | some c => simp [callFunc, hf, h2, hb]

def CV.ren (oj : Option Nat) : CV → CV
  | .ptr i o => if oj = some i then .ptr EXT o else .any
  | c => c
def A1.ren (oj : Option Nat) : A1 → A1
  | .c x => .c (x.ren oj)
  | .agg cs => .agg (cs.map (CV.ren oj))
def CV.idsIn (oj : Option Nat) (c : CV) : Bool := c.ids.all fun i => decide (oj = some i)
/-- the tags as the callee sees them -/
def inTags (oj : Option Nat) (who : Nat → Tag) : Nat → Tag := fun b => match who b with
  | .froz => .froz
  | .bx j => if oj = some j then .bx EXT else .other
  | .own (.b j) p q => if oj = some j then .own (.b EXT) p q else .other
  | _ => .other
/-- the tags as the caller sees them afterwards -/
def backOne (oj : Option Nat) (d : Nat) : Tag → Tag
  | .froz => .froz
  | .own (.t 0) p q => .own (.t d) p q
  | .own (.b _) p q => match oj with | some j => .own (.b j) p q | none => .other
  | .bx i => match oj with | some j => if i = EXT then .bx j else .other | none => .other
  | _ => .other
def backTags (oj : Option Nat) (d sz : Nat) (who who' : Nat → Tag) : Nat → Tag := fun b =>
  match decide (b < sz), inTags oj who b with
  | true, .other => who b
  | _, _ => backOne oj d (who' b)

theorem inTags_froz {oj : Option Nat} {who : Nat → Tag} {b : Nat} : inTags oj who b = .froz ↔ who b = .froz := by
  unfold inTags
  split
  · rename_i h; simp [h]
  · rename_i j h; rw [h]; split <;> simp
  · rename_i j p q h; rw [h]; split <;> simp
  · rename_i h1 h2 h3
    constructor
    · intro h; cases h
    · intro h; exact absurd h h1
theorem inTags_bx {oj : Option Nat} {who : Nat → Tag} {b j : Nat} (h : inTags oj who b = .bx j) : j = EXT ∧ ∃ i, oj = some i ∧ who b = .bx i := by
  unfold inTags at h
  split at h
  · cases h
  · rename_i i hi
    split at h
    · rename_i ho; injection h with h; exact ⟨h.symm, i, ho, hi⟩
    · cases h
  · split at h <;> cases h
  · cases h
theorem inTags_own {oj : Option Nat} {who : Nat → Tag} {b : Nat} {k : Key} {p q : Nat} (h : inTags oj who b = .own k p q) : k = .b EXT ∧ ∃ i, oj = some i ∧ who b = .own (.b i) p q := by
  unfold inTags at h
  split at h
  · cases h
  · split at h <;> cases h
  · rename_i i p' q' hi
    split at h
    · rename_i ho; injection h with h1 h2 h3; subst h2 h3; exact ⟨h1.symm, i, ho, hi⟩
    · cases h
  · cases h
theorem inTags_other {oj : Option Nat} {who : Nat → Tag} {b : Nat} (h : who b = .other) : inTags oj who b = .other := by simp [inTags, h]

theorem cvm.tr {w : World} {who who2 : Nat → Tag} {p p2 : Tag} {c : CV} {u : Value} (h : cvm w who p c u) (hf : ∀ b, who b = .froz → who2 b = .froz) (hp : ∀ k, who k = p → who2 k = p2) (hi : c.ids = []) : cvm w who2 p2 c u := by
  cases c with
  | any => trivial
  | val v => exact h
  | arr ds => exact rd.wide h fun b _ hb => hf b hb
  | own E m ds => exact ⟨h.1.wide (fun b _ hb => hf b hb) (Nat.le_refl _), fun k hk => hp k (h.2 k hk)⟩
  | ptr j o => simp [CV.ids] at hi
  | fp cs =>
    obtain ⟨b, o, rfl, hb, hc⟩ := h
    exact ⟨b, o, rfl, hf b hb, fun i c hi => by
      obtain ⟨x, h1, h2⟩ := hc i c hi
      exact ⟨x, h1, h2.keep (Nat.le_refl _) (fun b _ hb => hf b hb) (fun _ _ _ => rfl)⟩⟩
theorem A1m.tr {w : World} {who who2 : Nat → Tag} {k k2 : Key} {p p2 : Nat} {A : A1} {u : Value} (h : A1m w who k p A u) (hf : ∀ b, who b = .froz → who2 b = .froz) (hp : ∀ q b, who b = .own k p q → who2 b = .own k2 p2 q) (hi : A.ids = []) : A1m w who2 k2 p2 A u := by
  cases A with
  | c x => exact cvm.tr h hf (hp 0) hi
  | agg cs =>
    obtain ⟨vs, rfl, hl, hc⟩ := h
    refine ⟨vs, rfl, hl, fun q c v hq hv => ⟨cvm.tr (hc q c v hq hv).1 hf (hp q) ?_, (hc q c v hq hv).2⟩⟩
    exact List.flatMap_eq_nil_iff.1 hi c (List.mem_of_getElem? hq)
theorem Xm.tr {w : World} {who who2 : Nat → Tag} {k k2 : Key} {x : X} {u : Value} (h : Xm w who k x u) (hf : ∀ b, who b = .froz → who2 b = .froz) (hp : ∀ p q b, who b = .own k p q → who2 b = .own k2 p q) (hi : x.ids = []) : Xm w who2 k2 x u := by
  cases x with
  | one a => exact A1m.tr h hf (hp 0) hi
  | tup as =>
    obtain ⟨us, rfl, hl, hc⟩ := h
    refine ⟨us, rfl, hl, fun p a v hq hv => A1m.tr (hc p a v hq hv) hf (hp p) ?_⟩
    exact List.flatMap_eq_nil_iff.1 hi a (List.mem_of_getElem? hq)
  | box cs => trivial

/-- an argument as the callee sees it -/
theorem cvm.ren {w : World} {who : Nat → Tag} {oj : Option Nat} {p p2 : Tag} {c : CV} {u : Value} (h : cvm w who p c u) (hn : c.noOwn = true ∨ ∀ b, who b = p → inTags oj who b = p2) : cvm w (inTags oj who) p2 (c.ren oj) u := by
  cases c with
  | any => trivial
  | val v => exact h
  | arr ds => exact rd.wide h fun b _ hb => inTags_froz.2 hb
  | own E m ds =>
    rcases hn with hn | hn
    · simp [CV.noOwn] at hn
    · exact ⟨h.1.wide (fun b _ hb => inTags_froz.2 hb) (Nat.le_refl _), fun k hk => hn k (h.2 k hk)⟩
  | ptr j o =>
    simp only [CV.ren]
    split
    · rename_i hj
      obtain ⟨b, rfl, hb⟩ := h
      exact ⟨b, rfl, by simp [inTags, hb, hj]⟩
    · trivial
  | fp cs =>
    obtain ⟨b, o, rfl, hb, hc⟩ := h
    exact ⟨b, o, rfl, inTags_froz.2 hb, fun i c hi => by
      obtain ⟨x, h1, h2⟩ := hc i c hi
      exact ⟨x, h1, h2.keep (Nat.le_refl _) (fun b _ hb => inTags_froz.2 hb) (fun _ _ _ => rfl)⟩⟩
theorem A1m.ren {w : World} {who : Nat → Tag} {oj : Option Nat} {k k2 : Key} {p p2 : Nat} {A : A1} {u : Value} (h : A1m w who k p A u) (hn : A.noOwn = true) : A1m w (inTags oj who) k2 p2 (A.ren oj) u := by
  cases A with
  | c x => exact cvm.ren h (.inl hn)
  | agg cs =>
    obtain ⟨vs, rfl, hl, hc⟩ := h
    refine ⟨vs, rfl, by simp [hl], fun q c v hq hv => ?_⟩
    rw [List.getElem?_map, Option.map_eq_some_iff] at hq
    obtain ⟨c0, hc0, rfl⟩ := hq
    exact ⟨cvm.ren (hc q c0 v hc0 hv).1 (.inl (List.all_eq_true.1 hn c0 (List.mem_of_getElem? hc0))), (hc q c0 v hc0 hv).2⟩

def argsOf (σ : St) : List Operand → Option (List A1)
  | [] => some []
  | s :: r => match St.ev σ s, argsOf σ r with
    | some (.one A), some l => some (A :: l)
    | _, _ => none
theorem argsOf_at {σ : St} : ∀ {xs : List Operand} {As : List A1}, argsOf σ xs = some As → xs.length = As.length ∧ ∀ (i : Nat) (A : A1) (s : Operand), As[i]? = some A → xs[i]? = some s → St.ev σ s = some (.one A)
  | [], As, h => by simp only [argsOf, Option.some.injEq] at h; subst h; simp
  | s :: r, As, h => by
    simp only [argsOf] at h
    split at h
    · rename_i A l e1 e2
      injection h with h; subst h
      obtain ⟨h1, h2⟩ := argsOf_at e2
      refine ⟨by simp [h1], fun i A' s' hi hs => ?_⟩
      cases i with
      | zero => simp at hi hs; subst hi hs; exact e1
      | succ i => exact h2 i A' s' (by simpa using hi) (by simpa using hs)
    · cases h

section
variable {P : Program} {n : Nat} {o : Oper} {σ : St}

def boxEnt (oj : Option Nat) (cs : List CV) : St := match oj with | some j => [(.b j, some (.box cs))] | none => []
def boxKeys (oj : Option Nat) : List Key := match oj with | some j => [.b j] | none => []
/-- what a callee is handed, where it is handed a box -/
def boxPre (oj : Option Nat) (σ : St) : Option (Option (List CV)) := match oj with
  | none => some none
  | some j => match St.get σ (.b j) with
    | some (.box cs) => some (some (cs.map (CV.ren oj)))
    | _ => none

theorem back_bx {oj : Option Nat} {d sz b i : Nat} {who who' : Nat → Tag} (h : backTags oj d sz who who' b = .bx i) : (b < sz ∧ inTags oj who b = .other ∧ who b = .bx i) ∨ (oj = some i ∧ who' b = .bx EXT) := by
  unfold backTags at h
  split at h
  · rename_i h1 h2; exact .inl ⟨by simpa using h1, h2, h⟩
  · right
    unfold backOne at h
    split at h
    · cases h
    · cases h
    · split at h <;> cases h
    · rename_i i' h3
      split at h
      · split at h
        · rename_i he; injection h with h; subst h; exact ⟨rfl, by rw [h3, he]⟩
        · cases h
      · cases h
    · cases h
theorem back_ne {oj : Option Nat} {d sz b : Nat} {who who' : Nat → Tag} (h : backTags oj d sz who who' b ≠ .other) : (b < sz ∧ who b ≠ .other) ∨ who' b ≠ .other := by
  unfold backTags at h
  split at h
  · rename_i h1 h2; exact .inl ⟨by simpa using h1, h⟩
  · right
    intro h3
    rw [h3] at h
    exact h rfl
theorem back_of {oj : Option Nat} {d sz b : Nat} {who who' : Nat → Tag} (h : ¬ (b < sz ∧ inTags oj who b = .other)) : backTags oj d sz who who' b = backOne oj d (who' b) := by
  unfold backTags
  split
  · rename_i h1 h2; exact absurd ⟨by simpa using h1, h2⟩ h
  · rfl
theorem back_old {oj : Option Nat} {d sz b : Nat} {who who' : Nat → Tag} (h1 : b < sz) (h2 : inTags oj who b = .other) : backTags oj d sz who who' b = who b := by
  unfold backTags
  simp only [h1, decide_true, h2]

theorem op_call {d : Nat} {f : FuncId} {fo : Operand} {xs : Array Operand} {ts : Array TypeId} {As args : List A1} {pre : Option (List CV)} {x : X} {cs : List CV} (oj : Option Nat) (hd : o.dst = some d) (ho : o.op = .call { callee := .value fo, args := xs, argTypes := ts }) (hfo : St.ev σ fo = some (.one (.c (.val (.func (.func f) #[] #[])))))
    (hf : enters P f = true) (hF : Fn P f args pre (fun x' cs' => x' = x ∧ (pre.isSome = true → cs' = cs))) (hA : argsOf σ xs.toList = some As) (hn : As.all A1.noOwn = true) (hren : As.map (A1.ren oj) = args) (hpre : boxPre oj σ = some pre) (hx : x.ids = []) (hcs : cs.flatMap CV.ids = []) :
    Op1 P n o ⟨xs.toList.flatMap opKey ++ (opKey fo ++ boxKeys oj), .t d :: boxKeys oj, []⟩ σ ((.t d, some x) :: boxEnt oj cs) where
  does := fun σ' hag hal C who a w hr hdst K Q hK => by
    have hdn := hdst d hd
    obtain ⟨hl, hat⟩ := argsOf_at hA
    have hpre' : boxPre oj σ' = some pre := by
      rw [← hpre]
      cases oj with
      | none => rfl
      | some j => simp only [boxPre, hag (.b j) (by simp [boxKeys])]
    have hrun : (execOp a.eval o).run P w = .ok (.enter f (xs.map a.eval)) w := by
      have e : a.eval fo = .func (.func f) #[] #[] := hr.ev ((ev_agree fun k hk => hag k (List.mem_append_right _ (List.mem_append_left _ hk))).trans hfo)
      simp [execOp, ho, resolve, e, Deferred.ofValue, invoke, run_enters hf]
    unfold Oper.wp
    rw [hrun]
    show Calls P f (xs.map a.eval) w _
    have hargs : (xs.map a.eval) = ((xs.toList.map a.eval).toArray) := by cases xs; simp
    rw [hargs]
    have hw := hF (inTags oj who) w (xs.toList.map a.eval) (fun b hb => hr.fz b fun h => hb (inTags_other h))
      (fun b b' j hb hb' => by
        obtain ⟨_, i, h1, h2⟩ := inTags_bx hb
        obtain ⟨_, i', h1', h2'⟩ := inTags_bx hb'
        rw [h1] at h1'; injection h1' with h1'; subst h1'
        exact hr.bxu b b' i h2 h2')
      (fun b => by
        cases e : inTags oj who b with
        | other => trivial
        | froz => trivial
        | bx j => exact (inTags_bx e).1
        | own k p q => exact (inTags_own e).1)
      (by rw [← hren]; simp [hl])
      (fun i A v hi hv => by
        rw [← hren, List.getElem?_map, Option.map_eq_some_iff] at hi
        obtain ⟨A0, hA0, rfl⟩ := hi
        rw [List.getElem?_map, Option.map_eq_some_iff] at hv
        obtain ⟨s, hs, rfl⟩ := hv
        have h1 := hat i A0 s hA0 hs
        have h2 : A1m w who (opTag s) 0 A0 (a.eval s) := hr.ev ((ev_agree fun k hk => hag k (List.mem_append_left _ (List.mem_flatMap.2 ⟨s, List.mem_of_getElem? hs, hk⟩))).trans h1)
        exact h2.ren (List.all_eq_true.1 hn A0 (List.mem_of_getElem? hA0)))
      (fun cs0 hcs0 b hb => by
        obtain ⟨_, j, hj, hbj⟩ := inTags_bx hb
        subst hj
        simp only [boxPre] at hpre'
        split at hpre'
        · rename_i cs1 e1
          rw [hcs0] at hpre'
          injection hpre' with hpre'; injection hpre' with hpre'; subst hpre'
          obtain ⟨vs, E, g1, g2, g3⟩ := hr.box j cs1 e1 b hbj
          refine ⟨vs, E, g1, by simp [g2], fun q c v hq hv => ?_⟩
          rw [List.getElem?_map, Option.map_eq_some_iff] at hq
          obtain ⟨c0, hc0, rfl⟩ := hq
          exact cvm.ren (g3 q c0 v hc0 hv) (.inr fun b' hb' => by simp [inTags, hb'])
        · cases hpre')
    refine hw.mono ?_
    rintro e w' ⟨v, x', cs', who', rfl, ⟨rfl, hcs'⟩, hxi, hxm, hbx, hadv, hfz, hbu⟩
    show K (a.put o.dst v) w'
    refine hK (backTags oj d w.heap.size who who') v w' ?_
    have hkeep : ∀ b, b < w.heap.size → (inTags oj who b = .other ∨ inTags oj who b = .froz) → w'.heap[b]? = w.heap[b]? := fun b hb h => hadv.keep b hb h
    have htag : ∀ b, b < w.heap.size → (inTags oj who b = .other ∨ inTags oj who b = .froz ∨ ∃ j, inTags oj who b = .bx j) → who' b = inTags oj who b := fun b hb h => hadv.tag b hb h
    have hnot : ∀ b, who' b ≠ .other → ¬ (b < w.heap.size ∧ inTags oj who b = .other) := fun b hb ⟨h1, h2⟩ => hb ((htag b h1 (.inl h2)).trans h2)
    have hfr : ∀ b, who' b = .froz → backTags oj d w.heap.size who who' b = .froz := fun b hb => by
      rw [back_of (hnot b (by rw [hb]; simp)), hb]; rfl
    have hcase : ∀ b, inTags oj who b = .other ∨ inTags oj who b = .froz ∨ (∃ j, oj = some j ∧ who b = .bx j ∧ inTags oj who b = .bx EXT) ∨ (∃ j p q, oj = some j ∧ who b = .own (.b j) p q) := fun b => by
      cases e : inTags oj who b with
      | other => exact .inl rfl
      | froz => exact .inr (.inl rfl)
      | bx j =>
        obtain ⟨h1, i, h2, h3⟩ := inTags_bx e
        subst h1; exact .inr (.inr (.inl ⟨i, h2, h3, rfl⟩))
      | own k p q =>
        obtain ⟨h1, i, h2, h3⟩ := inTags_own e
        exact .inr (.inr (.inr ⟨i, p, q, h2, h3⟩))
    have hstp : Stp who w (backTags oj d w.heap.size who who') w' (fun b => ∃ j, oj = some j ∧ (who b = .bx j ∨ ∃ p q, who b = .own (.b j) p q)) (fun b => ∃ j p q, oj = some j ∧ who b = .own (.b j) p q) := by
      refine ⟨hadv.os, hadv.tape, hadv.output, hadv.size, fun b hb hT => ?_, fun b hb hG => ?_, ?_, ?_⟩
      · rcases hcase b with h | h | ⟨j, h1, h2, _⟩ | ⟨j, p, q, h1, h2⟩
        · exact hkeep b hb (.inl h)
        · exact hkeep b hb (.inr h)
        · exact absurd ⟨j, h1, .inl h2⟩ hT
        · exact absurd ⟨j, h1, .inr ⟨p, q, h2⟩⟩ hT
      · rcases hcase b with h | h | ⟨j, h1, h2, h3⟩ | ⟨j, p, q, h1, h2⟩
        · exact back_old hb h
        · rw [hfr b ((htag b hb (.inr (.inl h))).trans h)]; exact (inTags_froz.1 h).symm
        · have h4 := (htag b hb (.inr (.inr ⟨_, h3⟩))).trans h3
          rw [back_of (hnot b (by rw [h4]; simp)), h4, h1, h2]; simp [backOne]
        · exact absurd ⟨j, p, q, h1, h2⟩ hG
      · rintro b ⟨j, _, h | ⟨p, q, h⟩⟩ <;> rw [h] <;> simp
      · rintro b ⟨j, p, q, _, h⟩; rw [h]; simp
    have hkill : Rep n C who (boxEnt oj [] ++ σ') a w → Rep n C who ((boxKeys oj).map (fun k => (k, none)) ++ σ') a w := fun _ => by
      cases oj with
      | none => exact hr
      | some j => exact hr.kill (.b j)
    have hr1 : Rep n C who ((boxKeys oj).map (fun k => (k, none)) ++ σ') a w := by
      cases oj with
      | none => exact hr
      | some j => exact hr.kill (.b j)
    clear hkill
    have hgone : ∀ j, oj = some j → St.get ((boxKeys oj).map (fun k => (k, none)) ++ σ') (.b j) = none := fun j hj => by subst hj; exact St.get_same
    have hr2 : Rep n C (backTags oj d w.heap.size who who') ((boxKeys oj).map (fun k => (k, none)) ++ σ') a w' := by
      refine hr1.stp hstp ?_ ?_ ?_ ?_ ?_ ?_ ?_ ?_
      · intro b hb ho'
        have htg := hr.adv.tag b hb (ho'.imp id .inl)
        constructor
        · rintro ⟨j, _, h | ⟨p, q, h⟩⟩ <;> rw [h] at htg <;> rcases ho' with ho' | ho' <;> rw [ho'] at htg <;> cases htg
        · rintro ⟨j, p, q, _, h⟩; rw [h] at htg; rcases ho' with ho' | ho' <;> rw [ho'] at htg <;> cases htg
      · rintro b i hb hi ⟨j, p, q, _, h⟩
        have htg := hr.adv.tag b hb (.inr (.inr ⟨i, hi⟩))
        rw [h, hi] at htg; cases htg
      · intro b hb
        rcases back_ne hb with ⟨h1, _⟩ | h
        · exact Nat.lt_of_lt_of_le h1 hadv.size
        · exact hfz b h
      · intro b b' i hb hb'
        rcases back_bx hb with ⟨h1, h2, h3⟩ | ⟨h1, h2⟩ <;> rcases back_bx hb' with ⟨g1, g2, g3⟩ | ⟨g1, g2⟩
        · exact hr.bxu b b' i h3 g3
        · rw [show inTags oj who b = .bx EXT by simp [inTags, h3, g1]] at h2; cases h2
        · rw [show inTags oj who b' = .bx EXT by simp [inTags, g3, h1]] at g2; cases g2
        · exact hbu b b' EXT h2 g2
      · rintro b k p q hb (⟨j, hj, h | ⟨p', q', h⟩⟩ | ⟨j, p', q', hj, h⟩)
        · rw [h] at hb; cases hb
        · rw [h] at hb; injection hb with hb; subst hb; exact hgone j hj
        · rw [h] at hb; injection hb with hb; subst hb; exact hgone j hj
      · rintro b i hb ⟨j, p, q, _, h⟩; rw [h] at hb; cases hb
      · rintro b i hb (⟨j, hj, h | ⟨p', q', h⟩⟩ | ⟨j, p', q', hj, h⟩)
        · rw [h] at hb; injection hb with hb; subst hb; exact hgone j hj
        · rw [h] at hb; cases hb
        · rw [h] at hb; cases hb
      · intro b i hb hnb
        rcases back_bx hb with ⟨h1, h2, h3⟩ | ⟨h1, h2⟩
        · exact absurd h3 hnb
        · exact hgone i h1
    have hr3 : Rep n C (backTags oj d w.heap.size who who') (boxEnt oj cs ++ ((boxKeys oj).map (fun k => (k, none)) ++ σ')) a w' := by
      cases oj with
      | none => exact hr2
      | some j =>
        refine hr2.addBox fun b hb => ?_
        have hsome : pre.isSome = true := by
          simp only [boxPre] at hpre
          split at hpre
          · injection hpre with hpre; rw [← hpre]; rfl
          · cases hpre
        obtain ⟨hi0, hb0⟩ := hbx hsome
        rw [hcs' hsome] at hb0 hi0
        have hbE : who' b = .bx EXT := by
          rcases back_bx hb with ⟨h1, h2, h3⟩ | ⟨h1, h2⟩
          · rw [show inTags (some j) who b = .bx EXT by simp [inTags, h3]] at h2; cases h2
          · exact h2
        obtain ⟨vs, E, g1, g2, g3⟩ := hb0 b hbE
        refine ⟨vs, E, g1, g2, fun q c v hq hv => cvm.tr (g3 q c v hq hv) hfr (fun k hk => ?_) (List.flatMap_eq_nil_iff.1 hi0 c (List.mem_of_getElem? hq))⟩
        rw [back_of (hnot k (by rw [hk]; simp)), hk]; rfl
    rw [hd]
    have hr4 := hr3.put hdn (x := x') (v := v) (Xm.tr hxm hfr (fun p q b hb => by rw [back_of (hnot b (by rw [hb]; simp)), hb]; rfl) hxi)
    refine hr4.congr fun k => ?_
    cases oj with
    | none => rfl
    | some j =>
      simp only [boxEnt, boxKeys, List.map_cons, List.map_nil, List.cons_append, List.nil_append, St.get]
      cases Key.is (.t d) k
      · cases Key.is (.b j) k <;> simp
      · simp
  wr := fun e he => by
    cases oj with
    | none => simp [boxEnt] at he; subst he; simp
    | some j =>
      simp [boxEnt] at he
      rcases he with rfl | rfl <;> simp [boxKeys]
  me := fun j hj => by
    have : j ∈ x.ids ∨ j ∈ cs.flatMap CV.ids := by
      cases oj with
      | none => left; simpa [St.ids, oids, boxEnt] using hj
      | some i => simpa [St.ids, oids, boxEnt, X.ids] using hj
    rw [hx, hcs] at this
    simp at this
  al := by simp
end
end Go.Proofs.Ytmanhdacnkpclaa
