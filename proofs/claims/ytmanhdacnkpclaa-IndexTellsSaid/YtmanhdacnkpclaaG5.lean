/- Walks over abstract states: slices that are built, and grown. -/
import Derived.Test.YtmanhdacnkpclaaG4
namespace Go.Proofs.Ytmanhdacnkpclaa
set_option linter.unusedVariables false
set_option linter.unusedSimpArgs false
open Go.RowKit

def FC.oneOk : FC → Bool
  | .val v => v.oneCell'
  | .arr _ => true
theorem fcm.one {w : World} {F : Nat → Prop} {c : FC} {x : Value} (hn : c.oneOk = true) (h : fcm w F c x) : x.oneCell' = true := by
  cases c with
  | val v => simp only [fcm] at h; subst h; exact hn
  | arr ds => obtain ⟨a, c, rfl⟩ := rd_arr_one h; rfl
theorem Own.rdF {w : World} {B E m : Nat} {S S' : Nat → Prop} {v : Value} {ds : List D} (h : Own w B E m S v ds) (hS : ∀ b, b < w.heap.size → S b → S' b) (hk : ∀ k, v.ownBlock = some k → S' k) : Go.Proofs.Ytmanhdacnkpclaa.rd w S' (.arr ds) [v] := by
  obtain ⟨xs, h1, h2, h3⟩ := h
  rcases h1.2 with ⟨rfl, h0⟩ | ⟨g, cap, cur, rfl, hg, hh, hn, hm, hsz, ht⟩
  · exact ⟨none, 0, by rw [h0], by omega, by simp [maxLen], .inl h0⟩
  · refine ⟨_, cap, rfl, hn, hm, .inr ⟨g, 0, xs, rfl, hk g rfl, (Array.getElem?_eq_some_iff.1 hh).1, h2.wide (fun b hb h => hS b hb h.1), fun j u hu => ?_⟩⟩
    have := h1.cells (g := g) rfl j u hu
    rw [add_lit] at this; exact this

section
variable {P : Program} {n : Nat} {o : Oper} {σ : St}
open Classical in
noncomputable def tagAll (p : Tag) (t : Tag) (who : Nat → Tag) : Nat → Tag := fun b => if who b = p then t else who b
theorem tagAll_at {p t : Tag} {who : Nat → Tag} {b : Nat} (h : who b = p) : tagAll p t who b = t := by simp [tagAll, h]
theorem tagAll_ne {p t : Tag} {who : Nat → Tag} {b : Nat} (h : who b ≠ p) : tagAll p t who b = who b := by simp [tagAll, h]

/-- what nobody writes any more -/
theorem Rep.freeze {C : Ctx} {who : Nat → Tag} {a : Act} {w : World} {d E m : Nat} {ds : List D} (h : Rep n C who ((.t d, some (.one (.c (.own E m ds)))) :: σ) a w) :
    ∃ who', Rep n C who' ((.t d, some (.one (.c (.arr ds)))) :: σ) a w := by
  have hx := h.slot d _ St.get_same
  obtain ⟨h1, h2⟩ : Own w 0 E m (Fz who) (a.tmps.getD d undef) ds ∧ ∀ k, (a.tmps.getD d undef).ownBlock = some k → who k = .own (.t d) 0 0 := hx
  have hstp : Stp who w (tagAll (.own (.t d) 0 0) .froz who) w (fun _ => False) (fun b => who b = .own (.t d) 0 0) :=
    ⟨rfl, rfl, rfl, Nat.le_refl _, fun _ _ _ => rfl, fun b _ hb => tagAll_ne hb, fun _ h => h.elim, fun b hb => by rw [hb]; simp⟩
  have hr := (h.kill (.t d)).stp hstp (fun b hb ho => ⟨fun h => h, fun hg => by
      have := h.adv.tag b hb (ho.imp id .inl)
      rw [hg] at this
      rcases ho with ho | ho <;> rw [ho] at this <;> cases this⟩) (fun b j hb ho hg => by
      have := h.adv.tag b hb (.inr (.inr ⟨j, ho⟩))
      rw [hg, ho] at this; cases this) (fun b hb => by
      rcases Classical.em (who b = .own (.t d) 0 0) with e | e
      · exact h.fz b (by rw [e]; simp)
      · rw [tagAll_ne e] at hb; exact h.fz b hb) (fun b b' j hb hb' => by
      have key : ∀ b, tagAll (.own (.t d) 0 0) .froz who b = .bx j → who b = .bx j := fun b hb => by
        rcases Classical.em (who b = .own (.t d) 0 0) with e | e
        · rw [tagAll_at e] at hb; cases hb
        · rw [tagAll_ne e] at hb; exact hb
      exact h.bxu b b' j (key b hb) (key b' hb')) (fun b k p q hb hg => by
      rcases hg with hg | hg
      · exact hg.elim
      · rw [hg] at hb; injection hb with hb; subst hb; exact St.get_same) (fun b j hb hg => by rw [hg] at hb; cases hb) (fun b j hb hg => by
      rcases hg with hg | hg
      · exact hg.elim
      · rw [hg] at hb; cases hb) (fun b j hb hnb => by
      rcases Classical.em (who b = .own (.t d) 0 0) with e | e
      · rw [tagAll_at e] at hb; cases hb
      · rw [tagAll_ne e] at hb; exact absurd hb hnb)
  refine ⟨_, (hr.addSlot (t := d) (x := .one (.c (.arr ds))) ?_).congr fun k => ?_⟩
  · exact h1.rdF (fun b hb hF => hstp.fz b hb hF) fun k hk => tagAll_at (h2 k hk)
  · simp only [St.get]
    cases Key.is (.t d) k <;> simp
theorem Op1.frz {i : Info} {d E m : Nat} {ds : List D} {δ : St} (h : Op1 P n o i σ ((.t d, some (.one (.c (.own E m ds)))) :: δ)) : Op1 P n o i σ ((.t d, some (.one (.c (.arr ds)))) :: δ) where
  does := fun σ' hag hal C who a w hr hdst K Q hK => h.does σ' hag hal C who a w hr hdst K Q fun who' v w' hr' => by
    obtain ⟨who'', hr''⟩ := Rep.freeze hr'
    exact hK who'' v w' hr''
  wr := fun e he => by
    simp only [List.mem_cons] at he
    rcases he with rfl | he
    · exact h.wr (.t d, some (.one (.c (.own E m ds)))) (by simp)
    · exact h.wr e (by simp [he])
  me := fun j hj => by
    have : j ∈ St.ids δ := by simpa [St.ids, oids, X.ids, A1.ids, CV.ids] using hj
    exact h.me j (by simp only [St.ids, List.flatMap_cons, List.mem_append]; exact .inr this)
  al := h.al

/-- the cells that an append takes -/
theorem src_of {w : World} {F : Nat → Prop} {es : List D} {u : Value} {m : Nat} (h : rd w F (.arr es) [u]) (hm : ∀ e ∈ es, e.fc.length = m) (h1 : ∀ e ∈ es, e.fc.all FC.oneOk = true) :
    ∃ A c news, u = .slice A es.length c ∧ SrcAt w A es.length m news ∧ (∀ x ∈ news, x.oneCell' = true) ∧ rds w F es news := by
  obtain ⟨A, c, e, _, _, h3⟩ := h
  have e' : u = .slice A es.length c := by simpa using e
  have hlen : ∀ (es : List D) (xs : List Value), (∀ e ∈ es, e.fc.length = m) → rds w F es xs → xs.length = es.length * m := by
    intro es
    induction es with
    | nil => intro xs _ h; cases h; simp
    | cons e es ih =>
      intro xs hm ⟨c1, c2, e0, g1, g2⟩
      have := cellsF_len ((rd_fc e c1).1 g1)
      rw [e0, List.length_append, this, hm e (by simp), ih c2 (fun e' he => hm e' (by simp [he])) g2, List.length_cons, Nat.add_mul]; omega
  have hone : ∀ (es : List D) (xs : List Value), (∀ e ∈ es, e.fc.all FC.oneOk = true) → rds w F es xs → ∀ x ∈ xs, x.oneCell' = true := by
    intro es
    induction es with
    | nil => intro xs _ h x hx; cases h; cases hx
    | cons e es ih =>
      intro xs h1 ⟨c1, c2, e0, g1, g2⟩ x hx
      rw [e0] at hx
      rcases List.mem_append.1 hx with hx | hx
      · have hc := (rd_fc e c1).1 g1
        obtain ⟨i, hi, rfl⟩ := List.getElem_of_mem hx
        have hil : i < e.fc.length := by rw [← cellsF_len hc]; exact hi
        obtain ⟨y, hy, hcm⟩ := cellsF_at hc i _ (List.getElem?_eq_getElem hil)
        rw [List.getElem?_eq_getElem hi] at hy; injection hy with hy; subst hy
        exact hcm.one (List.all_eq_true.1 (h1 e (by simp)) _ (List.getElem_mem hil))
      · exact ih c2 (fun e' he => h1 e' (by simp [he])) g2 x hx
  rcases h3 with h3 | ⟨b, q, xs, rfl, _, _, hrs, hcell⟩
  · have : es = [] := List.eq_nil_of_length_eq_zero h3
    subst this
    exact ⟨A, c, [], e', ⟨by simp, .inl rfl⟩, by simp, rfl⟩
  · exact ⟨_, c, xs, e', ⟨hlen es xs hm hrs, .inr ⟨b, q, rfl, hcell⟩⟩, hone es xs h1 hrs, hrs⟩

open Classical in
noncomputable def tagApp (v v' : Value) (d : Nat) (who : Nat → Tag) : Nat → Tag := fun b => if v'.ownBlock = some b then .own (.t d) 0 0 else if v.ownBlock = some b then .other else who b

/-- append to a slice that the call owns -/
theorem app_core {d T E m by_ : Nat} {z : Value} {s y : Operand} {ds es : List D} {k0 : List Key} (hd : o.dst = some d) (ho : o.op = .call { callee := .builtin .append, args := #[s, y], argTypes := #[T, T] }) (hT : SliceOf P T E m by_ z)
    (hm : ∀ e ∈ es, e.fc.length = m) (h1 : ∀ e ∈ es, e.fc.all FC.oneOk = true) (hby : (ds.length + es.length) * by_ ≤ 140737488355328) (hlen : ds.length + es.length ≤ 9223372036854775807)
    {C : Ctx} {who : Nat → Tag} {a : Act} {w : World} (hr : Rep n C who σ a w) (hdn : d < n) {v : Value} (hv : a.eval s = v) (hown : Own w 0 E m (Fz who) v ds) (hk : ∀ k, v.ownBlock = some k → ∃ t, who k = .own (.t t) 0 0 ∧ Key.t t ∈ k0)
    (hy : rd w (Fz who) (.arr es) [a.eval y]) {K : Act → World → Prop} {Q : Exit → Act → World → Prop}
    (hK : ∀ who' v' w', Rep n C who' ((.t d, some (.one (.c (.own E m (ds ++ es))))) :: (k0.map fun k => (k, none)) ++ σ) (a.put o.dst v') w' → K (a.put o.dst v') w') : o.wp P a w K Q := by
  obtain ⟨A, c, news, eu, hsrc, hone, hrds⟩ := src_of hy hm h1
  have hnf : ∀ k, v.ownBlock = some k → who k ≠ .froz := fun k hk' => by obtain ⟨t, ht, _⟩ := hk k hk'; rw [ht]; simp
  refine wp_appG (S := Fz who) w s y ho hT hv hown eu hsrc rfl hone ?_ (Nat.zero_le _) hby hlen fun v' w' hown' hg hb hk' => ?_
  · refine hrds.wide fun b _ hF => ⟨hF, fun e => ?_⟩
    exact hnf b e.symm hF
  have hvlt : ∀ k, v.ownBlock = some k → k < w.heap.size := fun k hk => (hown.lt k hk).2
  have hstp : Stp who w (tagApp v v' d who) w' (fun b => v.ownBlock = some b) (fun b => v.ownBlock = some b ∨ (v'.ownBlock = some b)) := by
    refine ⟨hg.os, hg.tape, hg.output, hg.size, fun b hb hT => hg.block b hb (fun e => hT e.symm), fun b hb hG => ?_, fun b hb => hnf b hb, fun b hb => ?_⟩
    · have h1 : ¬ v.ownBlock = some b := fun h => hG (.inl h)
      have h2 : ¬ v'.ownBlock = some b := fun h => hG (.inr h)
      simp [tagApp, h1, h2]
    · rcases hb with hb | hb
      · exact hnf b hb
      · rcases (hk' b hb).2.2 with h | h
        · exact hnf b h.symm
        · intro hf
          have := hr.fz b (by rw [hf]; simp)
          omega
  have hold : ∀ b, b < w.heap.size → (v.ownBlock = some b ∨ v'.ownBlock = some b) → v.ownBlock = some b := fun b hb h => by
    rcases h with h | h
    · exact h
    · rcases (hk' b h).2.2 with h' | h'
      · exact h'.symm
      · omega
  have htag : ∀ b, (v.ownBlock = some b ∨ v'.ownBlock = some b) → who b ≠ .other → ∃ t, who b = .own (.t t) 0 0 ∧ Key.t t ∈ k0 := fun b h hne => hk b (hold b (hr.fz b hne) h)
  have hkill : ∀ (l : List Key) (k : Key), k ∈ l → St.get (l.map (fun k => (k, none)) ++ σ) k = none := by
    intro l
    induction l with
    | nil => intro k h; cases h
    | cons k' l ih =>
      intro k h
      simp only [List.map_cons, List.cons_append, St.get]
      cases e : Key.is k' k
      · simp only [cond_false]
        refine ih k ?_
        rcases List.mem_cons.1 h with h | h
        · subst h; rw [Key.is_self] at e; cases e
        · exact h
      · rfl
  have hrk : ∀ (l : List Key), Rep n C who (l.map (fun k => (k, none)) ++ σ) a w := by
    intro l
    induction l with
    | nil => exact hr
    | cons k l ih => exact ih.kill k
  have hrep : Rep n C (tagApp v v' d who) (k0.map (fun k => (k, none)) ++ σ) a w' := by
    refine (hrk k0).stp hstp ?_ ?_ ?_ ?_ ?_ ?_ ?_ ?_
    · intro b hb ho'
      have htg := hr.adv.tag b hb (ho'.imp id .inl)
      have hnb : ¬ (v.ownBlock = some b) := fun h => by
        obtain ⟨t, ht, _⟩ := hk b h
        rw [ht] at htg
        rcases ho' with ho' | ho' <;> rw [ho'] at htg <;> cases htg
      exact ⟨hnb, fun h => hnb (hold b (Nat.lt_of_lt_of_le hb hr.adv.size) h)⟩
    · intro b j hb hj hG
      have htg := hr.adv.tag b hb (.inr (.inr ⟨j, hj⟩))
      obtain ⟨t, ht, _⟩ := hk b (hold b (Nat.lt_of_lt_of_le hb hr.adv.size) hG)
      rw [ht, hj] at htg; cases htg
    · intro b hb
      unfold tagApp at hb
      split at hb
      · rename_i h; exact (hk' b h).2.1
      · split at hb
        · exact absurd rfl hb
        · exact Nat.lt_of_lt_of_le (hr.fz b hb) hg.size
    · intro b b' j hb hb'
      have key : ∀ b, tagApp v v' d who b = .bx j → who b = .bx j := fun b hb => by
        unfold tagApp at hb
        split at hb
        · cases hb
        · split at hb
          · cases hb
          · exact hb
      exact hr.bxu b b' j (key b hb) (key b' hb')
    · intro b k p q hb hTG
      have hG : v.ownBlock = some b ∨ v'.ownBlock = some b := hTG.elim .inl id
      obtain ⟨t, ht, hmem⟩ := htag b hG (by rw [hb]; simp)
      rw [ht] at hb; injection hb with hb; subst hb
      exact hkill k0 _ hmem
    · intro b j hb hG
      obtain ⟨t, ht, _⟩ := htag b hG (by rw [hb]; simp)
      rw [ht] at hb; cases hb
    · intro b j hb hTG
      have hG : v.ownBlock = some b ∨ v'.ownBlock = some b := hTG.elim .inl id
      obtain ⟨t, ht, _⟩ := htag b hG (by rw [hb]; simp)
      rw [ht] at hb; cases hb
    · intro b j hb hnb
      unfold tagApp at hb
      split at hb
      · cases hb
      · split at hb
        · cases hb
        · exact absurd hb hnb
  refine hK (tagApp v v' d who) v' w' ?_
  rw [hd]
  refine hrep.put hdn (x := .one (.c (.own E m (ds ++ es)))) ⟨hown'.wide (fun b hb hF => ?_) (Nat.le_refl _), fun k hk => by simp [tagApp, hk]⟩
  have hlt : b < w.heap.size := hr.fz b (by rw [show who b = .froz from hF]; simp)
  exact hstp.fz b hlt hF

theorem op_app {d T E m by_ t : Nat} {z : Value} {y : Operand} {ds es rs : List D} (hd : o.dst = some d) (ho : o.op = .call { callee := .builtin .append, args := #[.tmp t, y], argTypes := #[T, T] }) (hT : SliceOf P T E m by_ z)
    (hs : St.get σ (.t t) = some (.one (.c (.own E m ds)))) (hy : St.ev σ y = some (.one (.c (.arr es)))) (hm : ∀ e ∈ es, e.fc.length = m) (h1 : ∀ e ∈ es, e.fc.all FC.oneOk = true)
    (hby : (ds.length + es.length) * by_ ≤ 140737488355328) (hlen : ds.length + es.length ≤ 9223372036854775807) (hc : ds ++ es = rs) :
    Op1 P n o ⟨[.t t] ++ opKey y, [.t d, .t t], []⟩ σ [(.t d, some (.one (.c (.own E m rs)))), (.t t, none)] where
  does := fun σ' hag hal C who a w hr hdst K Q hK => by
    subst hc
    have hx := hr.slot t _ ((hag (.t t) (by simp)).trans hs)
    obtain ⟨g1, g2⟩ : Own w 0 E m (Fz who) (a.tmps.getD t undef) ds ∧ ∀ k, (a.tmps.getD t undef).ownBlock = some k → who k = .own (.t t) 0 0 := hx
    exact app_core (k0 := [.t t]) hd ho hT hm h1 hby hlen hr (hdst d hd) rfl g1 (fun k hk => ⟨t, g2 k hk, by simp⟩) (hr.ev ((ev_agree fun k hk => hag k (List.mem_append_right _ hk)).trans hy)) hK
  wr := by simp
  me := fun j hj => by simp [St.ids, oids, X.ids, A1.ids, CV.ids] at hj
  al := by simp
theorem op_app0 {d T E m by_ : Nat} {z : Value} {s y : Operand} {es : List D} (hd : o.dst = some d) (ho : o.op = .call { callee := .builtin .append, args := #[s, y], argTypes := #[T, T] }) (hT : SliceOf P T E m by_ z)
    (hs : St.ev σ s = some (.one (.c (.val (.slice none 0 0))))) (hy : St.ev σ y = some (.one (.c (.arr es)))) (hm : ∀ e ∈ es, e.fc.length = m) (h1 : ∀ e ∈ es, e.fc.all FC.oneOk = true)
    (hby : es.length * by_ ≤ 140737488355328) (hlen : es.length ≤ 9223372036854775807) :
    Op1 P n o ⟨opKey s ++ opKey y, [.t d], []⟩ σ [(.t d, some (.one (.c (.own E m es))))] where
  does := fun σ' hag hal C who a w hr hdst K Q hK => by
    have hx : a.eval s = .slice none 0 0 := hr.ev ((ev_agree fun k hk => hag k (List.mem_append_left _ hk)).trans hs)
    exact app_core (ds := []) (k0 := []) hd ho hT hm h1 (by simpa using hby) (by simpa using hlen) hr (hdst d hd) hx (Own.nil _ _ _ _ _) (fun k hk => by simp [Value.ownBlock] at hk) (hr.ev ((ev_agree fun k hk => hag k (List.mem_append_right _ hk)).trans hy)) hK
  wr := by simp
  me := fun j hj => by simp [St.ids, oids, X.ids, A1.ids, CV.ids] at hj
  al := by simp

/-- parts put into cells -/
def buildC (σ : St) (pl : List (Nat × Nat)) : List (Nat × Operand) → List CV → Option (List CV)
  | [], cs => some cs
  | (i, s) :: r, cs =>
    match pl[i]?, St.ev σ s with
    | some (off, sz), some (.one A) => bif A.noOwn && A.cells.all CV.oneOk && Nat.beq A.cells.length sz && Nat.ble (off + sz) cs.length then buildC σ pl r (splL cs off A.cells) else none
    | _, _ => none
theorem foldl_spl : ∀ (xs : List Value) (k off : Nat) (cs : Array Value), ((xs.zipIdx k).foldl (fun cs (p : Value × Nat) => cs.setIfInBounds (off + p.2) p.1) cs) = (splL cs.toList (off + k) xs).toArray
  | [], k, off, cs => by simp [splL]
  | x :: xs, k, off, cs => by
    simp only [List.zipIdx_cons, List.foldl_cons, splL]
    rw [foldl_spl xs (k + 1) off]
    simp [Nat.add_assoc]
theorem buildC_run {C : Ctx} {who : Nat → Tag} {a : Act} {w : World} (hr : Rep n C who σ a w) {pl : List (Nat × Nat)} {place : Nat → Option (Nat × Nat)} (hpl : ∀ i x, pl[i]? = some x → place i = some x) :
    ∀ (parts : List (Nat × Operand)) (cs cs' : List CV) (vs : List Value), buildC σ pl parts cs = some cs' → vs.length = cs.length → (∀ (q : Nat) (c : CV) (v : Value), cs[q]? = some c → vs[q]? = some v → c.noOwn = true ∧ cvm w who .other c v ∧ v.oneCell' = true) →
      ∃ vs' : List Value, Instr.fill place vs.toArray (parts.map fun p => (p.1, a.eval p.2)) = some vs'.toArray ∧ vs'.length = cs'.length ∧ ∀ (q : Nat) (c : CV) (v : Value), cs'[q]? = some c → vs'[q]? = some v → c.noOwn = true ∧ cvm w who .other c v ∧ v.oneCell' = true
  | [], cs, cs', vs, h, hl, hc => by simp only [buildC, Option.some.injEq] at h; subst h; exact ⟨vs, rfl, hl, hc⟩
  | (i, s) :: r, cs, cs', vs, h, hl, hc => by
    simp only [buildC] at h
    split at h
    · rename_i off sz A e1 e2
      cases hcond : (A.noOwn && A.cells.all CV.oneOk && Nat.beq A.cells.length sz && Nat.ble (off + sz) cs.length)
      · rw [hcond] at h; cases h
      · rw [hcond] at h
        simp only [Bool.and_eq_true, cond_true] at hcond h
        obtain ⟨⟨⟨k1, k2⟩, k3⟩, k4⟩ := hcond
        have k3' := Nat.eq_of_beq_eq_true k3
        have k4' := Nat.le_of_ble_eq_true k4
        have hA : A1m w who (opTag s) 0 A (a.eval s) := hr.ev e2
        obtain ⟨g1, g2, g3⟩ := A1m.cells hA k2
        have hfit : ¬ ((a.eval s).cells.size ≠ sz ∨ off + (a.eval s).cells.size > vs.length) := by
          have : (a.eval s).cells.size = sz := by rw [← k3', ← g1]; simp
          omega
        obtain ⟨vs', r1, r2, r3⟩ := buildC_run hr hpl r (splL cs off A.cells) cs' (splL vs off (a.eval s).cells.toList) h (by rw [splL_len, splL_len, hl]) (fun q c v hq hv => by
          rw [splL_get _ _ _ _ (by omega)] at hq
          rw [splL_get _ _ _ _ (by omega)] at hv
          split at hq
          · rename_i hin
            rw [if_pos (by omega)] at hv
            have hnc : c.noOwn = true := by
              have hmem := List.mem_of_getElem? hq
              cases A with
              | c x => simp [A1.cells] at hmem; subst hmem; exact k1
              | agg l => exact List.all_eq_true.1 k1 c hmem
            exact ⟨hnc, cvm.re hnc (g2 _ c v hq hv), g3 v (List.mem_of_getElem? hv)⟩
          · rename_i hin
            rw [if_neg (by omega)] at hv
            exact hc q c v hq hv)
        refine ⟨vs', ?_, r2, r3⟩
        simp only [List.map_cons, Instr.fill, hpl i _ e1]
        rw [if_neg (by simpa using hfit)]
        rw [← r1]
        congr 1
        have := foldl_spl (a.eval s).cells.toList 0 off vs.toArray
        simp only [Nat.add_zero] at this
        rw [← this]
        rw [← Array.toList_zipIdx, Array.foldl_toList]
    · cases h

def fieldPl (P : Program) (T : Nat) : Option (List (Nat × Nat)) :=
  match P.underlying T with
  | some (.struct fields) => fields.toList.mapM fun f => (P.info? f.type).map fun i => (f.offset, i.size)
  | _ => none
end
end Go.Proofs.Ytmanhdacnkpclaa
