/- Walks over abstract states: operations that make memory, or write it; calls. -/
import Derived.Test.YtmanhdacnkpclaaG3
namespace Go.Proofs.Ytmanhdacnkpclaa
set_option linter.unusedVariables false
set_option linter.unusedSimpArgs false
open Go.RowKit

theorem St.get_none_of {σ : St} {k : Key} : St.get ((k, none) :: σ) k = none := St.get_same
theorem ids_kill {σ : St} {k : Key} {j : Nat} (h : j ∉ St.ids σ) : j ∉ St.ids ((k, none) :: σ) := by simpa [St.ids, oids] using h

section
variable {P : Program} {n : Nat} {o : Oper} {σ : St}

def tagBox (d sz : Nat) (who : Nat → Tag) : Nat → Tag := fun b => if b = sz then .bx d else match who b with | .bx i => if i = d then .other else .bx i | t => t
theorem tagBox_new {d sz : Nat} {who : Nat → Tag} : tagBox d sz who sz = .bx d := by simp [tagBox]
theorem tagBox_old {d sz b : Nat} {who : Nat → Tag} (h : b ≠ sz) (h2 : who b ≠ .bx d) : tagBox d sz who b = who b := by
  simp only [tagBox, if_neg h]
  split
  · rename_i i e
    have : i ≠ d := fun hh => h2 (by rw [e, hh])
    rw [if_neg this]; exact e.symm
  · rfl
theorem tagBox_gone {d sz b : Nat} {who : Nat → Tag} (h : b ≠ sz) (h2 : who b = .bx d) : tagBox d sz who b = .other := by simp [tagBox, h, h2]

/-- a new box -/
theorem new_box {C : Ctx} {who : Nat → Tag} {a : Act} {w : World} {d E : Nat} {u : List Value} {cs : List CV} (hr : Rep n C who σ a w) (hd : d < n) (hx : Nat.beq d EXT = false) (hids : d ∉ St.ids σ)
    (hc : ∀ who' w', (∀ q c v, cs[q]? = some c → u[q]? = some v → ∀ T G, Stp who w who' w' T G → (∀ b, T b → False) → (∀ b, G b → who b = .bx d) → cvm w' who' (.own (.b d) 0 q) c v)) (hl : u.length = cs.length) :
    Rep n C (tagBox d w.heap.size who) ((.t d, some (.one (.c (.ptr d 0)))) :: (.b d, some (.box cs)) :: σ) (a.put (some d) (.pointer (some ⟨w.heap.size, 0, none⟩))) (w.alloc (.cells u.toArray E)) := by
  have hnew : who w.heap.size = .other := by
    rcases Classical.em (who w.heap.size = .other) with h | h
    · exact h
    · exact absurd (hr.fz _ h) (Nat.lt_irrefl _)
  have hstp : Stp who w (tagBox d w.heap.size who) (w.alloc (.cells u.toArray E)) (fun _ => False) (fun b => who b = .bx d) := by
    refine ⟨rfl, rfl, rfl, by simp, fun b hb _ => Below.heap_alloc w _ b hb, fun b hb hg => tagBox_old (by omega) hg, fun b h => h.elim, fun b h => by rw [h]; simp⟩
  have hne : d ≠ EXT := fun h => by rw [h] at hx; simp at hx
  have h1 : Rep n C (tagBox d w.heap.size who) ((.b d, none) :: σ) a (w.alloc (.cells u.toArray E)) := by
    refine (hr.kill (.b d)).stp hstp ?_ ?_ ?_ ?_ ?_ ?_ ?_ ?_
    · intro b hb ho
      refine ⟨fun h => h, fun hg => ?_⟩
      have := hr.adv.tag b hb (ho.imp id .inl)
      rw [this] at hg
      rcases ho with ho | ho <;> rw [ho] at hg <;> cases hg
    · intro b j hb ho hg
      have := hr.adv.tag b hb (.inr (.inr ⟨j, ho⟩))
      rw [this, ho] at hg
      injection hg with hg
      exact hne (hg ▸ hr.ext b j ho)
    · intro b hb
      rcases Classical.em (b = w.heap.size) with rfl | hne'
      · simp
      · have : who b ≠ .other := fun h => by
          rw [tagBox_old hne' (by rw [h]; simp)] at hb; exact hb h
        have := hr.fz b this
        simp; omega
    · intro b b' j hb hb'
      have key : ∀ b, tagBox d w.heap.size who b = .bx j → (b = w.heap.size ∧ j = d) ∨ (b ≠ w.heap.size ∧ who b = .bx j ∧ j ≠ d) := by
        intro b hb
        rcases Classical.em (b = w.heap.size) with rfl | hne'
        · rw [tagBox_new] at hb; injection hb with hb; exact .inl ⟨rfl, hb.symm⟩
        · rcases Classical.em (who b = .bx d) with hd' | hd'
          · rw [tagBox_gone hne' hd'] at hb; cases hb
          · rw [tagBox_old hne' hd'] at hb
            exact .inr ⟨hne', hb, fun e => hd' (e ▸ hb)⟩
      rcases key b hb with ⟨e1, e2⟩ | ⟨e1, e2, e3⟩ <;> rcases key b' hb' with ⟨f1, f2⟩ | ⟨f1, f2, f3⟩
      · rw [e1, f1]
      · exact absurd e2 f3
      · exact absurd f2 e3
      · exact hr.bxu b b' j e2 f2
    · intro b k p q hb ho
      rcases ho with ho | ho
      · exact ho.elim
      · rw [ho] at hb; cases hb
    · intro b j hb hg
      rw [hg] at hb; injection hb with hb; subst hb
      exact ids_kill hids
    · intro b j hb hg
      rcases hg with hg | hg
      · exact hg.elim
      · rw [hg] at hb; injection hb with hb; subst hb; exact St.get_same
    · intro b j hb hnb
      rcases Classical.em (b = w.heap.size) with rfl | hne'
      · rw [tagBox_new] at hb; injection hb with hb; subst hb; exact St.get_same
      · rcases Classical.em (who b = .bx d) with hd' | hd'
        · rw [tagBox_gone hne' hd'] at hb; cases hb
        · rw [tagBox_old hne' hd'] at hb; exact absurd hb hnb
  have hbx : Boxm (w.alloc (.cells u.toArray E)) (tagBox d w.heap.size who) d cs := by
    intro b hb
    have : b = w.heap.size := by
      rcases Classical.em (b = w.heap.size) with h | hne'
      · exact h
      · rcases Classical.em (who b = .bx d) with hd' | hd'
        · rw [tagBox_gone hne' hd'] at hb; cases hb
        · rw [tagBox_old hne' hd'] at hb; exact absurd hb hd'
    subst this
    exact ⟨u, E, Go.heap_alloc_new w _, hl, fun q c v hq hv => hc _ _ q c v hq hv _ _ hstp (fun _ h => h) (fun _ h => h)⟩
  have h2 := (h1.addBox hbx).put hd (x := .one (.c (.ptr d 0))) (v := .pointer (some ⟨w.heap.size, 0, none⟩)) ⟨_, rfl, tagBox_new⟩
  refine h2.congr fun k => ?_
  simp only [St.get]
  cases Key.is (.t d) k
  · cases Key.is (.b d) k <;> simp
  · simp

theorem op_box {d E : Nat} {s : Operand} {A : A1} {cs : List CV} (hd : o.dst = some d) (ho : o.op = .box E s) (hs : St.ev σ s = some (.one A)) (hn : A.noOwn = true) (hok : A.cells.all CV.oneOk = true) (hc : A.cells = cs) (hx : Nat.beq d EXT = false) :
    Op1 P n o ⟨opKey s ++ (cs.flatMap CV.ids).map Key.b, [.t d, .b d], [d]⟩ σ [(.t d, some (.one (.c (.ptr d 0)))), (.b d, some (.box cs))] where
  does := fun σ' hag hal C who a w hr hdst K Q hK => by
    have hm := hr.ev ((ev_agree fun k hk => hag k (List.mem_append_left _ hk)).trans hs)
    have hdn := hdst d hd
    subst hc
    have hm' : A1m w who (opTag s) 0 A (a.eval s) := hm
    obtain ⟨h1, h2, h3⟩ := A1m.cells hm' hok
    have hids := hal d (by simp)
    unfold Oper.wp
    have hrun : (execOp a.eval o).run P w = .ok (.value (.pointer (some ⟨w.heap.size, 0, none⟩))) (w.alloc (.cells (a.eval s).cells E)) := by
      simp [execOp, ho, Instr.box, newVar, newRow]
    rw [hrun]
    show K (a.put o.dst _) _
    refine hK (tagBox d w.heap.size who) _ _ ?_
    rw [hd]
    have := new_box (E := E) (u := (a.eval s).cells.toList) (cs := A.cells) hr hdn hx hids (fun who' w' q c v hq hv T G hst hT hG => ?_) h1
    · simpa using this
    · have hnc : c.noOwn = true := by
        cases A with
        | c x => simp [A1.cells] at hq; cases q <;> simp at hq; subst hq; exact hn
        | agg l => exact List.all_eq_true.1 hn c (List.mem_of_getElem? hq)
      have hcid : ∀ j ∈ c.ids, j ≠ d := fun j hj e => by
        subst e
        refine hids ?_
        have hmem : j ∈ (X.one A).ids := by
          cases A with
          | c x => simp [A1.cells] at hq; cases q <;> simp at hq; subst hq; exact hj
          | agg l => exact List.mem_flatMap.2 ⟨c, List.mem_of_getElem? hq, hj⟩
        cases s with
        | tmp t => exact St.ids_get (k := .t t) ((ev_agree (s := .tmp t) fun k hk => hag k (List.mem_append_left _ hk)).trans hs) hmem
        | const v => simp only [St.ev, Option.some.injEq, X.one.injEq] at hs; subst hs; simp [X.ids, A1.ids, CV.ids] at hmem
        | func f => simp only [St.ev, Option.some.injEq, X.one.injEq] at hs; subst hs; simp [X.ids, A1.ids, CV.ids] at hmem
        | global g => simp [St.ev] at hs
      refine cvm.stp (cvm.re (p' := .own (.b d) 0 q) hnc (h2 q c v hq hv)) hst hr.fz (fun _ b hb => ⟨fun h => hT b h, fun h => by have := hG b h; rw [hb] at this; cases this⟩) (by simp) fun j hj b hb hg => ?_
      have := hG b hg
      rw [hb] at this; injection this with this
      exact hcid j hj this
  wr := by simp
  me := fun j hj => by
    have : j = d ∨ j ∈ cs.flatMap CV.ids := by simpa [St.ids, oids, X.ids, A1.ids, CV.ids] using hj
    rcases this with h | h
    · exact .inr (by simp [h])
    · exact .inl (List.mem_append_right _ (List.mem_map.2 ⟨j, h, rfl⟩))
  al := by simp

def zeroOf (P : Program) (t : Nat) : Option (List Value) := ((P.info? t).bind (·.zero)).map fun z => z.cells.toList
theorem run_zeroOf {t : Nat} {zs : List Value} (h : zeroOf P t = some zs) (w : World) : ∃ z, (zeroValue t).run P w = .ok z w ∧ z.cells = zs.toArray := by
  unfold zeroOf at h
  obtain ⟨z, h1, h2⟩ := Option.map_eq_some_iff.1 h
  obtain ⟨i, hi, hz⟩ := Option.bind_eq_some_iff.1 h1
  exact ⟨z, by simp [zeroValue, typeInfo, hi, hz], by rw [← h2]⟩
/-- a new variable -/
theorem op_alloc {d E : Nat} {zs : List Value} {cs : List CV} (hd : o.dst = some d) (ho : o.op = .alloc E) (hz : zeroOf P E = some zs) (hc : zs.map CV.val = cs) (hx : Nat.beq d EXT = false) :
    Op1 P n o ⟨[], [.t d, .b d], [d]⟩ σ [(.t d, some (.one (.c (.ptr d 0)))), (.b d, some (.box cs))] where
  does := fun σ' hag hal C who a w hr hdst K Q hK => by
    have hids := hal d (by simp)
    obtain ⟨z, hz1, hz2⟩ := run_zeroOf hz w
    unfold Oper.wp
    have hrun : (execOp a.eval o).run P w = .ok (.value (.pointer (some ⟨w.heap.size, 0, none⟩))) (w.alloc (.cells zs.toArray E)) := by
      simp [execOp, ho, Instr.alloc, newVar, newRow, hz1, hz2]
    rw [hrun]
    show K (a.put o.dst _) _
    refine hK (tagBox d w.heap.size who) _ _ ?_
    rw [hd]
    subst hc
    exact new_box (E := E) (u := zs) hr (hdst d hd) hx hids (fun who' w' q c v hq hv T G hst hT hG => by
      rw [List.getElem?_map, hv] at hq; simp at hq; subst hq; rfl) (by simp)
  wr := by simp
  me := fun j hj => by
    subst hc
    have : j = d ∨ j ∈ (zs.map CV.val).flatMap CV.ids := by simpa [St.ids, oids, X.ids, A1.ids, CV.ids] using hj
    rcases this with h | h
    · exact .inr (by simp [h])
    · obtain ⟨c, hc', hj'⟩ := List.mem_flatMap.1 h
      obtain ⟨v, _, rfl⟩ := List.mem_map.1 hc'
      cases hj'
  al := by simp

def splL {α : Type} : List α → Nat → List α → List α
  | l, _, [] => l
  | l, q, x :: xs => splL (l.set q x) (q + 1) xs
theorem splL_len {α : Type} : ∀ (xs : List α) (l : List α) (q : Nat), (splL l q xs).length = l.length
  | [], _, _ => rfl
  | x :: xs, l, q => by rw [splL, splL_len xs]; simp
theorem splL_get {α : Type} : ∀ (xs : List α) (l : List α) (q i : Nat), q + xs.length ≤ l.length → (splL l q xs)[i]? = if q ≤ i ∧ i < q + xs.length then xs[i - q]? else l[i]?
  | [], l, q, i, _ => by simp [splL]; omega
  | x :: xs, l, q, i, h => by
    simp only [List.length_cons] at h
    rw [splL, splL_get xs _ _ _ (by simp; omega)]
    simp only [List.length_cons]
    rcases Nat.lt_trichotomy i q with h1 | h1 | h1
    · rw [if_neg (by omega), if_neg (by omega), List.getElem?_set_ne (by omega)]
    · subst h1; rw [if_neg (by omega), if_pos (by omega), List.getElem?_set_self (by omega)]; simp
    · rcases Nat.lt_or_ge i (q + 1 + xs.length) with h2 | h2
      · rw [if_pos (by omega), if_pos (by omega)]
        rw [show i - q = (i - (q + 1)) + 1 by omega]; simp
      · rw [if_neg (by omega), if_neg (by omega), List.getElem?_set_ne (by omega)]
theorem setCells_blk : ∀ (news : List Value) (w : World) (b q : Nat) (vs : List Value) (E : TypeId), w.heap[b]? = some (.cells vs.toArray E (0, 0)) →
    (w.setCells b q news).heap[b]? = some (.cells (splL vs q news).toArray E (0, 0)) ∧ (∀ k, k ≠ b → (w.setCells b q news).heap[k]? = w.heap[k]?) ∧ (w.setCells b q news).heap.size = w.heap.size ∧
      (w.setCells b q news).os = w.os ∧ (w.setCells b q news).tape = w.tape ∧ (w.setCells b q news).output = w.output
  | [], w, b, q, vs, E, h => ⟨h, fun _ _ => rfl, rfl, rfl, rfl, rfl⟩
  | x :: xs, w, b, q, vs, E, h => by
    have h1 : (w.setCell ⟨b, q, none⟩ x).heap[b]? = some (.cells (vs.set q x).toArray E (0, 0)) := by
      simp [World.setCell, Array.getElem?_modify, h]
    obtain ⟨g1, g2, g3, g4, g5, g6⟩ := setCells_blk xs (w.setCell ⟨b, q, none⟩ x) b (q + 1) (vs.set q x) E h1
    refine ⟨g1, fun k hk => (g2 k hk).trans (Below.heap_setCell w _ _ _ hk), g3.trans (by simp [World.setCell]), g4.trans rfl, g5.trans rfl, g6.trans rfl⟩

/-- a store into a box -/
theorem op_store {t m j q : Nat} {s v : Operand} {A : A1} {cs as cs' : List CV} (hd : o.dst = none) (ho : o.op = .store t s v) (hs : St.ev σ s = some (.one (.c (.ptr j q)))) (hb : St.get σ (.b j) = some (.box cs)) {rb : Bool} (hr : rowT P t = some (rb, m))
    (hv : St.ev σ v = some (.one A)) (hn : A.noOwn = true) (hok : A.cells.all CV.oneOk = true) (has : A.cells = as) (hm : as.length = m) (hq : q + m ≤ cs.length) (hc : splL cs q as = cs') :
    Op1 P n o ⟨(opKey s ++ opKey v ++ [.b j]) ++ ((cs ++ as).flatMap CV.ids).map Key.b, [.b j], []⟩ σ [(.b j, some (.box cs'))] where
  does := fun σ' hag hal C who a w hrp hdst K Q hK => by
    obtain ⟨b, e, hbw⟩ := hrp.ev ((ev_agree fun k hk => hag k (by simp [hk])).trans hs)
    have hvm : A1m w who (opTag v) 0 A (a.eval v) := hrp.ev ((ev_agree fun k hk => hag k (by simp [hk])).trans hv)
    obtain ⟨v1, v2, v3⟩ := A1m.cells hvm hok
    have hgb : St.get σ' (.b j) = some (.box cs) := (hag (.b j) (by simp)).trans hb
    obtain ⟨vs, E, h1, h2, h3, h4⟩ := box_cell hrp hbw hgb
    obtain ⟨dsc, ii, hu, hrow, hi, hsz⟩ := rowT_parts hr
    subst has
    generalize hnews : (a.eval v).cells.toList = news at v1 v2 v3
    have hcells : (a.eval v).cells = news.toArray := by rw [← hnews]
    have hst := run_storeCells_cells (P := P) b q news 0 w (fun i hi' => by
      rw [Nat.add_zero, h3 (q + i) _ (List.getElem?_eq_getElem (by omega))]; rfl) (fun i _ => by simp [World.frozen?, h1]) v3
    have hrun : (execOp a.eval o).run P w = .ok .skip (w.setCells b q news) := by
      simp only [execOp, ho, e, Instr.storeAt, Instr.sureAddr, Sem.run_bind, Sem.run_pure, Result.andThen_ok, storeVar, sizeOf, typeInfo, run_program, hi, hcells]
      rw [if_neg (by simp; omega)]
      simp only [Nat.add_zero] at hst
      simp [hst]
    unfold Oper.wp
    rw [hrun]
    show K (a.put o.dst undef) _
    obtain ⟨g1, g2, g3, g4, g5, g6⟩ := setCells_blk news w b q vs E h1
    have hstp : Stp who w who (w.setCells b q news) (fun k => k = b) (fun _ => False) :=
      ⟨g4, g5, g6, by rw [g3]; exact Nat.le_refl _, fun k _ hk => g2 k hk, fun _ _ _ => rfl, fun k hk => by rw [hk, hbw]; simp, fun _ h => h.elim⟩
    have hrep : Rep n C who ((.b j, none) :: σ') a (w.setCells b q news) := by
      refine (hrp.kill (.b j)).stp hstp (fun k hk hoo => ⟨fun hkb => ?_, fun h => h⟩) (fun _ _ _ _ h => h) (fun k hk => by rw [g3]; exact hrp.fz k hk) hrp.bxu ?_ ?_ ?_ ?_
      · have := hrp.adv.tag k hk (hoo.imp id .inl)
        rw [hkb, hbw] at this
        rw [hkb] at hoo
        rcases hoo with hoo | hoo <;> rw [hoo] at this <;> cases this
      · intro k kk p q' hk hT
        rcases hT with hT | hT
        · rw [hT, hbw] at hk; cases hk
        · exact hT.elim
      · intro k i _ h; exact h.elim
      · intro k i hk hT
        rcases hT with hT | hT
        · rw [hT, hbw] at hk; injection hk with hk; subst hk; exact St.get_same
        · exact hT.elim
      · intro k i h1 h2; exact absurd h1 h2
    have hbox : Boxm (w.setCells b q news) who j cs' := by
      intro k hk
      have : k = b := hrp.bxu k b j hk hbw
      subst this
      refine ⟨splL vs q news, E, g1, by rw [splL_len, ← hc, splL_len, h2], fun i c u hi' hu' => ?_⟩
      rw [← hc, splL_get _ _ _ _ (by omega)] at hi'
      rw [splL_get _ _ _ _ (by omega)] at hu'
      have hstep : ∀ (kk : Key) (pp qq : Nat) (c : CV) (u : Value), cvm w who (.own kk pp qq) c u → cvm (w.setCells k q news) who (.own kk pp qq) c u := fun kk pp qq c u hcv =>
        cvm.stp hcv hstp hrp.fz (fun _ k' hk' => ⟨fun hT => (by rw [hT, hbw] at hk'; cases hk'), fun h => h⟩) (by simp) fun _ _ _ _ h => h
      split at hi'
      · rename_i hin
        rw [if_pos (by omega)] at hu'
        have hnc : c.noOwn = true := by
          have hmem := List.mem_of_getElem? hi'
          cases A with
          | c x => simp [A1.cells] at hmem; subst hmem; exact hn
          | agg l => exact List.all_eq_true.1 hn c hmem
        exact cvm.re hnc (hstep _ _ _ _ _ (v2 _ c u hi' hu'))
      · rename_i hin
        rw [if_neg (by omega)] at hu'
        exact hstep _ _ _ _ _ (h4 i c u hi' hu')
    refine hK who undef _ ?_
    rw [hd]
    refine (hrep.addBox hbox).congr fun k => ?_
    simp only [List.cons_append, List.nil_append, St.get]
    cases Key.is (.b j) k <;> simp
  wr := by simp
  me := fun i hi => by
    left
    have : i ∈ cs'.flatMap CV.ids := by simpa [St.ids, oids, X.ids] using hi
    obtain ⟨c, hc', hic⟩ := List.mem_flatMap.1 this
    refine List.mem_append_right _ (List.mem_map.2 ⟨i, List.mem_flatMap.2 ⟨c, ?_, hic⟩, rfl⟩)
    rw [← hc] at hc'
    obtain ⟨k, hk, rfl⟩ := List.getElem_of_mem hc'
    have hk' := List.getElem?_eq_getElem hk
    rw [splL_get _ _ _ _ (by omega)] at hk'
    split at hk'
    · exact List.mem_append_right _ (List.mem_of_getElem? hk')
    · exact List.mem_append_left _ (List.mem_of_getElem? hk')
  al := by simp
end
end Go.Proofs.Ytmanhdacnkpclaa
