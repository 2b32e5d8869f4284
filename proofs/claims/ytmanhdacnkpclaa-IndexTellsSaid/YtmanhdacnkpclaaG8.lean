/- Walks over abstract states: slices of one's own that lie in boxes; slice expressions; literals. -/
import Derived.Test.YtmanhdacnkpclaaG7
namespace Go.Proofs.Ytmanhdacnkpclaa
set_option linter.unusedVariables false
set_option linter.unusedSimpArgs false
open Go.RowKit

section
variable {P : Program} {n : Nat} {o : Oper} {σ : St} {C : Ctx} {who : Nat → Tag} {a : Act} {w : World}

theorem tag_stp {k0 : Key} {p0 q0 : Nat} {t : Tag} : Stp who w (tagAll (.own k0 p0 q0) t who) w (fun _ => False) (fun b => who b = .own k0 p0 q0) :=
  ⟨rfl, rfl, rfl, Nat.le_refl _, fun _ _ _ => rfl, fun b _ hb => tagAll_ne hb, fun _ h => h.elim, fun b hb => by rw [hb]; simp⟩
theorem Rep.tagMove {k0 : Key} {p0 q0 : Nat} {t : Tag} (h : Rep n C who σ a w) (ht : ∀ j, t ≠ .bx j) : Rep n C (tagAll (.own k0 p0 q0) t who) ((k0, none) :: σ) a w := by
  refine (h.kill k0).stp tag_stp (fun b hb ho => ⟨fun h => h, fun hg => ?_⟩) (fun b j hb ho hg => ?_) (fun b hb => ?_) (fun b b' j hb hb' => ?_) (fun b k p q hb hg => ?_) (fun b j hb hg => ?_) (fun b j hb hg => ?_) (fun b j hb hnb => ?_)
  · have := h.adv.tag b hb (ho.imp id .inl)
    rw [hg] at this
    rcases ho with ho | ho <;> rw [ho] at this <;> cases this
  · have := h.adv.tag b hb (.inr (.inr ⟨j, ho⟩))
    rw [hg, ho] at this; cases this
  · rcases Classical.em (who b = .own k0 p0 q0) with e | e
    · exact h.fz b (by rw [e]; simp)
    · rw [tagAll_ne e] at hb; exact h.fz b hb
  · have key : ∀ b, tagAll (.own k0 p0 q0) t who b = .bx j → who b = .bx j := fun b hb => by
      rcases Classical.em (who b = .own k0 p0 q0) with e | e
      · rw [tagAll_at e] at hb; exact absurd hb (ht j)
      · rw [tagAll_ne e] at hb; exact hb
    exact h.bxu b b' j (key b hb) (key b' hb')
  · rcases hg with hg | hg
    · exact hg.elim
    · rw [hg] at hb; injection hb with hb; subst hb; exact St.get_same
  · rw [hg] at hb; cases hb
  · rcases hg with hg | hg
    · exact hg.elim
    · rw [hg] at hb; cases hb
  · rcases Classical.em (who b = .own k0 p0 q0) with e | e
    · rw [tagAll_at e] at hb; exact absurd hb (ht j)
    · rw [tagAll_ne e] at hb; exact absurd hb hnb
theorem cvm.tag_other {k0 : Key} {p0 q0 : Nat} {t p' : Tag} {c : CV} {u : Value} (h : cvm w who p' c u) (hz : ∀ b, who b ≠ .other → b < w.heap.size) (hne : p' ≠ .own k0 p0 q0) (hp' : p' ≠ .other) : cvm w (tagAll (.own k0 p0 q0) t who) p' c u :=
  cvm.stp h tag_stp hz (fun _ k hk => ⟨fun h => h, fun hg => hne (hk.symm.trans hg)⟩) hp' fun j _ b hb hg => by rw [hg] at hb; cases hb
theorem cvm.tag_own {k0 : Key} {p0 q0 E m : Nat} {t : Tag} {ds : List D} {u : Value} (h : cvm w who (.own k0 p0 q0) (.own E m ds) u) (hz : ∀ b, who b ≠ .other → b < w.heap.size) : cvm w (tagAll (.own k0 p0 q0) t who) t (.own E m ds) u :=
  ⟨h.1.wide (fun b hb hF => (tag_stp (w := w)).fz b hb hF) (Nat.le_refl _), fun k hk => tagAll_at (h.2 k hk)⟩
theorem cvm.tag_frz {k0 : Key} {p0 q0 E m : Nat} {p' : Tag} {ds : List D} {u : Value} (h : cvm w who (.own k0 p0 q0) (.own E m ds) u) : cvm w (tagAll (.own k0 p0 q0) .froz who) p' (.arr ds) u :=
  h.1.rdF (fun b hb hF => (tag_stp (w := w)).fz b hb hF) fun k hk => tagAll_at (h.2 k hk)

/-- what a box holds, where one of its cells is another's -/
theorem box_tag {j q : Nat} {t : Tag} {cs : List CV} {c' : CV} (hr : Rep n C who σ a w) (hb : St.get σ (.b j) = some (.box cs)) (ht : ∀ i, t ≠ .bx i)
    (hc : ∀ c v, cs[q]? = some c → cvm w who (.own (.b j) 0 q) c v → cvm w (tagAll (.own (.b j) 0 q) t who) (.own (.b j) 0 q) c' v) : Boxm w (tagAll (.own (.b j) 0 q) t who) j (cs.set q c') := by
  intro b hbw
  have hb0 : who b = .bx j := by
    rcases Classical.em (who b = .own (.b j) 0 q) with e | e
    · rw [tagAll_at e] at hbw; exact absurd hbw (ht j)
    · rw [tagAll_ne e] at hbw; exact hbw
  obtain ⟨vs, E, h1, h2, h3⟩ := hr.box j cs hb b hb0
  refine ⟨vs, E, h1, by simp [h2], fun q' c v hq hv => ?_⟩
  rcases Classical.em (q = q') with rfl | hne
  · have hlt : q < cs.length := by rw [← h2]; exact (List.getElem?_eq_some_iff.1 hv).1
    rw [List.getElem?_set_self hlt] at hq; injection hq with hq; subst hq
    exact hc _ v (List.getElem?_eq_getElem hlt) (h3 q _ v (List.getElem?_eq_getElem hlt) hv)
  · rw [List.getElem?_set_ne hne] at hq
    exact (h3 q' c v hq hv).tag_other hr.fz (by simp; omega) (by simp)

/-- a slice of one's own is taken out of a box -/
theorem op_loadOwn {d t m j q E m' : Nat} {s : Operand} {cs cs' : List CV} {ds : List D} (hd : o.dst = some d) (ho : o.op = .load t s) (hr : rowT P t = some (false, m)) (hs : St.ev σ s = some (.one (.c (.ptr j q)))) (hb : St.get σ (.b j) = some (.box cs))
    (hc : cs[q]? = some (.own E m' ds)) (hc' : cs.set q .any = cs') : Op1 P n o ⟨(opKey s ++ [.b j]) ++ (cs'.flatMap CV.ids).map Key.b, [.t d, .b j], []⟩ σ [(.t d, some (.one (.c (.own E m' ds)))), (.b j, some (.box cs'))] where
  does := fun σ' hag hal C who a w hrp hdst K Q hK => by
    obtain ⟨b, e, hbw⟩ := hrp.ev ((ev_agree fun k hk => hag k (by simp [hk])).trans hs)
    have hgb := (hag (.b j) (by simp)).trans hb
    obtain ⟨vs, E', h1, h2, h3, h4⟩ := box_cell hrp hbw hgb
    have hq : q < vs.length := by rw [h2]; exact (List.getElem?_eq_some_iff.1 hc).1
    have hv := List.getElem?_eq_getElem hq
    have hrun : (execOp a.eval o).run P w = .ok (.value vs[q]) w := by simp [execOp, ho, e, run_load1 hr (h3 q _ hv)]
    unfold Oper.wp
    rw [hrun]
    show K (a.put o.dst vs[q]) w
    refine hK (tagAll (.own (.b j) 0 q) (.own (.t d) 0 0) who) _ _ ?_
    rw [hd]
    have hown := (h4 q _ _ hc hv)
    have hr1 := hrp.tagMove (k0 := .b j) (p0 := 0) (q0 := q) (t := .own (.t d) 0 0) (by simp)
    have hbx := box_tag (q := q) (t := .own (.t d) 0 0) (c' := .any) hrp hgb (by simp) (fun (_ : CV) (_ : Value) _ _ => trivial)
    subst hc'
    refine ((hr1.addBox hbx).put (hdst d hd) (x := .one (.c (.own E m' ds))) (hown.tag_own hrp.fz)).congr fun k => ?_
    simp only [List.cons_append, List.nil_append, St.get]
    cases Key.is (.t d) k
    · cases Key.is (.b j) k <;> simp
    · simp
  wr := by simp
  me := fun i hi => by
    left
    have : i ∈ cs'.flatMap CV.ids := by simpa [St.ids, oids, X.ids, A1.ids, CV.ids] using hi
    exact List.mem_append_right _ (List.mem_map.2 ⟨i, this, rfl⟩)
  al := by simp

/-- one cell is stored -/
theorem store1 {j b q : Nat} {c : CV} {u : Value} {cs : List CV} (hrp : Rep n C who σ a w) (hbw : who b = .bx j) (hgb : St.get σ (.b j) = some (.box cs)) (hq : q < cs.length) (hu : cvm w who (.own (.b j) 0 q) c u) :
    Rep n C who ((.b j, some (.box (cs.set q c))) :: σ) a (w.setCell ⟨b, q, none⟩ u) := by
  obtain ⟨vs, E, h1, h2, h3, h4⟩ := box_cell hrp hbw hgb
  obtain ⟨g1, g2, g3, g4, g5, g6⟩ := setCells_blk [u] w b q vs E h1
  simp only [World.setCells] at g1 g2 g3 g4 g5 g6
  have hstp : Stp who w who (w.setCell ⟨b, q, none⟩ u) (fun k => k = b) (fun _ => False) :=
    ⟨g4, g5, g6, by rw [g3]; exact Nat.le_refl _, fun k _ hk => g2 k hk, fun _ _ _ => rfl, fun k hk => by rw [hk, hbw]; simp, fun _ h => h.elim⟩
  have hrep : Rep n C who ((.b j, none) :: σ) a (w.setCell ⟨b, q, none⟩ u) := by
    refine (hrp.kill (.b j)).stp hstp (fun k hk hoo => ⟨fun hkb => ?_, fun h => h⟩) (fun _ _ _ _ h => h) (fun k hk => by rw [g3]; exact hrp.fz k hk) hrp.bxu ?_ ?_ ?_ ?_
    · have := hrp.adv.tag k hk (hoo.imp id .inl)
      rw [hkb, hbw] at this
      rw [hkb] at hoo
      rcases hoo with hoo | hoo <;> rw [hoo] at this <;> cases this
    · intro k kk p q' hk hT
      rcases hT with hT | hT
      · rw [hT, hbw] at hk; cases hk
      · exact hT.elim
    · intro k i _ h; exact h.elim
    · intro k i hk hT
      rcases hT with hT | hT
      · rw [hT, hbw] at hk; injection hk with hk; subst hk; exact St.get_same
      · exact hT.elim
    · intro k i h1 h2; exact absurd h1 h2
  have hstep : ∀ (kk : Key) (pp qq : Nat) (c : CV) (u' : Value), cvm w who (.own kk pp qq) c u' → cvm (w.setCell ⟨b, q, none⟩ u) who (.own kk pp qq) c u' := fun kk pp qq c u' hcv =>
    cvm.stp hcv hstp hrp.fz (fun _ k' hk' => ⟨fun hT => (by rw [hT, hbw] at hk'; cases hk'), fun h => h⟩) (by simp) fun _ _ _ _ h => h
  refine (hrep.addBox (j := j) (cs := cs.set q c) fun k hk => ?_).congr fun k => ?_
  · have : k = b := hrp.bxu k b j hk hbw
    subst this
    refine ⟨splL vs q [u], E, g1, by rw [splL_len, h2]; simp, fun i c' u' hi hu' => ?_⟩
    rw [splL_get _ _ _ _ (by simp; omega)] at hu'
    rcases Classical.em (q = i) with rfl | hne
    · rw [List.getElem?_set_self hq] at hi; injection hi with hi; subst hi
      rw [if_pos (by simp)] at hu'
      simp at hu'; subst hu'
      exact hstep _ _ _ _ _ hu
    · rw [List.getElem?_set_ne hne] at hi
      rw [if_neg (by simp; omega)] at hu'
      exact hstep _ _ _ _ _ (h4 i c' u' hi hu')
  · simp only [St.get]
    cases Key.is (.b j) k <;> simp
theorem run_store1 {t m b q : Nat} (hr : rowT P t = some (false, 1) ∨ m = 1 ∧ rowT P t = some (true, m)) {x u : Value} (h1 : u.oneCell' = true) (hx : w.cell? ⟨b, q, none⟩ = some x) (hf : w.frozen? ⟨b, q, none⟩ = false) :
    (Instr.storeAt t (.pointer (some ⟨b, q, none⟩)) u).run P w = .ok () (w.setCell ⟨b, q, none⟩ u) := by
  have hsz : ∃ i, P.info? t = some i ∧ i.size = 1 := by
    rcases hr with hr | ⟨rfl, hr⟩ <;> obtain ⟨_, i, _, _, hi, hs⟩ := rowT_parts hr <;> exact ⟨i, hi, hs⟩
  obtain ⟨i, hi, hs⟩ := hsz
  have hst := run_storeCells_cells (P := P) b q [u] 0 w (fun j hj => by
    have : j = 0 := by simp at hj; omega
    subst this; simp [hx]) (fun j hj => by
    have : j = 0 := by simp at hj; omega
    subst this; simpa using hf) (by simpa using h1)
  simp only [Nat.add_zero, World.setCells] at hst
  simp only [Instr.storeAt, Instr.sureAddr, Sem.run_bind, Sem.run_pure, Result.andThen_ok, storeVar, sizeOf, typeInfo, run_program, hi, cells_one h1]
  simp [hs, hst]
/-- a slice of one's own is put into a box -/
theorem op_storeOwn {t j q tv E m : Nat} {s : Operand} {cs cs' : List CV} {ds : List D} (hd : o.dst = none) (ho : o.op = .store t s (.tmp tv)) (hs : St.ev σ s = some (.one (.c (.ptr j q)))) (hb : St.get σ (.b j) = some (.box cs)) (hr : rowT P t = some (false, 1))
    (hv : St.get σ (.t tv) = some (.one (.c (.own E m ds)))) (hq : Nat.blt q cs.length = true) (hc : cs.set q (.own E m ds) = cs') :
    Op1 P n o ⟨(opKey s ++ [.t tv, .b j]) ++ (cs'.flatMap CV.ids).map Key.b, [.b j, .t tv], []⟩ σ [(.b j, some (.box cs')), (.t tv, none)] where
  does := fun σ' hag hal C who a w hrp hdst K Q hK => by
    have hq' : q < cs.length := Nat.lt_of_succ_le (Nat.le_of_ble_eq_true hq)
    obtain ⟨b, e, hbw⟩ := hrp.ev ((ev_agree fun k hk => hag k (by simp [hk])).trans hs)
    have hgb := (hag (.b j) (by simp)).trans hb
    have hx := hrp.slot tv _ ((hag (.t tv) (by simp)).trans hv)
    have hx' : cvm w who (.own (.t tv) 0 0) (.own E m ds) (a.tmps.getD tv undef) := hx
    have hone := cvm.one (c := .own E m ds) rfl hx'
    obtain ⟨vs, E', h1, h2, h3, h4⟩ := box_cell hrp hbw hgb
    have hrun : (execOp a.eval o).run P w = .ok .skip (w.setCell ⟨b, q, none⟩ (a.tmps.getD tv undef)) := by
      have := run_store1 (P := P) (w := w) (t := t) (m := 0) (b := b) (q := q) (.inl hr) hone (h3 q _ (List.getElem?_eq_getElem (by omega))) (by simp [World.frozen?, h1])
      have e2 : a.eval (.tmp tv) = a.tmps.getD tv undef := rfl
      simp only [execOp, ho, e, e2, Sem.run_bind, this]; rfl
    unfold Oper.wp
    rw [hrun]
    show K (a.put o.dst undef) _
    refine hK (tagAll (.own (.t tv) 0 0) (.own (.b j) 0 q) who) undef _ ?_
    rw [hd]
    have hr1 := hrp.tagMove (k0 := .t tv) (p0 := 0) (q0 := 0) (t := .own (.b j) 0 q) (by simp)
    have hbw1 : tagAll (.own (.t tv) 0 0) (.own (.b j) 0 q) who b = .bx j := (tagAll_ne (by rw [hbw]; simp)).trans hbw
    have hr2 := store1 (q := q) (c := .own E m ds) (u := a.tmps.getD tv undef) hr1 hbw1 ((St.get_ne (by simp)).trans hgb) hq' (hx'.tag_own hrp.fz)
    subst hc
    exact hr2
  wr := by simp
  me := fun i hi => by
    left
    have : i ∈ cs'.flatMap CV.ids := by simpa [St.ids, oids, X.ids, A1.ids, CV.ids] using hi
    exact List.mem_append_right _ (List.mem_map.2 ⟨i, this, rfl⟩)
  al := by simp
/-- a slice of one's own goes from slot to slot -/
theorem op_moveOwn {d t E m : Nat} {ds : List D} (hd : o.dst = some d) (ho : o.op = .move (.tmp t) ∨ o.op = .assign (.tmp t)) (hs : St.get σ (.t t) = some (.one (.c (.own E m ds)))) :
    Op1 P n o ⟨[.t t], [.t d, .t t], []⟩ σ [(.t d, some (.one (.c (.own E m ds)))), (.t t, none)] where
  does := fun σ' hag hal C who a w hrp hdst K Q hK => by
    have hx := hrp.slot t _ ((hag (.t t) (by simp)).trans hs)
    have hx' : cvm w who (.own (.t t) 0 0) (.own E m ds) (a.tmps.getD t undef) := hx
    have hrun : (execOp a.eval o).run P w = .ok (.value (a.tmps.getD t undef)) w := by rcases ho with ho | ho <;> simp [execOp, ho, Act.eval]
    unfold Oper.wp
    rw [hrun]
    show K (a.put o.dst _) w
    refine hK (tagAll (.own (.t t) 0 0) (.own (.t d) 0 0) who) _ _ ?_
    rw [hd]
    exact (hrp.tagMove (k0 := .t t) (p0 := 0) (q0 := 0) (t := .own (.t d) 0 0) (by simp)).put (hdst d hd) (x := .one (.c (.own E m ds))) (hx'.tag_own hrp.fz)
  wr := by simp
  me := fun i hi => by simp [St.ids, oids, X.ids, A1.ids, CV.ids] at hi
  al := by simp

/-- in a box: nothing is a slice of one's own that is empty; what is one's own may be given away -/
theorem Wk.nilOwnB {j q E m : Nat} {cs cs' : List CV} (h : St.get σ (.b j) = some (.box cs)) (hq : cs[q]? = some (.val (.slice none 0 0))) (hc : cs.set q (.own E m []) = cs') : Wk n σ ((.b j, some (.box cs')) :: σ) := fun C who a w hr => by
  subst hc
  refine ⟨who, hr.addBox fun b hb => ?_⟩
  obtain ⟨vs, E', h1, h2, h3⟩ := hr.box j cs h b hb
  refine ⟨vs, E', h1, by simp [h2], fun i c v hi hv => ?_⟩
  rcases Classical.em (q = i) with rfl | hne
  · have hlt : q < cs.length := (List.getElem?_eq_some_iff.1 hq).1
    rw [List.getElem?_set_self hlt] at hi; injection hi with hi; subst hi
    have hv' : v = .slice none 0 0 := h3 q _ v hq hv
    subst hv'
    exact ⟨Own.nil _ _ _ _ _, fun k hk => by simp [Value.ownBlock] at hk⟩
  · rw [List.getElem?_set_ne hne] at hi
    exact h3 i c v hi hv
theorem Wk.nilArrB {j q : Nat} {cs cs' : List CV} (h : St.get σ (.b j) = some (.box cs)) (hq : cs[q]? = some (.val (.slice none 0 0))) (hc : cs.set q (.arr []) = cs') : Wk n σ ((.b j, some (.box cs')) :: σ) := fun C who a w hr => by
  subst hc
  refine ⟨who, hr.addBox fun b hb => ?_⟩
  obtain ⟨vs, E', h1, h2, h3⟩ := hr.box j cs h b hb
  refine ⟨vs, E', h1, by simp [h2], fun i c v hi hv => ?_⟩
  rcases Classical.em (q = i) with rfl | hne
  · have hlt : q < cs.length := (List.getElem?_eq_some_iff.1 hq).1
    rw [List.getElem?_set_self hlt] at hi; injection hi with hi; subst hi
    have hv' : v = .slice none 0 0 := h3 q _ v hq hv
    subst hv'
    exact rd_nil
  · rw [List.getElem?_set_ne hne] at hi
    exact h3 i c v hi hv
theorem Wk.freezeB {j q E m : Nat} {ds : List D} {cs cs' : List CV} (h : St.get σ (.b j) = some (.box cs)) (hq : cs[q]? = some (.own E m ds)) (hc : cs.set q (.arr ds) = cs') : Wk n σ ((.b j, some (.box cs')) :: σ) := fun C who a w hr => by
  subst hc
  refine ⟨tagAll (.own (.b j) 0 q) .froz who, ((hr.tagMove (k0 := .b j) (p0 := 0) (q0 := q) (t := .froz) (by simp)).addBox (box_tag (t := .froz) (c' := .arr ds) hr h (by simp) fun c v hcq hcv => ?_)).congr fun k => ?_⟩
  · rw [hq] at hcq; injection hcq with hcq; subst hcq; exact hcv.tag_frz
  · simp only [St.get]
    cases Key.is (.b j) k <;> simp

theorem fcs_app : ∀ {l1 l2 : List D}, fcs (l1 ++ l2) = fcs l1 ++ fcs l2
  | [], _ => rfl
  | d :: l1, l2 => by simp only [List.cons_append, fcs, fcs_app (l1 := l1), List.append_assoc]
theorem fcs_len {m : Nat} : ∀ {ds : List D}, (∀ d ∈ ds, d.fc.length = m) → (fcs ds).length = ds.length * m
  | [], _ => by simp [fcs]
  | d :: ds, h => by
    have h2 := fcs_len (m := m) (ds := ds) fun d' hd => h d' (List.mem_cons_of_mem _ hd)
    simp only [fcs, List.length_append, h d (List.mem_cons_self ..), h2, List.length_cons, Nat.add_mul]; omega
theorem rds_iff {w : World} {F : Nat → Prop} {ds : List D} {cs : List Value} : rds w F ds cs ↔ cellsF w F (fcs ds) cs := rds_fc ds (fun d _ cs => rd_fc d cs) cs
theorem rd_sub {w : World} {F : Nat → Prop} {ds : List D} {ad : Option Addr} {cap l h m : Nat} (hrd : rd w F (.arr ds) [.slice ad ds.length cap]) (hlh : l ≤ h) (hh : h ≤ ds.length) (hm : ∀ x ∈ ds, x.fc.length = m) :
    rd w F (.arr ((ds.drop l).take (h - l))) [.slice (if cap = l then ad else ad.map (·.add (l * m))) (h - l) (cap - l)] := by
  obtain ⟨a', cap', e, hcap, hmax, h3⟩ := hrd
  simp only [List.cons.injEq, Value.slice.injEq, true_and, and_true] at e
  obtain ⟨rfl, rfl⟩ := e
  have hrl : ((ds.drop l).take (h - l)).length = h - l := by simp; omega
  refine ⟨_, _, by rw [hrl], by omega, by omega, ?_⟩
  rcases Nat.eq_zero_or_pos (h - l) with h0 | h0
  · left; omega
  · right
    rcases h3 with h3 | ⟨b, q, xs, ha, hb, hlt, hrs', hcell⟩
    · omega
    · subst ha
      have hcl : cap ≠ l := by omega
      have hsplit : ds = ds.take l ++ ((ds.drop l).take (h - l) ++ (ds.drop l).drop (h - l)) := by rw [List.take_append_drop, List.take_append_drop]
      have hc := rds_iff.1 hrs'
      rw [hsplit, fcs_app, fcs_app] at hc
      obtain ⟨x1, x23, rfl, k1, k23⟩ := cellsF_app.1 hc
      obtain ⟨x2, x3, rfl, k2, k3⟩ := cellsF_app.1 k23
      have hx1 : x1.length = l * m := by
        rw [cellsF_len k1, fcs_len (m := m) fun d hd => hm d (List.mem_of_mem_take hd)]
        rw [List.length_take, Nat.min_eq_left (by omega)]
      refine ⟨b, q + l * m, x2, ?_, hb, hlt, rds_iff.2 k2, fun j u hj => ?_⟩
      · rw [if_neg hcl]; simp [add_lit]
      · rw [Nat.add_assoc]
        refine hcell _ u ?_
        rw [List.getElem?_append_right (by omega), hx1, show l * m + j - l * m = j by omega]
        rw [List.getElem?_append_left (List.getElem?_eq_some_iff.1 hj).1]; exact hj

/-- 's[l:h]' of what nobody writes -/
theorem op_slice {d T E m by_ l h : Nat} {z : Value} {s : Operand} {lo hi : Option Operand} {ds rs : List D} (hd : o.dst = some d) (ho : o.op = .slice T s lo hi none) (hT : SliceOf P T E m by_ z) (hs : St.ev σ s = some (.one (.c (.arr ds))))
    (hlo : match lo with | some i => St.ev σ i = some (.one (.c (.val (.int .i64 (l : Int))))) | none => l = 0) (hhi : match hi with | some i => St.ev σ i = some (.one (.c (.val (.int .i64 (h : Int))))) | none => h = ds.length)
    (hlh : l ≤ h) (hh : h ≤ ds.length) (hm : ∀ x ∈ ds, x.fc.length = m) (hrs : (ds.drop l).take (h - l) = rs) :
    Op1 P n o ⟨(opKey s ++ (lo.toList ++ hi.toList).flatMap opKey) ++ (X.one (.c (.arr rs))).ids.map Key.b, [.t d], []⟩ σ [(.t d, some (.one (.c (.arr rs))))] :=
  .value _ hd fun σ' hag C who a w hrp => by
    have hrd : rd w (Fz who) (.arr ds) [a.eval s] := hrp.ev ((ev_agree fun k hk => hag k (List.mem_append_left _ hk)).trans hs)
    obtain ⟨ad, cap, e, hcap, hmax, h3⟩ := hrd
    have e1 : a.eval s = .slice ad ds.length cap := by simpa using e
    obtain ⟨i', hi', hz0, hz1, hz2⟩ := info_parts hT.info
    have elo : ∀ i, lo = some i → a.eval i = .int .i64 (l : Int) := fun i hi0 => by
      subst hi0
      exact hrp.ev ((ev_agree fun k hk => hag k (List.mem_append_right _ (by simp [hk]))).trans hlo)
    have ehi : ∀ i, hi = some i → a.eval i = .int .i64 (h : Int) := fun i hi0 => by
      subst hi0
      exact hrp.ev ((ev_agree fun k hk => hag k (List.mem_append_right _ (by simp [hk]))).trans hhi)
    have hl2 : h ≤ cap := by omega
    have hb : (Instr.sliceBounds true ds.length cap (lo.map a.eval) (hi.map a.eval) none).run P w = .ok (l, h, cap) w := by
      cases lo with
      | none =>
        simp only at hlo
        cases hi with
        | none =>
          simp only at hhi
          simp [Instr.sliceBounds, hlo, hhi]
        | some i => simp [Instr.sliceBounds, Instr.sliceBound, asIntOf, ehi i rfl, hlo, hl2]
      | some j =>
        cases hi with
        | none =>
          simp only at hhi
          have hl3 : l ≤ ds.length := by omega
          simp [Instr.sliceBounds, Instr.sliceBound, asIntOf, elo j rfl, hhi, hl3]
        | some i => simp [Instr.sliceBounds, Instr.sliceBound, asIntOf, elo j rfl, ehi i rfl, hlh, hl2]
    refine ⟨.slice (if cap = l then ad else ad.map (·.add (l * m))) (h - l) (cap - l), ?_, ?_⟩
    · simp [execOp, ho, e1, Instr.sliceAt, run_underlying hT.und, Instr.slice, hb, sizeOf, typeInfo, hi', hz1]
    · subst hrs
      exact rd_sub (m := m) ⟨ad, cap, rfl, hcap, hmax, h3⟩ hlh hh hm
end
end Go.Proofs.Ytmanhdacnkpclaa
