/- A slice of one's own that stands in a box, as a box; elements stored in drawn regions. -/
import Derived.Test.YtmanhdacnkpclaaDoorq6Ff
namespace Go.Proofs.YtmanhdacnkpclaaDoor
set_option linter.all false
open Go.RowKit
section
variable {P : Program} {n : Nat} {o : Oper} {σ : St}
theorem dwp_ownBoxB {Q : Exit → St → Prop} {c : Code} {tp b0 q0 T E m : Nat} {cells cells' : List CV} {ds : List D} (hp : St.get σ (.t tp) = some (.one (.c (.ptr b0 0)))) (hbs : St.get σ (.b b0) = some (.box cells)) (hqs : cells[q0]? = some (.own E m ds)) (hn0 : 0 < ds.length) (hm0 : 0 < m) (hids : nomem T (St.ids σ) = true) (hx : Nat.beq T EXT = false) (hmc : Nat.ble T EXT = true)
    (hmb : Nat.ble b0 EXT = true) (hnb : Nat.beq T b0 = false) (hcells : cells.set q0 (.sl T ds.length) = cells')
    (h : ∀ extra, dwp P n c Q ((.b b0, some (.box cells')) :: (.b T, some (.box ((fcs ds).map FC.cv ++ List.replicate extra .any))) :: σ)) : dwp P n c Q σ :=
  fun C who a w hr => by
    subst hcells
    obtain ⟨bb, ebb, hbw⟩ := hr.slot tp _ hp
    obtain ⟨vs0, E0, g1, g2, g3, g4⟩ := box_cell hr hbw hbs hmb
    have hql : q0 < vs0.length := by rw [g2]; exact (List.getElem?_eq_some_iff.1 hqs).1
    have hv0 := List.getElem?_eq_getElem hql
    obtain ⟨hown, htag⟩ : Own w 0 E m (Fz who) vs0[q0] ds ∧ ∀ k, (vs0[q0]).ownBlock = some k → who k = .own (.b b0) 0 q0 := g4 q0 _ _ hqs hv0
    have hTb : T ≠ b0 := fun e => by rw [e] at hnb; simp at hnb
    obtain ⟨xs, ⟨hxl, hrow⟩, hrds, hone⟩ := hown
    rcases hrow with ⟨_, h0⟩ | ⟨g, cap, cur, hv, _, hg, hlc, hcm, hcs, htake⟩
    · omega
    have hgo := htag g (by rw [hv]; rfl)
    have hgl : g < w.heap.size := hr.fz g (by rw [hgo]; simp)
    have hne : T ≠ EXT := fun h => by rw [h] at hx; simp at hx
    have hids' := nomem_iff.1 hids
    have hstp : Stp who w (tagBox T g who) w (fun _ => False) (fun b => b = g ∨ who b = .bx T) :=
      ⟨rfl, rfl, rfl, Nat.le_refl _, fun _ _ _ => rfl, fun b _ hb => tagBox_old (fun h => hb (.inl h)) (fun h => hb (.inr h)), fun _ h => h.elim, fun b hb => by
        rcases hb with rfl | hb
        · rw [hgo]; simp
        · rw [hb]; simp⟩
    have hk0 : ∀ k x, St.get ((.b b0, none) :: (.b T, none) :: σ) k = some x → St.get σ k = some x := fun k x h => by
      simp only [St.get] at h
      cases e1 : Key.is (.b b0) k <;> rw [e1] at h
      · cases e2 : Key.is (.b T) k <;> rw [e2] at h
        · exact h
        · simp at h
      · simp at h
    have hkt : St.get ((.b b0, none) :: (.b T, none) :: σ) (.b b0) = none := St.get_same
    have hkb : St.get ((.b b0, none) :: (.b T, none) :: σ) (.b T) = none := by rw [St.get_ne (by simpa using Ne.symm hTb)]; exact St.get_same
    have hki : T ∉ St.ids ((.b b0, none) :: (.b T, none) :: σ) := by simpa [St.ids, oids] using hids'
    have hbx : ∀ b j, tagBox T g who b = .bx j → (b = g ∧ j = T) ∨ (b ≠ g ∧ who b = .bx j ∧ j ≠ T) := fun b j hb => by
      rcases Classical.em (b = g) with rfl | hne'
      · rw [tagBox_new] at hb; injection hb with hb; exact .inl ⟨rfl, hb.symm⟩
      · rcases Classical.em (who b = .bx T) with hd' | hd'
        · rw [tagBox_gone hne' hd'] at hb; cases hb
        · rw [tagBox_old hne' hd'] at hb
          exact .inr ⟨hne', hb, fun e => hd' (e ▸ hb)⟩
    have h1 : Rep n C (tagBox T g who) ((.b b0, none) :: (.b T, none) :: σ) a w := by
      refine (hr.forget hk0).stp hstp ?_ ?_ ?_ ?_ ?_ ?_ ?_ ?_
      · intro b hb ho
        refine ⟨fun h => h, fun hG => ?_⟩
        have := hr.adv.tag b hb (ho.imp id .inl)
        rcases hG with rfl | hG
        · rw [hgo] at this; rcases ho with ho | ho <;> rw [ho] at this <;> cases this
        · rw [hG] at this; rcases ho with ho | ho <;> rw [ho] at this <;> cases this
      · intro b j hb ho hG
        have := hr.adv.tag b hb (.inr (.inr ⟨j, ho⟩))
        rcases hG with rfl | hG
        · rw [hgo, ho] at this; cases this
        · rw [hG, ho] at this; injection this with this
          exact hne (this.trans (hr.ext b j ho))
      · intro b hb
        rcases Classical.em (who b = .other) with h | h
        · rcases Classical.em (b = g) with rfl | hne'
          · exact hgl
          · rw [tagBox_old hne' (by rw [h]; simp)] at hb; exact absurd h hb
        · exact hr.fz b h
      · intro b b' j hb hb'
        rcases hbx b j hb with ⟨e1, e2⟩ | ⟨e1, e2, e3⟩ <;> rcases hbx b' j hb' with ⟨f1, f2⟩ | ⟨f1, f2, f3⟩
        · rw [e1, f1]
        · exact absurd e2 f3
        · exact absurd f2 e3
        · exact hr.bxu b b' j e2 f2
      · intro b k p q hb hG
        rcases hG with hG | rfl | hG
        · exact hG.elim
        · rw [hgo] at hb; injection hb with hb; subst hb; exact hkt
        · rw [hG] at hb; cases hb
      · intro b j hb hG
        rcases hG with rfl | hG
        · rw [hgo] at hb; cases hb
        · rw [hG] at hb; injection hb with hb; subst hb; exact hki
      · intro b j hb hG
        rcases hG with hG | rfl | hG
        · exact hG.elim
        · rw [hgo] at hb; cases hb
        · rw [hG] at hb; injection hb with hb; have hb := nb_eq (le_ext hmc) hb.symm; subst hb; exact hkb
      · intro b j hb hnb
        rcases hbx b _ hb with ⟨e1, e2⟩ | ⟨e1, e2, e3⟩
        · have e2 := nb_eq (le_ext hmc) e2; subst e2; exact hkb
        · exact absurd e2 hnb
    have hcl := (rds_iff.1 hrds)
    have hfl := cellsF_len hcl
    have h2 := (h1.addBox (j := T) (cs := (fcs ds).map FC.cv ++ List.replicate (cap * m - ds.length * m) .any) fun b hb => by
      rw [bas_of (le_ext hmc)] at hb
      have hbg : b = g := by
        rcases hbx b T hb with ⟨e1, _⟩ | ⟨_, _, e3⟩
        · exact e1
        · exact absurd rfl e3
      subst hbg
      refine ⟨cur.toList, E, by rw [isShp_of hmc]; simpa using hg, ?_, fun q c v hq hv => ?_⟩
      · have : ds.length * m ≤ cap * m := Nat.mul_le_mul_right m hlc
        simp only [Array.length_toList, List.length_append, List.length_map, List.length_replicate, hcs]
        omega
      · rcases Nat.lt_or_ge q (fcs ds).length with hlt | hge
        · rw [List.getElem?_append_left (by simpa using hlt), List.getElem?_map, Option.map_eq_some_iff] at hq
          obtain ⟨c0, hc0, rfl⟩ := hq
          obtain ⟨x, hx1, hx2⟩ := cellsF_at hcl q c0 hc0
          have hxv : x = v := by
            rw [← htake, List.getElem?_take] at hx1
            split at hx1
            · rw [hx1] at hv; injection hv
            · cases hx1
          subst hxv
          have h6 : fcm w (Fz (tagBox T b who)) c0 x := hx2.keep (Nat.le_refl _) (fun b' hb' hF => (hstp.fz b' hb' hF.1)) (fun _ _ _ => rfl)
          cases c0 <;> exact h6
        · rw [List.getElem?_append_right (by simpa using hge), List.getElem?_replicate] at hq
          split at hq
          · injection hq with hq; subst hq; trivial
          · cases hq)
    have h3 := h2.addBox (j := b0) (cs := cells.set q0 (.sl T ds.length)) fun b hb => by
      rw [bas_of (le_ext hmb)] at hb
      have hbb : b = bb := by
        rcases hbx b b0 hb with ⟨_, e2⟩ | ⟨_, e2, _⟩
        · exact absurd e2.symm hTb
        · exact hr.bxu b bb b0 e2 hbw
      subst hbb
      refine ⟨vs0, E0, by rw [isShp_of hmb]; exact g1, by simpa using g2, fun i c' v' hi hvi => ?_⟩
      rcases Classical.em (q0 = i) with rfl | hne'
      · have hlt2 : q0 < cells.length := (List.getElem?_eq_some_iff.1 hqs).1
        rw [List.getElem?_set_self hlt2] at hi; injection hi with hi; subst hi
        rw [hv0] at hvi; injection hvi with hvi; subst hvi
        exact ⟨g, cap, hv, ⟨hlc, hcm⟩, tagBox_new⟩
      · rw [List.getElem?_set_ne hne'] at hi
        refine cvm.stp (g4 i c' v' hi hvi) hstp hr.fz (fun _ k hk => ⟨fun h => h, fun hG => ?_⟩) (by simp) (fun j hj b' hb' hG => ?_)
        · rcases hG with rfl | hG
          · rw [hgo] at hk; injection hk with _ _ e; exact hne' e
          · rw [hG] at hk; cases hk
        · rcases hG with rfl | hG
          · rw [hgo] at hb'; cases hb'
          · rw [hG] at hb'; injection hb' with hb'; subst hb'
            exact hids' (St.ids_get hbs (List.mem_flatMap.2 ⟨c', List.mem_of_getElem? hi, hj⟩))
    refine h (cap * m - ds.length * m) C (tagBox T g who) a w (h3.congr fun k => ?_)
    simp only [St.get]
    cases e1 : Key.is (.b b0) k
    · cases e2 : Key.is (.b T) k
      · simp
      · simp
    · simp
theorem fc_ids (l : List FC) : (l.map FC.cv).flatMap CV.ids = [] := by
  induction l with
  | nil => rfl
  | cons c l ih =>
    simp only [List.map_cons, List.flatMap_cons, ih, List.append_nil]
    cases c <;> rfl
theorem any_ids (e : Nat) : (List.replicate e CV.any).flatMap CV.ids = [] := by
  induction e with
  | zero => rfl
  | succ e ih => simp only [List.replicate_succ, List.flatMap_cons, ih]; rfl
theorem els_ids {α : Type} (g : α → List FC) (l : List α) (e : Nat) : (els g l e).flatMap CV.ids = [] := by
  unfold els
  rw [List.flatMap_append, fc_ids, any_ids]; rfl
theorem dwp_ownElsB {α : Type} {f : α → D} {m : Nat} {g : α → List FC} [FCs f m g] {Q : Exit → St → Prop} {c : Code} {tp b0 q0 T E m' : Nat} {cells cells' : List CV} {l : List α} (hp : St.get σ (.t tp) = some (.one (.c (.ptr b0 0)))) (hbs : St.get σ (.b b0) = some (.box cells)) (hqs : cells[q0]? = some (.own E m' (l.map f))) (hn0 : 0 < l.length) (hm0 : Nat.blt 0 m' = true)
    (hids : nomem T (St.ids σ) = true) (hx : Nat.beq T EXT = false) (hmc : Nat.ble T EXT = true) (hmb : Nat.ble b0 EXT = true) (hnb : Nat.beq T b0 = false) (hcells : cells.set q0 (.sl T l.length) = cells')
    (h : ∀ e, dwp P n c Q ((.b b0, some (.box cells')) :: (.b T, some (.box (els g l e))) :: σ)) : dwp P n c Q σ := by
  refine dwp_ownBoxB (cells' := cells') hp hbs hqs (by simpa using hn0) (Nat.lt_of_succ_le (Nat.le_of_ble_eq_true hm0)) hids hx hmc hmb hnb (by rw [List.length_map]; exact hcells) fun e => ?_
  have := h e
  unfold els at this
  rw [fcs_map]; exact this
theorem op_storeEl0 {α : Type} {m : Nat} {g : α → List FC} (hF : ∀ a, (g a).length = m) {t j q k e : Nat} {l : List α} (y : α) {s v : Operand} {A : A1} (hd : o.dst = none) (ho : o.op = .store t s v) (hr : rowT P t = some (true, m)) (hs : St.ev σ s = some (.one (.c (.ptr j q)))) (hb : St.get σ (.b j) = some (.box (els g l e)))
    (hv : St.ev σ v = some (.one A)) (hA : A.cells = (g y).map FC.cv) (hn : A.noOwn = true) (hok : A.cells.all CV.oneOk = true) (hq : q = k * m) (hm : Nat.blt 0 m = true) (hk : k < l.length) (hmc : Nat.ble j EXT = true) :
    Op1 P n o ⟨opKey s ++ opKey v ++ [.b j], [.b j], []⟩ σ [(.b j, some (.box (els g (l.set k y) e)))] := by
  have h := op_storeEl (n := n) hF y hd ho hr hs hb hv hA hn hok hq hm hk hmc
  rw [List.flatMap_append, els_ids, fc_ids] at h
  simpa using h
end
end Go.Proofs.YtmanhdacnkpclaaDoor
