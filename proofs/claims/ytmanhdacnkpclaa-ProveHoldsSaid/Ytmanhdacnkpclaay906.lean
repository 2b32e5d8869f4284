/- Lending by the header's value. -/
import Derived.Test.Ytmanhdacnkpclaay905
import Derived.Test.Ytmanhdacnkpclaay904
import Derived.Test.Ytmanhdacnkpclaay903

/- Lending by the header's value. -/
namespace Go.Proofs.Ytmanhdacnkpclaa
set_option linter.all false
open Go.RowKit
section
variable {P : Program} {n : Nat} {o : Oper} {σ : St}
theorem lend_val {L : Tag → Prop} {s : Operand} {t E m : Nat} {v : Value} {ds : List D} (hs : St.ev σ s = some (.one (.c (.val v)))) (hk : St.get σ (.t t) = some (.one (.c (.ownK v E m ds)))) (hL : L (.own (.t t) 0 0)) : Lend n σ L (opKey s ++ [.t t]) s (.c (.arr ds)) := fun σ' hag C who a w hr k p => by
  have e : a.eval s = v := hr.ev ((ev_agree fun k hk => hag k (List.mem_append_left _ hk)).trans hs)
  obtain ⟨e2, h1⟩ := hr.slot t _ ((hag (.t t) (by simp)).trans hk)
  have h2 : cvm w (tagAll (.own (.t t) 0 0) .froz who) .froz (.arr ds) (a.tmps.getD t undef) := cvm.tag_frz (E := E) (m := m) h1
  rw [e2] at h2
  rw [e]
  exact rd.wide h2 fun b _ hb => lendT_tag (by simp) hL hb
theorem lend_valB {L : Tag → Prop} {s : Operand} {j q E m tp : Nat} {v : Value} {ds : List D} {cs : List CV} (hs : St.ev σ s = some (.one (.c (.val v)))) (hp : St.get σ (.t tp) = some (.one (.c (.ptr j 0)))) (hb : St.get σ (.b j) = some (.box cs)) (hq : cs[q]? = some (.ownK v E m ds)) (hmc : Nat.ble j EXT = true) (hL : L (.own (.b j) 0 q)) :
    Lend n σ L (opKey s ++ [.t tp, .b j]) s (.c (.arr ds)) := fun σ' hag C who a w hr k p => by
  have e : a.eval s = v := hr.ev ((ev_agree fun k hk => hag k (List.mem_append_left _ hk)).trans hs)
  obtain ⟨b, _, hbw⟩ := hr.slot tp _ ((hag (.t tp) (by simp)).trans hp)
  obtain ⟨vs, E', h1, h2, h3, h4⟩ := box_cell hr hbw ((hag (.b j) (by simp)).trans hb) hmc
  have hlt : q < vs.length := by rw [h2]; exact (List.getElem?_eq_some_iff.1 hq).1
  obtain ⟨e2, h5⟩ := h4 q _ _ hq (List.getElem?_eq_getElem hlt)
  have h6 : cvm w (tagAll (.own (.b j) 0 q) .froz who) .froz (.arr ds) vs[q] := cvm.tag_frz (E := E) (m := m) h5
  rw [e2] at h6
  rw [e]
  exact rd.wide h6 fun b _ hb => lendT_tag (by simp) hL hb
end
end Go.Proofs.Ytmanhdacnkpclaa
/- A pointer that is known, and a copy of it. -/
namespace Go.Proofs.Ytmanhdacnkpclaa
set_option linter.all false
open Go.RowKit
section
variable {P : Program} {n : Nat} {o : Oper} {σ : St}
theorem op_nilBK {d j tp : Nat} {v : Value} {s : Operand} (hd : o.dst = some d) (ho : o.op = .nilCheck s) (hs : St.ev σ s = some (.one (.c (.val v)))) (hk : St.get σ (.t tp) = some (.one (.c (.isB v j)))) :
    Op1 P n o ⟨(opKey s ++ [.t tp]) ++ (X.one (.c (.ptr j 0))).ids.map Key.b, [.t d], []⟩ σ [(.t d, some (.one (.c (.ptr j 0))))] :=
  .value _ hd fun σ' hag C who a w hr => by
    have e : a.eval s = v := hr.ev ((ev_agree fun k hk => hag k (List.mem_append_left _ hk)).trans hs)
    obtain ⟨e2, b, e3, hb⟩ := hr.slot tp _ ((hag (.t tp) (by simp)).trans hk)
    rw [e2] at e3
    subst e3
    exact ⟨_, by simp [execOp, ho, e], b, rfl, hb⟩
theorem op_moveBK {d t j : Nat} {v : Value} (hd : o.dst = some d) (ho : o.op = .move (.tmp t) ∨ o.op = .assign (.tmp t)) (hs : St.get σ (.t t) = some (.one (.c (.isB v j)))) :
    Op1 P n o ⟨[.t t] ++ (X.one (.c (.val v))).ids.map Key.b, [.t d], []⟩ σ [(.t d, some (.one (.c (.val v))))] :=
  .value [.t t] hd fun σ' hag C who a w hr => ⟨a.eval (.tmp t), by rcases ho with ho | ho <;> simp [execOp, ho], (hr.ev (s := .tmp t) ((hag (.t t) (by simp)).trans hs)).1⟩
theorem op_lenK {T : Tabs P} {d t E0 m0 b0 tp j q E m : Nat} {v : Value} {s : Operand} {cs : List CV} {ds : List D} (hd : o.dst = some d) (ho : o.op = .call { callee := .builtin .len, args := #[s], argTypes := #[t] }) (hT : T.sl t = some (E0, m0, b0)) (hs : St.ev σ s = some (.one (.c (.val v))))
    (hp : St.get σ (.t tp) = some (.one (.c (.ptr j 0)))) (hb : St.get σ (.b j) = some (.box cs)) (hq : cs[q]? = some (.ownK v E m ds)) (hmc : Nat.ble j EXT = true) :
    Op1 P n o ⟨(opKey s ++ [.t tp, .b j]) ++ (X.one (iA ds.length)).ids.map Key.b, [.t d], []⟩ σ [(.t d, some (.one (iA ds.length)))] :=
  .value _ hd fun σ' hag C who a w hr => by
    obtain ⟨z, hzz⟩ := T.sl_ok hT
    have e : a.eval s = v := hr.ev ((ev_agree fun k hk => hag k (List.mem_append_left _ hk)).trans hs)
    obtain ⟨b, _, hbw⟩ := hr.slot tp _ ((hag (.t tp) (by simp)).trans hp)
    obtain ⟨vs, E', h1, h2, h3, h4⟩ := box_cell hr hbw ((hag (.b j) (by simp)).trans hb) hmc
    have hlt : q < vs.length := by rw [h2]; exact (List.getElem?_eq_some_iff.1 hq).1
    obtain ⟨e2, h5⟩ := h4 q _ _ hq (List.getElem?_eq_getElem hlt)
    have hl : ∃ ad cap, v = .slice ad ds.length cap := by
      obtain ⟨⟨xs, ⟨_, h7⟩, _⟩, _⟩ := h5
      rw [e2] at h7
      rcases h7 with ⟨h7, h8⟩ | ⟨g, cap, cur, h7, _⟩
      · exact ⟨none, 0, by rw [h7, h8]⟩
      · exact ⟨_, cap, h7⟩
    obtain ⟨ad, cap, hv⟩ := hl
    rw [hv] at e
    refine ⟨_, ?_, rfl⟩
    simp [execOp, ho, e, resolve, invoke, builtin, Builtin.len_, run_underlying hzz.und, goInt]
def elP (v : Value) (q : Nat) : Value := match v with
  | .slice (some a) _ _ => .pointer (some ⟨a.block, q, none⟩)
  | _ => .pointer none
theorem own_head {σ' : St} {C : Ctx} {who : Nat → Tag} {a : Act} {w : World} {tp j q E m : Nat} {v : Value} {cs : List CV} {ds : List D} (hr : Rep n C who σ' a w) (hp : St.get σ' (.t tp) = some (.one (.c (.ptr j 0)))) (hb : St.get σ' (.b j) = some (.box cs)) (hq : cs[q]? = some (.ownK v E m ds)) (hmc : Nat.ble j EXT = true) (h0 : 0 < ds.length) :
    ∃ gg cap xs, v = .slice (some ⟨gg, 0, none⟩) ds.length cap ∧ (∀ i x, xs[i]? = some x → w.cell? ⟨gg, i, none⟩ = some x) ∧ cellsF w (Fz who) (fcs ds) xs := by
  obtain ⟨b, _, hbw⟩ := hr.slot tp _ hp
  obtain ⟨vs, E', h1, h2, h3, h4⟩ := box_cell hr hbw hb hmc
  have hlt : q < vs.length := by rw [h2]; exact (List.getElem?_eq_some_iff.1 hq).1
  obtain ⟨e2, h5⟩ := h4 q _ _ hq (List.getElem?_eq_getElem hlt)
  obtain ⟨⟨xs, ⟨h6, h7⟩, h8, h9⟩, _⟩ := h5
  rw [e2] at h7 h8
  rcases h7 with ⟨_, h8⟩ | ⟨gg, cap, cur, h7, _, hh, _, _, _, htk⟩
  · omega
  · refine ⟨gg, cap, xs, h7, fun i x hx => ?_, ?_⟩
    · rw [← htk] at hx
      have hi : cur.toList[i]? = some x := by
        rw [List.getElem?_take] at hx
        split at hx
        · exact hx
        · cases hx
      simp only [World.cell?, hh]
      simpa using hi
    · have h10 := rds_iff.1 h8
      refine cellsF_mk (cellsF_len h10) fun i c x hc hx => ?_
      obtain ⟨x', hx', hf⟩ := cellsF_at h10 i c hc
      rw [hx] at hx'; injection hx' with hx'; subst hx'
      exact hf.keep (Nat.le_refl _) (fun b _ hF => hF.1) fun b _ _ => rfl
theorem op_idxK {T : Tabs P} {d t E0 m0 b0 tp j q E m k q' : Nat} {v : Value} {s i : Operand} {kk : IntKind} {zi : Int} {cs : List CV} {ds : List D} (hd : o.dst = some d) (ho : o.op = .indexAddr t s i) (hT : T.sl t = some (E0, m0, b0)) (hs : St.ev σ s = some (.one (.c (.val v)))) (hi : St.ev σ i = some (.one (.c (.val (.int kk zi)))))
    (hp : St.get σ (.t tp) = some (.one (.c (.ptr j 0)))) (hb : St.get σ (.b j) = some (.box cs)) (hq : cs[q]? = some (.ownK v E m ds)) (hmc : Nat.ble j EXT = true) (hz : zi = (k : Int)) (hk : k < ds.length) (hq' : k * m0 = q') :
    Op1 P n o ⟨((opKey s ++ opKey i) ++ [.t tp, .b j]) ++ (X.one (.c (.val (elP v q')))).ids.map Key.b, [.t d], []⟩ σ [(.t d, some (.one (.c (.val (elP v q')))))] :=
  .value _ hd fun σ' hag C who a w hr => by
    obtain ⟨z, hzz⟩ := T.sl_ok hT
    have e : a.eval s = v := hr.ev ((ev_agree fun k hk => hag k (List.mem_append_left _ (List.mem_append_left _ hk))).trans hs)
    have e2 : a.eval i = .int kk zi := hr.ev ((ev_agree fun k hk => hag k (List.mem_append_left _ (List.mem_append_right _ hk))).trans hi)
    obtain ⟨gg, cap, xs, hv, _, _⟩ := own_head hr ((hag (.t tp) (by simp)).trans hp) ((hag (.b j) (by simp)).trans hb) hq hmc (by omega)
    obtain ⟨i', hi', hz0, hz1, hz2⟩ := info_parts hzz.info
    subst hz hq'
    refine ⟨.pointer (some ⟨gg, k * m0, none⟩), ?_, by rw [hv]; rfl⟩
    rw [hv] at e
    simp [execOp, ho, e, e2, Instr.indexAt, run_underlying hzz.und, asIntOf, sizeOf, typeInfo, hi', hz1, hk, add_lit]
theorem flat1 {α : Type} {g : α → List FC} (h : ∀ x, (g x).length = 1) : ∀ {l : List α} {k : Nat} {x : α} {c : FC}, l[k]? = some x → g x = [c] → (l.flatMap g)[k]? = some c
  | [], k, x, c, hx, _ => by simp at hx
  | y :: l, 0, x, c, hx, hg => by simp at hx; subst hx; simp [hg]
  | y :: l, k + 1, x, c, hx, hg => by
    have h1 := h y
    match hy : g y, h1 with
    | [c'], _ =>
      simp only [List.getElem?_cons_succ] at hx
      have := flat1 h hx hg
      simpa [List.flatMap_cons, hy] using this
theorem op_loadKE {α : Type} {f : α → D} {g : α → List FC} [FCs f 1 g] {d t tp j q E m k : Nat} {v : Value} {s : Operand} {cs : List CV} {l : List α} {x : α} {c : FC} {c' : CV} (hd : o.dst = some d) (ho : o.op = .load t s) (hrw : rowT P t = some (false, 1)) (hs : St.ev σ s = some (.one (.c (.val (elP v k)))))
    (hp : St.get σ (.t tp) = some (.one (.c (.ptr j 0)))) (hb : St.get σ (.b j) = some (.box cs)) (hq : cs[q]? = some (.ownK v E m (l.map f))) (hmc : Nat.ble j EXT = true) (hx : l[k]? = some x) (hg : g x = [c]) (hc : c.cv = c') :
    Op1 P n o ⟨(opKey s ++ [.t tp, .b j]) ++ (X.one (.c c')).ids.map Key.b, [.t d], []⟩ σ [(.t d, some (.one (.c c')))] :=
  .value _ hd fun σ' hag C who a w hr => by
    have e : a.eval s = elP v k := hr.ev ((ev_agree fun k hk => hag k (List.mem_append_left _ hk)).trans hs)
    have hk : k < l.length := (List.getElem?_eq_some_iff.1 hx).1
    obtain ⟨gg, cap, xs, hv, hcell, hF⟩ := own_head hr ((hag (.t tp) (by simp)).trans hp) ((hag (.b j) (by simp)).trans hb) hq hmc (by simp; omega)
    rw [hv] at e
    have e : a.eval s = .pointer (some ⟨gg, k, none⟩) := e
    rw [fcs_map] at hF
    obtain ⟨y, hy, hf⟩ := cellsF_at hF k c (flat1 (fun x => FCs.len (f := f) x) hx hg)
    subst hc
    exact ⟨y, by simp [execOp, ho, e, run_load1 hrw (hcell k y hy)], fcm.toC hf⟩
theorem op_lenKT {T : Tabs P} {α : Type} {f : α → D} {d t E0 m0 b0 tp j q E m : Nat} {v : Value} {s : Operand} {cs : List CV} {l : List α} (hd : o.dst = some d) (ho : o.op = .call { callee := .builtin .len, args := #[s], argTypes := #[t] }) (hT : T.sl t = some (E0, m0, b0)) (hs : St.ev σ s = some (.one (.c (.val v))))
    (hp : St.get σ (.t tp) = some (.one (.c (.ptr j 0)))) (hb : St.get σ (.b j) = some (.box cs)) (hq : cs[q]? = some (.ownK v E m (l.map f))) (hmc : Nat.ble j EXT = true) :
    Op1 P n o ⟨(opKey s ++ [.t tp, .b j]) ++ (X.one (iA l.length)).ids.map Key.b, [.t d], []⟩ σ [(.t d, some (.one (iA l.length)))] := by
  have := op_lenK (P := P) (n := n) hd ho hT hs hp hb hq hmc
  rwa [List.length_map] at this
end
end Go.Proofs.Ytmanhdacnkpclaa
/- An element taken out of a slice of one's own, in place (slices.Delete), as one step. -/
namespace Go.Proofs.Ytmanhdacnkpclaa
set_option linter.all false
open Go.RowKit
def DelC (P : Program) (f : FuncId) (E m : Nat) : Prop :=
  ∀ (w : World) (g n cap i : Nat) (cur : Array Value), w.heap[g]? = some (.cells cur E (0, 0)) → n ≤ cap → cap ≤ maxLen → cur.size = cap * m → (∀ x ∈ cur.toList.take (n * m), x.oneCell' = true) → i < n →
    Calls P f #[.slice (some ⟨g, 0, none⟩) n cap, .int .i64 (i : Int), .int .i64 ((i : Int) + 1)] w fun e w' => e = .returned (.slice (some ⟨g, 0, none⟩) (n - 1) cap) ∧
      ∃ q zs, zs.length = m ∧ w' = ((w.drewN q).setCells g (i * m) ((cur.toList.take (n * m)).drop ((i + 1) * m))).setCells g ((n - 1) * m) zs
section
variable {P : Program} {n : Nat} {o : Oper} {σ : St}
theorem own_core {d E m : Nat} {rs : List D} {k0 : List Key} {C : Ctx} {who : Nat → Tag} {a : Act} {w w' : World} {v v' : Value} (hd : o.dst = some d) (hr : Rep n C who σ a w) (hdn : d < n)
    (hk : ∀ k, v.ownBlock = some k → ∃ t, who k = .own (.t t) 0 0 ∧ Key.t t ∈ k0) (hown' : Own w' 0 E m (Fz who) v' rs) (hg : w.grownBy w' v.ownBlock)
    (hk' : ∀ k, v'.ownBlock = some k → k < w'.heap.size ∧ (some k = v.ownBlock ∨ w.heap.size ≤ k)) :
    Rep n C (tagApp v v' d who) ((.t d, some (.one (.c (.own E m rs)))) :: (k0.map fun k => (k, none)) ++ σ) (a.put o.dst v') w' := by
  have hnf : ∀ k, v.ownBlock = some k → who k ≠ .froz := fun k hk' => by obtain ⟨t, ht, _⟩ := hk k hk'; rw [ht]; simp
  have hstp : Stp who w (tagApp v v' d who) w' (fun b => v.ownBlock = some b) (fun b => v.ownBlock = some b ∨ (v'.ownBlock = some b)) := by
    refine ⟨hg.os, hg.tape, hg.output, hg.size, fun b hb hT => hg.block b hb (fun e => hT e.symm), fun b hb hG => ?_, fun b hb => hnf b hb, fun b hb => ?_⟩
    · have h1 : ¬ v.ownBlock = some b := fun h => hG (.inl h)
      have h2 : ¬ v'.ownBlock = some b := fun h => hG (.inr h)
      simp [tagApp, h1, h2]
    · rcases hb with hb | hb
      · exact hnf b hb
      · rcases (hk' b hb).2 with h | h
        · exact hnf b h.symm
        · intro hf
          have := hr.fz b (by rw [hf]; simp)
          omega
  have hold : ∀ b, b < w.heap.size → (v.ownBlock = some b ∨ v'.ownBlock = some b) → v.ownBlock = some b := fun b hb h => by
    rcases h with h | h
    · exact h
    · rcases (hk' b h).2 with h' | h'
      · exact h'.symm
      · omega
  have htag : ∀ b, (v.ownBlock = some b ∨ v'.ownBlock = some b) → who b ≠ .other → ∃ t, who b = .own (.t t) 0 0 ∧ Key.t t ∈ k0 := fun b h hne => hk b (hold b (hr.fz b hne) h)
  have hkill : ∀ (l : List Key) (k : Key), k ∈ l → St.get (l.map (fun k => (k, none)) ++ σ) k = none := by
    intro l
    induction l with
    | nil => intro k h; cases h
    | cons k' l ih =>
      intro k h
      simp only [List.map_cons, List.cons_append, St.get]
      cases e : Key.is k' k
      · simp only [cond_false]
        refine ih k ?_
        rcases List.mem_cons.1 h with h | h
        · subst h; rw [Key.is_self] at e; cases e
        · exact h
      · rfl
  have hrk : ∀ (l : List Key), Rep n C who (l.map (fun k => (k, none)) ++ σ) a w := by
    intro l
    induction l with
    | nil => exact hr
    | cons k l ih => exact ih.kill k
  have hrep : Rep n C (tagApp v v' d who) (k0.map (fun k => (k, none)) ++ σ) a w' := by
    refine (hrk k0).stp hstp ?_ ?_ ?_ ?_ ?_ ?_ ?_ ?_
    · intro b hb ho'
      have htg := hr.adv.tag b hb (ho'.imp id .inl)
      have hnb : ¬ (v.ownBlock = some b) := fun h => by
        obtain ⟨t, ht, _⟩ := hk b h
        rw [ht] at htg
        rcases ho' with ho' | ho' <;> rw [ho'] at htg <;> cases htg
      exact ⟨hnb, fun h => hnb (hold b (Nat.lt_of_lt_of_le hb hr.adv.size) h)⟩
    · intro b j hb hj hG
      have htg := hr.adv.tag b hb (.inr (.inr ⟨j, hj⟩))
      obtain ⟨t, ht, _⟩ := hk b (hold b (Nat.lt_of_lt_of_le hb hr.adv.size) hG)
      rw [ht, hj] at htg; cases htg
    · intro b hb
      unfold tagApp at hb
      split at hb
      · rename_i h; exact (hk' b h).1
      · split at hb
        · exact absurd rfl hb
        · exact Nat.lt_of_lt_of_le (hr.fz b hb) hg.size
    · intro b b' j hb hb'
      have key : ∀ b, tagApp v v' d who b = .bx j → who b = .bx j := fun b hb => by
        unfold tagApp at hb
        split at hb
        · cases hb
        · split at hb
          · cases hb
          · exact hb
      exact hr.bxu b b' j (key b hb) (key b' hb')
    · intro b k p q hb hTG
      have hG : v.ownBlock = some b ∨ v'.ownBlock = some b := hTG.elim .inl id
      obtain ⟨t, ht, hmem⟩ := htag b hG (by rw [hb]; simp)
      rw [ht] at hb; injection hb with hb; subst hb
      exact hkill k0 _ hmem
    · intro b j hb hG
      obtain ⟨t, ht, _⟩ := htag b hG (by rw [hb]; simp)
      rw [ht] at hb; cases hb
    · intro b j hb hTG
      have hG : v.ownBlock = some b ∨ v'.ownBlock = some b := hTG.elim .inl id
      obtain ⟨t, ht, _⟩ := htag b hG (by rw [hb]; simp)
      rw [ht] at hb; cases hb
    · intro b j hb hnb
      unfold tagApp at hb
      split at hb
      · cases hb
      · split at hb
        · cases hb
        · exact absurd hb hnb
  rw [hd]
  refine hrep.put hdn (x := .one (.c (.own E m rs))) ⟨hown'.wide (fun b hb hF => ?_) (Nat.le_refl _), fun k hk => by simp [tagApp, hk]⟩
  have hlt : b < w.heap.size := hr.fz b (by rw [show who b = .froz from hF]; simp)
  exact hstp.fz b hlt hF
theorem own_erase {w : World} {E m g cap i q : Nat} {F : Nat → Prop} {ds : List D} {xs zs : List Value} {cur : Array Value} (hi : i < ds.length) (hm : ∀ e ∈ ds, e.fc.length = m) (hg : w.heap[g]? = some (.cells cur E (0, 0))) (hlc : ds.length ≤ cap) (hcm : cap ≤ maxLen) (hcs : cur.size = cap * m)
    (htake : cur.toList.take (ds.length * m) = xs) (hxl : xs.length = ds.length * m) (hrds : rds w (fun b => F b ∧ some b ≠ some g) ds xs) (hone : ∀ u ∈ xs, u.oneCell' = true) (hzl : zs.length = m) :
    Own (((w.drewN q).setCells g (i * m) (xs.drop ((i + 1) * m))).setCells g ((ds.length - 1) * m) zs) 0 E m F (.slice (some ⟨g, 0, none⟩) (ds.length - 1) cap) (ds.eraseIdx i) ∧
      w.grownBy (((w.drewN q).setCells g (i * m) (xs.drop ((i + 1) * m))).setCells g ((ds.length - 1) * m) zs) (some g) ∧ g < (((w.drewN q).setCells g (i * m) (xs.drop ((i + 1) * m))).setCells g ((ds.length - 1) * m) zs).heap.size := by
  have hgl : g < w.heap.size := (Array.getElem?_eq_some_iff.1 hg).1
  have hg0 : (w.drewN q).heap[g]? = some (.cells cur.toList.toArray E (0, 0)) := by simpa using hg
  obtain ⟨a1, a2, a3, a4, a5, a6⟩ := setCells_blk (xs.drop ((i + 1) * m)) (w.drewN q) g (i * m) cur.toList E hg0
  obtain ⟨b1, b2, b3, b4, b5, b6⟩ := setCells_blk zs _ g ((ds.length - 1) * m) _ E a1
  have hds : ds = ds.take i ++ ds[i] :: ds.drop (i + 1) := by rw [List.getElem_cons_drop, List.take_append_drop]
  have her : ds.eraseIdx i = ds.take i ++ ds.drop (i + 1) := List.eraseIdx_eq_take_drop_succ ..
  have hel : (ds.eraseIdx i).length = ds.length - 1 := List.length_eraseIdx_of_lt hi
  have hmul : (i + 1) * m = i * m + m := by rw [Nat.add_mul, Nat.one_mul]
  have hnm : ds.length * m = (ds.length - 1) * m + m := by
    have : ds.length = (ds.length - 1) + 1 := by omega
    rw [this, Nat.add_mul, Nat.one_mul]; simp
  have him : i * m + m ≤ ds.length * m := by rw [← hmul]; exact Nat.mul_le_mul_right m (by omega)
  have hcap : ds.length * m ≤ cap * m := Nat.mul_le_mul_right m hlc
  have hclen : cur.toList.length = cap * m := by simpa using hcs
  have hdl : (xs.drop ((i + 1) * m)).length = ds.length * m - (i * m + m) := by rw [List.length_drop, hxl, hmul]
  have hcells : cellsF w (fun b => F b ∧ some b ≠ some g) (fcs (ds.eraseIdx i)) (xs.take (i * m) ++ xs.drop ((i + 1) * m)) := by
    have h1 := rds_iff.1 hrds
    rw [hds, fcs_app] at h1
    obtain ⟨x1, x2, e1, h2, h3⟩ := cellsF_app.1 h1
    have l1 : x1.length = i * m := by
      rw [cellsF_len h2, fcs_len (m := m) fun d hd => hm d (List.mem_of_mem_take hd), List.length_take]
      congr 1; omega
    simp only [fcs] at h3
    obtain ⟨y1, y2, e2, h4, h5⟩ := cellsF_app.1 h3
    have l2 : y1.length = m := by rw [cellsF_len h4]; exact hm _ (List.getElem_mem hi)
    have t1 : xs.take (i * m) = x1 := by rw [e1, ← l1, List.take_left]
    have t2 : xs.drop ((i + 1) * m) = y2 := by
      rw [e1, e2, hmul, ← List.append_assoc]
      have : (x1 ++ y1).length = i * m + m := by rw [List.length_append, l1, l2]
      rw [← this, List.drop_left]
    rw [t1, t2, her, fcs_app]
    exact cellsF_app.2 ⟨_, _, rfl, h2, h5⟩
  have hsz : (((w.drewN q).setCells g (i * m) (xs.drop ((i + 1) * m))).setCells g ((ds.length - 1) * m) zs).heap.size = w.heap.size := b3.trans a3
  have hkeep : ∀ k, k ≠ g → (((w.drewN q).setCells g (i * m) (xs.drop ((i + 1) * m))).setCells g ((ds.length - 1) * m) zs).heap[k]? = w.heap[k]? := fun k hk => (b2 k hk).trans (a2 k hk)
  refine ⟨⟨xs.take (i * m) ++ xs.drop ((i + 1) * m), ⟨?_, .inr ⟨g, cap, _, by rw [hel], Nat.zero_le _, b1, by omega, hcm, ?_, ?_⟩⟩, ?_, ?_⟩, ⟨b4.trans a4, b5.trans a5, b6.trans a6, by rw [hsz]; exact Nat.le_refl _, fun k hk hne => hkeep k fun e => hne (by rw [e])⟩, by rw [hsz]; exact hgl⟩
  · rw [List.length_append, hdl, List.length_take, hxl, hel]; omega
  · simp only [List.size_toArray, splL_len]; exact hclen
  · simp only []
    rw [hel]
    apply List.ext_getElem?
    intro k
    rw [List.getElem?_take]
    have hl1 : i * m + (xs.drop ((i + 1) * m)).length ≤ cur.toList.length := by rw [hdl, hclen]; omega
    have hxk : ∀ k, k < ds.length * m → cur.toList[k]? = xs[k]? := fun k hk => by rw [← htake, List.getElem?_take, if_pos hk]
    split
    · rename_i hk
      rw [splL_get _ _ _ _ (by rw [splL_len, hzl, hclen]; omega), if_neg (by omega), splL_get _ _ _ _ hl1]
      split
      · rename_i hin
        rw [List.getElem?_append_right (by rw [List.length_take]; omega), List.length_take, Nat.min_eq_left (by omega)]
      · rename_i hin
        have : k < i * m := by omega
        rw [List.getElem?_append_left (by rw [List.length_take]; omega), List.getElem?_take, if_pos this]
        exact hxk k (by omega)
    · rename_i hk
      rw [List.getElem?_eq_none]
      rw [List.length_append, hdl, List.length_take, hxl]; omega
  · refine rds.keep (by rw [hsz]; exact Nat.le_refl _) (fun b _ h => h) (fun b _ h => hkeep b fun e => h.2 (by rw [e]; rfl)) _ _ (rds_iff.2 hcells)
  · intro u hu
    rcases List.mem_append.1 hu with h | h
    · exact hone u (List.mem_of_mem_take h)
    · exact hone u (List.mem_of_mem_drop h)
theorem op_del {d t E m i : Nat} {zi zj : Int} {f : FuncId} {fo si sj : Operand} {ts : Array TypeId} {ds rs : List D} (hd : o.dst = some d) (ho : o.op = .call { callee := .value fo, args := #[.tmp t, si, sj], argTypes := ts })
    (hfo : St.ev σ fo = some (.one (.c (.val (.func (.func f) #[] #[]))))) (hf : enters P f = true) (hD : DelC P f E m) (hs : St.get σ (.t t) = some (.one (.c (.own E m ds)))) (hm : ∀ e ∈ ds, e.fc.length = m)
    (hi : St.ev σ si = some (.one (.c (.val (.int .i64 zi))))) (hj : St.ev σ sj = some (.one (.c (.val (.int .i64 zj))))) (hzi : zi = (i : Int)) (hzj : zj = (i : Int) + 1) (hil : i < ds.length) (hc : ds.eraseIdx i = rs) :
    Op1 P n o ⟨opKey fo ++ ([.t t] ++ (opKey si ++ opKey sj)), [.t d, .t t], []⟩ σ [(.t d, some (.one (.c (.own E m rs)))), (.t t, none)] where
  does := fun σ' hag hal C who a w hr hdst K Q hK => by
    subst hc hzi hzj
    have e : a.eval fo = .func (.func f) #[] #[] := hr.ev ((ev_agree fun k hk => hag k (List.mem_append_left _ hk)).trans hfo)
    have ei : a.eval si = .int .i64 (i : Int) := hr.ev ((ev_agree fun k hk => hag k (List.mem_append_right _ (List.mem_append_right _ (List.mem_append_left _ hk)))).trans hi)
    have ej : a.eval sj = .int .i64 ((i : Int) + 1) := hr.ev ((ev_agree fun k hk => hag k (List.mem_append_right _ (List.mem_append_right _ (List.mem_append_right _ hk)))).trans hj)
    have hx := hr.slot t _ ((hag (.t t) (by simp)).trans hs)
    obtain ⟨g1, g2⟩ : Own w 0 E m (Fz who) (a.tmps.getD t undef) ds ∧ ∀ k, (a.tmps.getD t undef).ownBlock = some k → who k = .own (.t t) 0 0 := hx
    obtain ⟨xs, ⟨hxl, hrow⟩, hrds, hone⟩ := g1
    rcases hrow with ⟨_, h0⟩ | ⟨g, cap, cur, hv, _, hg, hlc, hcm, hcs, htake⟩
    · omega
    have et : a.eval (.tmp t) = .slice (some ⟨g, 0, none⟩) ds.length cap := hv
    have hrun : (execOp a.eval o).run P w = .ok (.enter f #[.slice (some ⟨g, 0, none⟩) ds.length cap, .int .i64 (i : Int), .int .i64 ((i : Int) + 1)]) w := by
      simp [execOp, ho, resolve, e, ei, ej, et, Deferred.ofValue, invoke, run_enters hf]
    unfold Oper.wp
    rw [hrun]
    show Calls P f #[.slice (some ⟨g, 0, none⟩) ds.length cap, .int .i64 (i : Int), .int .i64 ((i : Int) + 1)] w _
    have hob : (a.tmps.getD t undef).ownBlock = some g := by rw [hv]; rfl
    refine (hD w g ds.length cap i cur hg hlc hcm hcs (by rw [htake]; exact hone) hil).mono ?_
    rintro e' w' ⟨rfl, q, zs, hzl, rfl⟩
    rw [htake]
    rw [hob] at hrds
    obtain ⟨k1, k2, k3⟩ := own_erase (q := q) (F := Fz who) hil hm hg hlc hcm hcs htake hxl hrds hone hzl
    refine hK (tagApp (a.tmps.getD t undef) (.slice (some ⟨g, 0, none⟩) (ds.length - 1) cap) d who) _ _ ?_
    exact own_core (k0 := [.t t]) hd hr (hdst d hd) (fun k hk => ⟨t, g2 k hk, by simp⟩) k1 (by rw [hob]; exact k2) fun k hk => by
      have hk : some g = some k := hk
      injection hk with hk; subst hk
      exact ⟨k3, .inl (by rw [hob])⟩
  wr := by simp
  me := fun j hj => by simp [St.ids, oids, X.ids, A1.ids, CV.ids] at hj
  al := by simp
end
end Go.Proofs.Ytmanhdacnkpclaa
/- A box lent to a call that only looks, by its pointer or by what a function value holds; fields of elements by a known header; known pointers. -/
namespace Go.Proofs.Ytmanhdacnkpclaa
set_option linter.all false
open Go.RowKit
section
variable {P : Program} {n : Nat} {o : Oper} {σ : St}
def CV.lent : CV → Option F0
  | .val v => some (.val v)
  | .arr ds => some (.arr ds)
  | .own _ _ ds => some (.arr ds)
  | .ownK _ _ _ ds => some (.arr ds)
  | _ => none
def lents : List CV → Option (List F0)
  | [] => some []
  | c :: cs => match c.lent, lents cs with
    | some e, some l => some (e :: l)
    | _, _ => none
theorem lents_at : ∀ {cs : List CV} {l : List F0}, lents cs = some l → l.length = cs.length ∧ ∀ (i : Nat) (e : F0), l[i]? = some e → ∃ c, cs[i]? = some c ∧ c.lent = some e
  | [], l, h => by simp only [lents, Option.some.injEq] at h; subst h; simp
  | c :: cs, l, h => by
    simp only [lents] at h
    split at h
    · rename_i e l' h1 h2
      injection h with h; subst h
      obtain ⟨g1, g2⟩ := lents_at h2
      refine ⟨by simp [g1], fun i e' hi => ?_⟩
      cases i with
      | zero => simp at hi; subst hi; exact ⟨c, rfl, h1⟩
      | succ i => exact g2 i e' (by simpa using hi)
    · cases h
theorem lent_cells {L : Tag → Prop} {C : Ctx} {who : Nat → Tag} {a : Act} {w : World} {σ' : St} {j b : Nat} {cs : List CV} {l : List F0} (hr : Rep n C who σ' a w) (hbw : who b = .bx j) (hb : St.get σ' (.b j) = some (.box cs)) (hl : lents cs = some l) (hmc : Nat.ble j EXT = true) (hL : ∀ q, L (.own (.b j) 0 q)) :
    ∀ i e, l[i]? = some e → ∃ x, w.cell? ⟨b, 0 + i, none⟩ = some x ∧ f0m w (Fz (lendT L who)) e x := fun i e hi => by
  obtain ⟨vs, E', h1, h2, h3, h4⟩ := box_cell hr hbw hb hmc
  obtain ⟨g1, g2⟩ := lents_at hl
  obtain ⟨c, hc, he⟩ := g2 i e hi
  have hlt : i < vs.length := by rw [h2]; exact (List.getElem?_eq_some_iff.1 hc).1
  have hv := List.getElem?_eq_getElem hlt
  have h5 := h4 i _ _ hc hv
  refine ⟨vs[i], by rw [Nat.zero_add]; exact h3 i _ hv, ?_⟩
  cases c with
  | val v => injection he with he; subst he; exact h5
  | arr ds => injection he with he; subst he; exact rd.wide h5 fun b _ hb => lendT_froz hb
  | own E m ds =>
    injection he with he; subst he
    have h6 : cvm w (tagAll (.own (.b j) 0 i) .froz who) .froz (.arr ds) vs[i] := cvm.tag_frz (E := E) (m := m) h5
    exact rd.wide h6 fun b _ hb => lendT_tag (by simp) (hL i) hb
  | ownK v E m ds =>
    injection he with he; subst he
    have h6 : cvm w (tagAll (.own (.b j) 0 i) .froz who) .froz (.arr ds) vs[i] := cvm.tag_frz (E := E) (m := m) h5.2
    exact rd.wide h6 fun b _ hb => lendT_tag (by simp) (hL i) hb
  | _ => cases he
theorem lend_box {L : Tag → Prop} {s : Operand} {j : Nat} {cs : List CV} {l : List F0} (hs : St.ev σ s = some (.one (.c (.ptr j 0)))) (hb : St.get σ (.b j) = some (.box cs)) (hl : lents cs = some l) (hmc : Nat.ble j EXT = true) (hL0 : L (.bx j)) (hL : ∀ q, L (.own (.b j) 0 q)) :
    Lend n σ L (opKey s ++ [.b j]) s (.c (.fp (l.map F0.fc))) := fun σ' hag C who a w hr k p => by
  obtain ⟨b, e, hbw⟩ := hr.ev ((ev_agree fun k hk => hag k (List.mem_append_left _ hk)).trans hs)
  refine ⟨b, 0, e, lendT_in hbw (by simp) hL0, fun i c hi => ?_⟩
  rw [List.getElem?_map, Option.map_eq_some_iff] at hi
  obtain ⟨e0, he, rfl⟩ := hi
  obtain ⟨x, hx, hm⟩ := lent_cells hr hbw ((hag (.b j) (by simp)).trans hb) hl hmc hL i e0 he
  exact ⟨x, hx, f0m.fc.1 hm⟩
theorem lend_fnv {L : Tag → Prop} {s : Operand} {j tp : Nat} {f : FuncId} {v : Value} {cs : List CV} {l : List F0} {c2 : List FC} (hs : St.ev σ s = some (.one (.c (.fnv f [[.val v], c2])))) (hk : St.get σ (.t tp) = some (.one (.c (.isB v j)))) (hb : St.get σ (.b j) = some (.box cs)) (hl : lents cs = some l) (hmc : Nat.ble j EXT = true)
    (hL0 : L (.bx j)) (hL : ∀ q, L (.own (.b j) 0 q)) : Lend n σ L (opKey s ++ [.t tp, .b j]) s (.c (.fnv f [[.ptr l], c2])) := fun σ' hag C who a w hr k p => by
  obtain ⟨us, e, hul, hu⟩ := hr.ev ((ev_agree fun k hk => hag k (List.mem_append_left _ hk)).trans hs)
  obtain ⟨e2, b, e3, hbw⟩ := hr.slot tp _ ((hag (.t tp) (by simp)).trans hk)
  rw [e2] at e3
  have hfz : ∀ b, who b = .froz → lendT L who b = .froz := fun b hb => lendT_froz hb
  refine ⟨us, e, hul, fun i cs' x hi hx => ?_⟩
  match i, hi with
  | 0, hi =>
    simp at hi; subst hi
    obtain ⟨b0, o0, rfl, h1, h2⟩ := hu 0 _ x rfl hx
    refine ⟨b0, o0, rfl, hfz b0 h1, fun i c hc => ?_⟩
    match i, hc with
    | 0, hc =>
      simp at hc; subst hc
      obtain ⟨y, hy, hm⟩ := h2 0 (.val v) rfl
      have hm : y = v := hm
      subst hm
      exact ⟨y, hy, b, 0, e3, lendT_in hbw (by simp) hL0, hr.fz b (by rw [hbw]; simp), lent_cells hr hbw ((hag (.b j) (by simp)).trans hb) hl hmc hL⟩
    | i + 1, hc => simp at hc
  | 1, hi =>
    simp at hi; subst hi
    exact (hu 1 _ x rfl hx).tags hfz
  | i + 2, hi => simp at hi
theorem op_fldK {d S f off tp j q E m k : Nat} {v : Value} {s : Operand} {cs : List CV} {ds : List D} (hd : o.dst = some d) (ho : o.op = .fieldAddr S s f) (hf : fieldOff P S f = some off) (hs : St.ev σ s = some (.one (.c (.val (elP v k))))) (hp : St.get σ (.t tp) = some (.one (.c (.ptr j 0)))) (hb : St.get σ (.b j) = some (.box cs))
    (hq : cs[q]? = some (.ownK v E m ds)) (hmc : Nat.ble j EXT = true) (h0 : 0 < ds.length) :
    Op1 P n o ⟨(opKey s ++ [.t tp, .b j]) ++ (X.one (.c (.val (elP v (k + off))))).ids.map Key.b, [.t d], []⟩ σ [(.t d, some (.one (.c (.val (elP v (k + off))))))] :=
  .value _ hd fun σ' hag C who a w hr => by
    have e : a.eval s = elP v k := hr.ev ((ev_agree fun k hk => hag k (List.mem_append_left _ hk)).trans hs)
    obtain ⟨gg, cap, xs, hv, _, _⟩ := own_head hr ((hag (.t tp) (by simp)).trans hp) ((hag (.b j) (by simp)).trans hb) hq hmc h0
    rw [hv] at e
    have e : a.eval s = .pointer (some ⟨gg, k, none⟩) := e
    refine ⟨.pointer (some ⟨gg, k + off, none⟩), by simp [execOp, ho, e, run_fieldAt hf], by rw [hv]; rfl⟩
theorem flatM {α : Type} {g : α → List FC} {m : Nat} (h : ∀ x, (g x).length = m) : ∀ {l : List α} {k r : Nat} {x : α} {c : FC}, l[k]? = some x → (g x)[r]? = some c → (l.flatMap g)[k * m + r]? = some c
  | [], k, r, x, c, hx, _ => by simp at hx
  | y :: l, 0, r, x, c, hx, hg => by
    simp at hx; subst hx
    rw [List.flatMap_cons, Nat.zero_mul, Nat.zero_add, List.getElem?_append_left (List.getElem?_eq_some_iff.1 hg).1]; exact hg
  | y :: l, k + 1, r, x, c, hx, hg => by
    have := flatM h (l := l) (k := k) (by simpa using hx) hg
    rw [List.flatMap_cons, List.getElem?_append_right (by rw [h y, Nat.add_mul]; omega), h y]
    rw [show (k + 1) * m + r - m = k * m + r by rw [Nat.add_mul]; omega]; exact this
theorem op_loadKR {α : Type} {f : α → D} {m0 : Nat} {g : α → List FC} [FCs f m0 g] {d t tp j q E m k r kk : Nat} {v : Value} {s : Operand} {cs : List CV} {l : List α} {x : α} {c : FC} {c' : CV} (hd : o.dst = some d) (ho : o.op = .load t s) (hrw : rowT P t = some (false, 1)) (hs : St.ev σ s = some (.one (.c (.val (elP v kk)))))
    (hp : St.get σ (.t tp) = some (.one (.c (.ptr j 0)))) (hb : St.get σ (.b j) = some (.box cs)) (hq : cs[q]? = some (.ownK v E m (l.map f))) (hmc : Nat.ble j EXT = true) (hkk : kk = k * m0 + r) (hx : l[k]? = some x) (hg : (g x)[r]? = some c) (hc : c.cv = c') :
    Op1 P n o ⟨(opKey s ++ [.t tp, .b j]) ++ (X.one (.c c')).ids.map Key.b, [.t d], []⟩ σ [(.t d, some (.one (.c c')))] :=
  .value _ hd fun σ' hag C who a w hr => by
    have e : a.eval s = elP v kk := hr.ev ((ev_agree fun k hk => hag k (List.mem_append_left _ hk)).trans hs)
    have hk : k < l.length := (List.getElem?_eq_some_iff.1 hx).1
    obtain ⟨gg, cap, xs, hv, hcell, hF⟩ := own_head hr ((hag (.t tp) (by simp)).trans hp) ((hag (.b j) (by simp)).trans hb) hq hmc (by simp; omega)
    rw [hv] at e
    have e : a.eval s = .pointer (some ⟨gg, kk, none⟩) := e
    rw [fcs_map] at hF
    subst hkk
    obtain ⟨y, hy, hf⟩ := cellsF_at hF _ c (flatM (fun x => FCs.len (f := f) x) hx hg)
    subst hc
    exact ⟨y, by simp [execOp, ho, e, run_load1 hrw (hcell _ y hy)], fcm.toC hf⟩
theorem Wk.cellVal {j q jj : Nat} {v : Value} {cs cs' : List CV} (h : St.get σ (.b j) = some (.box cs)) (hq : cs[q]? = some (.isB v jj)) (hc : cs.set q (.val v) = cs') (hmc : Nat.ble j EXT = true := by rfl) : Wk n σ ((.b j, some (.box cs')) :: σ) := fun C who a w hr => by
  subst hc
  refine ⟨who, hr.addBox fun b hb => ?_⟩
  obtain ⟨vs, E', h1, h2, h3⟩ := hr.box j cs h b hb
  rw [isShp_of hmc] at h1
  refine ⟨vs, E', by rw [isShp_of hmc]; exact h1, by simpa using h2, fun i c x hi hx => ?_⟩
  rcases Classical.em (q = i) with rfl | hne
  · rw [List.getElem?_set_self (List.getElem?_eq_some_iff.1 hq).1] at hi
    injection hi with hi; subst hi
    exact (h3 q _ x hq hx).1
  · rw [List.getElem?_set_ne hne] at hi
    exact h3 i c x hi hx
end
end Go.Proofs.Ytmanhdacnkpclaa
/- Structs in which slices of the call's own lie: loaded, stored, built around, boxed. -/
namespace Go.Proofs.Ytmanhdacnkpclaa
set_option linter.all false
open Go.RowKit
section
variable {P : Program} {n : Nat} {o : Oper} {σ : St} {C : Ctx} {who : Nat → Tag} {a : Act} {w : World}
open Classical in
noncomputable def tagKey (k1 k2 : Key) (who : Nat → Tag) : Nat → Tag := fun b => match who b with
  | .own k p q => if k = k1 then .own k2 p q else .own k p q
  | t => t
theorem tagKey_at {k1 k2 : Key} {b p q : Nat} (h : who b = .own k1 p q) : tagKey k1 k2 who b = .own k2 p q := by simp [tagKey, h]
theorem tagKey_ne {k1 k2 : Key} {b : Nat} (h : ∀ p q, who b ≠ .own k1 p q) : tagKey k1 k2 who b = who b := by
  unfold tagKey
  split
  · rename_i k p q e
    rw [if_neg fun e' => h p q (by rw [← e']; exact e), e]
  · rfl
theorem tagKey_bx {k1 k2 : Key} {b j : Nat} : tagKey k1 k2 who b = .bx j ↔ who b = .bx j := by
  cases e : who b with
  | own k p q => simp only [tagKey, e]; by_cases hk : k = k1 <;> simp [hk]
  | _ => simp [tagKey, e]
theorem tagKey_other {k1 k2 : Key} {b : Nat} (h : tagKey k1 k2 who b ≠ .other) : who b ≠ .other := fun h0 => h (by simp [tagKey, h0])
theorem key_stp {k1 k2 : Key} : Stp who w (tagKey k1 k2 who) w (fun _ => False) (fun b => ∃ p q, who b = .own k1 p q) :=
  ⟨rfl, rfl, rfl, Nat.le_refl _, fun _ _ _ => rfl, fun b _ hb => tagKey_ne fun p q e => hb ⟨p, q, e⟩, fun _ h => h.elim, fun b ⟨p, q, hb⟩ => by rw [hb]; simp⟩
theorem Rep.tagKey {k1 k2 : Key} (h : Rep n C who σ a w) : Rep n C (Go.Proofs.Ytmanhdacnkpclaa.tagKey k1 k2 who) ((k1, none) :: σ) a w := by
  refine (h.kill k1).stp key_stp (fun b hb ho => ⟨fun h => h, fun ⟨p, q, hg⟩ => ?_⟩) (fun b j hb ho ⟨p, q, hg⟩ => ?_) (fun b hb => h.fz b (tagKey_other hb)) (fun b b' j hb hb' => h.bxu b b' j (tagKey_bx.1 hb) (tagKey_bx.1 hb')) (fun b k p q hb hg => ?_) (fun b j hb ⟨p, q, hg⟩ => ?_) (fun b j hb hg => ?_) (fun b j hb hnb => absurd (tagKey_bx.1 hb) hnb)
  · have := h.adv.tag b hb (ho.imp id .inl)
    rw [hg] at this
    rcases ho with ho | ho <;> rw [ho] at this <;> cases this
  · have := h.adv.tag b hb (.inr (.inr ⟨j, ho⟩))
    rw [hg, ho] at this; cases this
  · rcases hg with hg | ⟨p', q', hg⟩
    · exact hg.elim
    · rw [hg] at hb; injection hb with hb; subst hb; exact St.get_same
  · rw [hg] at hb; cases hb
  · rcases hg with hg | ⟨p', q', hg⟩
    · exact hg.elim
    · rw [hg] at hb; cases hb
theorem cvm.tagKey {k1 k2 : Key} {p q : Nat} {c : CV} {u : Value} (h : cvm w who (.own k1 p q) c u) (hz : ∀ b, who b ≠ .other → b < w.heap.size) : cvm w (Go.Proofs.Ytmanhdacnkpclaa.tagKey k1 k2 who) (.own k2 p q) c u := by
  have hf : ∀ b, who b = .froz → Go.Proofs.Ytmanhdacnkpclaa.tagKey k1 k2 who b = .froz := fun b hb => by simp [Go.Proofs.Ytmanhdacnkpclaa.tagKey, hb]
  cases hc : c.noOwn
  · cases c with
    | own E m ds => exact ⟨h.1.wide (fun b _ hb => hf b hb) (Nat.le_refl _), fun k hk => tagKey_at (h.2 k hk)⟩
    | ownK v E m ds => exact ⟨h.1, h.2.1.wide (fun b _ hb => hf b hb) (Nat.le_refl _), fun k hk => tagKey_at (h.2.2 k hk)⟩
    | mc es c => trivial
    | ms => trivial
    | mh v => trivial
    | _ => simp [CV.noOwn] at hc
  · have h1 : cvm w who .froz c u := cvm.re hc h
    exact cvm.re hc (cvm.stp h1 (key_stp (k1 := k1) (k2 := k2)) hz (fun _ k hk => ⟨fun h => h, fun ⟨p, q, hg⟩ => by rw [hg] at hk; cases hk⟩) (by simp) fun j _ b hb ⟨p, q, hg⟩ => by rw [hg] at hb; cases hb)
theorem A1m.tagKey {k1 k2 : Key} {cs : List CV} {u : Value} (h : A1m w who k1 0 (.agg cs) u) (hz : ∀ b, who b ≠ .other → b < w.heap.size) : A1m w (Go.Proofs.Ytmanhdacnkpclaa.tagKey k1 k2 who) k2 0 (.agg cs) u := by
  obtain ⟨vs, e, hl, hc⟩ := h
  exact ⟨vs, e, hl, fun q c v hq hv => ⟨(hc q c v hq hv).1.tagKey hz, (hc q c v hq hv).2⟩⟩
theorem cvm.tagKeyO {k1 k2 : Key} {t : Tag} {c : CV} {u : Value} (h : cvm w who t c u) (hz : ∀ b, who b ≠ .other → b < w.heap.size) (ht : t ≠ .other) (hne : ∀ p q, t ≠ .own k1 p q) : cvm w (Go.Proofs.Ytmanhdacnkpclaa.tagKey k1 k2 who) t c u :=
  cvm.stp h (key_stp (k1 := k1) (k2 := k2)) hz (fun _ k hk => ⟨fun h => h, fun ⟨p, q, hg⟩ => hne p q (hk.symm.trans hg)⟩) ht fun j _ b hb ⟨p, q, hg⟩ => by rw [hg] at hb; cases hb
def CV.left : CV → CV
  | .own .. => .any
  | .ownK .. => .any
  | c => c
theorem CV.left_noOwn {c : CV} (h : c.noOwn = true) : c.left = c := by cases c <;> first | rfl | (simp [CV.noOwn] at h)
theorem op_loadAgg {d t m j : Nat} {s : Operand} {cs cs' : List CV} (hd : o.dst = some d) (ho : o.op = .load t s) (hr : rowT P t = some (true, m)) (hs : St.ev σ s = some (.one (.c (.ptr j 0)))) (hb : St.get σ (.b j) = some (.box cs)) (hl : cs.length = m) (hok : cs.all CV.oneOk = true) (hc' : cs.map CV.left = cs') (hi : cs.flatMap CV.ids = []) (hmc : Nat.ble j EXT = true) :
    Op1 P n o ⟨(opKey s ++ [.b j]), [.t d, .b j], []⟩ σ [(.t d, some (.one (.agg cs))), (.b j, some (.box cs'))] where
  does := fun σ' hag hal C who a w hrp hdst K Q hK => by
    obtain ⟨b, e, hbw⟩ := hrp.ev ((ev_agree fun k hk => hag k (by simp [hk])).trans hs)
    have hgb := (hag (.b j) (by simp)).trans hb
    obtain ⟨vs, E', h1, h2, h3, h4⟩ := box_cell hrp hbw hgb hmc
    have hrun : (execOp a.eval o).run P w = .ok (.value (.agg vs.toArray)) w := by
      simp [execOp, ho, e, run_loadN hr (b := b) (q := 0) (w := w) (h2.trans hl) fun i v hv => by rw [Nat.zero_add]; exact h3 i v hv]
    unfold Oper.wp
    rw [hrun]
    show K (a.put o.dst _) w
    refine hK (tagKey (.b j) (.t d) who) _ _ ?_
    rw [hd]
    have hr1 := hrp.tagKey (k1 := .b j) (k2 := .t d)
    have hagg : A1m w who (.b j) 0 (.agg cs) (.agg vs.toArray) := ⟨vs, rfl, h2, fun q c v hq hv => ⟨h4 q c v hq hv, cvm.one (List.all_eq_true.1 hok c (List.mem_of_getElem? hq)) (h4 q c v hq hv)⟩⟩
    have hbx : Boxm w (tagKey (.b j) (.t d) who) j cs' := by
      intro b' hb'
      rw [bas_of (le_ext hmc)] at hb'
      have hbb : b' = b := hrp.bxu b' b j (tagKey_bx.1 hb') hbw
      subst hbb
      subst hc'
      refine ⟨vs, E', by rw [isShp_of hmc]; exact h1, by simpa using h2, fun q c v hq hv => ?_⟩
      rw [List.getElem?_map, Option.map_eq_some_iff] at hq
      obtain ⟨c0, hc0, rfl⟩ := hq
      have h5 := h4 q c0 v hc0 hv
      cases hno : c0.noOwn
      · cases c0 with
        | own => trivial
        | ownK => trivial
        | mc => trivial
        | ms => trivial
        | mh => trivial
        | _ => simp [CV.noOwn] at hno
      · rw [CV.left_noOwn hno]
        exact cvm.re hno (cvm.tagKeyO (cvm.re (p' := .froz) hno h5) hrp.fz (by simp) (by simp))
    refine ((hr1.addBox hbx).put (hdst d hd) (x := .one (.agg cs)) (hagg.tagKey hrp.fz)).congr fun k => ?_
    simp only [List.cons_append, List.nil_append, St.get]
    cases Key.is (.t d) k
    · cases Key.is (.b j) k <;> simp
    · simp
  wr := by simp
  me := fun i hi' => by
    have h1 : i ∈ cs.flatMap CV.ids ∨ i ∈ cs'.flatMap CV.ids := by simpa [St.ids, oids, X.ids, A1.ids] using hi'
    rcases h1 with h1 | h1
    · rw [hi] at h1; cases h1
    · subst hc'
      obtain ⟨c, hc, hic⟩ := List.mem_flatMap.1 h1
      obtain ⟨c0, hc0, rfl⟩ := List.mem_map.1 hc
      have : c0.ids = [] := List.flatMap_eq_nil_iff.1 hi c0 hc0
      cases c0 <;> first | (simp [CV.left, CV.ids] at hic; done) | (simp [CV.left] at hic; rw [this] at hic; cases hic)
  al := by simp
theorem moveAgg {d t : Nat} {v' : Value} {cs : List CV} (hr : Rep n C who σ a w) (hdn : d < n) (hs : St.get σ (.t t) = some (.one (.agg cs))) (hv : a.tmps.getD t undef = v') : Rep n C (tagKey (.t t) (.t d) who) ((.t d, some (.one (.agg cs))) :: (.t t, none) :: σ) (a.put (some d) v') w := by
  have hx : A1m w who (.t t) 0 (.agg cs) (a.tmps.getD t undef) := hr.slot t _ hs
  rw [hv] at hx
  exact (hr.tagKey (k1 := .t t) (k2 := .t d)).put hdn (x := .one (.agg cs)) (hx.tagKey hr.fz)
theorem op_buildMv {d T t ix m : Nat} {zs : List Value} {cs : List CV} (hd : o.dst = some d) (ho : o.op = .build T #[(ix, .tmp t)]) (hp : fieldPl P T = some [(0, m)]) (hix : ix = 0) (hz : zeroOf P T = some zs) (hzl : zs.length = m) (hs : St.get σ (.t t) = some (.one (.agg cs))) (hl : cs.length = m) (hi : cs.flatMap CV.ids = []) :
    Op1 P n o ⟨[.t t], [.t d, .t t], []⟩ σ [(.t d, some (.one (.agg cs))), (.t t, none)] where
  does := fun σ' hag hal C who a w hr hdst K Q hK => by
    subst hix
    have hsl := (hag (.t t) (by simp)).trans hs
    obtain ⟨vs, e, hvl, hc⟩ : A1m w who (.t t) 0 (.agg cs) (a.tmps.getD t undef) := hr.slot t _ hsl
    have e : a.tmps.getD t undef = .agg vs.toArray := e
    obtain ⟨z, hz1, hz2⟩ := run_zeroOf hz w
    obtain ⟨fields, hu, hpl⟩ := fieldPl_parts hp
    have hcells : (Value.agg vs.toArray).cells = vs.toArray := by simp [Value.cells]
    have hfill : Instr.fill (fun i => ([(0, m)] : List (Nat × Nat)).toArray[i]?) zs.toArray [(0, Value.agg vs.toArray)] = some vs.toArray := by
      simp only [Instr.fill]
      have h0 : ([(0, m)] : List (Nat × Nat)).toArray[0]? = some (0, m) := rfl
      rw [h0]
      simp only [hcells]
      rw [if_neg (by simp; omega)]
      have := foldl_spl vs 0 0 zs.toArray
      simp only [Nat.add_zero] at this
      rw [← Array.toList_zipIdx, Array.foldl_toList] at *
      rw [this]
      congr 2
      apply List.ext_getElem?
      intro i
      rw [splL_get _ _ _ _ (by simp; omega)]
      split
      · rw [Nat.sub_zero]
      · rename_i h
        rw [List.getElem?_eq_none (by first | omega | (simp; omega)), List.getElem?_eq_none (by omega)]
    have hrun : (execOp a.eval o).run P w = .ok (.value (.agg vs.toArray)) w := by
      have e' : a.eval (.tmp t) = .agg vs.toArray := e
      simp only [execOp, ho, Instr.build, Sem.run_bind, hz1, Result.andThen_ok, run_underlying hu, hpl, hz2, Sem.run_pure]
      simp only [List.map_toArray, List.map_cons, List.map_nil, e', hfill]
      rfl
    unfold Oper.wp
    rw [hrun]
    show K (a.put o.dst _) w
    refine hK (tagKey (.t t) (.t d) who) _ _ ?_
    rw [hd]
    exact moveAgg hr (hdst d hd) hsl e
  wr := by simp
  me := fun i hi' => by
    have h1 : i ∈ cs.flatMap CV.ids := by simpa [St.ids, oids, X.ids, A1.ids] using hi'
    rw [hi] at h1; cases h1
  al := by simp
theorem op_boxOwn {d E t : Nat} {cs : List CV} (hd : o.dst = some d) (ho : o.op = .box E (.tmp t)) (hs : St.get σ (.t t) = some (.one (.agg cs))) (hi : cs.flatMap CV.ids = []) (hx : Nat.beq d EXT = false) (hmc : Nat.ble d EXT = true) :
    Op1 P n o ⟨[.t t], [.t d, .b d, .t t], [d]⟩ σ [(.t d, some (.one (.c (.ptr d 0)))), (.b d, some (.box cs)), (.t t, none)] where
  does := fun σ' hag hal C who a w hr hdst K Q hK => by
    have hsl := (hag (.t t) (by simp)).trans hs
    obtain ⟨vs, e, hvl, hc⟩ : A1m w who (.t t) 0 (.agg cs) (a.tmps.getD t undef) := hr.slot t _ hsl
    have e' : a.eval (.tmp t) = .agg vs.toArray := e
    have hcells : (a.eval (.tmp t)).cells = vs.toArray := by rw [e']; simp [Value.cells]
    have hids := hal d (by simp)
    have hr1 := hr.tagKey (k1 := .t t) (k2 := .b d)
    have hids' : d ∉ St.ids ((.t t, none) :: σ') := by simpa [St.ids, oids] using hids
    unfold Oper.wp
    have hrun : (execOp a.eval o).run P w = .ok (.value (.pointer (some ⟨w.heap.size, 0, none⟩))) (w.alloc (.cells vs.toArray E)) := by
      simp only [execOp, ho, Instr.box, newVar, newRow, hcells]; simp
    rw [hrun]
    show K (a.put o.dst _) _
    refine hK (tagBox d w.heap.size (tagKey (.t t) (.b d) who)) _ _ ?_
    rw [hd]
    exact new_box (E := E) (u := vs) (cs := cs) hr1 (hdst d hd) hx hmc hids' (fun who' w' q c v hq hv T G hst hT hG => by
      have h5 := (hc q c v hq hv).1.tagKey (k2 := .b d) hr.fz
      have hci : c.ids = [] := List.flatMap_eq_nil_iff.1 hi c (List.mem_of_getElem? hq)
      exact cvm.stp h5 hst hr1.fz (fun _ b hb => ⟨fun h => hT b h, fun h => by have := hG b h; rw [hb] at this; cases this⟩) (by simp) fun j hj => by rw [hci] at hj; cases hj) hvl
  wr := by simp
  me := fun j hj => by
    have : j = d ∨ j ∈ cs.flatMap CV.ids := by simpa [St.ids, oids, X.ids, A1.ids, CV.ids] using hj
    rcases this with h | h
    · exact .inr (by simp [h])
    · rw [hi] at h; cases h
  al := by simp
theorem op_storeAgg {T m j t : Nat} {s : Operand} {cs0 cs : List CV} (hd : o.dst = none) (ho : o.op = .store T s (.tmp t)) (hs : St.ev σ s = some (.one (.c (.ptr j 0)))) (hb : St.get σ (.b j) = some (.box cs0)) (hr : rowT P T = some (true, m)) (hv : St.get σ (.t t) = some (.one (.agg cs))) (hl : cs.length = m) (hl0 : cs0.length = m) (hi : cs.flatMap CV.ids = []) (hmc : Nat.ble j EXT = true) :
    Op1 P n o ⟨(opKey s ++ [.t t, .b j]), [.b j, .t t], []⟩ σ [(.b j, some (.box cs)), (.t t, none)] where
  does := fun σ' hag hal C who a w hrp hdst K Q hK => by
    obtain ⟨b, e, hbw⟩ := hrp.ev ((ev_agree fun k hk => hag k (by simp [hk])).trans hs)
    have hsl := (hag (.t t) (by simp)).trans hv
    obtain ⟨news, e2, hvl, hc⟩ : A1m w who (.t t) 0 (.agg cs) (a.tmps.getD t undef) := hrp.slot t _ hsl
    have e2' : a.eval (.tmp t) = .agg news.toArray := e2
    have hgb : St.get σ' (.b j) = some (.box cs0) := (hag (.b j) (by simp)).trans hb
    obtain ⟨vs, E, h1, h2, h3, h4⟩ := box_cell hrp hbw hgb hmc
    obtain ⟨dsc, ii, hu, hrow, hif, hsz⟩ := rowT_parts hr
    have hcells : (a.eval (.tmp t)).cells = news.toArray := by rw [e2']; simp [Value.cells]
    have hst := run_storeCells_cells (P := P) b 0 news 0 w (fun i hi' => by
      rw [Nat.zero_add, h3 i _ (List.getElem?_eq_getElem (by omega))]; rfl) (fun i _ => by simp [World.frozen?, h1]) (fun v hv => by
      obtain ⟨q, hq, rfl⟩ := List.getElem_of_mem hv
      exact (hc q _ _ (List.getElem?_eq_getElem (hvl ▸ hq)) (List.getElem?_eq_getElem hq)).2)
    have hrun : (execOp a.eval o).run P w = .ok .skip (w.setCells b 0 news) := by
      simp only [execOp, ho, e, Instr.storeAt, Instr.sureAddr, Sem.run_bind, Sem.run_pure, Result.andThen_ok, storeVar, sizeOf, typeInfo, run_program, hif, hcells]
      rw [if_neg (by simp; omega)]
      simp only [Nat.add_zero] at hst
      simp [hst]
    unfold Oper.wp
    rw [hrun]
    show K (a.put o.dst undef) _
    obtain ⟨g1, g2, g3, g4, g5, g6⟩ := setCells_blk news w b 0 vs E h1
    have hstp : Stp who w who (w.setCells b 0 news) (fun k => k = b) (fun _ => False) :=
      ⟨g4, g5, g6, by rw [g3]; exact Nat.le_refl _, fun k _ hk => g2 k hk, fun _ _ _ => rfl, fun k hk => by rw [hk, hbw]; simp, fun _ h => h.elim⟩
    have hrep : Rep n C who ((.b j, none) :: σ') a (w.setCells b 0 news) := by
      refine (hrp.kill (.b j)).stp hstp (fun k hk hoo => ⟨fun hkb => ?_, fun h => h⟩) (fun _ _ _ _ h => h) (fun k hk => by rw [g3]; exact hrp.fz k hk) hrp.bxu ?_ ?_ ?_ ?_
      · have := hrp.adv.tag k hk (hoo.imp id .inl)
        rw [hkb, hbw] at this
        rw [hkb] at hoo
        rcases hoo with hoo | hoo <;> rw [hoo] at this <;> cases this
      · intro k kk p q' hk hT
        rcases hT with hT | hT
        · rw [hT, hbw] at hk; cases hk
        · exact hT.elim
      · intro k i _ h; exact h.elim
      · intro k i hk hT
        rcases hT with hT | hT
        · rw [hT, hbw] at hk; injection hk with hk; have hk := nb_eq (le_ext hmc) hk.symm; subst hk; exact St.get_same
        · exact hT.elim
      · intro k i h1 h2; exact absurd h1 h2
    have hr1 := hrep.tagKey (k1 := .t t) (k2 := .b j)
    have hbox : Boxm (w.setCells b 0 news) (tagKey (.t t) (.b j) who) j cs := by
      intro k hk
      rw [bas_of (le_ext hmc)] at hk
      have : k = b := hrp.bxu k b j (tagKey_bx.1 hk) hbw
      subst this
      refine ⟨splL vs 0 news, E, by rw [isShp_of hmc]; exact g1, by rw [splL_len]; omega, fun i c u hi' hu' => ?_⟩
      rw [splL_get _ _ _ _ (by omega)] at hu'
      have hil : i < cs.length := (List.getElem?_eq_some_iff.1 hi').1
      rw [if_pos (by omega), Nat.sub_zero] at hu'
      have h5 := (hc i c u hi' hu').1
      have hci : c.ids = [] := List.flatMap_eq_nil_iff.1 hi c (List.mem_of_getElem? hi')
      have h6 : cvm (w.setCells k 0 news) who (.own (.t t) 0 i) c u := cvm.stp h5 hstp hrp.fz (fun _ k' hk' => ⟨fun hT => (by rw [hT, hbw] at hk'; cases hk'), fun h => h⟩) (by simp) fun _ _ _ _ h => h
      exact h6.tagKey hrep.fz
    refine hK (tagKey (.t t) (.b j) who) undef _ ?_
    rw [hd]
    refine (hr1.addBox hbox).congr fun k => ?_
    simp only [List.cons_append, List.nil_append, St.get]
    cases Key.is (.b j) k
    · cases Key.is (.t t) k <;> simp
    · simp
  wr := by simp
  me := fun i hi' => by
    have h1 : i ∈ cs.flatMap CV.ids := by simpa [St.ids, oids, X.ids] using hi'
    rw [hi] at h1; cases h1
  al := by simp
end
end Go.Proofs.Ytmanhdacnkpclaa
/- A slice of one's own that stands in a box, as a box; elements stored in drawn regions. -/
namespace Go.Proofs.Ytmanhdacnkpclaa
set_option linter.all false
open Go.RowKit
section
variable {P : Program} {n : Nat} {o : Oper} {σ : St}
theorem dwp_ownBoxB {Q : Exit → St → Prop} {c : Code} {tp b0 q0 T E m : Nat} {cells cells' : List CV} {ds : List D} (hp : St.get σ (.t tp) = some (.one (.c (.ptr b0 0)))) (hbs : St.get σ (.b b0) = some (.box cells)) (hqs : cells[q0]? = some (.own E m ds)) (hn0 : 0 < ds.length) (hm0 : 0 < m) (hids : nomem T (St.ids σ) = true) (hx : Nat.beq T EXT = false) (hmc : Nat.ble T EXT = true)
    (hmb : Nat.ble b0 EXT = true) (hnb : Nat.beq T b0 = false) (hcells : cells.set q0 (.sl T ds.length) = cells')
    (h : ∀ extra, dwp P n c Q ((.b b0, some (.box cells')) :: (.b T, some (.box ((fcs ds).map FC.cv ++ List.replicate extra .any))) :: σ)) : dwp P n c Q σ :=
  fun C who a w hr => by
    subst hcells
    obtain ⟨bb, ebb, hbw⟩ := hr.slot tp _ hp
    obtain ⟨vs0, E0, g1, g2, g3, g4⟩ := box_cell hr hbw hbs hmb
    have hql : q0 < vs0.length := by rw [g2]; exact (List.getElem?_eq_some_iff.1 hqs).1
    have hv0 := List.getElem?_eq_getElem hql
    obtain ⟨hown, htag⟩ : Own w 0 E m (Fz who) vs0[q0] ds ∧ ∀ k, (vs0[q0]).ownBlock = some k → who k = .own (.b b0) 0 q0 := g4 q0 _ _ hqs hv0
    have hTb : T ≠ b0 := fun e => by rw [e] at hnb; simp at hnb
    obtain ⟨xs, ⟨hxl, hrow⟩, hrds, hone⟩ := hown
    rcases hrow with ⟨_, h0⟩ | ⟨g, cap, cur, hv, _, hg, hlc, hcm, hcs, htake⟩
    · omega
    have hgo := htag g (by rw [hv]; rfl)
    have hgl : g < w.heap.size := hr.fz g (by rw [hgo]; simp)
    have hne : T ≠ EXT := fun h => by rw [h] at hx; simp at hx
    have hids' := nomem_iff.1 hids
    have hstp : Stp who w (tagBox T g who) w (fun _ => False) (fun b => b = g ∨ who b = .bx T) :=
      ⟨rfl, rfl, rfl, Nat.le_refl _, fun _ _ _ => rfl, fun b _ hb => tagBox_old (fun h => hb (.inl h)) (fun h => hb (.inr h)), fun _ h => h.elim, fun b hb => by
        rcases hb with rfl | hb
        · rw [hgo]; simp
        · rw [hb]; simp⟩
    have hk0 : ∀ k x, St.get ((.b b0, none) :: (.b T, none) :: σ) k = some x → St.get σ k = some x := fun k x h => by
      simp only [St.get] at h
      cases e1 : Key.is (.b b0) k <;> rw [e1] at h
      · cases e2 : Key.is (.b T) k <;> rw [e2] at h
        · exact h
        · simp at h
      · simp at h
    have hkt : St.get ((.b b0, none) :: (.b T, none) :: σ) (.b b0) = none := St.get_same
    have hkb : St.get ((.b b0, none) :: (.b T, none) :: σ) (.b T) = none := by rw [St.get_ne (by simpa using Ne.symm hTb)]; exact St.get_same
    have hki : T ∉ St.ids ((.b b0, none) :: (.b T, none) :: σ) := by simpa [St.ids, oids] using hids'
    have hbx : ∀ b j, tagBox T g who b = .bx j → (b = g ∧ j = T) ∨ (b ≠ g ∧ who b = .bx j ∧ j ≠ T) := fun b j hb => by
      rcases Classical.em (b = g) with rfl | hne'
      · rw [tagBox_new] at hb; injection hb with hb; exact .inl ⟨rfl, hb.symm⟩
      · rcases Classical.em (who b = .bx T) with hd' | hd'
        · rw [tagBox_gone hne' hd'] at hb; cases hb
        · rw [tagBox_old hne' hd'] at hb
          exact .inr ⟨hne', hb, fun e => hd' (e ▸ hb)⟩
    have h1 : Rep n C (tagBox T g who) ((.b b0, none) :: (.b T, none) :: σ) a w := by
      refine (hr.forget hk0).stp hstp ?_ ?_ ?_ ?_ ?_ ?_ ?_ ?_
      · intro b hb ho
        refine ⟨fun h => h, fun hG => ?_⟩
        have := hr.adv.tag b hb (ho.imp id .inl)
        rcases hG with rfl | hG
        · rw [hgo] at this; rcases ho with ho | ho <;> rw [ho] at this <;> cases this
        · rw [hG] at this; rcases ho with ho | ho <;> rw [ho] at this <;> cases this
      · intro b j hb ho hG
        have := hr.adv.tag b hb (.inr (.inr ⟨j, ho⟩))
        rcases hG with rfl | hG
        · rw [hgo, ho] at this; cases this
        · rw [hG, ho] at this; injection this with this
          exact hne (this.trans (hr.ext b j ho))
      · intro b hb
        rcases Classical.em (who b = .other) with h | h
        · rcases Classical.em (b = g) with rfl | hne'
          · exact hgl
          · rw [tagBox_old hne' (by rw [h]; simp)] at hb; exact absurd h hb
        · exact hr.fz b h
      · intro b b' j hb hb'
        rcases hbx b j hb with ⟨e1, e2⟩ | ⟨e1, e2, e3⟩ <;> rcases hbx b' j hb' with ⟨f1, f2⟩ | ⟨f1, f2, f3⟩
        · rw [e1, f1]
        · exact absurd e2 f3
        · exact absurd f2 e3
        · exact hr.bxu b b' j e2 f2
      · intro b k p q hb hG
        rcases hG with hG | rfl | hG
        · exact hG.elim
        · rw [hgo] at hb; injection hb with hb; subst hb; exact hkt
        · rw [hG] at hb; cases hb
      · intro b j hb hG
        rcases hG with rfl | hG
        · rw [hgo] at hb; cases hb
        · rw [hG] at hb; injection hb with hb; subst hb; exact hki
      · intro b j hb hG
        rcases hG with hG | rfl | hG
        · exact hG.elim
        · rw [hgo] at hb; cases hb
        · rw [hG] at hb; injection hb with hb; have hb := nb_eq (le_ext hmc) hb.symm; subst hb; exact hkb
      · intro b j hb hnb
        rcases hbx b _ hb with ⟨e1, e2⟩ | ⟨e1, e2, e3⟩
        · have e2 := nb_eq (le_ext hmc) e2; subst e2; exact hkb
        · exact absurd e2 hnb
    have hcl := (rds_iff.1 hrds)
    have hfl := cellsF_len hcl
    have h2 := (h1.addBox (j := T) (cs := (fcs ds).map FC.cv ++ List.replicate (cap * m - ds.length * m) .any) fun b hb => by
      rw [bas_of (le_ext hmc)] at hb
      have hbg : b = g := by
        rcases hbx b T hb with ⟨e1, _⟩ | ⟨_, _, e3⟩
        · exact e1
        · exact absurd rfl e3
      subst hbg
      refine ⟨cur.toList, E, by rw [isShp_of hmc]; simpa using hg, ?_, fun q c v hq hv => ?_⟩
      · have : ds.length * m ≤ cap * m := Nat.mul_le_mul_right m hlc
        simp only [Array.length_toList, List.length_append, List.length_map, List.length_replicate, hcs]
        omega
      · rcases Nat.lt_or_ge q (fcs ds).length with hlt | hge
        · rw [List.getElem?_append_left (by simpa using hlt), List.getElem?_map, Option.map_eq_some_iff] at hq
          obtain ⟨c0, hc0, rfl⟩ := hq
          obtain ⟨x, hx1, hx2⟩ := cellsF_at hcl q c0 hc0
          have hxv : x = v := by
            rw [← htake, List.getElem?_take] at hx1
            split at hx1
            · rw [hx1] at hv; injection hv
            · cases hx1
          subst hxv
          have h6 : fcm w (Fz (tagBox T b who)) c0 x := hx2.keep (Nat.le_refl _) (fun b' hb' hF => (hstp.fz b' hb' hF.1)) (fun _ _ _ => rfl)
          exact fcm.toC h6
        · rw [List.getElem?_append_right (by simpa using hge), List.getElem?_replicate] at hq
          split at hq
          · injection hq with hq; subst hq; trivial
          · cases hq)
    have h3 := h2.addBox (j := b0) (cs := cells.set q0 (.sl T ds.length)) fun b hb => by
      rw [bas_of (le_ext hmb)] at hb
      have hbb : b = bb := by
        rcases hbx b b0 hb with ⟨_, e2⟩ | ⟨_, e2, _⟩
        · exact absurd e2.symm hTb
        · exact hr.bxu b bb b0 e2 hbw
      subst hbb
      refine ⟨vs0, E0, by rw [isShp_of hmb]; exact g1, by simpa using g2, fun i c' v' hi hvi => ?_⟩
      rcases Classical.em (q0 = i) with rfl | hne'
      · have hlt2 : q0 < cells.length := (List.getElem?_eq_some_iff.1 hqs).1
        rw [List.getElem?_set_self hlt2] at hi; injection hi with hi; subst hi
        rw [hv0] at hvi; injection hvi with hvi; subst hvi
        exact ⟨g, cap, hv, ⟨hlc, hcm⟩, tagBox_new⟩
      · rw [List.getElem?_set_ne hne'] at hi
        refine cvm.stp (g4 i c' v' hi hvi) hstp hr.fz (fun _ k hk => ⟨fun h => h, fun hG => ?_⟩) (by simp) (fun j hj b' hb' hG => ?_)
        · rcases hG with rfl | hG
          · rw [hgo] at hk; injection hk with _ _ e; exact hne' e
          · rw [hG] at hk; cases hk
        · rcases hG with rfl | hG
          · rw [hgo] at hb'; cases hb'
          · rw [hG] at hb'; injection hb' with hb'; subst hb'
            exact hids' (St.ids_get hbs (List.mem_flatMap.2 ⟨c', List.mem_of_getElem? hi, hj⟩))
    refine h (cap * m - ds.length * m) C (tagBox T g who) a w (h3.congr fun k => ?_)
    simp only [St.get]
    cases e1 : Key.is (.b b0) k
    · cases e2 : Key.is (.b T) k
      · simp
      · simp
    · simp
theorem fc_ids (l : List FC) : (l.map FC.cv).flatMap CV.ids = [] := by
  induction l with
  | nil => rfl
  | cons c l ih =>
    simp only [List.map_cons, List.flatMap_cons, ih, List.append_nil]
    cases c <;> rfl
theorem any_ids (e : Nat) : (List.replicate e CV.any).flatMap CV.ids = [] := by
  induction e with
  | zero => rfl
  | succ e ih => simp only [List.replicate_succ, List.flatMap_cons, ih]; rfl
theorem els_ids {α : Type} (g : α → List FC) (l : List α) (e : Nat) : (els g l e).flatMap CV.ids = [] := by
  unfold els
  rw [List.flatMap_append, fc_ids, any_ids]; rfl
theorem dwp_ownElsB {α : Type} {f : α → D} {m : Nat} {g : α → List FC} [FCs f m g] {Q : Exit → St → Prop} {c : Code} {tp b0 q0 T E m' : Nat} {cells cells' : List CV} {l : List α} (hp : St.get σ (.t tp) = some (.one (.c (.ptr b0 0)))) (hbs : St.get σ (.b b0) = some (.box cells)) (hqs : cells[q0]? = some (.own E m' (l.map f))) (hn0 : 0 < l.length) (hm0 : Nat.blt 0 m' = true)
    (hids : nomem T (St.ids σ) = true) (hx : Nat.beq T EXT = false) (hmc : Nat.ble T EXT = true) (hmb : Nat.ble b0 EXT = true) (hnb : Nat.beq T b0 = false) (hcells : cells.set q0 (.sl T l.length) = cells')
    (h : ∀ e, dwp P n c Q ((.b b0, some (.box cells')) :: (.b T, some (.box (els g l e))) :: σ)) : dwp P n c Q σ := by
  refine dwp_ownBoxB (cells' := cells') hp hbs hqs (by simpa using hn0) (Nat.lt_of_succ_le (Nat.le_of_ble_eq_true hm0)) hids hx hmc hmb hnb (by rw [List.length_map]; exact hcells) fun e => ?_
  have := h e
  unfold els at this
  rw [fcs_map]; exact this
theorem op_storeEl0 {α : Type} {m : Nat} {g : α → List FC} (hF : ∀ a, (g a).length = m) {t j q k e : Nat} {l : List α} (y : α) {s v : Operand} {A : A1} (hd : o.dst = none) (ho : o.op = .store t s v) (hr : rowT P t = some (true, m)) (hs : St.ev σ s = some (.one (.c (.ptr j q)))) (hb : St.get σ (.b j) = some (.box (els g l e)))
    (hv : St.ev σ v = some (.one A)) (hA : A.cells = (g y).map FC.cv) (hn : A.noOwn = true) (hok : A.cells.all CV.oneOk = true) (hq : q = k * m) (hm : Nat.blt 0 m = true) (hk : k < l.length) (hmc : Nat.ble j EXT = true) :
    Op1 P n o ⟨opKey s ++ opKey v ++ [.b j], [.b j], []⟩ σ [(.b j, some (.box (els g (l.set k y) e)))] := by
  have h := op_storeEl (n := n) hF y hd ho hr hs hb hv hA hn hok hq hm hk hmc
  rw [List.flatMap_append, els_ids, fc_ids] at h
  simpa using h
end
end Go.Proofs.Ytmanhdacnkpclaa
