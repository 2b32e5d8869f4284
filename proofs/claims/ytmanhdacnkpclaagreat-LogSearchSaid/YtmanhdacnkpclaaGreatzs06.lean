/- Lending by the header's value. -/
import Derived.Test.YtmanhdacnkpclaaGreatzs05
import Derived.Test.YtmanhdacnkpclaaGreatzs04
import Derived.Test.YtmanhdacnkpclaaGreatzs03
/- Lending by the header's value. -/
namespace Go.Proofs.YtmanhdacnkpclaaGreat
set_option linter.all false
open Go.RowKit
section
variable {P : Program} {n : Nat} {o : Oper} {σ : St}
theorem lend_val {L : Tag → Prop} {s : Operand} {t E m : Nat} {v : Value} {ds : List D} (hs : St.ev σ s = some (.one (.c (.val v)))) (hk : St.get σ (.t t) = some (.one (.c (.ownK v E m ds)))) (hL : L (.own (.t t) 0 0)) : Lend n σ L (opKey s ++ [.t t]) s (.c (.arr ds)) := fun σ' hag C who a w hr k p => by
  have e : a.eval s = v := hr.ev ((ev_agree fun k hk => hag k (List.mem_append_left _ hk)).trans hs)
  obtain ⟨e2, h1⟩ := hr.slot t _ ((hag (.t t) (by simp)).trans hk)
  have h2 : cvm w (tagAll (.own (.t t) 0 0) .froz who) .froz (.arr ds) (a.tmps.getD t undef) := cvm.tag_frz (E := E) (m := m) h1
  rw [e2] at h2
  rw [e]
  exact rd.wide h2 fun b _ hb => lendT_tag (by simp) hL hb
theorem lend_valB {L : Tag → Prop} {s : Operand} {j q E m tp : Nat} {v : Value} {ds : List D} {cs : List CV} (hs : St.ev σ s = some (.one (.c (.val v)))) (hp : St.get σ (.t tp) = some (.one (.c (.ptr j 0)))) (hb : St.get σ (.b j) = some (.box cs)) (hq : cs[q]? = some (.ownK v E m ds)) (hmc : Nat.ble j EXT = true) (hL : L (.own (.b j) 0 q)) :
    Lend n σ L (opKey s ++ [.t tp, .b j]) s (.c (.arr ds)) := fun σ' hag C who a w hr k p => by
  have e : a.eval s = v := hr.ev ((ev_agree fun k hk => hag k (List.mem_append_left _ hk)).trans hs)
  obtain ⟨b, _, hbw⟩ := hr.slot tp _ ((hag (.t tp) (by simp)).trans hp)
  obtain ⟨vs, E', h1, h2, h3, h4⟩ := box_cell hr hbw ((hag (.b j) (by simp)).trans hb) hmc
  have hlt : q < vs.length := by rw [h2]; exact (List.getElem?_eq_some_iff.1 hq).1
  obtain ⟨e2, h5⟩ := h4 q _ _ hq (List.getElem?_eq_getElem hlt)
  have h6 : cvm w (tagAll (.own (.b j) 0 q) .froz who) .froz (.arr ds) vs[q] := cvm.tag_frz (E := E) (m := m) h5
  rw [e2] at h6
  rw [e]
  exact rd.wide h6 fun b _ hb => lendT_tag (by simp) hL hb
end
end Go.Proofs.YtmanhdacnkpclaaGreat
/- A pointer that is known, and a copy of it. -/
namespace Go.Proofs.YtmanhdacnkpclaaGreat
set_option linter.all false
open Go.RowKit
section
variable {P : Program} {n : Nat} {o : Oper} {σ : St}
theorem op_nilBK {d j tp : Nat} {v : Value} {s : Operand} (hd : o.dst = some d) (ho : o.op = .nilCheck s) (hs : St.ev σ s = some (.one (.c (.val v)))) (hk : St.get σ (.t tp) = some (.one (.c (.isB v j)))) :
    Op1 P n o ⟨(opKey s ++ [.t tp]) ++ (X.one (.c (.ptr j 0))).ids.map Key.b, [.t d], []⟩ σ [(.t d, some (.one (.c (.ptr j 0))))] :=
  .value _ hd fun σ' hag C who a w hr => by
    have e : a.eval s = v := hr.ev ((ev_agree fun k hk => hag k (List.mem_append_left _ hk)).trans hs)
    obtain ⟨e2, b, e3, hb⟩ := hr.slot tp _ ((hag (.t tp) (by simp)).trans hk)
    rw [e2] at e3
    subst e3
    exact ⟨_, by simp [execOp, ho, e], b, rfl, hb⟩
theorem op_moveBK {d t j : Nat} {v : Value} (hd : o.dst = some d) (ho : o.op = .move (.tmp t) ∨ o.op = .assign (.tmp t)) (hs : St.get σ (.t t) = some (.one (.c (.isB v j)))) :
    Op1 P n o ⟨[.t t] ++ (X.one (.c (.val v))).ids.map Key.b, [.t d], []⟩ σ [(.t d, some (.one (.c (.val v))))] :=
  .value [.t t] hd fun σ' hag C who a w hr => ⟨a.eval (.tmp t), by rcases ho with ho | ho <;> simp [execOp, ho], (hr.ev (s := .tmp t) ((hag (.t t) (by simp)).trans hs)).1⟩
theorem op_lenK {T : Tabs P} {d t E0 m0 b0 tp j q E m : Nat} {v : Value} {s : Operand} {cs : List CV} {ds : List D} (hd : o.dst = some d) (ho : o.op = .call { callee := .builtin .len, args := #[s], argTypes := #[t] }) (hT : T.sl t = some (E0, m0, b0)) (hs : St.ev σ s = some (.one (.c (.val v))))
    (hp : St.get σ (.t tp) = some (.one (.c (.ptr j 0)))) (hb : St.get σ (.b j) = some (.box cs)) (hq : cs[q]? = some (.ownK v E m ds)) (hmc : Nat.ble j EXT = true) :
    Op1 P n o ⟨(opKey s ++ [.t tp, .b j]) ++ (X.one (iA ds.length)).ids.map Key.b, [.t d], []⟩ σ [(.t d, some (.one (iA ds.length)))] :=
  .value _ hd fun σ' hag C who a w hr => by
    obtain ⟨z, hzz⟩ := T.sl_ok hT
    have e : a.eval s = v := hr.ev ((ev_agree fun k hk => hag k (List.mem_append_left _ hk)).trans hs)
    obtain ⟨b, _, hbw⟩ := hr.slot tp _ ((hag (.t tp) (by simp)).trans hp)
    obtain ⟨vs, E', h1, h2, h3, h4⟩ := box_cell hr hbw ((hag (.b j) (by simp)).trans hb) hmc
    have hlt : q < vs.length := by rw [h2]; exact (List.getElem?_eq_some_iff.1 hq).1
    obtain ⟨e2, h5⟩ := h4 q _ _ hq (List.getElem?_eq_getElem hlt)
    have hl : ∃ ad cap, v = .slice ad ds.length cap := by
      obtain ⟨⟨xs, ⟨_, h7⟩, _⟩, _⟩ := h5
      rw [e2] at h7
      rcases h7 with ⟨h7, h8⟩ | ⟨g, cap, cur, h7, _⟩
      · exact ⟨none, 0, by rw [h7, h8]⟩
      · exact ⟨_, cap, h7⟩
    obtain ⟨ad, cap, hv⟩ := hl
    rw [hv] at e
    refine ⟨_, ?_, rfl⟩
    simp [execOp, ho, e, resolve, invoke, builtin, Builtin.len_, run_underlying hzz.und, goInt]
def elP (v : Value) (q : Nat) : Value := match v with
  | .slice (some a) _ _ => .pointer (some ⟨a.block, q, none⟩)
  | _ => .pointer none
theorem own_head {σ' : St} {C : Ctx} {who : Nat → Tag} {a : Act} {w : World} {tp j q E m : Nat} {v : Value} {cs : List CV} {ds : List D} (hr : Rep n C who σ' a w) (hp : St.get σ' (.t tp) = some (.one (.c (.ptr j 0)))) (hb : St.get σ' (.b j) = some (.box cs)) (hq : cs[q]? = some (.ownK v E m ds)) (hmc : Nat.ble j EXT = true) (h0 : 0 < ds.length) :
    ∃ gg cap xs, v = .slice (some ⟨gg, 0, none⟩) ds.length cap ∧ (∀ i x, xs[i]? = some x → w.cell? ⟨gg, i, none⟩ = some x) ∧ cellsF w (Fz who) (fcs ds) xs := by
  obtain ⟨b, _, hbw⟩ := hr.slot tp _ hp
  obtain ⟨vs, E', h1, h2, h3, h4⟩ := box_cell hr hbw hb hmc
  have hlt : q < vs.length := by rw [h2]; exact (List.getElem?_eq_some_iff.1 hq).1
  obtain ⟨e2, h5⟩ := h4 q _ _ hq (List.getElem?_eq_getElem hlt)
  obtain ⟨⟨xs, ⟨h6, h7⟩, h8, h9⟩, _⟩ := h5
  rw [e2] at h7 h8
  rcases h7 with ⟨_, h8⟩ | ⟨gg, cap, cur, h7, _, hh, _, _, _, htk⟩
  · omega
  · refine ⟨gg, cap, xs, h7, fun i x hx => ?_, ?_⟩
    · rw [← htk] at hx
      have hi : cur.toList[i]? = some x := by
        rw [List.getElem?_take] at hx
        split at hx
        · exact hx
        · cases hx
      simp only [World.cell?, hh]
      simpa using hi
    · have h10 := rds_iff.1 h8
      refine cellsF_mk (cellsF_len h10) fun i c x hc hx => ?_
      obtain ⟨x', hx', hf⟩ := cellsF_at h10 i c hc
      rw [hx] at hx'; injection hx' with hx'; subst hx'
      exact hf.keep (Nat.le_refl _) (fun b _ hF => hF.1) fun b _ _ => rfl
theorem op_idxK {T : Tabs P} {d t E0 m0 b0 tp j q E m k q' : Nat} {v : Value} {s i : Operand} {kk : IntKind} {zi : Int} {cs : List CV} {ds : List D} (hd : o.dst = some d) (ho : o.op = .indexAddr t s i) (hT : T.sl t = some (E0, m0, b0)) (hs : St.ev σ s = some (.one (.c (.val v)))) (hi : St.ev σ i = some (.one (.c (.val (.int kk zi)))))
    (hp : St.get σ (.t tp) = some (.one (.c (.ptr j 0)))) (hb : St.get σ (.b j) = some (.box cs)) (hq : cs[q]? = some (.ownK v E m ds)) (hmc : Nat.ble j EXT = true) (hz : zi = (k : Int)) (hk : k < ds.length) (hq' : k * m0 = q') :
    Op1 P n o ⟨((opKey s ++ opKey i) ++ [.t tp, .b j]) ++ (X.one (.c (.val (elP v q')))).ids.map Key.b, [.t d], []⟩ σ [(.t d, some (.one (.c (.val (elP v q')))))] :=
  .value _ hd fun σ' hag C who a w hr => by
    obtain ⟨z, hzz⟩ := T.sl_ok hT
    have e : a.eval s = v := hr.ev ((ev_agree fun k hk => hag k (List.mem_append_left _ (List.mem_append_left _ hk))).trans hs)
    have e2 : a.eval i = .int kk zi := hr.ev ((ev_agree fun k hk => hag k (List.mem_append_left _ (List.mem_append_right _ hk))).trans hi)
    obtain ⟨gg, cap, xs, hv, _, _⟩ := own_head hr ((hag (.t tp) (by simp)).trans hp) ((hag (.b j) (by simp)).trans hb) hq hmc (by omega)
    obtain ⟨i', hi', hz0, hz1, hz2⟩ := info_parts hzz.info
    subst hz hq'
    refine ⟨.pointer (some ⟨gg, k * m0, none⟩), ?_, by rw [hv]; rfl⟩
    rw [hv] at e
    simp [execOp, ho, e, e2, Instr.indexAt, run_underlying hzz.und, asIntOf, sizeOf, typeInfo, hi', hz1, hk, add_lit]
theorem flat1 {α : Type} {g : α → List FC} (h : ∀ x, (g x).length = 1) : ∀ {l : List α} {k : Nat} {x : α} {c : FC}, l[k]? = some x → g x = [c] → (l.flatMap g)[k]? = some c
  | [], k, x, c, hx, _ => by simp at hx
  | y :: l, 0, x, c, hx, hg => by simp at hx; subst hx; simp [hg]
  | y :: l, k + 1, x, c, hx, hg => by
    have h1 := h y
    match hy : g y, h1 with
    | [c'], _ =>
      simp only [List.getElem?_cons_succ] at hx
      have := flat1 h hx hg
      simpa [List.flatMap_cons, hy] using this
theorem op_loadKE {α : Type} {f : α → D} {g : α → List FC} [FCs f 1 g] {d t tp j q E m k : Nat} {v : Value} {s : Operand} {cs : List CV} {l : List α} {x : α} {c : FC} {c' : CV} (hd : o.dst = some d) (ho : o.op = .load t s) (hrw : rowT P t = some (false, 1)) (hs : St.ev σ s = some (.one (.c (.val (elP v k)))))
    (hp : St.get σ (.t tp) = some (.one (.c (.ptr j 0)))) (hb : St.get σ (.b j) = some (.box cs)) (hq : cs[q]? = some (.ownK v E m (l.map f))) (hmc : Nat.ble j EXT = true) (hx : l[k]? = some x) (hg : g x = [c]) (hc : c.cv = c') :
    Op1 P n o ⟨(opKey s ++ [.t tp, .b j]) ++ (X.one (.c c')).ids.map Key.b, [.t d], []⟩ σ [(.t d, some (.one (.c c')))] :=
  .value _ hd fun σ' hag C who a w hr => by
    have e : a.eval s = elP v k := hr.ev ((ev_agree fun k hk => hag k (List.mem_append_left _ hk)).trans hs)
    have hk : k < l.length := (List.getElem?_eq_some_iff.1 hx).1
    obtain ⟨gg, cap, xs, hv, hcell, hF⟩ := own_head hr ((hag (.t tp) (by simp)).trans hp) ((hag (.b j) (by simp)).trans hb) hq hmc (by simp; omega)
    rw [hv] at e
    have e : a.eval s = .pointer (some ⟨gg, k, none⟩) := e
    rw [fcs_map] at hF
    obtain ⟨y, hy, hf⟩ := cellsF_at hF k c (flat1 (fun x => FCs.len (f := f) x) hx hg)
    subst hc
    exact ⟨y, by simp [execOp, ho, e, run_load1 hrw (hcell k y hy)], fcm.toC hf⟩
theorem op_lenKT {T : Tabs P} {α : Type} {f : α → D} {d t E0 m0 b0 tp j q E m : Nat} {v : Value} {s : Operand} {cs : List CV} {l : List α} (hd : o.dst = some d) (ho : o.op = .call { callee := .builtin .len, args := #[s], argTypes := #[t] }) (hT : T.sl t = some (E0, m0, b0)) (hs : St.ev σ s = some (.one (.c (.val v))))
    (hp : St.get σ (.t tp) = some (.one (.c (.ptr j 0)))) (hb : St.get σ (.b j) = some (.box cs)) (hq : cs[q]? = some (.ownK v E m (l.map f))) (hmc : Nat.ble j EXT = true) :
    Op1 P n o ⟨(opKey s ++ [.t tp, .b j]) ++ (X.one (iA l.length)).ids.map Key.b, [.t d], []⟩ σ [(.t d, some (.one (iA l.length)))] := by
  have := op_lenK (P := P) (n := n) hd ho hT hs hp hb hq hmc
  rwa [List.length_map] at this
end
end Go.Proofs.YtmanhdacnkpclaaGreat
/- An element taken out of a slice of one's own, in place (slices.Delete), as one step. -/
namespace Go.Proofs.YtmanhdacnkpclaaGreat
set_option linter.all false
open Go.RowKit
def DelC (P : Program) (f : FuncId) (E m : Nat) : Prop :=
  ∀ (w : World) (g n cap i : Nat) (cur : Array Value), w.heap[g]? = some (.cells cur E (0, 0)) → n ≤ cap → cap ≤ maxLen → cur.size = cap * m → (∀ x ∈ cur.toList.take (n * m), x.oneCell' = true) → i < n →
    Calls P f #[.slice (some ⟨g, 0, none⟩) n cap, .int .i64 (i : Int), .int .i64 ((i : Int) + 1)] w fun e w' => e = .returned (.slice (some ⟨g, 0, none⟩) (n - 1) cap) ∧
      ∃ q zs, zs.length = m ∧ w' = ((w.drewN q).setCells g (i * m) ((cur.toList.take (n * m)).drop ((i + 1) * m))).setCells g ((n - 1) * m) zs
section
variable {P : Program} {n : Nat} {o : Oper} {σ : St}
theorem own_core {d E m : Nat} {rs : List D} {k0 : List Key} {C : Ctx} {who : Nat → Tag} {a : Act} {w w' : World} {v v' : Value} (hd : o.dst = some d) (hr : Rep n C who σ a w) (hdn : d < n)
    (hk : ∀ k, v.ownBlock = some k → ∃ t, who k = .own (.t t) 0 0 ∧ Key.t t ∈ k0) (hown' : Own w' 0 E m (Fz who) v' rs) (hg : w.grownBy w' v.ownBlock)
    (hk' : ∀ k, v'.ownBlock = some k → k < w'.heap.size ∧ (some k = v.ownBlock ∨ w.heap.size ≤ k)) :
    Rep n C (tagApp v v' d who) ((.t d, some (.one (.c (.own E m rs)))) :: (k0.map fun k => (k, none)) ++ σ) (a.put o.dst v') w' := by
  have hnf : ∀ k, v.ownBlock = some k → who k ≠ .froz := fun k hk' => by obtain ⟨t, ht, _⟩ := hk k hk'; rw [ht]; simp
  have hstp : Stp who w (tagApp v v' d who) w' (fun b => v.ownBlock = some b) (fun b => v.ownBlock = some b ∨ (v'.ownBlock = some b)) := by
    refine ⟨hg.os, hg.tape, hg.output, hg.size, fun b hb hT => hg.block b hb (fun e => hT e.symm), fun b hb hG => ?_, fun b hb => hnf b hb, fun b hb => ?_⟩
    · have h1 : ¬ v.ownBlock = some b := fun h => hG (.inl h)
      have h2 : ¬ v'.ownBlock = some b := fun h => hG (.inr h)
      simp [tagApp, h1, h2]
    · rcases hb with hb | hb
      · exact hnf b hb
      · rcases (hk' b hb).2 with h | h
        · exact hnf b h.symm
        · intro hf
          have := hr.fz b (by rw [hf]; simp)
          omega
  have hold : ∀ b, b < w.heap.size → (v.ownBlock = some b ∨ v'.ownBlock = some b) → v.ownBlock = some b := fun b hb h => by
    rcases h with h | h
    · exact h
    · rcases (hk' b h).2 with h' | h'
      · exact h'.symm
      · omega
  have htag : ∀ b, (v.ownBlock = some b ∨ v'.ownBlock = some b) → who b ≠ .other → ∃ t, who b = .own (.t t) 0 0 ∧ Key.t t ∈ k0 := fun b h hne => hk b (hold b (hr.fz b hne) h)
  have hkill : ∀ (l : List Key) (k : Key), k ∈ l → St.get (l.map (fun k => (k, none)) ++ σ) k = none := by
    intro l
    induction l with
    | nil => intro k h; cases h
    | cons k' l ih =>
      intro k h
      simp only [List.map_cons, List.cons_append, St.get]
      cases e : Key.is k' k
      · simp only [cond_false]
        refine ih k ?_
        rcases List.mem_cons.1 h with h | h
        · subst h; rw [Key.is_self] at e; cases e
        · exact h
      · rfl
  have hrk : ∀ (l : List Key), Rep n C who (l.map (fun k => (k, none)) ++ σ) a w := by
    intro l
    induction l with
    | nil => exact hr
    | cons k l ih => exact ih.kill k
  have hrep : Rep n C (tagApp v v' d who) (k0.map (fun k => (k, none)) ++ σ) a w' := by
    refine (hrk k0).stp hstp ?_ ?_ ?_ ?_ ?_ ?_ ?_ ?_
    · intro b hb ho'
      have htg := hr.adv.tag b hb (ho'.imp id .inl)
      have hnb : ¬ (v.ownBlock = some b) := fun h => by
        obtain ⟨t, ht, _⟩ := hk b h
        rw [ht] at htg
        rcases ho' with ho' | ho' <;> rw [ho'] at htg <;> cases htg
      exact ⟨hnb, fun h => hnb (hold b (Nat.lt_of_lt_of_le hb hr.adv.size) h)⟩
    · intro b j hb hj hG
      have htg := hr.adv.tag b hb (.inr (.inr ⟨j, hj⟩))
      obtain ⟨t, ht, _⟩ := hk b (hold b (Nat.lt_of_lt_of_le hb hr.adv.size) hG)
      rw [ht, hj] at htg; cases htg
    · intro b hb
      unfold tagApp at hb
      split at hb
      · rename_i h; exact (hk' b h).1
      · split at hb
        · exact absurd rfl hb
        · exact Nat.lt_of_lt_of_le (hr.fz b hb) hg.size
    · intro b b' j hb hb'
      have key : ∀ b, tagApp v v' d who b = .bx j → who b = .bx j := fun b hb => by
        unfold tagApp at hb
        split at hb
        · cases hb
        · split at hb
          · cases hb
          · exact hb
      exact hr.bxu b b' j (key b hb) (key b' hb')
    · intro b k p q hb hTG
      have hG : v.ownBlock = some b ∨ v'.ownBlock = some b := hTG.elim .inl id
      obtain ⟨t, ht, hmem⟩ := htag b hG (by rw [hb]; simp)
      rw [ht] at hb; injection hb with hb; subst hb
      exact hkill k0 _ hmem
    · intro b j hb hG
      obtain ⟨t, ht, _⟩ := htag b hG (by rw [hb]; simp)
      rw [ht] at hb; cases hb
    · intro b j hb hTG
      have hG : v.ownBlock = some b ∨ v'.ownBlock = some b := hTG.elim .inl id
      obtain ⟨t, ht, _⟩ := htag b hG (by rw [hb]; simp)
      rw [ht] at hb; cases hb
    · intro b j hb hnb
      unfold tagApp at hb
      split at hb
      · cases hb
      · split at hb
        · cases hb
        · exact absurd hb hnb
  rw [hd]
  refine hrep.put hdn (x := .one (.c (.own E m rs))) ⟨hown'.wide (fun b hb hF => ?_) (Nat.le_refl _), fun k hk => by simp [tagApp, hk]⟩
  have hlt : b < w.heap.size := hr.fz b (by rw [show who b = .froz from hF]; simp)
  exact hstp.fz b hlt hF
theorem own_erase {w : World} {E m g cap i q : Nat} {F : Nat → Prop} {ds : List D} {xs zs : List Value} {cur : Array Value} (hi : i < ds.length) (hm : ∀ e ∈ ds, e.fc.length = m) (hg : w.heap[g]? = some (.cells cur E (0, 0))) (hlc : ds.length ≤ cap) (hcm : cap ≤ maxLen) (hcs : cur.size = cap * m)
    (htake : cur.toList.take (ds.length * m) = xs) (hxl : xs.length = ds.length * m) (hrds : rds w (fun b => F b ∧ some b ≠ some g) ds xs) (hone : ∀ u ∈ xs, u.oneCell' = true) (hzl : zs.length = m) :
    Own (((w.drewN q).setCells g (i * m) (xs.drop ((i + 1) * m))).setCells g ((ds.length - 1) * m) zs) 0 E m F (.slice (some ⟨g, 0, none⟩) (ds.length - 1) cap) (ds.eraseIdx i) ∧
      w.grownBy (((w.drewN q).setCells g (i * m) (xs.drop ((i + 1) * m))).setCells g ((ds.length - 1) * m) zs) (some g) ∧ g < (((w.drewN q).setCells g (i * m) (xs.drop ((i + 1) * m))).setCells g ((ds.length - 1) * m) zs).heap.size := by
  have hgl : g < w.heap.size := (Array.getElem?_eq_some_iff.1 hg).1
  have hg0 : (w.drewN q).heap[g]? = some (.cells cur.toList.toArray E (0, 0)) := by simpa using hg
  obtain ⟨a1, a2, a3, a4, a5, a6⟩ := setCells_blk (xs.drop ((i + 1) * m)) (w.drewN q) g (i * m) cur.toList E hg0
  obtain ⟨b1, b2, b3, b4, b5, b6⟩ := setCells_blk zs _ g ((ds.length - 1) * m) _ E a1
  have hds : ds = ds.take i ++ ds[i] :: ds.drop (i + 1) := by rw [List.getElem_cons_drop, List.take_append_drop]
  have her : ds.eraseIdx i = ds.take i ++ ds.drop (i + 1) := List.eraseIdx_eq_take_drop_succ ..
  have hel : (ds.eraseIdx i).length = ds.length - 1 := List.length_eraseIdx_of_lt hi
  have hmul : (i + 1) * m = i * m + m := by rw [Nat.add_mul, Nat.one_mul]
  have hnm : ds.length * m = (ds.length - 1) * m + m := by
    have : ds.length = (ds.length - 1) + 1 := by omega
    rw [this, Nat.add_mul, Nat.one_mul]; simp
  have him : i * m + m ≤ ds.length * m := by rw [← hmul]; exact Nat.mul_le_mul_right m (by omega)
  have hcap : ds.length * m ≤ cap * m := Nat.mul_le_mul_right m hlc
  have hclen : cur.toList.length = cap * m := by simpa using hcs
  have hdl : (xs.drop ((i + 1) * m)).length = ds.length * m - (i * m + m) := by rw [List.length_drop, hxl, hmul]
  have hcells : cellsF w (fun b => F b ∧ some b ≠ some g) (fcs (ds.eraseIdx i)) (xs.take (i * m) ++ xs.drop ((i + 1) * m)) := by
    have h1 := rds_iff.1 hrds
    rw [hds, fcs_app] at h1
    obtain ⟨x1, x2, e1, h2, h3⟩ := cellsF_app.1 h1
    have l1 : x1.length = i * m := by
      rw [cellsF_len h2, fcs_len (m := m) fun d hd => hm d (List.mem_of_mem_take hd), List.length_take]
      congr 1; omega
    simp only [fcs] at h3
    obtain ⟨y1, y2, e2, h4, h5⟩ := cellsF_app.1 h3
    have l2 : y1.length = m := by rw [cellsF_len h4]; exact hm _ (List.getElem_mem hi)
    have t1 : xs.take (i * m) = x1 := by rw [e1, ← l1, List.take_left]
    have t2 : xs.drop ((i + 1) * m) = y2 := by
      rw [e1, e2, hmul, ← List.append_assoc]
      have : (x1 ++ y1).length = i * m + m := by rw [List.length_append, l1, l2]
      rw [← this, List.drop_left]
    rw [t1, t2, her, fcs_app]
    exact cellsF_app.2 ⟨_, _, rfl, h2, h5⟩
  have hsz : (((w.drewN q).setCells g (i * m) (xs.drop ((i + 1) * m))).setCells g ((ds.length - 1) * m) zs).heap.size = w.heap.size := b3.trans a3
  have hkeep : ∀ k, k ≠ g → (((w.drewN q).setCells g (i * m) (xs.drop ((i + 1) * m))).setCells g ((ds.length - 1) * m) zs).heap[k]? = w.heap[k]? := fun k hk => (b2 k hk).trans (a2 k hk)
  refine ⟨⟨xs.take (i * m) ++ xs.drop ((i + 1) * m), ⟨?_, .inr ⟨g, cap, _, by rw [hel], Nat.zero_le _, b1, by omega, hcm, ?_, ?_⟩⟩, ?_, ?_⟩, ⟨b4.trans a4, b5.trans a5, b6.trans a6, by rw [hsz]; exact Nat.le_refl _, fun k hk hne => hkeep k fun e => hne (by rw [e])⟩, by rw [hsz]; exact hgl⟩
  · rw [List.length_append, hdl, List.length_take, hxl, hel]; omega
  · simp only [List.size_toArray, splL_len]; exact hclen
  · simp only []
    rw [hel]
    apply List.ext_getElem?
    intro k
    rw [List.getElem?_take]
    have hl1 : i * m + (xs.drop ((i + 1) * m)).length ≤ cur.toList.length := by rw [hdl, hclen]; omega
    have hxk : ∀ k, k < ds.length * m → cur.toList[k]? = xs[k]? := fun k hk => by rw [← htake, List.getElem?_take, if_pos hk]
    split
    · rename_i hk
      rw [splL_get _ _ _ _ (by rw [splL_len, hzl, hclen]; omega), if_neg (by omega), splL_get _ _ _ _ hl1]
      split
      · rename_i hin
        rw [List.getElem?_append_right (by rw [List.length_take]; omega), List.length_take, Nat.min_eq_left (by omega)]
      · rename_i hin
        have : k < i * m := by omega
        rw [List.getElem?_append_left (by rw [List.length_take]; omega), List.getElem?_take, if_pos this]
        exact hxk k (by omega)
    · rename_i hk
      rw [List.getElem?_eq_none]
      rw [List.length_append, hdl, List.length_take, hxl]; omega
  · refine rds.keep (by rw [hsz]; exact Nat.le_refl _) (fun b _ h => h) (fun b _ h => hkeep b fun e => h.2 (by rw [e]; rfl)) _ _ (rds_iff.2 hcells)
  · intro u hu
    rcases List.mem_append.1 hu with h | h
    · exact hone u (List.mem_of_mem_take h)
    · exact hone u (List.mem_of_mem_drop h)
theorem op_del {d t E m i : Nat} {zi zj : Int} {f : FuncId} {fo si sj : Operand} {ts : Array TypeId} {ds rs : List D} (hd : o.dst = some d) (ho : o.op = .call { callee := .value fo, args := #[.tmp t, si, sj], argTypes := ts })
    (hfo : St.ev σ fo = some (.one (.c (.val (.func (.func f) #[] #[]))))) (hf : enters P f = true) (hD : DelC P f E m) (hs : St.get σ (.t t) = some (.one (.c (.own E m ds)))) (hm : ∀ e ∈ ds, e.fc.length = m)
    (hi : St.ev σ si = some (.one (.c (.val (.int .i64 zi))))) (hj : St.ev σ sj = some (.one (.c (.val (.int .i64 zj))))) (hzi : zi = (i : Int)) (hzj : zj = (i : Int) + 1) (hil : i < ds.length) (hc : ds.eraseIdx i = rs) :
    Op1 P n o ⟨opKey fo ++ ([.t t] ++ (opKey si ++ opKey sj)), [.t d, .t t], []⟩ σ [(.t d, some (.one (.c (.own E m rs)))), (.t t, none)] where
  does := fun σ' hag hal C who a w hr hdst K Q hK => by
    subst hc hzi hzj
    have e : a.eval fo = .func (.func f) #[] #[] := hr.ev ((ev_agree fun k hk => hag k (List.mem_append_left _ hk)).trans hfo)
    have ei : a.eval si = .int .i64 (i : Int) := hr.ev ((ev_agree fun k hk => hag k (List.mem_append_right _ (List.mem_append_right _ (List.mem_append_left _ hk)))).trans hi)
    have ej : a.eval sj = .int .i64 ((i : Int) + 1) := hr.ev ((ev_agree fun k hk => hag k (List.mem_append_right _ (List.mem_append_right _ (List.mem_append_right _ hk)))).trans hj)
    have hx := hr.slot t _ ((hag (.t t) (by simp)).trans hs)
    obtain ⟨g1, g2⟩ : Own w 0 E m (Fz who) (a.tmps.getD t undef) ds ∧ ∀ k, (a.tmps.getD t undef).ownBlock = some k → who k = .own (.t t) 0 0 := hx
    obtain ⟨xs, ⟨hxl, hrow⟩, hrds, hone⟩ := g1
    rcases hrow with ⟨_, h0⟩ | ⟨g, cap, cur, hv, _, hg, hlc, hcm, hcs, htake⟩
    · omega
    have et : a.eval (.tmp t) = .slice (some ⟨g, 0, none⟩) ds.length cap := hv
    have hrun : (execOp a.eval o).run P w = .ok (.enter f #[.slice (some ⟨g, 0, none⟩) ds.length cap, .int .i64 (i : Int), .int .i64 ((i : Int) + 1)]) w := by
      simp [execOp, ho, resolve, e, ei, ej, et, Deferred.ofValue, invoke, run_enters hf]
    unfold Oper.wp
    rw [hrun]
    show Calls P f #[.slice (some ⟨g, 0, none⟩) ds.length cap, .int .i64 (i : Int), .int .i64 ((i : Int) + 1)] w _
    have hob : (a.tmps.getD t undef).ownBlock = some g := by rw [hv]; rfl
    refine (hD w g ds.length cap i cur hg hlc hcm hcs (by rw [htake]; exact hone) hil).mono ?_
    rintro e' w' ⟨rfl, q, zs, hzl, rfl⟩
    rw [htake]
    rw [hob] at hrds
    obtain ⟨k1, k2, k3⟩ := own_erase (q := q) (F := Fz who) hil hm hg hlc hcm hcs htake hxl hrds hone hzl
    refine hK (tagApp (a.tmps.getD t undef) (.slice (some ⟨g, 0, none⟩) (ds.length - 1) cap) d who) _ _ ?_
    exact own_core (k0 := [.t t]) hd hr (hdst d hd) (fun k hk => ⟨t, g2 k hk, by simp⟩) k1 (by rw [hob]; exact k2) fun k hk => by
      have hk : some g = some k := hk
      injection hk with hk; subst hk
      exact ⟨k3, .inl (by rw [hob])⟩
  wr := by simp
  me := fun j hj => by simp [St.ids, oids, X.ids, A1.ids, CV.ids] at hj
  al := by simp
end
end Go.Proofs.YtmanhdacnkpclaaGreat
/- A box lent to a call that only looks, by its pointer or by what a function value holds; fields of elements by a known header; known pointers. -/
namespace Go.Proofs.YtmanhdacnkpclaaGreat
set_option linter.all false
open Go.RowKit
section
variable {P : Program} {n : Nat} {o : Oper} {σ : St}
end
end Go.Proofs.YtmanhdacnkpclaaGreat
/- Structs in which slices of the call's own lie: loaded, stored, built around, boxed. -/
namespace Go.Proofs.YtmanhdacnkpclaaGreat
set_option linter.all false
open Go.RowKit
section
variable {P : Program} {n : Nat} {o : Oper} {σ : St} {C : Ctx} {who : Nat → Tag} {a : Act} {w : World}
end
end Go.Proofs.YtmanhdacnkpclaaGreat
/- A slice of one's own that stands in a box, as a box; elements stored in drawn regions. -/
namespace Go.Proofs.YtmanhdacnkpclaaGreat
set_option linter.all false
open Go.RowKit
section
variable {P : Program} {n : Nat} {o : Oper} {σ : St}
theorem dwp_ownBoxB {Q : Exit → St → Prop} {c : Code} {tp b0 q0 T E m : Nat} {cells cells' : List CV} {ds : List D} (hp : St.get σ (.t tp) = some (.one (.c (.ptr b0 0)))) (hbs : St.get σ (.b b0) = some (.box cells)) (hqs : cells[q0]? = some (.own E m ds)) (hn0 : 0 < ds.length) (hm0 : 0 < m) (hids : nomem T (St.ids σ) = true) (hx : Nat.beq T EXT = false) (hmc : Nat.ble T EXT = true)
    (hmb : Nat.ble b0 EXT = true) (hnb : Nat.beq T b0 = false) (hcells : cells.set q0 (.sl T ds.length) = cells')
    (h : ∀ extra, dwp P n c Q ((.b b0, some (.box cells')) :: (.b T, some (.box ((fcs ds).map FC.cv ++ List.replicate extra .any))) :: σ)) : dwp P n c Q σ :=
  fun C who a w hr => by
    subst hcells
    obtain ⟨bb, ebb, hbw⟩ := hr.slot tp _ hp
    obtain ⟨vs0, E0, g1, g2, g3, g4⟩ := box_cell hr hbw hbs hmb
    have hql : q0 < vs0.length := by rw [g2]; exact (List.getElem?_eq_some_iff.1 hqs).1
    have hv0 := List.getElem?_eq_getElem hql
    obtain ⟨hown, htag⟩ : Own w 0 E m (Fz who) vs0[q0] ds ∧ ∀ k, (vs0[q0]).ownBlock = some k → who k = .own (.b b0) 0 q0 := g4 q0 _ _ hqs hv0
    have hTb : T ≠ b0 := fun e => by rw [e] at hnb; simp at hnb
    obtain ⟨xs, ⟨hxl, hrow⟩, hrds, hone⟩ := hown
    rcases hrow with ⟨_, h0⟩ | ⟨g, cap, cur, hv, _, hg, hlc, hcm, hcs, htake⟩
    · omega
    have hgo := htag g (by rw [hv]; rfl)
    have hgl : g < w.heap.size := hr.fz g (by rw [hgo]; simp)
    have hne : T ≠ EXT := fun h => by rw [h] at hx; simp at hx
    have hids' := nomem_iff.1 hids
    have hstp : Stp who w (tagBox T g who) w (fun _ => False) (fun b => b = g ∨ who b = .bx T) :=
      ⟨rfl, rfl, rfl, Nat.le_refl _, fun _ _ _ => rfl, fun b _ hb => tagBox_old (fun h => hb (.inl h)) (fun h => hb (.inr h)), fun _ h => h.elim, fun b hb => by
        rcases hb with rfl | hb
        · rw [hgo]; simp
        · rw [hb]; simp⟩
    have hk0 : ∀ k x, St.get ((.b b0, none) :: (.b T, none) :: σ) k = some x → St.get σ k = some x := fun k x h => by
      simp only [St.get] at h
      cases e1 : Key.is (.b b0) k <;> rw [e1] at h
      · cases e2 : Key.is (.b T) k <;> rw [e2] at h
        · exact h
        · simp at h
      · simp at h
    have hkt : St.get ((.b b0, none) :: (.b T, none) :: σ) (.b b0) = none := St.get_same
    have hkb : St.get ((.b b0, none) :: (.b T, none) :: σ) (.b T) = none := by rw [St.get_ne (by simpa using Ne.symm hTb)]; exact St.get_same
    have hki : T ∉ St.ids ((.b b0, none) :: (.b T, none) :: σ) := by simpa [St.ids, oids] using hids'
    have hbx : ∀ b j, tagBox T g who b = .bx j → (b = g ∧ j = T) ∨ (b ≠ g ∧ who b = .bx j ∧ j ≠ T) := fun b j hb => by
      rcases Classical.em (b = g) with rfl | hne'
      · rw [tagBox_new] at hb; injection hb with hb; exact .inl ⟨rfl, hb.symm⟩
      · rcases Classical.em (who b = .bx T) with hd' | hd'
        · rw [tagBox_gone hne' hd'] at hb; cases hb
        · rw [tagBox_old hne' hd'] at hb
          exact .inr ⟨hne', hb, fun e => hd' (e ▸ hb)⟩
    have h1 : Rep n C (tagBox T g who) ((.b b0, none) :: (.b T, none) :: σ) a w := by
      refine (hr.forget hk0).stp hstp ?_ ?_ ?_ ?_ ?_ ?_ ?_ ?_
      · intro b hb ho
        refine ⟨fun h => h, fun hG => ?_⟩
        have := hr.adv.tag b hb (ho.imp id .inl)
        rcases hG with rfl | hG
        · rw [hgo] at this; rcases ho with ho | ho <;> rw [ho] at this <;> cases this
        · rw [hG] at this; rcases ho with ho | ho <;> rw [ho] at this <;> cases this
      · intro b j hb ho hG
        have := hr.adv.tag b hb (.inr (.inr ⟨j, ho⟩))
        rcases hG with rfl | hG
        · rw [hgo, ho] at this; cases this
        · rw [hG, ho] at this; injection this with this
          exact hne (this.trans (hr.ext b j ho))
      · intro b hb
        rcases Classical.em (who b = .other) with h | h
        · rcases Classical.em (b = g) with rfl | hne'
          · exact hgl
          · rw [tagBox_old hne' (by rw [h]; simp)] at hb; exact absurd h hb
        · exact hr.fz b h
      · intro b b' j hb hb'
        rcases hbx b j hb with ⟨e1, e2⟩ | ⟨e1, e2, e3⟩ <;> rcases hbx b' j hb' with ⟨f1, f2⟩ | ⟨f1, f2, f3⟩
        · rw [e1, f1]
        · exact absurd e2 f3
        · exact absurd f2 e3
        · exact hr.bxu b b' j e2 f2
      · intro b k p q hb hG
        rcases hG with hG | rfl | hG
        · exact hG.elim
        · rw [hgo] at hb; injection hb with hb; subst hb; exact hkt
        · rw [hG] at hb; cases hb
      · intro b j hb hG
        rcases hG with rfl | hG
        · rw [hgo] at hb; cases hb
        · rw [hG] at hb; injection hb with hb; subst hb; exact hki
      · intro b j hb hG
        rcases hG with hG | rfl | hG
        · exact hG.elim
        · rw [hgo] at hb; cases hb
        · rw [hG] at hb; injection hb with hb; have hb := nb_eq (le_ext hmc) hb.symm; subst hb; exact hkb
      · intro b j hb hnb
        rcases hbx b _ hb with ⟨e1, e2⟩ | ⟨e1, e2, e3⟩
        · have e2 := nb_eq (le_ext hmc) e2; subst e2; exact hkb
        · exact absurd e2 hnb
    have hcl := (rds_iff.1 hrds)
    have hfl := cellsF_len hcl
    have h2 := (h1.addBox (j := T) (cs := (fcs ds).map FC.cv ++ List.replicate (cap * m - ds.length * m) .any) fun b hb => by
      rw [bas_of (le_ext hmc)] at hb
      have hbg : b = g := by
        rcases hbx b T hb with ⟨e1, _⟩ | ⟨_, _, e3⟩
        · exact e1
        · exact absurd rfl e3
      subst hbg
      refine ⟨cur.toList, E, by rw [isShp_of hmc]; simpa using hg, ?_, fun q c v hq hv => ?_⟩
      · have : ds.length * m ≤ cap * m := Nat.mul_le_mul_right m hlc
        simp only [Array.length_toList, List.length_append, List.length_map, List.length_replicate, hcs]
        omega
      · rcases Nat.lt_or_ge q (fcs ds).length with hlt | hge
        · rw [List.getElem?_append_left (by simpa using hlt), List.getElem?_map, Option.map_eq_some_iff] at hq
          obtain ⟨c0, hc0, rfl⟩ := hq
          obtain ⟨x, hx1, hx2⟩ := cellsF_at hcl q c0 hc0
          have hxv : x = v := by
            rw [← htake, List.getElem?_take] at hx1
            split at hx1
            · rw [hx1] at hv; injection hv
            · cases hx1
          subst hxv
          have h6 : fcm w (Fz (tagBox T b who)) c0 x := hx2.keep (Nat.le_refl _) (fun b' hb' hF => (hstp.fz b' hb' hF.1)) (fun _ _ _ => rfl)
          exact fcm.toC h6
        · rw [List.getElem?_append_right (by simpa using hge), List.getElem?_replicate] at hq
          split at hq
          · injection hq with hq; subst hq; trivial
          · cases hq)
    have h3 := h2.addBox (j := b0) (cs := cells.set q0 (.sl T ds.length)) fun b hb => by
      rw [bas_of (le_ext hmb)] at hb
      have hbb : b = bb := by
        rcases hbx b b0 hb with ⟨_, e2⟩ | ⟨_, e2, _⟩
        · exact absurd e2.symm hTb
        · exact hr.bxu b bb b0 e2 hbw
      subst hbb
      refine ⟨vs0, E0, by rw [isShp_of hmb]; exact g1, by simpa using g2, fun i c' v' hi hvi => ?_⟩
      rcases Classical.em (q0 = i) with rfl | hne'
      · have hlt2 : q0 < cells.length := (List.getElem?_eq_some_iff.1 hqs).1
        rw [List.getElem?_set_self hlt2] at hi; injection hi with hi; subst hi
        rw [hv0] at hvi; injection hvi with hvi; subst hvi
        exact ⟨g, cap, hv, ⟨hlc, hcm⟩, tagBox_new⟩
      · rw [List.getElem?_set_ne hne'] at hi
        refine cvm.stp (g4 i c' v' hi hvi) hstp hr.fz (fun _ k hk => ⟨fun h => h, fun hG => ?_⟩) (by simp) (fun j hj b' hb' hG => ?_)
        · rcases hG with rfl | hG
          · rw [hgo] at hk; injection hk with _ _ e; exact hne' e
          · rw [hG] at hk; cases hk
        · rcases hG with rfl | hG
          · rw [hgo] at hb'; cases hb'
          · rw [hG] at hb'; injection hb' with hb'; subst hb'
            exact hids' (St.ids_get hbs (List.mem_flatMap.2 ⟨c', List.mem_of_getElem? hi, hj⟩))
    refine h (cap * m - ds.length * m) C (tagBox T g who) a w (h3.congr fun k => ?_)
    simp only [St.get]
    cases e1 : Key.is (.b b0) k
    · cases e2 : Key.is (.b T) k
      · simp
      · simp
    · simp
theorem fc_ids (l : List FC) : (l.map FC.cv).flatMap CV.ids = [] := by
  induction l with
  | nil => rfl
  | cons c l ih =>
    simp only [List.map_cons, List.flatMap_cons, ih, List.append_nil]
    cases c <;> rfl
theorem any_ids (e : Nat) : (List.replicate e CV.any).flatMap CV.ids = [] := by
  induction e with
  | zero => rfl
  | succ e ih => simp only [List.replicate_succ, List.flatMap_cons, ih]; rfl
theorem els_ids {α : Type} (g : α → List FC) (l : List α) (e : Nat) : (els g l e).flatMap CV.ids = [] := by
  unfold els
  rw [List.flatMap_append, fc_ids, any_ids]; rfl
theorem dwp_ownElsB {α : Type} {f : α → D} {m : Nat} {g : α → List FC} [FCs f m g] {Q : Exit → St → Prop} {c : Code} {tp b0 q0 T E m' : Nat} {cells cells' : List CV} {l : List α} (hp : St.get σ (.t tp) = some (.one (.c (.ptr b0 0)))) (hbs : St.get σ (.b b0) = some (.box cells)) (hqs : cells[q0]? = some (.own E m' (l.map f))) (hn0 : 0 < l.length) (hm0 : Nat.blt 0 m' = true)
    (hids : nomem T (St.ids σ) = true) (hx : Nat.beq T EXT = false) (hmc : Nat.ble T EXT = true) (hmb : Nat.ble b0 EXT = true) (hnb : Nat.beq T b0 = false) (hcells : cells.set q0 (.sl T l.length) = cells')
    (h : ∀ e, dwp P n c Q ((.b b0, some (.box cells')) :: (.b T, some (.box (els g l e))) :: σ)) : dwp P n c Q σ := by
  refine dwp_ownBoxB (cells' := cells') hp hbs hqs (by simpa using hn0) (Nat.lt_of_succ_le (Nat.le_of_ble_eq_true hm0)) hids hx hmc hmb hnb (by rw [List.length_map]; exact hcells) fun e => ?_
  have := h e
  unfold els at this
  rw [fcs_map]; exact this
theorem op_storeEl0 {α : Type} {m : Nat} {g : α → List FC} (hF : ∀ a, (g a).length = m) {t j q k e : Nat} {l : List α} (y : α) {s v : Operand} {A : A1} (hd : o.dst = none) (ho : o.op = .store t s v) (hr : rowT P t = some (true, m)) (hs : St.ev σ s = some (.one (.c (.ptr j q)))) (hb : St.get σ (.b j) = some (.box (els g l e)))
    (hv : St.ev σ v = some (.one A)) (hA : A.cells = (g y).map FC.cv) (hn : A.noOwn = true) (hok : A.cells.all CV.oneOk = true) (hq : q = k * m) (hm : Nat.blt 0 m = true) (hk : k < l.length) (hmc : Nat.ble j EXT = true) :
    Op1 P n o ⟨opKey s ++ opKey v ++ [.b j], [.b j], []⟩ σ [(.b j, some (.box (els g (l.set k y) e)))] := by
  have h := op_storeEl (n := n) hF y hd ho hr hs hb hv hA hn hok hq hm hk hmc
  rw [List.flatMap_append, els_ids, fc_ids] at h
  simpa using h
end
end Go.Proofs.YtmanhdacnkpclaaGreat
