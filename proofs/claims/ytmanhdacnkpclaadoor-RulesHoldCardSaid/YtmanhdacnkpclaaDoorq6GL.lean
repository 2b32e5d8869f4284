/- An element taken out of a slice of one's own, in place (slices.Delete), as one step. -/
import Derived.Test.YtmanhdacnkpclaaDoorq6GJ
namespace Go.Proofs.YtmanhdacnkpclaaDoor
set_option linter.all false
open Go.RowKit

/-- what a function that takes one element out, in place, does to a row that nobody else holds -/
def DelC (P : Program) (f : FuncId) (E m : Nat) : Prop :=
  ∀ (w : World) (g n cap i : Nat) (cur : Array Value), w.heap[g]? = some (.cells cur E (0, 0)) → n ≤ cap → cap ≤ maxLen → cur.size = cap * m → (∀ x ∈ cur.toList.take (n * m), x.oneCell' = true) → i < n →
    Calls P f #[.slice (some ⟨g, 0, none⟩) n cap, .int .i64 (i : Int), .int .i64 ((i : Int) + 1)] w fun e w' => e = .returned (.slice (some ⟨g, 0, none⟩) (n - 1) cap) ∧
      ∃ q zs, zs.length = m ∧ w' = ((w.drewN q).setCells g (i * m) ((cur.toList.take (n * m)).drop ((i + 1) * m))).setCells g ((n - 1) * m) zs

section
variable {P : Program} {n : Nat} {o : Oper} {σ : St}
/-- a slice of the call's own is given for another one, which may lie in its block -/
theorem own_core {d E m : Nat} {rs : List D} {k0 : List Key} {C : Ctx} {who : Nat → Tag} {a : Act} {w w' : World} {v v' : Value} (hd : o.dst = some d) (hr : Rep n C who σ a w) (hdn : d < n)
    (hk : ∀ k, v.ownBlock = some k → ∃ t, who k = .own (.t t) 0 0 ∧ Key.t t ∈ k0) (hown' : Own w' 0 E m (Fz who) v' rs) (hg : w.grownBy w' v.ownBlock)
    (hk' : ∀ k, v'.ownBlock = some k → k < w'.heap.size ∧ (some k = v.ownBlock ∨ w.heap.size ≤ k)) :
    Rep n C (tagApp v v' d who) ((.t d, some (.one (.c (.own E m rs)))) :: (k0.map fun k => (k, none)) ++ σ) (a.put o.dst v') w' := by
  have hnf : ∀ k, v.ownBlock = some k → who k ≠ .froz := fun k hk' => by obtain ⟨t, ht, _⟩ := hk k hk'; rw [ht]; simp
  have hstp : Stp who w (tagApp v v' d who) w' (fun b => v.ownBlock = some b) (fun b => v.ownBlock = some b ∨ (v'.ownBlock = some b)) := by
    refine ⟨hg.os, hg.tape, hg.output, hg.size, fun b hb hT => hg.block b hb (fun e => hT e.symm), fun b hb hG => ?_, fun b hb => hnf b hb, fun b hb => ?_⟩
    · have h1 : ¬ v.ownBlock = some b := fun h => hG (.inl h)
      have h2 : ¬ v'.ownBlock = some b := fun h => hG (.inr h)
      simp [tagApp, h1, h2]
    · rcases hb with hb | hb
      · exact hnf b hb
      · rcases (hk' b hb).2 with h | h
        · exact hnf b h.symm
        · intro hf
          have := hr.fz b (by rw [hf]; simp)
          omega
  have hold : ∀ b, b < w.heap.size → (v.ownBlock = some b ∨ v'.ownBlock = some b) → v.ownBlock = some b := fun b hb h => by
    rcases h with h | h
    · exact h
    · rcases (hk' b h).2 with h' | h'
      · exact h'.symm
      · omega
  have htag : ∀ b, (v.ownBlock = some b ∨ v'.ownBlock = some b) → who b ≠ .other → ∃ t, who b = .own (.t t) 0 0 ∧ Key.t t ∈ k0 := fun b h hne => hk b (hold b (hr.fz b hne) h)
  have hkill : ∀ (l : List Key) (k : Key), k ∈ l → St.get (l.map (fun k => (k, none)) ++ σ) k = none := by
    intro l
    induction l with
    | nil => intro k h; cases h
    | cons k' l ih =>
      intro k h
      simp only [List.map_cons, List.cons_append, St.get]
      cases e : Key.is k' k
      · simp only [cond_false]
        refine ih k ?_
        rcases List.mem_cons.1 h with h | h
        · subst h; rw [Key.is_self] at e; cases e
        · exact h
      · rfl
  have hrk : ∀ (l : List Key), Rep n C who (l.map (fun k => (k, none)) ++ σ) a w := by
    intro l
    induction l with
    | nil => exact hr
    | cons k l ih => exact ih.kill k
  have hrep : Rep n C (tagApp v v' d who) (k0.map (fun k => (k, none)) ++ σ) a w' := by
    refine (hrk k0).stp hstp ?_ ?_ ?_ ?_ ?_ ?_ ?_ ?_
    · intro b hb ho'
      have htg := hr.adv.tag b hb (ho'.imp id .inl)
      have hnb : ¬ (v.ownBlock = some b) := fun h => by
        obtain ⟨t, ht, _⟩ := hk b h
        rw [ht] at htg
        rcases ho' with ho' | ho' <;> rw [ho'] at htg <;> cases htg
      exact ⟨hnb, fun h => hnb (hold b (Nat.lt_of_lt_of_le hb hr.adv.size) h)⟩
    · intro b j hb hj hG
      have htg := hr.adv.tag b hb (.inr (.inr ⟨j, hj⟩))
      obtain ⟨t, ht, _⟩ := hk b (hold b (Nat.lt_of_lt_of_le hb hr.adv.size) hG)
      rw [ht, hj] at htg; cases htg
    · intro b hb
      unfold tagApp at hb
      split at hb
      · rename_i h; exact (hk' b h).1
      · split at hb
        · exact absurd rfl hb
        · exact Nat.lt_of_lt_of_le (hr.fz b hb) hg.size
    · intro b b' j hb hb'
      have key : ∀ b, tagApp v v' d who b = .bx j → who b = .bx j := fun b hb => by
        unfold tagApp at hb
        split at hb
        · cases hb
        · split at hb
          · cases hb
          · exact hb
      exact hr.bxu b b' j (key b hb) (key b' hb')
    · intro b k p q hb hTG
      have hG : v.ownBlock = some b ∨ v'.ownBlock = some b := hTG.elim .inl id
      obtain ⟨t, ht, hmem⟩ := htag b hG (by rw [hb]; simp)
      rw [ht] at hb; injection hb with hb; subst hb
      exact hkill k0 _ hmem
    · intro b j hb hG
      obtain ⟨t, ht, _⟩ := htag b hG (by rw [hb]; simp)
      rw [ht] at hb; cases hb
    · intro b j hb hTG
      have hG : v.ownBlock = some b ∨ v'.ownBlock = some b := hTG.elim .inl id
      obtain ⟨t, ht, _⟩ := htag b hG (by rw [hb]; simp)
      rw [ht] at hb; cases hb
    · intro b j hb hnb
      unfold tagApp at hb
      split at hb
      · cases hb
      · split at hb
        · cases hb
        · exact absurd hb hnb
  rw [hd]
  refine hrep.put hdn (x := .one (.c (.own E m rs))) ⟨hown'.wide (fun b hb hF => ?_) (Nat.le_refl _), fun k hk => by simp [tagApp, hk]⟩
  have hlt : b < w.heap.size := hr.fz b (by rw [show who b = .froz from hF]; simp)
  exact hstp.fz b hlt hF

/-- the row with one element less -/
theorem own_erase {w : World} {E m g cap i q : Nat} {F : Nat → Prop} {ds : List D} {xs zs : List Value} {cur : Array Value} (hi : i < ds.length) (hm : ∀ e ∈ ds, e.fc.length = m) (hg : w.heap[g]? = some (.cells cur E (0, 0))) (hlc : ds.length ≤ cap) (hcm : cap ≤ maxLen) (hcs : cur.size = cap * m)
    (htake : cur.toList.take (ds.length * m) = xs) (hxl : xs.length = ds.length * m) (hrds : rds w (fun b => F b ∧ some b ≠ some g) ds xs) (hone : ∀ u ∈ xs, u.oneCell' = true) (hzl : zs.length = m) :
    Own (((w.drewN q).setCells g (i * m) (xs.drop ((i + 1) * m))).setCells g ((ds.length - 1) * m) zs) 0 E m F (.slice (some ⟨g, 0, none⟩) (ds.length - 1) cap) (ds.eraseIdx i) ∧
      w.grownBy (((w.drewN q).setCells g (i * m) (xs.drop ((i + 1) * m))).setCells g ((ds.length - 1) * m) zs) (some g) ∧ g < (((w.drewN q).setCells g (i * m) (xs.drop ((i + 1) * m))).setCells g ((ds.length - 1) * m) zs).heap.size := by
  have hgl : g < w.heap.size := (Array.getElem?_eq_some_iff.1 hg).1
  have hg0 : (w.drewN q).heap[g]? = some (.cells cur.toList.toArray E (0, 0)) := by simpa using hg
  obtain ⟨a1, a2, a3, a4, a5, a6⟩ := setCells_blk (xs.drop ((i + 1) * m)) (w.drewN q) g (i * m) cur.toList E hg0
  obtain ⟨b1, b2, b3, b4, b5, b6⟩ := setCells_blk zs _ g ((ds.length - 1) * m) _ E a1
  have hds : ds = ds.take i ++ ds[i] :: ds.drop (i + 1) := by rw [List.getElem_cons_drop, List.take_append_drop]
  have her : ds.eraseIdx i = ds.take i ++ ds.drop (i + 1) := List.eraseIdx_eq_take_drop_succ ..
  have hel : (ds.eraseIdx i).length = ds.length - 1 := List.length_eraseIdx_of_lt hi
  have hmul : (i + 1) * m = i * m + m := by rw [Nat.add_mul, Nat.one_mul]
  have hnm : ds.length * m = (ds.length - 1) * m + m := by
    have : ds.length = (ds.length - 1) + 1 := by omega
    rw [this, Nat.add_mul, Nat.one_mul]; simp
  have him : i * m + m ≤ ds.length * m := by rw [← hmul]; exact Nat.mul_le_mul_right m (by omega)
  have hcap : ds.length * m ≤ cap * m := Nat.mul_le_mul_right m hlc
  have hclen : cur.toList.length = cap * m := by simpa using hcs
  have hdl : (xs.drop ((i + 1) * m)).length = ds.length * m - (i * m + m) := by rw [List.length_drop, hxl, hmul]
  have hcells : cellsF w (fun b => F b ∧ some b ≠ some g) (fcs (ds.eraseIdx i)) (xs.take (i * m) ++ xs.drop ((i + 1) * m)) := by
    have h1 := rds_iff.1 hrds
    rw [hds, fcs_app] at h1
    obtain ⟨x1, x2, e1, h2, h3⟩ := cellsF_app.1 h1
    have l1 : x1.length = i * m := by
      rw [cellsF_len h2, fcs_len (m := m) fun d hd => hm d (List.mem_of_mem_take hd), List.length_take]
      congr 1; omega
    simp only [fcs] at h3
    obtain ⟨y1, y2, e2, h4, h5⟩ := cellsF_app.1 h3
    have l2 : y1.length = m := by rw [cellsF_len h4]; exact hm _ (List.getElem_mem hi)
    have t1 : xs.take (i * m) = x1 := by rw [e1, ← l1, List.take_left]
    have t2 : xs.drop ((i + 1) * m) = y2 := by
      rw [e1, e2, hmul, ← List.append_assoc]
      have : (x1 ++ y1).length = i * m + m := by rw [List.length_append, l1, l2]
      rw [← this, List.drop_left]
    rw [t1, t2, her, fcs_app]
    exact cellsF_app.2 ⟨_, _, rfl, h2, h5⟩
  have hsz : (((w.drewN q).setCells g (i * m) (xs.drop ((i + 1) * m))).setCells g ((ds.length - 1) * m) zs).heap.size = w.heap.size := b3.trans a3
  have hkeep : ∀ k, k ≠ g → (((w.drewN q).setCells g (i * m) (xs.drop ((i + 1) * m))).setCells g ((ds.length - 1) * m) zs).heap[k]? = w.heap[k]? := fun k hk => (b2 k hk).trans (a2 k hk)
  refine ⟨⟨xs.take (i * m) ++ xs.drop ((i + 1) * m), ⟨?_, .inr ⟨g, cap, _, by rw [hel], Nat.zero_le _, b1, by omega, hcm, ?_, ?_⟩⟩, ?_, ?_⟩, ⟨b4.trans a4, b5.trans a5, b6.trans a6, by rw [hsz]; exact Nat.le_refl _, fun k hk hne => hkeep k fun e => hne (by rw [e])⟩, by rw [hsz]; exact hgl⟩
  · rw [List.length_append, hdl, List.length_take, hxl, hel]; omega
  · simp only [List.size_toArray, splL_len]; exact hclen
  · simp only []
    rw [hel]
    apply List.ext_getElem?
    intro k
    rw [List.getElem?_take]
    have hl1 : i * m + (xs.drop ((i + 1) * m)).length ≤ cur.toList.length := by rw [hdl, hclen]; omega
    have hxk : ∀ k, k < ds.length * m → cur.toList[k]? = xs[k]? := fun k hk => by rw [← htake, List.getElem?_take, if_pos hk]
    split
    · rename_i hk
      rw [splL_get _ _ _ _ (by rw [splL_len, hzl, hclen]; omega), if_neg (by omega), splL_get _ _ _ _ hl1]
      split
      · rename_i hin
        rw [List.getElem?_append_right (by rw [List.length_take]; omega), List.length_take, Nat.min_eq_left (by omega)]
      · rename_i hin
        have : k < i * m := by omega
        rw [List.getElem?_append_left (by rw [List.length_take]; omega), List.getElem?_take, if_pos this]
        exact hxk k (by omega)
    · rename_i hk
      rw [List.getElem?_eq_none]
      rw [List.length_append, hdl, List.length_take, hxl]; omega
  · refine rds.keep (by rw [hsz]; exact Nat.le_refl _) (fun b _ h => h) (fun b _ h => hkeep b fun e => h.2 (by rw [e]; rfl)) _ _ (rds_iff.2 hcells)
  · intro u hu
    rcases List.mem_append.1 hu with h | h
    · exact hone u (List.mem_of_mem_take h)
    · exact hone u (List.mem_of_mem_drop h)

theorem op_del {d t E m i : Nat} {zi zj : Int} {f : FuncId} {fo si sj : Operand} {ts : Array TypeId} {ds rs : List D} (hd : o.dst = some d) (ho : o.op = .call { callee := .value fo, args := #[.tmp t, si, sj], argTypes := ts })
    (hfo : St.ev σ fo = some (.one (.c (.val (.func (.func f) #[] #[]))))) (hf : enters P f = true) (hD : DelC P f E m) (hs : St.get σ (.t t) = some (.one (.c (.own E m ds)))) (hm : ∀ e ∈ ds, e.fc.length = m)
    (hi : St.ev σ si = some (.one (.c (.val (.int .i64 zi))))) (hj : St.ev σ sj = some (.one (.c (.val (.int .i64 zj))))) (hzi : zi = (i : Int)) (hzj : zj = (i : Int) + 1) (hil : i < ds.length) (hc : ds.eraseIdx i = rs) :
    Op1 P n o ⟨opKey fo ++ ([.t t] ++ (opKey si ++ opKey sj)), [.t d, .t t], []⟩ σ [(.t d, some (.one (.c (.own E m rs)))), (.t t, none)] where
  does := fun σ' hag hal C who a w hr hdst K Q hK => by
    subst hc hzi hzj
    have e : a.eval fo = .func (.func f) #[] #[] := hr.ev ((ev_agree fun k hk => hag k (List.mem_append_left _ hk)).trans hfo)
    have ei : a.eval si = .int .i64 (i : Int) := hr.ev ((ev_agree fun k hk => hag k (List.mem_append_right _ (List.mem_append_right _ (List.mem_append_left _ hk)))).trans hi)
    have ej : a.eval sj = .int .i64 ((i : Int) + 1) := hr.ev ((ev_agree fun k hk => hag k (List.mem_append_right _ (List.mem_append_right _ (List.mem_append_right _ hk)))).trans hj)
    have hx := hr.slot t _ ((hag (.t t) (by simp)).trans hs)
    obtain ⟨g1, g2⟩ : Own w 0 E m (Fz who) (a.tmps.getD t undef) ds ∧ ∀ k, (a.tmps.getD t undef).ownBlock = some k → who k = .own (.t t) 0 0 := hx
    obtain ⟨xs, ⟨hxl, hrow⟩, hrds, hone⟩ := g1
    rcases hrow with ⟨_, h0⟩ | ⟨g, cap, cur, hv, _, hg, hlc, hcm, hcs, htake⟩
    · omega
    have et : a.eval (.tmp t) = .slice (some ⟨g, 0, none⟩) ds.length cap := hv
    have hrun : (execOp a.eval o).run P w = .ok (.enter f #[.slice (some ⟨g, 0, none⟩) ds.length cap, .int .i64 (i : Int), .int .i64 ((i : Int) + 1)]) w := by
      simp [execOp, ho, resolve, e, ei, ej, et, Deferred.ofValue, invoke, run_enters hf]
    unfold Oper.wp
    rw [hrun]
    show Calls P f #[.slice (some ⟨g, 0, none⟩) ds.length cap, .int .i64 (i : Int), .int .i64 ((i : Int) + 1)] w _
    have hob : (a.tmps.getD t undef).ownBlock = some g := by rw [hv]; rfl
    refine (hD w g ds.length cap i cur hg hlc hcm hcs (by rw [htake]; exact hone) hil).mono ?_
    rintro e' w' ⟨rfl, q, zs, hzl, rfl⟩
    rw [htake]
    rw [hob] at hrds
    obtain ⟨k1, k2, k3⟩ := own_erase (q := q) (F := Fz who) hil hm hg hlc hcm hcs htake hxl hrds hone hzl
    refine hK (tagApp (a.tmps.getD t undef) (.slice (some ⟨g, 0, none⟩) (ds.length - 1) cap) d who) _ _ ?_
    exact own_core (k0 := [.t t]) hd hr (hdst d hd) (fun k hk => ⟨t, g2 k hk, by simp⟩) k1 (by rw [hob]; exact k2) fun k hk => by
      have hk : some g = some k := hk
      injection hk with hk; subst hk
      exact ⟨k3, .inl (by rw [hob])⟩
  wr := by simp
  me := fun j hj => by simp [St.ids, oids, X.ids, A1.ids, CV.ids] at hj
  al := by simp
end
end Go.Proofs.YtmanhdacnkpclaaDoor
