/- A pointer that is known, and a copy of it. -/
import Derived.Test.Ytmanhdacnkpclaap6GJ
import Derived.Test.Ytmanhdacnkpclaap6Fd
import Derived.Test.Ytmanhdacnkpclaap6Fc
namespace Go.Proofs.Ytmanhdacnkpclaa
set_option linter.all false
open Go.RowKit

section
variable {P : Program} {n : Nat} {o : Oper} {σ : St}
theorem op_nilBK {d j tp : Nat} {v : Value} {s : Operand} (hd : o.dst = some d) (ho : o.op = .nilCheck s) (hs : St.ev σ s = some (.one (.c (.val v)))) (hk : St.get σ (.t tp) = some (.one (.c (.isB v j)))) :
    Op1 P n o ⟨(opKey s ++ [.t tp]) ++ (X.one (.c (.ptr j 0))).ids.map Key.b, [.t d], []⟩ σ [(.t d, some (.one (.c (.ptr j 0))))] :=
  .value _ hd fun σ' hag C who a w hr => by
    have e : a.eval s = v := hr.ev ((ev_agree fun k hk => hag k (List.mem_append_left _ hk)).trans hs)
    obtain ⟨e2, b, e3, hb⟩ := hr.slot tp _ ((hag (.t tp) (by simp)).trans hk)
    rw [e2] at e3
    subst e3
    exact ⟨_, by simp [execOp, ho, e], b, rfl, hb⟩
theorem op_moveBK {d t j : Nat} {v : Value} (hd : o.dst = some d) (ho : o.op = .move (.tmp t) ∨ o.op = .assign (.tmp t)) (hs : St.get σ (.t t) = some (.one (.c (.isB v j)))) :
    Op1 P n o ⟨[.t t] ++ (X.one (.c (.val v))).ids.map Key.b, [.t d], []⟩ σ [(.t d, some (.one (.c (.val v))))] :=
  .value [.t t] hd fun σ' hag C who a w hr => ⟨a.eval (.tmp t), by rcases ho with ho | ho <;> simp [execOp, ho], (hr.ev (s := .tmp t) ((hag (.t t) (by simp)).trans hs)).1⟩
/-- the length of a slice whose header is known, and that lies in a box -/
theorem op_lenK {T : Tabs P} {d t E0 m0 b0 tp j q E m : Nat} {v : Value} {s : Operand} {cs : List CV} {ds : List D} (hd : o.dst = some d) (ho : o.op = .call { callee := .builtin .len, args := #[s], argTypes := #[t] }) (hT : T.sl t = some (E0, m0, b0)) (hs : St.ev σ s = some (.one (.c (.val v))))
    (hp : St.get σ (.t tp) = some (.one (.c (.ptr j 0)))) (hb : St.get σ (.b j) = some (.box cs)) (hq : cs[q]? = some (.ownK v E m ds)) (hmc : Nat.ble j EXT = true) :
    Op1 P n o ⟨(opKey s ++ [.t tp, .b j]) ++ (X.one (iA ds.length)).ids.map Key.b, [.t d], []⟩ σ [(.t d, some (.one (iA ds.length)))] :=
  .value _ hd fun σ' hag C who a w hr => by
    obtain ⟨z, hzz⟩ := T.sl_ok hT
    have e : a.eval s = v := hr.ev ((ev_agree fun k hk => hag k (List.mem_append_left _ hk)).trans hs)
    obtain ⟨b, _, hbw⟩ := hr.slot tp _ ((hag (.t tp) (by simp)).trans hp)
    obtain ⟨vs, E', h1, h2, h3, h4⟩ := box_cell hr hbw ((hag (.b j) (by simp)).trans hb) hmc
    have hlt : q < vs.length := by rw [h2]; exact (List.getElem?_eq_some_iff.1 hq).1
    obtain ⟨e2, h5⟩ := h4 q _ _ hq (List.getElem?_eq_getElem hlt)
    have hl : ∃ ad cap, v = .slice ad ds.length cap := by
      obtain ⟨⟨xs, ⟨_, h7⟩, _⟩, _⟩ := h5
      rw [e2] at h7
      rcases h7 with ⟨h7, h8⟩ | ⟨g, cap, cur, h7, _⟩
      · exact ⟨none, 0, by rw [h7, h8]⟩
      · exact ⟨_, cap, h7⟩
    obtain ⟨ad, cap, hv⟩ := hl
    rw [hv] at e
    refine ⟨_, ?_, rfl⟩
    simp [execOp, ho, e, resolve, invoke, builtin, Builtin.len_, run_underlying hzz.und, goInt]
/-- the place of a cell of a slice's block -/
def elP (v : Value) (q : Nat) : Value := match v with
  | .slice (some a) _ _ => .pointer (some ⟨a.block, q, none⟩)
  | _ => .pointer none
/-- what a known header, that lies in a box, says -/
theorem own_head {σ' : St} {C : Ctx} {who : Nat → Tag} {a : Act} {w : World} {tp j q E m : Nat} {v : Value} {cs : List CV} {ds : List D} (hr : Rep n C who σ' a w) (hp : St.get σ' (.t tp) = some (.one (.c (.ptr j 0)))) (hb : St.get σ' (.b j) = some (.box cs)) (hq : cs[q]? = some (.ownK v E m ds)) (hmc : Nat.ble j EXT = true) (h0 : 0 < ds.length) :
    ∃ gg cap xs, v = .slice (some ⟨gg, 0, none⟩) ds.length cap ∧ (∀ i x, xs[i]? = some x → w.cell? ⟨gg, i, none⟩ = some x) ∧ cellsF w (Fz who) (fcs ds) xs := by
  obtain ⟨b, _, hbw⟩ := hr.slot tp _ hp
  obtain ⟨vs, E', h1, h2, h3, h4⟩ := box_cell hr hbw hb hmc
  have hlt : q < vs.length := by rw [h2]; exact (List.getElem?_eq_some_iff.1 hq).1
  obtain ⟨e2, h5⟩ := h4 q _ _ hq (List.getElem?_eq_getElem hlt)
  obtain ⟨⟨xs, ⟨h6, h7⟩, h8, h9⟩, _⟩ := h5
  rw [e2] at h7 h8
  rcases h7 with ⟨_, h8⟩ | ⟨gg, cap, cur, h7, _, hh, _, _, _, htk⟩
  · omega
  · refine ⟨gg, cap, xs, h7, fun i x hx => ?_, ?_⟩
    · rw [← htk] at hx
      have hi : cur.toList[i]? = some x := by
        rw [List.getElem?_take] at hx
        split at hx
        · exact hx
        · cases hx
      simp only [World.cell?, hh]
      simpa using hi
    · have h10 := rds_iff.1 h8
      refine cellsF_mk (cellsF_len h10) fun i c x hc hx => ?_
      obtain ⟨x', hx', hf⟩ := cellsF_at h10 i c hc
      rw [hx] at hx'; injection hx' with hx'; subst hx'
      exact hf.keep (Nat.le_refl _) (fun b _ hF => hF.1) fun b _ _ => rfl
theorem op_idxK {T : Tabs P} {d t E0 m0 b0 tp j q E m k q' : Nat} {v : Value} {s i : Operand} {kk : IntKind} {zi : Int} {cs : List CV} {ds : List D} (hd : o.dst = some d) (ho : o.op = .indexAddr t s i) (hT : T.sl t = some (E0, m0, b0)) (hs : St.ev σ s = some (.one (.c (.val v)))) (hi : St.ev σ i = some (.one (.c (.val (.int kk zi)))))
    (hp : St.get σ (.t tp) = some (.one (.c (.ptr j 0)))) (hb : St.get σ (.b j) = some (.box cs)) (hq : cs[q]? = some (.ownK v E m ds)) (hmc : Nat.ble j EXT = true) (hz : zi = (k : Int)) (hk : k < ds.length) (hq' : k * m0 = q') :
    Op1 P n o ⟨((opKey s ++ opKey i) ++ [.t tp, .b j]) ++ (X.one (.c (.val (elP v q')))).ids.map Key.b, [.t d], []⟩ σ [(.t d, some (.one (.c (.val (elP v q')))))] :=
  .value _ hd fun σ' hag C who a w hr => by
    obtain ⟨z, hzz⟩ := T.sl_ok hT
    have e : a.eval s = v := hr.ev ((ev_agree fun k hk => hag k (List.mem_append_left _ (List.mem_append_left _ hk))).trans hs)
    have e2 : a.eval i = .int kk zi := hr.ev ((ev_agree fun k hk => hag k (List.mem_append_left _ (List.mem_append_right _ hk))).trans hi)
    obtain ⟨gg, cap, xs, hv, _, _⟩ := own_head hr ((hag (.t tp) (by simp)).trans hp) ((hag (.b j) (by simp)).trans hb) hq hmc (by omega)
    obtain ⟨i', hi', hz0, hz1, hz2⟩ := info_parts hzz.info
    subst hz hq'
    refine ⟨.pointer (some ⟨gg, k * m0, none⟩), ?_, by rw [hv]; rfl⟩
    rw [hv] at e
    simp [execOp, ho, e, e2, Instr.indexAt, run_underlying hzz.und, asIntOf, sizeOf, typeInfo, hi', hz1, hk, add_lit]
theorem flat1 {α : Type} {g : α → List FC} (h : ∀ x, (g x).length = 1) : ∀ {l : List α} {k : Nat} {x : α} {c : FC}, l[k]? = some x → g x = [c] → (l.flatMap g)[k]? = some c
  | [], k, x, c, hx, _ => by simp at hx
  | y :: l, 0, x, c, hx, hg => by simp at hx; subst hx; simp [hg]
  | y :: l, k + 1, x, c, hx, hg => by
    have h1 := h y
    match hy : g y, h1 with
    | [c'], _ =>
      simp only [List.getElem?_cons_succ] at hx
      have := flat1 h hx hg
      simpa [List.flatMap_cons, hy] using this
theorem op_loadKE {α : Type} {f : α → D} {g : α → List FC} [FCs f 1 g] {d t tp j q E m k : Nat} {v : Value} {s : Operand} {cs : List CV} {l : List α} {x : α} {c : FC} {c' : CV} (hd : o.dst = some d) (ho : o.op = .load t s) (hrw : rowT P t = some (false, 1)) (hs : St.ev σ s = some (.one (.c (.val (elP v k)))))
    (hp : St.get σ (.t tp) = some (.one (.c (.ptr j 0)))) (hb : St.get σ (.b j) = some (.box cs)) (hq : cs[q]? = some (.ownK v E m (l.map f))) (hmc : Nat.ble j EXT = true) (hx : l[k]? = some x) (hg : g x = [c]) (hc : c.cv = c') :
    Op1 P n o ⟨(opKey s ++ [.t tp, .b j]) ++ (X.one (.c c')).ids.map Key.b, [.t d], []⟩ σ [(.t d, some (.one (.c c')))] :=
  .value _ hd fun σ' hag C who a w hr => by
    have e : a.eval s = elP v k := hr.ev ((ev_agree fun k hk => hag k (List.mem_append_left _ hk)).trans hs)
    have hk : k < l.length := (List.getElem?_eq_some_iff.1 hx).1
    obtain ⟨gg, cap, xs, hv, hcell, hF⟩ := own_head hr ((hag (.t tp) (by simp)).trans hp) ((hag (.b j) (by simp)).trans hb) hq hmc (by simp; omega)
    rw [hv] at e
    have e : a.eval s = .pointer (some ⟨gg, k, none⟩) := e
    rw [fcs_map] at hF
    obtain ⟨y, hy, hf⟩ := cellsF_at hF k c (flat1 (fun x => FCs.len (f := f) x) hx hg)
    subst hc
    exact ⟨y, by simp [execOp, ho, e, run_load1 hrw (hcell k y hy)], by cases c <;> exact hf⟩
theorem op_lenKT {T : Tabs P} {α : Type} {f : α → D} {d t E0 m0 b0 tp j q E m : Nat} {v : Value} {s : Operand} {cs : List CV} {l : List α} (hd : o.dst = some d) (ho : o.op = .call { callee := .builtin .len, args := #[s], argTypes := #[t] }) (hT : T.sl t = some (E0, m0, b0)) (hs : St.ev σ s = some (.one (.c (.val v))))
    (hp : St.get σ (.t tp) = some (.one (.c (.ptr j 0)))) (hb : St.get σ (.b j) = some (.box cs)) (hq : cs[q]? = some (.ownK v E m (l.map f))) (hmc : Nat.ble j EXT = true) :
    Op1 P n o ⟨(opKey s ++ [.t tp, .b j]) ++ (X.one (iA l.length)).ids.map Key.b, [.t d], []⟩ σ [(.t d, some (.one (iA l.length)))] := by
  have := op_lenK (P := P) (n := n) hd ho hT hs hp hb hq hmc
  rwa [List.length_map] at this
end
end Go.Proofs.Ytmanhdacnkpclaa
