/- More operations for walks over abstract states. -/
import Derived.Test.YtmanhdacnkpclaaGW
namespace Go.Proofs.Ytmanhdacnkpclaa
set_option linter.unusedVariables false
set_option linter.unusedSimpArgs false
open Go.RowKit

section
variable {P : Program} {n : Nat} {o : Oper} {σ : St}
/-- the empty slice literal -/
theorem op_lit0 {d T E m by_ : Nat} {z : Value} (hd : o.dst = some d) (ho : o.op = .buildSlice T 0 #[]) (hT : SliceOf P T E m by_ z) : Op1 P n o ⟨[], [.t d], []⟩ σ [(.t d, some (.one (.c (.own E m []))))] where
  does := fun σ' hag hal C who a w hr hdst K Q hK => by
    obtain ⟨i', hi', hz0, hz1, hz2⟩ := info_parts hT.info
    have hrun : (execOp a.eval o).run P w = .ok (.value (.slice (some ⟨w.heap.size, 0, none⟩) 0 0)) (w.alloc (.cells #[] E)) := by
      simp [execOp, ho, Instr.buildSlice, run_underlying hT.und, sizeOf, typeInfo, hi', Instr.fill, newRow]
      have : Array.range 0 = #[] := by decide
      rw [this, Array.map_empty]
    unfold Oper.wp
    rw [hrun]
    show K (a.put o.dst _) _
    have hnew : who w.heap.size = .other := by
      rcases Classical.em (who w.heap.size = .other) with h | h
      · exact h
      · exact absurd (hr.fz _ h) (Nat.lt_irrefl _)
    have hstp : Stp who w (fun b => if b = w.heap.size then .own (.t d) 0 0 else who b) (w.alloc (.cells #[] E)) (fun _ => False) (fun _ => False) :=
      ⟨rfl, rfl, rfl, by simp, fun b hb _ => Below.heap_alloc w _ b hb, fun b hb _ => by rw [if_neg (by omega)], fun _ h => h.elim, fun _ h => h.elim⟩
    refine hK (fun b => if b = w.heap.size then .own (.t d) 0 0 else who b) _ _ ?_
    rw [hd]
    have hr1 := hr.stp hstp (fun _ _ _ => ⟨fun h => h, fun h => h⟩) (fun _ _ _ _ h => h) (fun b hb => by
      split at hb
      · rename_i h; subst h; simp
      · have := hr.fz b hb; simp; omega) (fun b b' j hb hb' => by
      split at hb
      · cases hb
      · split at hb'
        · cases hb'
        · exact hr.bxu b b' j hb hb') (fun _ _ _ _ _ h => by rcases h with h | h <;> exact h.elim) (fun _ _ _ h => h.elim) (fun _ _ _ h => by rcases h with h | h <;> exact h.elim) (fun b j hb hnb => by
      split at hb
      · cases hb
      · exact absurd hb hnb)
    refine hr1.put (hdst d hd) (x := .one (.c (.own E m []))) ⟨Own.lit0 (Nat.zero_le _), fun k hk => ?_⟩
    simp only [Value.ownBlock, Option.some.injEq] at hk
    subst hk; simp
  wr := by simp
  me := fun j hj => by simp [St.ids, oids, X.ids, A1.ids, CV.ids] at hj
  al := by simp
/-- a place in an array variable -/
theorem op_idxB {d T E m len j q q' k : Nat} {s i : Operand} {kk : IntKind} {zi : Int} (hd : o.dst = some d) (ho : o.op = .indexAddr T s i) (hT : P.underlying T = some (.array len E)) (hE : (P.info? E).map (·.size) = some m) (hs : St.ev σ s = some (.one (.c (.ptr j q))))
    (hi : St.ev σ i = some (.one (.c (.val (.int kk zi))))) (hz : zi = (k : Int)) (hk : k < len) (hq : q + k * m = q') :
    Op1 P n o ⟨(opKey s ++ opKey i) ++ (X.one (.c (.ptr j q'))).ids.map Key.b, [.t d], []⟩ σ [(.t d, some (.one (.c (.ptr j q'))))] :=
  .value _ hd fun σ' hag C who a w hrp => by
    have e2 : a.eval i = .int kk zi := hrp.ev ((ev_agree fun k hk => hag k (List.mem_append_right _ hk)).trans hi)
    obtain ⟨b, e, hb⟩ := hrp.ev ((ev_agree fun k hk => hag k (List.mem_append_left _ hk)).trans hs)
    subst hq hz
    obtain ⟨i', hi', hsz⟩ := Option.map_eq_some_iff.1 hE
    refine ⟨.pointer (some ⟨b, q + k * m, none⟩), ?_, b, rfl, hb⟩
    simp [execOp, ho, e, e2, Instr.indexAt, run_underlying hT, asIntOf, Instr.sureAddr, sizeOf, typeInfo, hi', hsz, hk, add_lit]
/-- a number out of an array value -/
theorem op_index {d T E len m : Nat} {s i : Operand} {cs : List CV} {c : CV} {k : Nat} {kk : IntKind} {zi : Int} (hd : o.dst = some d) (ho : o.op = .index T s i) (hT : P.underlying T = some (.array len E)) (hr : rowT P E = some (false, m)) (hm : m = 1) (hs : St.ev σ s = some (.one (.agg cs)))
    (hi : St.ev σ i = some (.one (.c (.val (.int kk zi))))) (hz : zi = (k : Int)) (hk : k < len) (hc : cs[k]? = some c) (hn : c.noOwn = true) :
    Op1 P n o ⟨(opKey s ++ opKey i) ++ (X.one (.c c)).ids.map Key.b, [.t d], []⟩ σ [(.t d, some (.one (.c c)))] :=
  .value _ hd fun σ' hag C who a w hrp => by
    have e2 : a.eval i = .int kk zi := hrp.ev ((ev_agree fun k hk => hag k (List.mem_append_right _ hk)).trans hi)
    obtain ⟨vs, e, hl, h⟩ := hrp.ev ((ev_agree fun k hk => hag k (List.mem_append_left _ hk)).trans hs)
    obtain ⟨dd, ii, hu', hr', hi', hm'⟩ := rowT_parts hr
    have hagg : (isAgg E).run P w = .ok false w := by
      unfold isAgg
      rw [Sem.run_bind, run_underlying hu' w]
      cases dd <;> simp_all [TypeDesc.isRow]
    have hlt : k < vs.length := by rw [hl]; exact (List.getElem?_eq_some_iff.1 hc).1
    have hv := List.getElem?_eq_getElem hlt
    subst hz
    refine ⟨vs[k], ?_, cvm.re (p := .own (opTag s) 0 k) hn (h k c _ hc hv).1⟩
    simp [execOp, ho, e, e2, Instr.index, run_underlying hT, asIntOf, part, hagg, sizeOf, typeInfo, hi', hm', hm, hk, hlt]

theorem wpL {P : Program} {ops : Array Oper} {Q : Exit → Act → World → Prop} {o : Oper} {os : List Oper} {a : Act} {w w' : World} {v : Value} (hg : o.guard = none) (hr : (execOp a.eval o).run P w = .ok (.value v) w') (h : wpList P ops Q os (a.put o.dst v) w') : wpList P ops Q (o :: os) a w :=
  wpList_plain hg fun K hK => by
    unfold Oper.wp
    rw [hr]
    exact hK _ _ h
/-- 's == nil': it may be; then there is nothing in it -/
theorem dwp_isnil {Q : Exit → St → Prop} {id d1 d2 t T T' y1 y2 : Nat} {p1 p2 : String} {f1 f2 : Array Edge} {ds : List D} (hs : St.get σ (.t t) = some (.one (.c (.arr ds)))) (h1 : d1 < n) (h2 : d2 < n) (hdt : Nat.beq d1 t = false)
    (hrun : ∀ s1 s2 ad len cap w, ((do eqGuard .eql T s1 s2 (.slice ad len cap) (.slice none 0 0); binOp .eql T (.slice ad len cap) (.slice none 0 0) : Sem Value).run P w = .ok (.bool ad.isNone) w))
    (h : ∀ b : Bool, (b = true → ds = []) → Q .normal ((.t d2, some (.one (bA b))) :: (.t d1, some (.one (.c (.arr ds)))) :: σ)) :
    dwp P n (.region id #[⟨some d1, .move (.tmp t), y1, p1, f1, none⟩, ⟨some d2, .binOp .eql T (.tmp d1) (.const (.slice none 0 0)) T', y2, p2, f2, none⟩] false) Q σ := fun C who a w hr => by
  have hx : rd w (Fz who) (.arr ds) [a.tmps.getD t undef] := hr.slot t _ hs
  have hx' := hx
  obtain ⟨ad, cap, e, _, _, h3⟩ := hx'
  have e1 : a.tmps.getD t undef = .slice ad ds.length cap := by simpa using e
  have hnil : ad.isNone = true → ds = [] := fun hn => by
    rcases h3 with h3 | ⟨b, o, xs, ha, _⟩
    · exact List.eq_nil_of_length_eq_zero h3
    · rw [ha] at hn; cases hn
  refine wp_region_lit ?_
  have hr1 := hr.put h1 (x := .one (.c (.arr ds))) (v := a.tmps.getD t undef) hx
  have e2 : (a.put (some d1) (a.tmps.getD t undef)).eval (.tmp d1) = .slice ad ds.length cap := by
    rw [← e1]
    simp [Act.eval, Act.put, hr.nt, h1]
  refine wpL (v := a.tmps.getD t undef) (w' := w) rfl (by simp [execOp, Act.eval]) ?_
  refine wpL (v := .bool ad.isNone) (w' := w) rfl ?_ ?_
  · have := hrun (.tmp d1) (.const (.slice none 0 0)) ad ds.length cap w
    have e3 : (a.put (some d1) (a.tmps.getD t undef)).eval (.const (.slice none 0 0)) = .slice none 0 0 := rfl
    simp only [execOp, e2, e3, Sem.run_bind] at this ⊢
    rw [this]; rfl
  exact ⟨who, _, hr1.put h2 (x := .one (bA ad.isNone)) (v := .bool ad.isNone) rfl, h _ hnil⟩
end
section
variable {P : Program} {n : Nat} {σ : St} {Q : Exit → St → Prop} {c : Code}
/-- no slice is too long -/
theorem dwp_len {t : Nat} {ds : List D} (hs : St.get σ (.t t) = some (.one (.c (.arr ds)))) (h : ds.length ≤ 9223372036854775807 → dwp P n c Q σ) : dwp P n c Q σ := fun C who a w hr => by
  have hx : rd w (Fz who) (.arr ds) [a.tmps.getD t undef] := hr.slot t _ hs
  obtain ⟨ad, cap, _, h1, h2, _⟩ := hx
  exact h (by simp only [maxLen] at h2; omega) C who a w hr
theorem dwp_lenA {t q : Nat} {cs : List CV} {ds : List D} (hs : St.get σ (.t t) = some (.one (.agg cs))) (hc : cs[q]? = some (.arr ds)) (h : ds.length ≤ 9223372036854775807 → dwp P n c Q σ) : dwp P n c Q σ := fun C who a w hr => by
  obtain ⟨vs, e, hl, hx⟩ : A1m w who (.t t) 0 (.agg cs) (a.tmps.getD t undef) := hr.slot t _ hs
  have hq : q < vs.length := by rw [hl]; exact (List.getElem?_eq_some_iff.1 hc).1
  obtain ⟨ad, cap, _, h1, h2, _⟩ : rd w (Fz who) (.arr ds) [vs[q]] := (hx q _ _ hc (List.getElem?_eq_getElem hq)).1
  exact h (by simp only [maxLen] at h2; omega) C who a w hr
end
theorem isnil_Int : ∀ s1 s2 ad len cap w, ((do eqGuard .eql 22 s1 s2 (.slice ad len cap) (.slice none 0 0); binOp .eql 22 (.slice ad len cap) (.slice none 0 0) : Sem Value).run Try.prog w = .ok (.bool ad.isNone) w) := fun s1 s2 ad len cap w => by cases ad <;> kernel_rfl
theorem isnil_Term : ∀ s1 s2 ad len cap w, ((do eqGuard .eql 24 s1 s2 (.slice ad len cap) (.slice none 0 0); binOp .eql 24 (.slice ad len cap) (.slice none 0 0) : Sem Value).run Try.prog w = .ok (.bool ad.isNone) w) := fun s1 s2 ad len cap w => by cases ad <;> kernel_rfl
end Go.Proofs.Ytmanhdacnkpclaa
