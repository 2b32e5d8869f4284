/- Walks over abstract states: literals; regions, operation by operation. -/
import Derived.Test.YtmanhdacnkpclaaG8
namespace Go.Proofs.Ytmanhdacnkpclaa
set_option linter.unusedVariables false
set_option linter.unusedSimpArgs false
open Go.RowKit

section
variable {P : Program} {n : Nat} {o : Oper} {σ : St}

def partKeys (ps : List (Nat × Operand)) : List Key := ps.flatMap fun p => opKey p.2
theorem buildC_agree {σ' : St} {pl : List (Nat × Nat)} : ∀ {ps : List (Nat × Operand)} {cs : List CV}, (∀ k ∈ partKeys ps, St.get σ' k = St.get σ k) → buildC σ' pl ps cs = buildC σ pl ps cs
  | [], _, _ => rfl
  | (i, s) :: r, cs, h => by
    have e : St.ev σ' s = St.ev σ s := ev_agree fun k hk => h k (by simp [partKeys, hk])
    have ih : ∀ cs, buildC σ' pl r cs = buildC σ pl r cs := fun cs => buildC_agree fun k hk => h k (by
      simp only [partKeys, List.flatMap_cons, List.mem_append] at hk ⊢; exact .inr hk)
    simp only [buildC, e]
    split
    · rw [ih]
    · rfl
theorem cvm.of {w : World} {who : Nat → Tag} {p : Tag} {c : CV} {v : Value} (h : c.noOwn = true ∧ cvm w who .other c v ∧ v.oneCell' = true) : cvm w who p c v ∧ v.oneCell' = true := ⟨h.2.1.re h.1, h.2.2⟩

theorem fieldPl_parts {T : Nat} {pl : List (Nat × Nat)} (h : fieldPl P T = some pl) : ∃ fields, P.underlying T = some (.struct fields) ∧ ∀ w : World, (fields.mapM (fun f => do pure (f.offset, ← sizeOf f.type)) : Sem (Array (Nat × Nat))).run P w = .ok pl.toArray w := by
  unfold fieldPl at h
  split at h
  · rename_i fields hu
    refine ⟨fields, hu, fun w => ?_⟩
    have key : ∀ (l : List Field) (pl : List (Nat × Nat)), (l.mapM fun f => (P.info? f.type).map fun i => (f.offset, i.size)) = some pl → ((l.mapM (fun f => do pure (f.offset, ← sizeOf f.type))) : Sem (List (Nat × Nat))).run P w = .ok pl w := by
      intro l
      induction l with
      | nil => intro pl h; simp at h; subst h; simp
      | cons f l ih =>
        intro pl h
        simp only [List.mapM_cons, Option.bind_eq_bind, Option.bind_eq_some_iff] at h
        obtain ⟨x, hx, pl', hpl, e⟩ := h
        simp at e; subst e
        obtain ⟨i, hi, rfl⟩ := Option.map_eq_some_iff.1 hx
        rw [List.mapM_cons]
        have h1 := ih pl' hpl
        simp only [Sem.run_bind, sizeOf, typeInfo, run_program, hi, Sem.run_pure, Result.andThen_ok] at h1 ⊢
        rw [h1]; simp
    obtain ⟨l⟩ := fields
    rw [List.mapM_toArray]
    simp only [Sem.run_map]
    rw [key l pl h]; simp
  · cases h

/-- a struct, out of its parts -/
theorem op_build {d T : Nat} {ps : Array (Nat × Operand)} {pl : List (Nat × Nat)} {zs : List Value} {cs : List CV} (hd : o.dst = some d) (ho : o.op = .build T ps) (hp : fieldPl P T = some pl) (hz : zeroOf P T = some zs) (hzo : zs.all Value.oneCell' = true)
    (hb : buildC σ pl ps.toList (zs.map CV.val) = some cs) : Op1 P n o ⟨partKeys ps.toList ++ (X.one (.agg cs)).ids.map Key.b, [.t d], []⟩ σ [(.t d, some (.one (.agg cs)))] :=
  .value _ hd fun σ' hag C who a w hr => by
    obtain ⟨z, hz1, hz2⟩ := run_zeroOf hz w
    obtain ⟨fields, hu, hpl⟩ := fieldPl_parts hp
    obtain ⟨vs, h1, h2, h3⟩ := buildC_run (place := fun i => pl.toArray[i]?) hr (fun i x hi => by simpa using hi) ps.toList (zs.map CV.val) cs zs ((buildC_agree hag).trans hb) (by simp) (fun q c v hq hv => by
      rw [List.getElem?_map, hv] at hq; simp at hq; subst hq
      exact ⟨rfl, rfl, List.all_eq_true.1 hzo v (List.mem_of_getElem? hv)⟩)
    refine ⟨.agg vs.toArray, ?_, vs, rfl, h2, fun q c v hq hv => cvm.of (h3 q c v hq hv)⟩
    have e : (ps.map fun p => (p.1, a.eval p.2)).toList = ps.toList.map fun p => (p.1, a.eval p.2) := by simp
    simp only [execOp, ho, Instr.build, Sem.run_bind, hz1, Result.andThen_ok, run_underlying hu, hpl, hz2, e, h1, Sem.run_pure]

/-- a slice literal, that nobody writes -/
theorem op_buildSlice {d T E m by_ len : Nat} {z : Value} {ps : Array (Nat × Operand)} {zs : List Value} {cs : List CV} {ds : List D} (hd : o.dst = some d) (ho : o.op = .buildSlice T len ps) (hT : SliceOf P T E m by_ z) (hlen : len * m ≤ 16777216) (hl0 : 0 < len) (hz : zeroOf P E = some zs)
    (hzo : zs.all Value.oneCell' = true) (hzm : zs.length = m) (hb : buildC σ ((List.range len).map fun i => (i * m, m)) ps.toList ((List.replicate len (zs.map CV.val)).flatten) = some cs) (hds : (fcs ds).map FC.cv = cs) (hdl : ds.length = len) :
    Op1 P n o ⟨partKeys ps.toList, [.t d], []⟩ σ [(.t d, some (.one (.c (.arr ds))))] where
  does := fun σ' hag hal C who a w hr hdst K Q hK => by
    obtain ⟨i', hi', hz0, hz1, hz2⟩ := info_parts hT.info
    obtain ⟨zv, hzv1, hzv2⟩ := run_zeroOf hz w
    have hmp := hT.pos
    have hcat : ((Array.range (len * m)).map (fun x => zs.toArray[x % zs.toArray.size]!)).toList = (List.replicate len zs).flatten := by
      apply List.ext_getElem?
      intro j
      have hz' : zs.toArray.size = m := by simp [hzm]
      rcases Nat.lt_or_ge j (len * m) with hj | hj
      · have hjm : j % m < zs.length := by rw [hzm]; exact Nat.mod_lt _ hmp
        have e1 : ((Array.range (len * m)).map (fun x => zs.toArray[x % zs.toArray.size]!)).toList[j]? = some zs[j % m] := by
          simp [hj, hz', hjm, hzm]
          rw [List.getElem?_eq_getElem hjm]; rfl
        rw [e1]
        have : ∀ (len j : Nat), j < len * m → (List.replicate len zs).flatten[j]? = zs[j % m]? := by
          intro len
          induction len with
          | zero => intro j hj; omega
          | succ k ih =>
            intro j hj
            simp only [List.replicate_succ, List.flatten_cons]
            rcases Nat.lt_or_ge j zs.length with h | h
            · rw [List.getElem?_append_left h, Nat.mod_eq_of_lt (by omega)]
            · rw [List.getElem?_append_right h, ih (j - zs.length) (by rw [hzm] at h ⊢; rw [Nat.add_mul] at hj; omega), hzm]
              rw [hzm] at h
              rw [Nat.mod_eq_sub_mod h]
        rw [this len j hj, List.getElem?_eq_getElem hjm]
      · rw [List.getElem?_eq_none (by simp; omega), List.getElem?_eq_none (by simp [List.length_flatten, hzm]; omega)]
    have hmap : ((List.replicate len zs).flatten).map CV.val = (List.replicate len (zs.map CV.val)).flatten := by simp [List.map_flatten]
    obtain ⟨vs, h1, h2, h3⟩ := buildC_run (place := fun i => some (i * m, m)) hr (fun i x hi => by
      rw [List.getElem?_map, Option.map_eq_some_iff] at hi
      obtain ⟨k, hk, rfl⟩ := hi
      have : k = i := by
        rw [List.getElem?_eq_some_iff] at hk
        obtain ⟨hk1, hk2⟩ := hk
        simp at hk2; exact hk2.symm
      rw [this]) ps.toList ((List.replicate len (zs.map CV.val)).flatten) cs ((List.replicate len zs).flatten) ((buildC_agree hag).trans hb) (by rw [← hmap]; simp) (fun q c v hq hv => by
      rw [← hmap, List.getElem?_map, hv] at hq; simp at hq; subst hq
      refine ⟨rfl, rfl, List.all_eq_true.1 hzo v ?_⟩
      obtain ⟨l, hl, hvl⟩ := List.mem_flatten.1 (List.mem_of_getElem? hv)
      rw [List.mem_replicate] at hl; rw [← hl.2]; exact hvl)
    have hrun : (execOp a.eval o).run P w = .ok (.value (.slice (some ⟨w.heap.size, 0, none⟩) len len)) (w.alloc (.cells vs.toArray E)) := by
      have e : (ps.map fun p => (p.1, a.eval p.2)).toList = ps.toList.map fun p => (p.1, a.eval p.2) := by simp
      have e2 : (Array.range (len * m)).map (fun x => zs.toArray[x % zs.toArray.size]!) = ((List.replicate len zs).flatten).toArray := by
        rw [← hcat]
      have hne : ¬ (len * m = 0) := by
        intro h0
        rcases Nat.mul_eq_zero.1 h0 with h0 | h0 <;> omega
      simp only [execOp, ho, Instr.buildSlice, Sem.run_bind, run_underlying hT.und, Result.andThen_ok, sizeOf, typeInfo, run_program, hi', Sem.run_pure, hz1]
      rw [if_neg (by omega : ¬ len * m > 2 ^ 24)]
      simp only [if_neg hne, Sem.run_bind, hzv1, Result.andThen_ok, hzv2, Sem.run_pure, e, e2, h1, newRow, run_newObj_alloc]
    unfold Oper.wp
    rw [hrun]
    show K (a.put o.dst _) _
    have hnew : who w.heap.size = .other := by
      rcases Classical.em (who w.heap.size = .other) with h | h
      · exact h
      · exact absurd (hr.fz _ h) (Nat.lt_irrefl _)
    have hstp : Stp who w (fun b => if b = w.heap.size then .froz else who b) (w.alloc (.cells vs.toArray E)) (fun _ => False) (fun _ => False) :=
      ⟨rfl, rfl, rfl, by simp, fun b hb _ => Below.heap_alloc w _ b hb, fun b hb _ => by rw [if_neg (by omega)], fun _ h => h.elim, fun _ h => h.elim⟩
    refine hK (fun b => if b = w.heap.size then .froz else who b) _ _ ?_
    rw [hd]
    have hr1 := hr.stp hstp (fun _ _ _ => ⟨fun h => h, fun h => h⟩) (fun _ _ _ _ h => h) (fun b hb => by
      split at hb
      · rename_i h; subst h; simp
      · have := hr.fz b hb; simp; omega) (fun b b' j hb hb' => by
      split at hb
      · cases hb
      · split at hb'
        · cases hb'
        · exact hr.bxu b b' j hb hb') (fun _ _ _ _ _ h => by rcases h with h | h <;> exact h.elim) (fun _ _ _ h => h.elim) (fun _ _ _ h => by rcases h with h | h <;> exact h.elim) (fun b j hb hnb => by
      split at hb
      · cases hb
      · exact absurd hb hnb)
    refine hr1.put (hdst d hd) (x := .one (.c (.arr ds))) ?_
    show rd _ _ (.arr ds) [_]
    have hl16 : len ≤ 16777216 := Nat.le_trans (Nat.le_mul_of_pos_right len hmp) hlen
    refine ⟨_, len, by rw [hdl], by omega, by simp only [maxLen]; omega, .inr ⟨w.heap.size, 0, vs, rfl, by simp [Fz], by simp, rds_iff.2 (cellsF_mk ?_ ?_), fun j u hj => by rw [Nat.zero_add, World.cell?_alloc_new]; simpa using hj⟩⟩
    · have := congrArg List.length hds
      rw [List.length_map] at this; rw [this, h2]
    · intro i c x hc hx
      have hcs : cs[i]? = some c.cv := by rw [← hds, List.getElem?_map, hc]; rfl
      have h4 := (h3 i _ x hcs hx).2.1
      have h5 : fcm w (Fz who) c x := by cases c <;> exact h4
      refine h5.keep (by simp) (fun b hb hF => ?_) fun b hb _ => Below.heap_alloc w _ b hb
      show (if b = w.heap.size then Tag.froz else who b) = .froz
      rw [if_neg (by omega)]; exact hF
  wr := by simp
  me := fun j hj => by simp [St.ids, oids, X.ids, A1.ids, CV.ids] at hj
  al := by simp

/-- a field of a value -/
theorem op_field {d T f off m : Nat} {s : Operand} {cs : List CV} {A : A1} (hd : o.dst = some d) (ho : o.op = .field T s f) (hp : ∃ fields fl, P.underlying T = some (.struct fields) ∧ fields[f]? = some fl ∧ fl.offset = off ∧ rowT P fl.type = some (false, m)) (hs : St.ev σ s = some (.one (.agg cs)))
    {c : CV} (hc : cs[off]? = some c) (hA : A = .c c) (hn : c.noOwn = true) : Op1 P n o ⟨opKey s ++ (X.one A).ids.map Key.b, [.t d], []⟩ σ [(.t d, some (.one A))] :=
  .value _ hd fun σ' hag C who a w hr => by
    obtain ⟨fields, fl, hu, hf, ho', hrow⟩ := hp
    obtain ⟨vs, e, hl, h⟩ := hr.ev ((ev_agree hag).trans hs)
    obtain ⟨dd, i, hu', hr', hi, hm⟩ := rowT_parts hrow
    have hagg : (isAgg fl.type).run P w = .ok false w := by
      unfold isAgg
      rw [Sem.run_bind, run_underlying hu' w]
      cases dd <;> simp_all [TypeDesc.isRow]
    have hoff : off < vs.length := by rw [hl]; exact (List.getElem?_eq_some_iff.1 hc).1
    have hv := List.getElem?_eq_getElem hoff
    subst hA
    refine ⟨vs[off], ?_, cvm.re (p := .own (opTag s) 0 off) hn (h off c _ hc hv).1⟩
    simp [execOp, ho, e, Instr.field, run_underlying hu, hf, part, asAgg, hagg, ho', hoff]
end

/-! ## regions, operation by operation -/
/-- the rest of a region; what has been done so far -/
def SqA (P : Program) (n : Nat) (dr : Bool) (ops : Array Oper) (os : List Oper) (acc : List Info) (σ : St) (K : St → Prop) : Prop :=
  ∃ is, Sq P n ops os is σ K ∧ (dr = true → chk ops (acc.reverse ++ is) = true)
section
variable {P : Program} {n : Nat} {dr : Bool} {ops : Array Oper} {os : List Oper} {o : Oper} {acc : List Info} {i : Info} {σ : St} {K : St → Prop} {Q : Exit → St → Prop}
theorem SqA.nil (h : K σ) (hc : dr = true → chk ops acc.reverse = true) : SqA P n dr ops [] acc σ K := ⟨[], ⟨rfl, h⟩, fun hd => by rw [List.append_nil]; exact hc hd⟩
theorem SqA.nilN (h : K σ) : SqA P n false ops [] acc σ K := .nil h (by simp)
theorem SqA.nilD (h : K σ) (hc : chk ops acc.reverse = true) : SqA P n true ops [] acc σ K := .nil h fun _ => hc
theorem SqA.go {δ : St} (h : Op1 P n o i σ δ) (hg : o.guard = none) (hal : i.al.all (fun j => nomem j (St.ids σ)) = true) (hk : SqA P n dr ops os (i :: acc) (δ ++ σ) K) : SqA P n dr ops (o :: os) acc σ K := by
  obtain ⟨is, h1, h2⟩ := hk
  exact ⟨i :: is, Sq.go h hg hal h1, fun hd => by have := h2 hd; simpa using this⟩
theorem SqA.goG {δ : St} (h : Op1 P n o i σ δ) (hg : guardIs ops o σ = some true) (hal : i.al.all (fun j => nomem j (St.ids σ)) = true) (hk : SqA P n dr ops os (⟨guardKeys ops o ++ i.rd, i.wr, i.al⟩ :: acc) (δ ++ σ) K) : SqA P n dr ops (o :: os) acc σ K := by
  obtain ⟨is, h1, h2⟩ := hk
  exact ⟨_, Sq.goG h hg hal h1, fun hd => by have := h2 hd; simpa using this⟩
theorem SqA.noG (hg : guardIs ops o σ = some false) (hk : SqA P n dr ops os (⟨guardKeys ops o, (killDst o).map (·.1), []⟩ :: acc) (killDst o ++ σ) K) : SqA P n dr ops (o :: os) acc σ K := by
  obtain ⟨is, h1, h2⟩ := hk
  exact ⟨_, Sq.noG hg h1, fun hd => by have := h2 hd; simpa using this⟩
theorem SqA.go1 {e : Key × Option X} (h : Op1 P n o i σ [e]) (hg : o.guard = none) (hal : i.al.all (fun j => nomem j (St.ids σ)) = true) (hk : SqA P n dr ops os (i :: acc) (e :: σ) K) : SqA P n dr ops (o :: os) acc σ K := .go h hg hal hk
theorem SqA.go2 {e e' : Key × Option X} (h : Op1 P n o i σ [e, e']) (hg : o.guard = none) (hal : i.al.all (fun j => nomem j (St.ids σ)) = true) (hk : SqA P n dr ops os (i :: acc) (e :: e' :: σ) K) : SqA P n dr ops (o :: os) acc σ K := .go h hg hal hk
theorem SqA.goG1 {e : Key × Option X} (h : Op1 P n o i σ [e]) (hg : guardIs ops o σ = some true) (hal : i.al.all (fun j => nomem j (St.ids σ)) = true) (hk : SqA P n dr ops os (⟨guardKeys ops o ++ i.rd, i.wr, i.al⟩ :: acc) (e :: σ) K) : SqA P n dr ops (o :: os) acc σ K := .goG h hg hal hk
theorem SqA.noG1 {d : Nat} (hg : guardIs ops o σ = some false) (hd : o.dst = some d) (hk : SqA P n dr ops os (⟨guardKeys ops o, [.t d], []⟩ :: acc) ((.t d, some (.one (.c (.val (.tuple #[]))))) :: σ) K) : SqA P n dr ops (o :: os) acc σ K :=
  .noG hg (by unfold killDst; rw [hd]; exact hk)
theorem SqA.noG0 (hg : guardIs ops o σ = some false) (hd : o.dst = none) (hk : SqA P n dr ops os (⟨guardKeys ops o, [], []⟩ :: acc) σ K) : SqA P n dr ops (o :: os) acc σ K :=
  .noG hg (by unfold killDst; rw [hd]; exact hk)
theorem dwp_reg {id : Nat} {ops : List Oper} (hd : dstsLt n ops = true) (h : SqA P n false ops.toArray ops [] σ (fun σ' => Q .normal σ')) : dwp P n (.region id ops.toArray false) Q σ := by
  obtain ⟨is, h1, _⟩ := h
  exact dwp_region h1 hd
theorem dwp_drw (hm : P.follows .mixedOrders = true) {id : Nat} {ops : List Oper} (hd : dstsLt n ops = true) (h : SqA P n true ops.toArray ops [] σ (fun σ' => Q .normal σ')) : dwp P n (.region id ops.toArray true) Q σ := by
  obtain ⟨is, h1, h2⟩ := h
  exact dwp_draw hm h1 hd (h2 rfl)
end
end Go.Proofs.Ytmanhdacnkpclaa
