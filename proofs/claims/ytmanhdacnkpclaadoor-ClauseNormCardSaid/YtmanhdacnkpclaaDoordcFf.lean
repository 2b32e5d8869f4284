/- Slices that are boxes; function values; values that are known. -/
import Derived.Test.YtmanhdacnkpclaaDoordcFd
/- Slices that are boxes; function values; values that are known. -/
namespace Go.Proofs.YtmanhdacnkpclaaDoor
set_option linter.all false
open Go.RowKit

/-- what a pointer to a frozen place holds, known or not -/
def CV.fpOf : CV → Option (List FC)
  | .fp cs => some cs
  | .isF _ cs => some cs
  | _ => none
theorem cvm.fpOf {w : World} {who : Nat → Tag} {p : Tag} {c : CV} {cs : List FC} {u : Value} (hf : c.fpOf = some cs) (h : cvm w who p c u) : fpm w who cs u := by
  cases c with
  | fp cs' => injection hf with hf; subst hf; exact h
  | isF v cs' => injection hf with hf; subst hf; exact h.2
  | _ => cases hf
/-- a value that is known -/
def CV.known : CV → Option Value
  | .val v => some v
  | .isF v _ => some v
  | .isP v _ _ => some v
  | .isB v _ => some v
  | _ => none
section
variable {P : Program} {n : Nat} {o : Oper} {σ : St}
/-- a place in a slice that is a box -/
theorem op_idxSl {d T E m by_ j k q q' : Nat} {z : Value} {s i : Operand} {kk : IntKind} {zi : Int} (hd : o.dst = some d) (ho : o.op = .indexAddr T s i) (hT : SliceOf P T E m by_ z) (hs : St.ev σ s = some (.one (.c (.sl j k)))) (hi : St.ev σ i = some (.one (.c (.val (.int kk zi)))))
    (hz : zi = (q : Int)) (hq : q < k) (hq' : q * m = q') : Op1 P n o ⟨(opKey s ++ opKey i) ++ (X.one (.c (.ptr j q'))).ids.map Key.b, [.t d], []⟩ σ [(.t d, some (.one (.c (.ptr j q'))))] :=
  .value _ hd fun σ' hag C who a w hrp => by
    have e2 : a.eval i = .int kk zi := hrp.ev ((ev_agree fun k hk => hag k (List.mem_append_right _ hk)).trans hi)
    obtain ⟨b, cap, e, _, hb⟩ := hrp.ev ((ev_agree fun k hk => hag k (List.mem_append_left _ hk)).trans hs)
    obtain ⟨i', hi', hz0, hz1, hz2⟩ := info_parts hT.info
    subst hz hq'
    refine ⟨.pointer (some ⟨b, q * m, none⟩), ?_, b, rfl, hb⟩
    simp [execOp, ho, e, e2, Instr.indexAt, run_underlying hT.und, asIntOf, sizeOf, typeInfo, hi', hz1, hq, add_lit]
/-- a store to a place whose number is no literal -/
theorem op_storeV {t j q : Nat} {s v : Operand} {c : CV} {cs cs' : List CV} (hd : o.dst = none) (ho : o.op = .store t s v) (hs : St.ev σ s = some (.one (.c (.ptr j q)))) (hb : St.get σ (.b j) = some (.box cs)) (hr : rowT P t = some (false, 1)) (hv : St.ev σ v = some (.one (.c c)))
    (hn : c.noOwn = true) (hok : c.oneOk = true) (hq : q < cs.length) (hc : cs.set q c = cs') (hmc : Nat.ble j EXT = true) : Op1 P n o ⟨(opKey s ++ opKey v ++ [.b j]) ++ ((cs ++ [c]).flatMap CV.ids).map Key.b, [.b j], []⟩ σ [(.b j, some (.box cs'))] :=
  op_store hd ho hs hb hr hv hn (by simpa [A1.cells] using hok) rfl rfl (by omega) (by rw [← hc]; rfl) hmc
/-- a new slice of noughts -/
theorem op_mkSl {d T E k : Nat} {s1 s2 : Operand} (hd : o.dst = some d) (ho : o.op = .makeSlice T s1 s2) (hT : SliceOf P T E 1 8 (.int .i64 0)) (h1 : St.ev σ s1 = some (.one (iA k))) (h2 : St.ev σ s2 = some (.one (iA k))) (hk : k ≤ 1000) (hx : Nat.beq d EXT = false) (hmc : Nat.ble d EXT = true) :
    Op1 P n o ⟨opKey s1 ++ opKey s2, [.t d, .b d], [d]⟩ σ [(.t d, some (.one (.c (.sl d k)))), (.b d, some (.box (List.replicate k (.val (.int .i64 0)))))] where
  does := fun σ' hag hal C who a w hr hdst K Q hK => by
    have e1 : a.eval s1 = .int .i64 k := hr.ev ((ev_agree fun k hk => hag k (List.mem_append_left _ hk)).trans h1)
    have e2 : a.eval s2 = .int .i64 k := hr.ev ((ev_agree fun k hk => hag k (List.mem_append_right _ hk)).trans h2)
    obtain ⟨i', hi', hz0, hz1, hz2⟩ := info_parts hT.info
    have hm : (madeCells (Value.int .i64 0).cells k).toList = List.replicate k (.int .i64 0) := by
      apply List.ext_getElem?
      intro j
      rcases Nat.lt_or_ge j k with hj | hj
      · simp [madeCells, Value.cells, hj, Nat.mod_one]
      · rw [List.getElem?_eq_none (by simp [madeCells]; omega), List.getElem?_eq_none (by simp; omega)]
    have hrun0 := run_makeSlice (P := P) w T E i' (.int .i64 0) hT.und hi' hz0 .i64 .i64 k k (by omega) (by omega) (by rw [hz1]; omega) (by rw [hz2]; omega) (by omega)
    have hrun : (execOp a.eval o).run P w = .ok (.value (.slice (some ⟨w.heap.size, 0, none⟩) k k)) (w.alloc (.cells (List.replicate k (Value.int .i64 0)).toArray E)) := by
      have : madeCells (Value.int .i64 0).cells ((k : Int).toNat * i'.size) = (List.replicate k (Value.int .i64 0)).toArray := by
        rw [hz1, Int.toNat_natCast, Nat.mul_one, ← hm]
      rw [this] at hrun0
      simp only [execOp, ho, e1, e2, Sem.run_bind, hrun0]; rfl
    unfold Oper.wp
    rw [hrun]
    show K (a.put o.dst _) _
    refine hK (tagBox d w.heap.size who) _ _ ?_
    rw [hd]
    refine new_boxG (E := E) (u := List.replicate k (.int .i64 0)) (cs := List.replicate k (.val (.int .i64 0))) (cv := .sl d k) hr (hdst d hd) hx (le_ext hmc) (shp_of hmc _ _ _) (hal d (by simp)) (fun who' w' q c v hq hv T G _ _ _ => ?_) (by simp) ⟨_, _, rfl, ⟨Nat.le_refl _, by simp only [maxLen]; omega⟩, tagBox_new⟩
    rw [List.getElem?_replicate] at hq hv
    split at hq
    · rename_i h
      rw [if_pos h] at hv
      injection hq with hq; injection hv with hv
      subst hq hv; rfl
    · cases hq
  wr := by simp
  me := fun j hj => by
    right
    simp [St.ids, oids, X.ids, A1.ids, CV.ids, List.flatMap_replicate] at hj
    subst hj; simp
  al := by simp

/-! ## freezing a box -/
def unref (j : Nat) (σ : St) : St := (.b j, none) :: σ.map fun e => (e.1, bif (oids e.2).any (Nat.beq j) then none else e.2)
theorem unref_get {j : Nat} {k : Key} {x : X} : ∀ {σ : St}, St.get (unref j σ) k = some x → St.get σ k = some x ∧ j ∉ x.ids ∧ k ≠ .b j := by
  intro σ h
  have hk : k ≠ .b j := fun e => by subst e; simp [unref, St.get_same] at h
  unfold unref at h
  rw [St.get_ne (Ne.symm hk)] at h
  refine ⟨?_, ?_, hk⟩
  all_goals
    induction σ with
    | nil => simp [St.get] at h
    | cons e l ih =>
      obtain ⟨k', y⟩ := e
      simp only [List.map_cons, St.get] at h ⊢
      cases e1 : Key.is k' k <;> rw [e1] at h
      · simp only [cond_false] at h ⊢
        exact ih h
      · simp only [cond_true] at h ⊢
        cases e2 : (oids y).any (Nat.beq j) <;> rw [e2] at h
        · simp only [cond_false] at h
          subst h
          first | rfl | exact nomem_iff.1 (by simpa [nomem, oids] using e2)
        · cases h
theorem unref_ids {j i : Nat} {σ : St} (h : i ∈ St.ids (unref j σ)) : i ≠ j := by
  have h' : i ∈ (σ.map fun e => ((e.1, bif (oids e.2).any (Nat.beq j) then none else e.2) : Key × Option X)).flatMap fun e => oids e.2 := by
    simpa only [unref, St.ids, List.flatMap_cons, oids, List.nil_append] using h
  rw [List.flatMap_map] at h'
  obtain ⟨e, _, he⟩ := List.mem_flatMap.1 h'
  dsimp only at he
  cases e2 : (oids e.2).any (Nat.beq j)
  · rw [e2, cond_false] at he
    intro hij
    subst hij
    have : (oids e.2).any (Nat.beq i) = true := List.any_eq_true.2 ⟨i, he, Nat.beq_refl i⟩
    rw [e2] at this; cases this
  · rw [e2, cond_true] at he
    cases he
theorem frz_stp {who : Nat → Tag} {w : World} {j : Nat} : Stp who w (tagAll (.bx j) .froz who) w (fun _ => False) (fun b => who b = .bx j) :=
  ⟨rfl, rfl, rfl, Nat.le_refl _, fun _ _ _ => rfl, fun b _ hb => tagAll_ne hb, fun _ h => h.elim, fun b hb => by rw [hb]; simp⟩
theorem Rep.frzBox {C : Ctx} {who : Nat → Tag} {a : Act} {w : World} {j : Nat} (h : Rep n C who σ a w) (hj : Nat.beq j EXT = false) (hmc : Nat.ble j EXT = true) : Rep n C (tagAll (.bx j) .froz who) (unref j σ) a w := by
  have hne : j ≠ EXT := fun e => by rw [e] at hj; simp at hj
  refine (h.forget fun k x hx => (unref_get hx).1).stp frz_stp ?_ ?_ ?_ ?_ ?_ ?_ ?_ ?_
  · intro b hb ho
    refine ⟨fun h => h, fun hg => ?_⟩
    have := h.adv.tag b hb (ho.imp id .inl)
    rw [hg] at this
    rcases ho with ho | ho <;> rw [ho] at this <;> cases this
  · intro b i hb hi hg
    have := h.adv.tag b hb (.inr (.inr ⟨i, hi⟩))
    rw [hg, hi] at this
    injection this with this
    exact hne (this.trans (h.ext b i hi))
  · intro b hb
    rcases Classical.em (who b = .bx j) with e | e
    · exact h.fz b (by rw [e]; simp)
    · rw [tagAll_ne e] at hb; exact h.fz b hb
  · have key : ∀ b i, tagAll (.bx j) .froz who b = .bx i → who b = .bx i := fun b i hb => by
      rcases Classical.em (who b = .bx j) with e | e
      · rw [tagAll_at e] at hb; cases hb
      · rw [tagAll_ne e] at hb; exact hb
    exact fun b b' i hb hb' => h.bxu b b' i (key b i hb) (key b' i hb')
  · intro b k p q hb hg
    rcases hg with hg | hg
    · exact hg.elim
    · rw [hg] at hb; cases hb
  · intro b i hb hg hi
    rw [hg] at hb; injection hb with hb
    exact unref_ids hi hb.symm
  · intro b i hb hg
    rcases hg with hg | hg
    · exact hg.elim
    · rw [hg] at hb; injection hb with hb; have hb := nb_eq (le_ext hmc) hb.symm; subst hb; exact St.get_same
  · intro b i hb hnb
    rcases Classical.em (who b = .bx j) with e | e
    · rw [tagAll_at e] at hb; cases hb
    · rw [tagAll_ne e] at hb; exact absurd hb hnb
/-- a box of plain cells, never written from here on: a frozen place -/
theorem Wk.frzF {t j : Nat} {cs : List CV} {fs : List FC} (hs : St.get σ (.t t) = some (.one (.c (.ptr j 0)))) (hb : St.get σ (.b j) = some (.box cs)) (hc : fs.map FC.cv = cs) (hj : Nat.beq j EXT = false) (hmc : Nat.ble j EXT = true) :
    Wk n σ ((.t t, some (.one (.c (.fp fs)))) :: unref j σ) := fun C who a w hr => by
  refine ⟨tagAll (.bx j) .froz who, (hr.frzBox hj hmc).addSlot ?_⟩
  obtain ⟨b, e, hbw⟩ := hr.slot t _ hs
  obtain ⟨vs, E, h1, h2, h3, h4⟩ := box_cell hr hbw hb hmc
  refine ⟨b, 0, e, tagAll_at hbw, fun i c hi => ?_⟩
  have hi' : cs[i]? = some c.cv := by rw [← hc, List.getElem?_map, hi]; rfl
  have hlt : i < vs.length := by rw [h2]; exact (List.getElem?_eq_some_iff.1 hi').1
  have hv := List.getElem?_eq_getElem hlt
  refine ⟨vs[i], by rw [Nat.zero_add]; exact h3 i _ hv, ?_⟩
  have h5 := h4 i _ _ hi' hv
  have h6 : fcm w (Fz who) c vs[i] := cvm.toF hr.fz h5
  exact h6.keep (Nat.le_refl _) (fun b hb hF => frz_stp.fz b hb hF) (fun _ _ _ => rfl)
/-- a slice that is a box, never written from here on: a slice -/
theorem frz_arr {α : Type} {f : α → D} {m : Nat} {g : α → List FC} [FCs f m g] {C : Ctx} {who : Nat → Tag} {a : Act} {w : World} {p : Tag} {j k : Nat} {cs : List CV} {l : List α} {u : Value} (hr : Rep n C who σ a w) (hu : cvm w who p (.sl j k) u) (hb : St.get σ (.b j) = some (.box cs)) (hc : (l.flatMap g).map FC.cv = cs.take (l.flatMap g).length) (hl : l.length = k) (hmc : Nat.ble j EXT = true) :
    rd w (Fz (tagAll (.bx j) .froz who)) (.arr (l.map f)) [u] := by
  obtain ⟨b, cap, e, hcap, hbw⟩ := hu
  obtain ⟨vs, E, h1, h2, h3, h4⟩ := box_cell hr hbw hb hmc
  have hlen : (l.flatMap g).length ≤ cs.length := by
    have := congrArg List.length hc
    rw [List.length_map, List.length_take] at this; omega
  refine ⟨some ⟨b, 0, none⟩, cap, by rw [e]; simp [hl], by simp [hl]; exact hcap.1, hcap.2, .inr ⟨b, 0, vs.take (l.flatMap g).length, rfl, tagAll_at hbw, hr.fz b (by rw [hbw]; simp), rds_iff.2 (cellsF_mk ?_ ?_), fun i u hu => ?_⟩⟩
  · rw [List.length_take, h2, fcs_map]; omega
  · intro i c x hi hx
    rw [fcs_map] at hi
    have hlt : i < (l.flatMap g).length := (List.getElem?_eq_some_iff.1 hi).1
    rw [List.getElem?_take, if_pos hlt] at hx
    have hi' : cs[i]? = some c.cv := by
      have : ((l.flatMap g).map FC.cv)[i]? = some c.cv := by rw [List.getElem?_map, hi]; rfl
      rw [hc, List.getElem?_take, if_pos hlt] at this; exact this
    have h5 := h4 i _ _ hi' hx
    have h6 : fcm w (Fz who) c x := cvm.toF hr.fz h5
    exact h6.keep (Nat.le_refl _) (fun b hb hF => frz_stp.fz b hb hF) (fun _ _ _ => rfl)
  · have hlt : i < (l.flatMap g).length := by
      have := (List.getElem?_eq_some_iff.1 hu).1
      rw [List.length_take] at this; omega
    rw [List.getElem?_take, if_pos hlt] at hu
    rw [Nat.zero_add]; exact h3 i u hu
theorem Wk.frzSlG {α : Type} {f : α → D} {m : Nat} {g : α → List FC} [FCs f m g] {t j k : Nat} {cs : List CV} {l : List α} (hs : St.get σ (.t t) = some (.one (.c (.sl j k)))) (hb : St.get σ (.b j) = some (.box cs)) (hc : (l.flatMap g).map FC.cv = cs.take (l.flatMap g).length) (hl : l.length = k) (hj : Nat.beq j EXT = false) (hmc : Nat.ble j EXT = true) :
    Wk n σ ((.t t, some (.one (lA f l))) :: unref j σ) := fun C who a w hr =>
  ⟨tagAll (.bx j) .froz who, (hr.frzBox hj hmc).addSlot (frz_arr (p := .own (.t t) 0 0) hr (hr.slot t _ hs) hb hc hl hmc)⟩
theorem Wk.frzSl {α : Type} {f : α → D} {m : Nat} {g : α → List FC} [FCs f m g] {t j k : Nat} {cs : List CV} {l : List α} (hs : St.get σ (.t t) = some (.one (.c (.sl j k)))) (hb : St.get σ (.b j) = some (.box cs)) (hc : (l.flatMap g).map FC.cv = cs) (hl : l.length = k) (hj : Nat.beq j EXT = false) (hmc : Nat.ble j EXT = true) :
    Wk n σ ((.t t, some (.one (lA f l))) :: unref j σ) := Wk.frzSlG hs hb (by rw [← hc, ← List.length_map (f := FC.cv), List.take_length]) hl hj hmc
/-! ## function values -/
def fpsOf (σ : St) : List Operand → Option (List (List FC))
  | [] => some []
  | s :: r => match St.ev σ s, fpsOf σ r with
    | some (.one (.c c)), some l => (c.fpOf).map (· :: l)
    | _, _ => none
theorem fpsOf_at : ∀ {xs : List Operand} {l : List (List FC)}, fpsOf σ xs = some l → xs.length = l.length ∧ ∀ (i : Nat) (cs : List FC) (s : Operand), l[i]? = some cs → xs[i]? = some s → ∃ c, St.ev σ s = some (.one (.c c)) ∧ c.fpOf = some cs
  | [], l, h => by simp only [fpsOf, Option.some.injEq] at h; subst h; simp
  | s :: r, l, h => by
    simp only [fpsOf] at h
    split at h
    · rename_i c l' e1 e2
      obtain ⟨cs, hc, rfl⟩ := Option.map_eq_some_iff.1 h
      obtain ⟨h1, h2⟩ := fpsOf_at e2
      refine ⟨by simp [h1], fun i cs' s' hi hs => ?_⟩
      cases i with
      | zero => simp at hi hs; subst hi hs; exact ⟨c, e1, hc⟩
      | succ i => exact h2 i cs' s' (by simpa using hi) (by simpa using hs)
    · cases h
/-- a function value with what it captures -/
theorem op_mkFn {d : Nat} {f : FuncId} {cap : Array Operand} {caps : List (List FC)} (hd : o.dst = some d) (ho : o.op = .makeFunc (.func f) #[] cap) (hc : fpsOf σ cap.toList = some caps) :
    Op1 P n o ⟨cap.toList.flatMap opKey ++ (X.one (.c (.fnv f caps))).ids.map Key.b, [.t d], []⟩ σ [(.t d, some (.one (.c (.fnv f caps))))] :=
  .value _ hd fun σ' hag C who a w hr => by
    obtain ⟨hl, hat⟩ := fpsOf_at hc
    refine ⟨.func (.func f) #[] (cap.toList.map a.eval).toArray, ?_, cap.toList.map a.eval, rfl, by simpa using hl, fun i cs v hi hv => ?_⟩
    · have : cap.map a.eval = (cap.toList.map a.eval).toArray := by cases cap; simp
      simp [execOp, ho, Instr.makeFunc, this]
    · rw [List.getElem?_map, Option.map_eq_some_iff] at hv
      obtain ⟨s, hs, rfl⟩ := hv
      obtain ⟨c, h1, h2⟩ := hat i cs s hi hs
      exact cvm.fpOf h2 (hr.ev ((ev_agree fun k hk => hag k (List.mem_flatMap.2 ⟨s, List.mem_of_getElem? hs, hk⟩)).trans h1))
def knownOf (σ : St) : List Operand → Option (List Value)
  | [] => some []
  | s :: r => match St.ev σ s, knownOf σ r with
    | some (.one (.c c)), some l => (c.known).map (· :: l)
    | _, _ => none
theorem knownOf_agree {σ' : St} : ∀ {xs : List Operand}, (∀ k ∈ xs.flatMap opKey, St.get σ' k = St.get σ k) → knownOf σ' xs = knownOf σ xs
  | [], _ => rfl
  | s :: r, h => by
    simp only [List.flatMap_cons, List.mem_append] at h
    simp only [knownOf]
    rw [ev_agree fun k hk => h k (.inl hk), knownOf_agree fun k hk => h k (.inr hk)]
/-- a call of a function value -/
theorem op_callV {d : Nat} {f : FuncId} {fo : Operand} {xs : Array Operand} {ts : Array TypeId} {caps : List (List FC)} {As args : List A1} {pre : Option (List CV)} {x : X} {cs : List CV} (oj : Option Nat) (hd : o.dst = some d) (ho : o.op = .call { callee := .value fo, args := xs, argTypes := ts })
    (hfo : St.ev σ fo = some (.one (.c (.fnv f caps)))) (hf : enters P f = true) (hF : Fn P f args pre (fun x' cs' => x' = x ∧ (pre.isSome = true → cs' = cs))) (hA : argsOf σ xs.toList = some As) (hn : As.all A1.noOwn = true) (hren : (As ++ caps.map fun cs => A1.c (.fp cs)).map (A1.ren oj) = args)
    (hpre : boxPre oj σ = some pre) (hx : x.ids = []) (hcs : cs.flatMap CV.ids = []) (hoj : oj.all (fun j => Nat.ble j EXT) = true := by rfl) :
    Op1 P n o ⟨xs.toList.flatMap opKey ++ (opKey fo ++ boxKeys oj), .t d :: boxKeys oj, []⟩ σ ((.t d, some x) :: boxEnt oj cs) :=
  op_callX (caps := caps.map fun cs => A1.c (.fp cs)) (opKey fo) oj hd ho (fun σ' hag C who a w hr => by
    obtain ⟨vs, e, hl, h⟩ := hr.ev ((ev_agree hag).trans hfo)
    refine ⟨vs, e, by simpa using hl, fun i A v hi hv => ?_⟩
    rw [List.getElem?_map, Option.map_eq_some_iff] at hi
    obtain ⟨cs, hc, rfl⟩ := hi
    exact h i cs v hc hv) hf hF hA (by simp [List.all_append, hn, A1.noOwn, CV.noOwn]) hren hpre hx hcs hoj
theorem op_idxSlT {T : Tabs P} {d t E m b j k q q' : Nat} {s i : Operand} {kk : IntKind} {zi : Int} (hd : o.dst = some d) (ho : o.op = .indexAddr t s i) (hT : T.sl t = some (E, m, b)) (hs : St.ev σ s = some (.one (.c (.sl j k)))) (hi : St.ev σ i = some (.one (.c (.val (.int kk zi)))))
    (hz : zi = (q : Int)) (hq : q < k) (hq' : q * m = q') : Op1 P n o ⟨(opKey s ++ opKey i) ++ (X.one (.c (.ptr j q'))).ids.map Key.b, [.t d], []⟩ σ [(.t d, some (.one (.c (.ptr j q'))))] := by
  obtain ⟨z, hzz⟩ := T.sl_ok hT
  exact op_idxSl hd ho hzz hs hi hz hq hq'
end
theorem op_mkInts {n : Nat} {o : Oper} {σ : St} {d k : Nat} {s1 s2 : Operand} (hd : o.dst = some d) (ho : o.op = .makeSlice 22 s1 s2) (h1 : St.ev σ s1 = some (.one (iA k))) (h2 : St.ev σ s2 = some (.one (iA k))) (hk : k ≤ 1000) (hx : Nat.beq d EXT = false) (hmc : Nat.ble d EXT = true) :
    Op1 Tryd.prog n o ⟨opKey s1 ++ opKey s2, [.t d, .b d], [d]⟩ σ [(.t d, some (.one (.c (.sl d k)))), (.b d, some (.box (List.replicate k (.val (.int .i64 0)))))] := op_mkSl hd ho slInt h1 h2 hk hx hmc
end Go.Proofs.YtmanhdacnkpclaaDoor

/- Slices that are boxes: their elements. -/
namespace Go.Proofs.YtmanhdacnkpclaaDoor
set_option linter.all false
open Go.RowKit

section
variable {α : Type} {m : Nat} {g : α → List FC}
variable {P : Program} {n : Nat} {o : Oper} {σ : St}
end
end Go.Proofs.YtmanhdacnkpclaaDoor

/- Maps of few keys, whose entries have numbers of their own: what is told of one key is told of no other one. -/
namespace Go.Proofs.YtmanhdacnkpclaaDoor
set_option linter.all false
open Go.RowKit Go.MapKept

section
variable {P : Program} {n : Nat} {o : Oper} {σ : St}
end
end Go.Proofs.YtmanhdacnkpclaaDoor

/- Own slices of which the header is known: they may be looked at while they stand where they stand. -/
namespace Go.Proofs.YtmanhdacnkpclaaDoor
set_option linter.all false
open Go.RowKit
section
variable {P : Program} {n : Nat} {dr : Bool} {ops : Array Oper} {os : List Oper} {acc : List Info} {σ : St} {K : St → Prop} {d : Option Nat} {ty : TypeId} {pos : String} {af : Array Edge} {gd : Option (Nat × Bool)}
theorem id_conv {a b : TypeId} {s : Operand} (h : SqA P n dr ops (⟨d, .convert a b s, ty, pos, af, gd⟩ :: os) acc σ K) : SqA P n dr ops (⟨d, .convert a b s, ty, pos, af, gd⟩ :: os) acc σ K := h
theorem id_nilc {s : Operand} (h : SqA P n dr ops (⟨d, .nilCheck s, ty, pos, af, gd⟩ :: os) acc σ K) : SqA P n dr ops (⟨d, .nilCheck s, ty, pos, af, gd⟩ :: os) acc σ K := h
end
section
variable {P : Program} {n : Nat} {o : Oper} {σ : St}
theorem dwp_isO {Q : Exit → St → Prop} {c : Code} {t E m : Nat} {ds : List D} (hs : St.get σ (.t t) = some (.one (.c (.own E m ds)))) (h : ∀ v, dwp P n c Q ((.t t, some (.one (.c (.ownK v E m ds)))) :: σ)) : dwp P n c Q σ :=
  fun C who a w hr => h (a.tmps.getD t undef) C who a w (hr.addSlot ⟨rfl, hr.slot t _ hs⟩)
theorem Wk.ofK {t E m : Nat} {v : Value} {ds : List D} (hs : St.get σ (.t t) = some (.one (.c (.ownK v E m ds)))) : Wk n σ ((.t t, some (.one (.c (.own E m ds)))) :: σ) :=
  Wk.add fun C who a w hr => (hr.slot t _ hs).2
/-- a copy of the header -/
theorem op_moveK {d t E m : Nat} {v : Value} {ds : List D} (hd : o.dst = some d) (ho : o.op = .move (.tmp t) ∨ o.op = .assign (.tmp t)) (hs : St.get σ (.t t) = some (.one (.c (.ownK v E m ds)))) :
    Op1 P n o ⟨[.t t] ++ (X.one (.c (.val v))).ids.map Key.b, [.t d], []⟩ σ [(.t d, some (.one (.c (.val v))))] :=
  .value [.t t] hd fun σ' hag C who a w hr => ⟨a.eval (.tmp t), by rcases ho with ho | ho <;> simp [execOp, ho], (hr.ev (s := .tmp t) ((hag (.t t) (by simp)).trans hs)).1⟩
end
end Go.Proofs.YtmanhdacnkpclaaDoor

/- Slices compared with nil; a list that may be nothing. -/
namespace Go.Proofs.YtmanhdacnkpclaaDoor
set_option linter.all false
open Go.RowKit
section
variable {P : Program} {n : Nat} {o : Oper} {σ : St}
theorem op_eqNil {d : Nat} {T T' : TypeId} {s1 s2 : Operand} {ds : List D} (hd : o.dst = some d) (ho : o.op = .binOp .eql T s1 s2 T') (h1 : St.ev σ s1 = some (.one (.c (.arr ds)))) (h2 : St.ev σ s2 = some (.one (.c (.val (.slice none 0 0)))))
    (hB : ∀ b k c, Bin P .eql T (.slice (some b) k c) (.slice none 0 0) (.bool false)) (hl : 0 < ds.length) : Op1 P n o ⟨(opKey s1 ++ opKey s2) ++ (X.one (bA false)).ids.map Key.b, [.t d], []⟩ σ [(.t d, some (.one (bA false)))] :=
  .value _ hd fun σ' hag C who a w hr => by
    obtain ⟨ad, cap, e1, _, _, h⟩ := hr.ev ((ev_agree fun k hk => hag k (List.mem_append_left _ hk)).trans h1)
    have e2 : a.eval s2 = .slice none 0 0 := hr.ev ((ev_agree fun k hk => hag k (List.mem_append_right _ hk)).trans h2)
    rcases h with h | ⟨b, oo, xs, rfl, _⟩
    · omega
    · injection e1 with e1
      refine ⟨_, ?_, rfl⟩
      have := (hB ⟨b, oo, none⟩ ds.length cap).run s1 s2 w
      simp only [execOp, ho, e1, e2, Sem.run_bind] at this ⊢
      rw [this]; rfl
theorem Wk.valArr {d c : Nat} {a : Option Addr} (hc : c ≤ maxLen) (h : St.get σ (.t d) = some (.one (.c (.val (.slice a 0 c))))) : Wk n σ ((.t d, some (.one (.c (.arr [])))) :: σ) :=
  Wk.add fun C who x w hr => by
    have e : x.tmps.getD d undef = .slice a 0 c := hr.slot d _ h
    rw [e]; exact ⟨a, c, rfl, Nat.zero_le _, hc, .inl rfl⟩
theorem Op1.vaIn {i : Info} {δ : St} {t c : Nat} {a : Option Addr} (ht : St.get σ (.t t) = some (.one (.c (.val (.slice a 0 c))))) (hc : c ≤ maxLen) (h : Op1 P n o i ((.t t, some (.one (.c (.arr [])))) :: σ) δ) :
    Op1 P n o ⟨.t t :: i.rd, .t t :: i.wr, i.al⟩ σ (δ ++ [(.t t, some (.one (.c (.arr []))))]) where
  does := fun σ' hag hal C who x w hr hdst K Q hK => by
    have ht' : St.get σ' (.t t) = some (.one (.c (.val (.slice a 0 c)))) := (hag _ (by simp)).trans ht
    obtain ⟨who', hr'⟩ := Wk.valArr hc ht' C who x w hr
    refine h.does ((.t t, some (.one (.c (.arr [])))) :: σ') (fun k hk => ?_) (fun j hj hm => ?_) C who' x w hr' hdst K Q (fun w1 v w' hr1 => hK w1 v w' ?_)
    · rcases Classical.em (Key.t t = k) with rfl | hne
      · rw [St.get_same, St.get_same]
      · rw [St.get_ne (by simpa using hne), St.get_ne (by simpa using hne)]
        exact hag k (List.mem_cons_of_mem _ hk)
    · refine hal j hj ?_
      simpa [St.ids, oids, X.ids, A1.ids, CV.ids] using hm
    · rw [List.append_assoc]; exact hr1
  wr := fun e he => by
    rcases List.mem_append.1 he with he | he
    · exact List.mem_cons_of_mem _ (h.wr e he)
    · simp at he; subst he; simp
  me := fun j hj => by
    rcases h.me j (by simpa [St.ids, oids, X.ids, A1.ids, CV.ids] using hj) with hj | hj
    · exact .inl (List.mem_cons_of_mem _ hj)
    · exact .inr hj
  al := fun j hj => List.mem_cons_of_mem _ (h.al j hj)
end
/-- an empty list, whatever slice it is -/
theorem FnD.ofNil {P : Program} {f : FuncId} {args : List A1} {x : X} (i : Nat) (hi : args[i]? = some (.c (.arr []))) (h : ∀ a c, c ≤ maxLen → FnD P f (args.set i (.c (.val (.slice a 0 c)))) x) : FnD P f args x := fun who w vs h1 h2 h3 h4 h5 h6 => by
  have hlt : i < args.length := (List.getElem?_eq_some_iff.1 hi).1
  have hv : vs[i]? = some vs[i] := List.getElem?_eq_getElem (by omega)
  obtain ⟨a, cap, e, _, hc, _⟩ := h5 i _ _ hi hv
  injection e with e
  refine h a cap hc who w vs h1 h2 h3 (by simpa using h4) (fun j A v hA hv' => ?_) h6
  rcases Classical.em (i = j) with rfl | hne
  · rw [List.getElem?_set_self hlt] at hA; injection hA with hA; subst hA
    rw [hv] at hv'; injection hv' with hv'; subst hv'
    exact e
  · exact h5 j A v (by rw [List.getElem?_set_ne hne] at hA; exact hA) hv'
theorem nqInt (b : Addr) (k c : Nat) : Bin Tryd.prog .eql 22 (.slice (some b) k c) (.slice none 0 0) (.bool false) := .mk fun s1 s2 w => by kernel_rfl
theorem nvInt (c : Nat) : Bin Tryd.prog .eql 22 (.slice none 0 c) (.slice none 0 0) (.bool true) := .mk fun s1 s2 w => by kernel_rfl
end Go.Proofs.YtmanhdacnkpclaaDoor

/- Calls that only look: an own slice, or a slice that is a box, is lent; and what is nothing, kept as an empty list within a struct. -/
namespace Go.Proofs.YtmanhdacnkpclaaDoor
set_option linter.all false
open Go.RowKit
section
variable {P : Program} {n : Nat} {o : Oper} {σ : St}
open Classical in
/-- the tags as a callee sees them, to whom all of L is lent -/
noncomputable def lendT (L : Tag → Prop) (who : Nat → Tag) : Nat → Tag := fun b => if who b = .froz ∨ (who b ≠ .other ∧ L (who b)) then .froz else .other
theorem lendT_froz {L : Tag → Prop} {who : Nat → Tag} {b : Nat} (h : who b = .froz) : lendT L who b = .froz := if_pos (.inl h)
theorem lendT_in {L : Tag → Prop} {who : Nat → Tag} {b : Nat} {t : Tag} (h : who b = t) (hn : t ≠ .other) (hL : L t) : lendT L who b = .froz := if_pos (.inr (by rw [h]; exact ⟨hn, hL⟩))
theorem lendT_two (L : Tag → Prop) (who : Nat → Tag) (b : Nat) : lendT L who b = .other ∨ lendT L who b = .froz := by
  unfold lendT; split
  · exact .inr rfl
  · exact .inl rfl
theorem lendT_ne {L : Tag → Prop} {who : Nat → Tag} {b : Nat} (h : lendT L who b ≠ .other) : who b ≠ .other := by
  unfold lendT at h; split at h
  · rename_i h'
    rcases h' with h' | h'
    · rw [h']; simp
    · exact h'.1
  · exact absurd rfl h
theorem lendT_tag {L : Tag → Prop} {who : Nat → Tag} {p : Tag} (hp : p ≠ .other) (hL : L p) {b : Nat} (h : tagAll p .froz who b = .froz) : lendT L who b = .froz := by
  rcases Classical.em (who b = p) with e | e
  · exact lendT_in e hp hL
  · rw [tagAll_ne e] at h; exact lendT_froz h
/-- what a call gets for an operand -/
def Lend (n : Nat) (σ : St) (L : Tag → Prop) (ks : List Key) (s : Operand) (A : A1) : Prop :=
  ∀ σ', (∀ k ∈ ks, St.get σ' k = St.get σ k) → ∀ C who a w, Rep n C who σ' a w → ∀ k p, A1m w (lendT L who) k p A (a.eval s)
theorem cvm.lend {L : Tag → Prop} {w : World} {who : Nat → Tag} {p p2 : Tag} {c : CV} {u : Value} (h : cvm w who p c u) (hn : c.noOwn = true) (hi : c.ids = []) : cvm w (lendT L who) p2 c u :=
  cvm.re (p := .froz) hn (cvm.tr (p := .froz) (p2 := .froz) (cvm.re hn h) (fun b hb => lendT_froz hb) (fun b hb => lendT_froz hb) hi)
theorem lend_same {L : Tag → Prop} {s : Operand} {A : A1} (hs : St.ev σ s = some (.one A)) (hn : A.noOwn = true) (hi : A.ids = []) : Lend n σ L (opKey s) s A := fun σ' hag C who a w hr k p => by
  have h1 : A1m w who (opTag s) 0 A (a.eval s) := hr.ev ((ev_agree hag).trans hs)
  cases A with
  | c x => exact cvm.lend h1 hn hi
  | agg cs =>
    obtain ⟨vs, e, hl, hc⟩ := h1
    exact ⟨vs, e, hl, fun q c v hq hv => ⟨cvm.lend (hc q c v hq hv).1 (List.all_eq_true.1 hn c (List.mem_of_getElem? hq)) (List.flatMap_eq_nil_iff.1 hi c (List.mem_of_getElem? hq)), (hc q c v hq hv).2⟩⟩
inductive LendL (n : Nat) (σ : St) (L : Tag → Prop) : List Key → List Operand → List A1 → Prop
  | nil : LendL n σ L [] [] []
  | cons {ks kl : List Key} {s : Operand} {A : A1} {xs : List Operand} {As : List A1} (h : Lend n σ L ks s A) (hl : LendL n σ L kl xs As) : LendL n σ L (ks ++ kl) (s :: xs) (A :: As)
theorem LendL.len {L : Tag → Prop} {ks : List Key} {xs : List Operand} {As : List A1} (h : LendL n σ L ks xs As) : xs.length = As.length := by
  induction h with
  | nil => rfl
  | cons _ _ ih => simp [ih]
theorem LendL.at {L : Tag → Prop} {ks : List Key} {xs : List Operand} {As : List A1} (h : LendL n σ L ks xs As) : ∀ σ', (∀ k ∈ ks, St.get σ' k = St.get σ k) → ∀ C who a w, Rep n C who σ' a w → ∀ (i : Nat) (A : A1) (v : Value), As[i]? = some A → (xs.map a.eval)[i]? = some v → ∀ k p, A1m w (lendT L who) k p A v := by
  induction h with
  | nil => intro σ' _ C who a w _ i A v hi; simp at hi
  | cons h _ ih =>
    intro σ' hag C who a w hr i A v hi hv k p
    cases i with
    | zero =>
      simp only [List.getElem?_cons_zero, List.map_cons, Option.some.injEq] at hi hv
      subst hi hv
      exact h σ' (fun k hk => hag k (List.mem_append_left _ hk)) C who a w hr k p
    | succ i => exact ih σ' (fun k hk => hag k (List.mem_append_right _ hk)) C who a w hr i A v (by simpa using hi) (by simpa using hv) k p
def CV.plain : CV → Bool
  | .val _ => true
  | _ => false
def A1.plain : A1 → Bool
  | .c x => x.plain
  | .agg cs => cs.all CV.plain
theorem A1.plain_any {w w2 : World} {who who2 : Nat → Tag} {k k2 : Key} {p p2 : Nat} {A : A1} {u : Value} (hp : A.plain = true) (h : A1m w who k p A u) : A1m w2 who2 k2 p2 A u := by
  have key : ∀ {c : CV} {t t2 : Tag} {u : Value}, c.plain = true → cvm w who t c u → cvm w2 who2 t2 c u := fun {c t t2 u} hc hh => by
    cases c <;> first | exact hh | (simp [CV.plain] at hc)
  cases A with
  | c x => exact key hp h
  | agg cs =>
    obtain ⟨vs, e, hl, hc⟩ := h
    exact ⟨vs, e, hl, fun q c v hq hv => ⟨key (List.all_eq_true.1 hp c (List.mem_of_getElem? hq)) (hc q c v hq hv).1, (hc q c v hq hv).2⟩⟩
/-- a call that only looks -/
theorem op_callL (L : Tag → Prop) {d : Nat} {f : FuncId} {fo : Operand} {xs : Array Operand} {ts : Array TypeId} {args : List A1} {A : A1} {ks : List Key} (hd : o.dst = some d) (ho : o.op = .call { callee := .value fo, args := xs, argTypes := ts })
    (hfo : St.ev σ fo = some (.one (.c (.val (.func (.func f) #[] #[]))))) (hf : enters P f = true) (hF : FnD P f args (.one A)) (hl : LendL n σ L ks xs.toList args) (hx : A.plain = true) (hi : A.ids = []) :
    Op1 P n o ⟨opKey fo ++ ks, [.t d], []⟩ σ [(.t d, some (.one A))] where
  does := fun σ' hag hal C who a w hr hdst K Q hK => by
    have e : a.eval fo = .func (.func f) #[] #[] := hr.ev ((ev_agree fun k hk => hag k (List.mem_append_left _ hk)).trans hfo)
    have hrun : (execOp a.eval o).run P w = .ok (.enter f (xs.map a.eval)) w := by
      simp [execOp, ho, resolve, e, Deferred.ofValue, invoke, run_enters hf]
    unfold Oper.wp
    rw [hrun]
    show Calls P f (xs.map a.eval) w _
    have hargs : (xs.map a.eval) = (xs.toList.map a.eval).toArray := by cases xs; simp
    rw [hargs]
    have hw := hF (lendT L who) w (xs.toList.map a.eval) ⟨fun b hb => hr.fz b (lendT_ne hb), hr.adv.glob.step (Nat.le_refl _) fun b _ _ => ⟨rfl, lendT_two L who b⟩⟩
      (fun b b' j hb hb' => by rcases lendT_two L who b with h | h <;> rw [h] at hb <;> cases hb)
      (fun b => by rcases lendT_two L who b with h | h <;> rw [h] <;> trivial)
      (by rw [List.length_map]; exact hl.len)
      (fun i A v hA hv => hl.at σ' (fun k hk => hag k (List.mem_append_right _ hk)) C who a w hr i A v hA hv _ _)
      (fun cs h => by cases h)
    refine hw.mono ?_
    rintro e w' ⟨v, x', cs', who', rfl, rfl, hxi, hxm, hbx, hadv, hfz, hbu⟩
    show K (a.put o.dst v) w'
    refine hK (fun b => if b < w.heap.size then who b else .other) v w' ?_
    have hkeep : ∀ b, b < w.heap.size → w'.heap[b]? = w.heap[b]? := fun b hb => hadv.keep b hb (lendT_two L who b)
    have hsz : w.heap.size ≤ w'.heap.size := hadv.size
    have hstp : Stp who w (fun b => if b < w.heap.size then who b else .other) w' (fun _ => False) (fun _ => False) :=
      ⟨hadv.os, hadv.tape, hadv.output, hadv.size, fun b hb _ => hkeep b hb, fun b hb _ => if_pos hb, fun _ h => h.elim, fun _ h => h.elim⟩
    have h1 : Rep n C (fun b => if b < w.heap.size then who b else .other) σ' a w' := by
      refine hr.stp hstp (fun _ _ _ => ⟨fun h => h, fun h => h⟩) (fun _ _ _ _ h => h) (fun b hb => ?_) (fun b b' j hb hb' => ?_) (fun _ _ _ _ _ h => by rcases h with h | h <;> exact h.elim) (fun _ _ _ h => h.elim) (fun _ _ _ h => by rcases h with h | h <;> exact h.elim) (fun b j hb hb' => ?_)
      · by_cases h : b < w.heap.size
        · omega
        · simp only [if_neg h] at hb; exact absurd rfl hb
      · by_cases h : b < w.heap.size
        · by_cases h' : b' < w.heap.size
          · simp only [if_pos h, if_pos h'] at hb hb'
            exact hr.bxu b b' j hb hb'
          · simp only [if_neg h'] at hb'; cases hb'
        · simp only [if_neg h] at hb; cases hb
      · by_cases h : b < w.heap.size
        · simp only [if_pos h] at hb; exact absurd hb hb'
        · simp only [if_neg h] at hb; cases hb
    rw [hd]
    exact h1.put (hdst d hd) (A1.plain_any hx hxm)
  wr := by simp
  me := fun j hj => by
    have hj' : j ∈ A.ids := by simpa [St.ids, oids, X.ids] using hj
    rw [hi] at hj'; cases hj'
  al := by simp

/-! ## nothing within a struct -/
def CV.nilArr : CV → CV
  | .val (.slice none 0 0) => .arr []
  | c => c
theorem cvm.nilArr {w : World} {who : Nat → Tag} {p : Tag} {c : CV} {u : Value} (h : cvm w who p c u) : cvm w who p c.nilArr u := by
  unfold CV.nilArr
  split
  · have e : u = .slice none 0 0 := h
    rw [e]; exact rd_nil
  · exact h
theorem CV.nilArr_ids (c : CV) : c.nilArr.ids = c.ids := by
  unfold CV.nilArr; split <;> rfl
theorem Op1.reN {i : Info} {δ : St} {t : Nat} {cs : List CV} (ht : St.get σ (.t t) = some (.one (.agg cs))) (h : Op1 P n o i ((.t t, some (.one (.agg (cs.map CV.nilArr)))) :: σ) δ) :
    Op1 P n o ⟨.t t :: (i.rd ++ (cs.flatMap CV.ids).map Key.b), .t t :: i.wr, i.al⟩ σ (δ ++ [(.t t, some (.one (.agg (cs.map CV.nilArr))))]) where
  does := fun σ' hag hal C who x w hr hdst K Q hK => by
    have ht' : St.get σ' (.t t) = some (.one (.agg cs)) := (hag _ (by simp)).trans ht
    have hr' : Rep n C who ((.t t, some (.one (.agg (cs.map CV.nilArr)))) :: σ') x w := hr.addSlot (by
      obtain ⟨vs, e, hl, hc⟩ := hr.slot t _ ht'
      refine ⟨vs, e, by simpa using hl, fun q c v hq hv => ?_⟩
      rw [List.getElem?_map, Option.map_eq_some_iff] at hq
      obtain ⟨c0, hc0, rfl⟩ := hq
      exact ⟨(hc q c0 v hc0 hv).1.nilArr, (hc q c0 v hc0 hv).2⟩)
    have hids : (cs.map CV.nilArr).flatMap CV.ids = cs.flatMap CV.ids := by
      rw [List.flatMap_map]
      congr 1; funext c; exact CV.nilArr_ids c
    refine h.does ((.t t, some (.one (.agg (cs.map CV.nilArr)))) :: σ') (fun k hk => ?_) (fun j hj hm => ?_) C who x w hr' hdst K Q (fun w1 v w' hr1 => hK w1 v w' ?_)
    · rcases Classical.em (Key.t t = k) with rfl | hne
      · rw [St.get_same, St.get_same]
      · rw [St.get_ne (by simpa using hne), St.get_ne (by simpa using hne)]
        exact hag k (List.mem_cons_of_mem _ (List.mem_append_left _ hk))
    · refine hal j hj ?_
      simp only [St.ids, List.flatMap_cons, List.mem_append] at hm
      rcases hm with hm | hm
      · have : j ∈ cs.flatMap CV.ids := by rw [← hids]; exact hm
        exact St.ids_get ht' (x := .one (.agg cs)) this
      · exact hm
    · rw [List.append_assoc]; exact hr1
  wr := fun e he => by
    rcases List.mem_append.1 he with he | he
    · exact List.mem_cons_of_mem _ (h.wr e he)
    · simp at he; subst he; simp
  me := fun j hj => by
    have hids : (cs.map CV.nilArr).flatMap CV.ids = cs.flatMap CV.ids := by
      rw [List.flatMap_map]
      congr 1; funext c; exact CV.nilArr_ids c
    simp only [St.ids, List.flatMap_append, List.mem_append, List.flatMap_cons, List.flatMap_nil, List.append_nil] at hj
    rcases hj with hj | hj
    · rcases h.me j hj with hj | hj
      · exact .inl (List.mem_cons_of_mem _ (List.mem_append_left _ hj))
      · exact .inr hj
    · left
      have : j ∈ cs.flatMap CV.ids := by rw [← hids]; exact hj
      exact List.mem_cons_of_mem _ (List.mem_append_right _ (List.mem_map.2 ⟨j, this, rfl⟩))
  al := fun j hj => List.mem_cons_of_mem _ (h.al j hj)
end
end Go.Proofs.YtmanhdacnkpclaaDoor
