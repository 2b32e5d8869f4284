/- Still more operations. -/
import Derived.Test.YtmanhdacnkpclaaGR
namespace Go.Proofs.Ytmanhdacnkpclaa
set_option linter.unusedVariables false
set_option linter.unusedSimpArgs false
open Go.RowKit

section
variable {P : Program} {n : Nat} {o : Oper} {σ : St}
/-- a slice literal, that is the call's own -/
theorem op_bsOwn {d T E m by_ len : Nat} {z : Value} {ps : Array (Nat × Operand)} {zs : List Value} {cs : List CV} {ds : List D} (hd : o.dst = some d) (ho : o.op = .buildSlice T len ps) (hT : SliceOf P T E m by_ z) (hlen : len * m ≤ 16777216) (hl0 : 0 < len) (hz : zeroOf P E = some zs)
    (hzo : zs.all Value.oneCell' = true) (hzm : zs.length = m) (hb : buildC σ ((List.range len).map fun i => (i * m, m)) ps.toList ((List.replicate len (zs.map CV.val)).flatten) = some cs) (hds : (fcs ds).map FC.cv = cs) (hdl : ds.length = len) (hcl : Nat.beq cs.length (len * m) = true) :
    Op1 P n o ⟨partKeys ps.toList, [.t d], []⟩ σ [(.t d, some (.one (.c (.own E m ds))))] where
  does := fun σ' hag hal C who a w hr hdst K Q hK => by
    obtain ⟨i', hi', hz0, hz1, hz2⟩ := info_parts hT.info
    obtain ⟨zv, hzv1, hzv2⟩ := run_zeroOf hz w
    have hmp := hT.pos
    have hcat : ((Array.range (len * m)).map (fun x => zs.toArray[x % zs.toArray.size]!)).toList = (List.replicate len zs).flatten := by
      apply List.ext_getElem?
      intro j
      have hz' : zs.toArray.size = m := by simp [hzm]
      rcases Nat.lt_or_ge j (len * m) with hj | hj
      · have hjm : j % m < zs.length := by rw [hzm]; exact Nat.mod_lt _ hmp
        have e1 : ((Array.range (len * m)).map (fun x => zs.toArray[x % zs.toArray.size]!)).toList[j]? = some zs[j % m] := by
          simp [hj, hz', hjm, hzm]
          rw [List.getElem?_eq_getElem hjm]; rfl
        rw [e1]
        have : ∀ (len j : Nat), j < len * m → (List.replicate len zs).flatten[j]? = zs[j % m]? := by
          intro len
          induction len with
          | zero => intro j hj; omega
          | succ k ih =>
            intro j hj
            simp only [List.replicate_succ, List.flatten_cons]
            rcases Nat.lt_or_ge j zs.length with h | h
            · rw [List.getElem?_append_left h, Nat.mod_eq_of_lt (by omega)]
            · rw [List.getElem?_append_right h, ih (j - zs.length) (by rw [hzm] at h ⊢; rw [Nat.add_mul] at hj; omega), hzm]
              rw [hzm] at h
              rw [Nat.mod_eq_sub_mod h]
        rw [this len j hj, List.getElem?_eq_getElem hjm]
      · rw [List.getElem?_eq_none (by simp; omega), List.getElem?_eq_none (by simp [List.length_flatten, hzm]; omega)]
    have hmap : ((List.replicate len zs).flatten).map CV.val = (List.replicate len (zs.map CV.val)).flatten := by simp [List.map_flatten]
    obtain ⟨vs, h1, h2, h3⟩ := buildC_run (place := fun i => some (i * m, m)) hr (fun i x hi => by
      rw [List.getElem?_map, Option.map_eq_some_iff] at hi
      obtain ⟨k, hk, rfl⟩ := hi
      have : k = i := by
        rw [List.getElem?_eq_some_iff] at hk
        obtain ⟨hk1, hk2⟩ := hk
        simp at hk2; exact hk2.symm
      rw [this]) ps.toList ((List.replicate len (zs.map CV.val)).flatten) cs ((List.replicate len zs).flatten) ((buildC_agree hag).trans hb) (by rw [← hmap]; simp) (fun q c v hq hv => by
      rw [← hmap, List.getElem?_map, hv] at hq; simp at hq; subst hq
      refine ⟨rfl, rfl, List.all_eq_true.1 hzo v ?_⟩
      obtain ⟨l, hl, hvl⟩ := List.mem_flatten.1 (List.mem_of_getElem? hv)
      rw [List.mem_replicate] at hl; rw [← hl.2]; exact hvl)
    have hrun : (execOp a.eval o).run P w = .ok (.value (.slice (some ⟨w.heap.size, 0, none⟩) len len)) (w.alloc (.cells vs.toArray E)) := by
      have e : (ps.map fun p => (p.1, a.eval p.2)).toList = ps.toList.map fun p => (p.1, a.eval p.2) := by simp
      have e2 : (Array.range (len * m)).map (fun x => zs.toArray[x % zs.toArray.size]!) = ((List.replicate len zs).flatten).toArray := by
        rw [← hcat]
      have hne : ¬ (len * m = 0) := by
        intro h0
        rcases Nat.mul_eq_zero.1 h0 with h0 | h0 <;> omega
      simp only [execOp, ho, Instr.buildSlice, Sem.run_bind, run_underlying hT.und, Result.andThen_ok, sizeOf, typeInfo, run_program, hi', Sem.run_pure, hz1]
      rw [if_neg (by omega : ¬ len * m > 2 ^ 24)]
      simp only [if_neg hne, Sem.run_bind, hzv1, Result.andThen_ok, hzv2, Sem.run_pure, e, e2, h1, newRow, run_newObj_alloc]
    unfold Oper.wp
    rw [hrun]
    show K (a.put o.dst _) _
    have hnew : who w.heap.size = .other := by
      rcases Classical.em (who w.heap.size = .other) with h | h
      · exact h
      · exact absurd (hr.fz _ h) (Nat.lt_irrefl _)
    have hstp : Stp who w (fun b => if b = w.heap.size then .own (.t d) 0 0 else who b) (w.alloc (.cells vs.toArray E)) (fun _ => False) (fun _ => False) :=
      ⟨rfl, rfl, rfl, by simp, fun b hb _ => Below.heap_alloc w _ b hb, fun b hb _ => by rw [if_neg (by omega)], fun _ h => h.elim, fun _ h => h.elim⟩
    refine hK (fun b => if b = w.heap.size then .own (.t d) 0 0 else who b) _ _ ?_
    rw [hd]
    have hr1 := hr.stp hstp (fun _ _ _ => ⟨fun h => h, fun h => h⟩) (fun _ _ _ _ h => h) (fun b hb => by
      split at hb
      · rename_i h; subst h; simp
      · have := hr.fz b hb; simp; omega) (fun b b' j hb hb' => by
      split at hb
      · cases hb
      · split at hb'
        · cases hb'
        · exact hr.bxu b b' j hb hb') (fun _ _ _ _ _ h => by rcases h with h | h <;> exact h.elim) (fun _ _ _ h => h.elim) (fun _ _ _ h => by rcases h with h | h <;> exact h.elim) (fun b j hb hnb => by
      split at hb
      · cases hb
      · exact absurd hb hnb)
    refine hr1.put (hdst d hd) (x := .one (.c (.own E m ds))) ?_
    have hl16 : len ≤ 16777216 := Nat.le_trans (Nat.le_mul_of_pos_right len hmp) hlen
    have hvl : vs.length = len * m := by rw [h2]; exact Nat.eq_of_beq_eq_true hcl
    refine ⟨⟨vs, ⟨by rw [hdl]; exact hvl, .inr ⟨w.heap.size, len, vs.toArray, by rw [hdl], Nat.zero_le _, Go.heap_alloc_new w _, by omega, by simp only [maxLen]; omega, by simpa using hvl, by rw [hdl, ← hvl]; simp⟩⟩, rds_iff.2 (cellsF_mk ?_ ?_), ?_⟩, fun k hk => ?_⟩
    · have := congrArg List.length hds
      rw [List.length_map] at this; rw [this, h2]
    · intro i c x hc hx
      have hcs : cs[i]? = some c.cv := by rw [← hds, List.getElem?_map, hc]; rfl
      have h4 := (h3 i _ x hcs hx).2.1
      have h5 : fcm w (Fz who) c x := by cases c <;> exact h4
      refine h5.keep (by simp) (fun b hb hF => ?_) fun b hb _ => Below.heap_alloc w _ b hb
      refine ⟨?_, ?_⟩
      · show (if b = w.heap.size then Tag.own (.t d) 0 0 else who b) = .froz
        rw [if_neg (by omega)]; exact hF
      · simp only [Value.ownBlock, ne_eq, Option.some.injEq]; omega
    · intro u hu
      obtain ⟨i, hi, rfl⟩ := List.getElem_of_mem hu
      have hcl : i < cs.length := by omega
      exact (h3 i _ _ (List.getElem?_eq_getElem hcl) (List.getElem?_eq_getElem hi)).2.2
    · simp only [Value.ownBlock, Option.some.injEq] at hk
      subst hk; simp
  wr := by simp
  me := fun j hj => by simp [St.ids, oids, X.ids, A1.ids, CV.ids] at hj
  al := by simp


/-- a slice of the call's own that nobody writes from here on -/
theorem Op1.frzIn {i : Info} {δ : St} {t E m : Nat} {ds : List D} (ht : St.get σ (.t t) = some (.one (.c (.own E m ds)))) (h : Op1 P n o i ((.t t, some (.one (.c (.arr ds)))) :: σ) δ) :
    Op1 P n o ⟨.t t :: i.rd, .t t :: i.wr, i.al⟩ σ (δ ++ [(.t t, some (.one (.c (.arr ds))))]) where
  does := fun σ' hag hal C who a w hr hdst K Q hK => by
    have ht' : St.get σ' (.t t) = some (.one (.c (.own E m ds))) := (hag _ (by simp)).trans ht
    obtain ⟨who', hr'⟩ := Wk.freezeAt ht' C who a w hr
    refine h.does ((.t t, some (.one (.c (.arr ds)))) :: σ') (fun k hk => ?_) (fun j hj hm => ?_) C who' a w hr' hdst K Q (fun w1 v w' hr1 => hK w1 v w' ?_)
    · rcases Classical.em (Key.t t = k) with rfl | hne
      · rw [St.get_same, St.get_same]
      · rw [St.get_ne (by simpa using hne), St.get_ne (by simpa using hne)]
        exact hag k (List.mem_cons_of_mem _ hk)
    · refine hal j hj ?_
      simpa [St.ids, oids, X.ids, A1.ids, CV.ids] using hm
    · rw [List.append_assoc]; exact hr1
  wr := fun e he => by
    rcases List.mem_append.1 he with he | he
    · exact List.mem_cons_of_mem _ (h.wr e he)
    · simp at he; subst he; simp
  me := fun j hj => by
    rcases h.me j (by simpa [St.ids, oids, X.ids, A1.ids, CV.ids] using hj) with hj | hj
    · exact .inl (List.mem_cons_of_mem _ hj)
    · exact .inr hj
  al := fun j hj => List.mem_cons_of_mem _ (h.al j hj)
theorem op_sliceLoT {T : Tabs P} {α : Type} {f : α → D} {m : Nat} {g : α → List FC} [FCs f m g] {l : List α} {d t E b : Nat} {zi : Int} {s i : Operand} (hd : o.dst = some d) (ho : o.op = .slice t s (some i) none none) (hT : T.sl t = some (E, m, b)) (hs : St.ev σ s = some (.one (.c (.arr (l.map f)))))
    (hi0 : St.ev σ i = some (.one (.c (.val (.int .i64 zi))))) (h0 : 0 ≤ zi) (hkk : zi.toNat ≤ l.length) : Op1 P n o ⟨(opKey s ++ opKey i) ++ [], [.t d], []⟩ σ [(.t d, some (.one (.c (.arr ((l.drop zi.toNat).map f)))))] := by
  obtain ⟨z, hz⟩ := T.sl_ok hT
  obtain ⟨k, rfl⟩ := Int.eq_ofNat_of_zero_le h0
  have hi := hi0
  have hk : k ≤ l.length := by simpa using hkk
  rw [Int.toNat_natCast]
  have := op_slice (o := o) (n := n) (σ := σ) (l := k) (h := (l.map f).length) (lo := some i) (hi := none) (rs := (l.drop k).map f) hd ho hz hs hi rfl (by simpa using hk) (Nat.le_refl _) (FCs.lenL l) (by
    rw [List.take_of_length_le (by simp), ← List.map_drop])
  simpa [X.ids, A1.ids, CV.ids] using this
theorem op_bsOT {T : Tabs P} {α : Type} {f : α → D} {m : Nat} {g : α → List FC} [FCs f m g] (l : List α) {d t E b len : Nat} {ps : Array (Nat × Operand)} {zs : List Value} {cs : List CV} (hd : o.dst = some d) (ho : o.op = .buildSlice t len ps) (hT : T.sl t = some (E, m, b)) (hz : T.zo E = some zs)
    (hlen : Nat.ble (len * m) 16777216 = true) (hl0 : Nat.blt 0 len = true) (hzo : zs.all Value.oneCell' = true) (hzm : zs.length = m)
    (hb : buildC σ ((List.range len).map fun i => (i * m, m)) ps.toList ((List.replicate len (zs.map CV.val)).flatten) = some cs) (hds : (l.flatMap g).map FC.cv = cs) (hdl : l.length = len) (hcl : Nat.beq cs.length (len * m) = true) :
    Op1 P n o ⟨partKeys ps.toList, [.t d], []⟩ σ [(.t d, some (.one (.c (.own E m (l.map f)))))] := by
  obtain ⟨z, hzz⟩ := T.sl_ok hT
  exact op_bsOwn hd ho hzz (Nat.le_of_ble_eq_true hlen) (Nat.lt_of_succ_le (Nat.le_of_ble_eq_true hl0)) (T.zo_ok hz) hzo hzm hb (by rw [fcs_map]; exact hds) (by simp [hdl]) hcl
/-- an array, out of its parts -/
theorem op_buildA {d T len E m : Nat} {ps : Array (Nat × Operand)} {pl : List (Nat × Nat)} {zs : List Value} {cs : List CV} (hd : o.dst = some d) (ho : o.op = .build T ps) (hT : P.underlying T = some (.array len E)) (hE : (P.info? E).map (·.size) = some m) (hp : pl = (List.range len).map fun i => (i * m, m)) (hz : zeroOf P T = some zs) (hzo : zs.all Value.oneCell' = true)
    (hb : buildC σ pl ps.toList (zs.map CV.val) = some cs) : Op1 P n o ⟨partKeys ps.toList ++ (X.one (.agg cs)).ids.map Key.b, [.t d], []⟩ σ [(.t d, some (.one (.agg cs)))] :=
  .value _ hd fun σ' hag C who a w hr => by
    obtain ⟨z, hz1, hz2⟩ := run_zeroOf hz w
    obtain ⟨i', hi', hsz⟩ := Option.map_eq_some_iff.1 hE
    obtain ⟨vs, h1, h2, h3⟩ := buildC_run (place := fun i => some (i * m, m)) hr (fun i x hi => by
      rw [hp, List.getElem?_map, Option.map_eq_some_iff] at hi
      obtain ⟨k, hk, rfl⟩ := hi
      have : k = i := by
        rw [List.getElem?_eq_some_iff] at hk
        obtain ⟨hk1, hk2⟩ := hk
        simp at hk2; exact hk2.symm
      rw [this]) ps.toList (zs.map CV.val) cs zs ((buildC_agree hag).trans hb) (by simp) (fun q c v hq hv => by
      rw [List.getElem?_map, hv] at hq; simp at hq; subst hq
      exact ⟨rfl, rfl, List.all_eq_true.1 hzo v (List.mem_of_getElem? hv)⟩)
    refine ⟨.agg vs.toArray, ?_, vs, rfl, h2, fun q c v hq hv => cvm.of (h3 q c v hq hv)⟩
    have e : (ps.map fun p => (p.1, a.eval p.2)).toList = ps.toList.map fun p => (p.1, a.eval p.2) := by simp
    simp only [execOp, ho, Instr.build, Sem.run_bind, hz1, Result.andThen_ok, run_underlying hT, hz2, e, sizeOf, typeInfo, run_program, hi', hsz, h1, Sem.run_pure]

theorem op_min {d : Nat} {s1 s2 : Operand} {ts : Array TypeId} {a b c : Int} (hd : o.dst = some d) (ho : o.op = .call { callee := .builtin .min, args := #[s1, s2], argTypes := ts }) (h1 : St.ev σ s1 = some (.one (.c (.val (.int .i64 a))))) (h2 : St.ev σ s2 = some (.one (.c (.val (.int .i64 b))))) (hc : (if b < a then b else a) = c) :
    Op1 P n o ⟨(opKey s1 ++ opKey s2) ++ (X.one (iA c)).ids.map Key.b, [.t d], []⟩ σ [(.t d, some (.one (iA c)))] :=
  .value _ hd fun σ' hag C who x w hr => by
    have e1 : x.eval s1 = .int .i64 a := hr.ev ((ev_agree fun k hk => hag k (List.mem_append_left _ hk)).trans h1)
    have e2 : x.eval s2 = .int .i64 b := hr.ev ((ev_agree fun k hk => hag k (List.mem_append_right _ hk)).trans h2)
    refine ⟨_, ?_, rfl⟩
    subst hc
    simp [execOp, ho, e1, e2, resolve, invoke, builtin, Builtin.min_, Builtin.min2]
theorem op_max {d : Nat} {s1 s2 : Operand} {ts : Array TypeId} {a b c : Int} (hd : o.dst = some d) (ho : o.op = .call { callee := .builtin .max, args := #[s1, s2], argTypes := ts }) (h1 : St.ev σ s1 = some (.one (.c (.val (.int .i64 a))))) (h2 : St.ev σ s2 = some (.one (.c (.val (.int .i64 b))))) (hc : (if a < b then b else a) = c) :
    Op1 P n o ⟨(opKey s1 ++ opKey s2) ++ (X.one (iA c)).ids.map Key.b, [.t d], []⟩ σ [(.t d, some (.one (iA c)))] :=
  .value _ hd fun σ' hag C who x w hr => by
    have e1 : x.eval s1 = .int .i64 a := hr.ev ((ev_agree fun k hk => hag k (List.mem_append_left _ hk)).trans h1)
    have e2 : x.eval s2 = .int .i64 b := hr.ev ((ev_agree fun k hk => hag k (List.mem_append_right _ hk)).trans h2)
    refine ⟨_, ?_, rfl⟩
    subst hc
    simp [execOp, ho, e1, e2, resolve, invoke, builtin, Builtin.max_, Builtin.max2]
/-- nothing where nothing would do -/
theorem FnD.nil {f : FuncId} {args : List A1} {x : X} (h : FnD P f args x) (i : Nat) (hi : args[i]? = some (.c (.arr []))) : FnD P f (args.set i (.c (.val (.slice none 0 0)))) x := fun who w vs h1 h2 h3 h4 h5 h6 => by
  refine h who w vs h1 h2 h3 (by simpa using h4) (fun j A v hA hv => ?_) h6
  rcases Classical.em (i = j) with rfl | hne
  · rw [hi] at hA; injection hA with hA; subst hA
    have hlt : i < args.length := (List.getElem?_eq_some_iff.1 hi).1
    have := h5 i _ v (by rw [List.getElem?_set_self hlt]) hv
    have e : v = .slice none 0 0 := this
    subst e
    exact rd_nil
  · exact h5 j A v (by rw [List.getElem?_set_ne hne]; exact hA) hv
/-- arrays of three numbers -/
def i3 (x y z : Int) : A1 := .agg [.val (.int .i64 x), .val (.int .i64 y), .val (.int .i64 z)]
end
theorem eqI (d : Nat) (x y : Int) (w : World) : (Op.equalIn (d + 1) 3 (.int .i64 x) (.int .i64 y)).run Try.prog w = .ok (x == y) w := by
  unfold Op.equalIn
  rw [Sem.run_bind, run_underlying (show Try.prog.underlying 3 = some (.int .i64) by kernel_rfl)]
  simp
theorem bin_i3 (x y z x' y' z' : Int) : Bin Try.prog .neq 46 (.agg #[.int .i64 x, .int .i64 y, .int .i64 z]) (.agg #[.int .i64 x', .int .i64 y', .int .i64 z']) (.bool (!(x == x' && (y == y' && z == z')))) := .mk fun s1 s2 w => by
  have hg : (eqGuard .neq 46 s1 s2 (.agg #[.int .i64 x, .int .i64 y, .int .i64 z]) (.agg #[.int .i64 x', .int .i64 y', .int .i64 z'])).run Try.prog w = .ok () w := by kernel_rfl
  have he : (Op.equal 46 (.agg #[.int .i64 x, .int .i64 y, .int .i64 z]) (.agg #[.int .i64 x', .int .i64 y', .int .i64 z'])).run Try.prog w = .ok (x == x' && (y == y' && z == z')) w := by
    unfold Op.equal Op.maxDepth Op.equalIn
    rw [Sem.run_bind, run_underlying (show Try.prog.underlying 46 = some (.array 3 3) by kernel_rfl)]
    have hp : ∀ (a b c : Value) (w : World), a.oneCell' = true → b.oneCell' = true → c.oneCell' = true → (part 3 #[a, b, c] 0).run Try.prog w = .ok a w ∧ (part 3 #[a, b, c] 1).run Try.prog w = .ok b w ∧ (part 3 #[a, b, c] 2).run Try.prog w = .ok c w := fun a b c w _ _ _ => ⟨by kernel_rfl, by kernel_rfl, by kernel_rfl⟩
    have h1 := fun w => hp (.int .i64 x) (.int .i64 y) (.int .i64 z) w rfl rfl rfl
    have h2 := fun w => hp (.int .i64 x') (.int .i64 y') (.int .i64 z') w rfl rfl rfl
    have e : List.range' 0 3 = [0, 1, 2] := rfl
    cases hx : x == x' <;> cases hy : y == y' <;> cases hz : z == z' <;> simp [eqI, e, h1, h2, hx, hy, hz]
  rw [Sem.run_bind, hg]
  simp [binOp, he]
theorem ar3 : Try.prog.underlying 46 = some (.array 3 3) := by kernel_rfl
theorem ar3E : (Try.prog.info? 3).map (·.size) = some 1 := by kernel_rfl
theorem ar3R : rowT Try.prog 3 = some (false, 1) := by kernel_rfl
theorem ar3Z : zeroOf Try.prog 46 = some [.int .i64 0, .int .i64 0, .int .i64 0] := by kernel_rfl
section
variable {n : Nat} {o : Oper} {σ : St}
theorem op_b3 {d : Nat} {ps : Array (Nat × Operand)} {cs : List CV} (hd : o.dst = some d) (ho : o.op = .build 46 ps) (hb : buildC σ [(0, 1), (1, 1), (2, 1)] ps.toList [.val (.int .i64 0), .val (.int .i64 0), .val (.int .i64 0)] = some cs) :
    Op1 Try.prog n o ⟨partKeys ps.toList ++ (X.one (.agg cs)).ids.map Key.b, [.t d], []⟩ σ [(.t d, some (.one (.agg cs)))] :=
  op_buildA (pl := [(0, 1), (1, 1), (2, 1)]) hd ho ar3 ar3E rfl ar3Z rfl hb
theorem op_idx3 {d j q k : Nat} {s i : Operand} {kk : IntKind} {zi : Int} (hd : o.dst = some d) (ho : o.op = .indexAddr 46 s i) (hs : St.ev σ s = some (.one (.c (.ptr j q)))) (hi : St.ev σ i = some (.one (.c (.val (.int kk zi))))) (hz : zi = (k : Int)) (hk : k < 3) :
    Op1 Try.prog n o ⟨(opKey s ++ opKey i) ++ (X.one (.c (.ptr j (q + k)))).ids.map Key.b, [.t d], []⟩ σ [(.t d, some (.one (.c (.ptr j (q + k)))))] := op_idxB hd ho ar3 ar3E hs hi hz hk (by omega)
theorem op_index3 {d k : Nat} {s i : Operand} {cs : List CV} {c : CV} {kk : IntKind} {zi : Int} (hd : o.dst = some d) (ho : o.op = .index 46 s i) (hs : St.ev σ s = some (.one (.agg cs))) (hi : St.ev σ i = some (.one (.c (.val (.int kk zi))))) (hz : zi = (k : Int)) (hk : k < 3) (hc : cs[k]? = some c) (hn : c.noOwn = true) :
    Op1 Try.prog n o ⟨(opKey s ++ opKey i) ++ (X.one (.c c)).ids.map Key.b, [.t d], []⟩ σ [(.t d, some (.one (.c c)))] := op_index hd ho ar3 ar3R rfl hs hi hz hk hc hn
theorem agg3 {w : World} {who : Nat → Tag} {k : Key} {p : Nat} {x y z : Int} {u : Value} (h : A1m w who k p (i3 x y z) u) : u = .agg #[.int .i64 x, .int .i64 y, .int .i64 z] := by
  obtain ⟨vs, rfl, hl, h⟩ := h
  match vs, hl with
  | [a, b, c], _ =>
    have h0 : a = .int .i64 x := (h 0 _ a rfl rfl).1
    have h1 : b = .int .i64 y := (h 1 _ b rfl rfl).1
    have h2 : c = .int .i64 z := (h 2 _ c rfl rfl).1
    rw [h0, h1, h2]
theorem op_neq3 {d : Nat} {t' : TypeId} {s1 s2 : Operand} {x y z x' y' z' : Int} {r : Bool} (hd : o.dst = some d) (ho : o.op = .binOp .neq 46 s1 s2 t') (h1 : St.ev σ s1 = some (.one (i3 x y z))) (h2 : St.ev σ s2 = some (.one (i3 x' y' z'))) (hr' : (!(x == x' && (y == y' && z == z'))) = r) :
    Op1 Try.prog n o ⟨(opKey s1 ++ opKey s2) ++ (X.one (.c (.val (.bool r)))).ids.map Key.b, [.t d], []⟩ σ [(.t d, some (.one (.c (.val (.bool r)))))] :=
  .value _ hd fun σ' hag C who a w hr => by
    have e1 := agg3 (hr.ev ((ev_agree fun k hk => hag k (List.mem_append_left _ hk)).trans h1))
    have e2 := agg3 (hr.ev ((ev_agree fun k hk => hag k (List.mem_append_right _ hk)).trans h2))
    refine ⟨.bool r, ?_, rfl⟩
    obtain ⟨hb⟩ := bin_i3 x y z x' y' z'
    have := hb s1 s2 w
    rw [hr'] at this
    simp only [execOp, ho, e1, e2, Sem.run_bind] at this ⊢
    rw [this]; rfl
end
end Go.Proofs.Ytmanhdacnkpclaa
