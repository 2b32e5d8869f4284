/- What most operations do, reckoned. -/
import Derived.Test.YtmanhdacnkpclaaGX
namespace Go.Proofs.Ytmanhdacnkpclaa
set_option linter.unusedVariables false
set_option linter.unusedSimpArgs false
open Go.RowKit

structure Tabs (P : Program) where
  fo : Nat → Nat → Option Nat
  fo_ok : ∀ {S f off : Nat}, fo S f = some off → fieldOff P S f = some off
  rw : Nat → Option (Bool × Nat)
  rw_ok : ∀ {T m : Nat} {r : Bool}, rw T = some (r, m) → rowT P T = some (r, m)
  zo : Nat → Option (List Value)
  zo_ok : ∀ {T : Nat} {zs : List Value}, zo T = some zs → zeroOf P T = some zs
  sl : Nat → Option (Nat × Nat × Nat)
  sl_ok : ∀ {T E m b : Nat}, sl T = some (E, m, b) → ∃ z, SliceOf P T E m b z
  fp : Nat → Option (List (Nat × Nat))
  fp_ok : ∀ {T : Nat} {l : List (Nat × Nat)}, fp T = some l → fieldPl P T = some l
  bt : Nat → Bool
  bt_ok : ∀ {T : Nat}, bt T = true → ∀ a b : Bool, Bin P .eql T (.bool a) (.bool b) (.bool (a == b)) ∧ Bin P .neq T (.bool a) (.bool b) (.bool (a != b))
  st : Nat → Bool
  st_ok : ∀ {T : Nat}, st T = true → P.underlying T = some .string

section
variable {P : Program} (T : Tabs P)
def vI (d : Nat) (ks : List Key) (x : X) : Info × St := (⟨ks ++ x.ids.map Key.b, [.t d], []⟩, [(.t d, some x)])
def stLoad (d : Nat) (s : Operand) (σ : St) (row : Bool) (m : Nat) : Option X → Option (Info × St)
  | some (.one (.c (.ptr j q))) => match St.get σ (.b j) with
    | some (.box cs) => bif row then
        (bif Nat.beq ((cs.drop q).take m).length m && ((cs.drop q).take m).all (fun c => c.noOwn && c.oneOk) then some (vI d (opKey s ++ [.b j]) (.one (.agg ((cs.drop q).take m)))) else none)
      else match cs[q]? with
        | some (.own E m' ds) => some (⟨(opKey s ++ [.b j]) ++ ((cs.set q .any).flatMap CV.ids).map Key.b, [.t d, .b j], []⟩, [(.t d, some (.one (.c (.own E m' ds)))), (.b j, some (.box (cs.set q .any)))])
        | some c => bif c.noOwn then some (vI d (opKey s ++ [.b j]) (.one (.c c))) else none
        | none => none
    | _ => none
  | some (.one (.c (.fp (c :: cs)))) => bif row then
      (bif Nat.beq (((c :: cs).take m).map FC.cv).length m && (((c :: cs).take m).map FC.cv).all CV.oneOk then some (vI d (opKey s) (.one (.agg (((c :: cs).take m).map FC.cv)))) else none)
      else some (vI d (opKey s) (.one (.c c.cv)))
  | _ => none
def stStore (s v : Operand) (σ : St) (row : Bool) (m : Nat) : Option X → Option X → Option (Info × St)
  | some (.one (.c (.ptr j q))), some (.one A) => match St.get σ (.b j) with
    | some (.box cs) => bif A.noOwn then
        (bif A.cells.all CV.oneOk && Nat.beq A.cells.length m && Nat.ble (q + m) cs.length then
          some (⟨(opKey s ++ opKey v ++ [.b j]) ++ ((cs ++ A.cells).flatMap CV.ids).map Key.b, [.b j], []⟩, [(.b j, some (.box (splL cs q A.cells)))]) else none)
      else match v, A, row, m with
        | .tmp tv, .c (.own E m' ds), false, 1 => bif Nat.blt q cs.length then some (⟨(opKey s ++ [.t tv, .b j]) ++ ((cs.set q (.own E m' ds)).flatMap CV.ids).map Key.b, [.b j, .t tv], []⟩, [(.b j, some (.box (cs.set q (.own E m' ds)))), (.t tv, none)]) else none
        | _, _, _, _ => none
    | _ => none
  | _, _ => none
/-- what an operation does, and what it looks at -/
def stepD (o : Oper) (σ : St) : Option (Info × St) :=
  match o.dst, o.op with
  | some d, .move s | some d, .assign s => match St.ev σ s with
    | some x => bif x.noOwn then some (vI d (opKey s) x) else match s, x with
      | .tmp t, .one (.c (.own E m ds)) => some (⟨[.t t], [.t d, .t t], []⟩, [(.t d, some (.one (.c (.own E m ds)))), (.t t, none)])
      | _, _ => none
    | none => none
  | some d, .fieldAddr S s f => match T.fo S f, St.ev σ s with
    | some off, some (.one (.c (.ptr j q))) => some (vI d (opKey s) (.one (.c (.ptr j (q + off)))))
    | some off, some (.one (.c (.fp cs))) => some (vI d (opKey s) (.one (.c (.fp (cs.drop off)))))
    | _, _ => none
  | some d, .load t s => match T.rw t with
    | some (row, m) => stLoad d s σ row m (St.ev σ s)
    | none => none
  | none, .store t s v => match T.rw t with
    | some (row, m) => stStore s v σ row m (St.ev σ s) (St.ev σ v)
    | none => none
  | some d, .box _ s => match St.ev σ s with
    | some (.one A) => bif A.noOwn && A.cells.all CV.oneOk && !(Nat.beq d EXT) then some (⟨opKey s ++ (A.cells.flatMap CV.ids).map Key.b, [.t d, .b d], [d]⟩, [(.t d, some (.one (.c (.ptr d 0)))), (.b d, some (.box A.cells))]) else none
    | _ => none
  | some d, .alloc E => match T.zo E with
    | some zs => bif !(Nat.beq d EXT) then some (⟨[], [.t d, .b d], [d]⟩, [(.t d, some (.one (.c (.ptr d 0)))), (.b d, some (.box (zs.map CV.val)))]) else none
    | none => none
  | some d, .extract s ix => match St.ev σ s with
    | some (.tup As) => match As[ix]? with
      | some A => bif A.noOwn then some (vI d (opKey s) (.one A)) else none
      | none => none
    | _ => none
  | some d, .build t ps => match T.fp t, T.zo t with
    | some pl, some zs => bif zs.all Value.oneCell' then (match buildC σ pl ps.toList (zs.map CV.val) with
      | some cs => some (vI d (partKeys ps.toList) (.one (.agg cs)))
      | none => none) else none
    | _, _ => none
  | some d, .pick c s1 s2 => match St.ev σ c with
    | some (.one (.c (.val (.bool b)))) => match St.ev σ (if b then s1 else s2) with
      | some x => bif x.noOwn then some (vI d (opKey c ++ opKey (if b then s1 else s2)) x) else none
      | none => none
    | _ => none
  | some d, .unOp .not _ s => match St.ev σ s with
    | some (.one (.c (.val (.bool b)))) => some (vI d (opKey s) (.one (.c (.val (.bool (!b))))))
    | _ => none
  | some d, .binOp .eql t s1 s2 _ => match St.ev σ s1, St.ev σ s2 with
    | some (.one (.c (.val (.bool a)))), some (.one (.c (.val (.bool b)))) => bif T.bt t then some (vI d (opKey s1 ++ opKey s2) (.one (.c (.val (.bool (a == b)))))) else none
    | some (.one (.c (.val (.string a)))), some (.one (.c (.val (.string b)))) => some (vI d (opKey s1 ++ opKey s2) (.one (.c (.val (.bool (a.toList == b.toList))))))
    | _, _ => none
  | some d, .binOp .neq t s1 s2 _ => match St.ev σ s1, St.ev σ s2 with
    | some (.one (.c (.val (.bool a)))), some (.one (.c (.val (.bool b)))) => bif T.bt t then some (vI d (opKey s1 ++ opKey s2) (.one (.c (.val (.bool (a != b)))))) else none
    | some (.one (.c (.val (.string a)))), some (.one (.c (.val (.string b)))) => some (vI d (opKey s1 ++ opKey s2) (.one (.c (.val (.bool (!(a.toList == b.toList)))))))
    | _, _ => none
  | some d, .buildSlice t 0 ps => match T.sl t, ps.toList with
    | some (E, m, _), [] => some (⟨[], [.t d], []⟩, [(.t d, some (.one (.c (.own E m []))))])
    | _, _ => none
  | _, _ => none

variable {T} {n : Nat} {o : Oper} {σ : St}
theorem stLoad_ok {d t : Nat} {s : Operand} {row : Bool} {m : Nat} {i : Info} {δ : St} (hd : o.dst = some d) (ho : o.op = .load t s) (hr : rowT P t = some (row, m)) (h : stLoad d s σ row m (St.ev σ s) = some (i, δ)) : Op1 P n o i σ δ := by
  unfold stLoad at h
  split at h
  · rename_i j q e
    split at h
    · rename_i cs eb
      cases row
      · simp only [cond_false] at h
        split at h
        · rename_i E m' ds ec
          injection h with h; injection h with h1 h2; subst h1 h2
          exact op_loadOwn hd ho hr e eb ec rfl
        · rename_i c hno ec
          cases hn : c.noOwn
          · rw [hn] at h; cases h
          · rw [hn] at h
            injection h with h; injection h with h1 h2; subst h1 h2
            exact op_load1B hd ho hr e eb ec hn
        · cases h
      · simp only [cond_true] at h
        cases hc : (Nat.beq ((cs.drop q).take m).length m && ((cs.drop q).take m).all (fun c => c.noOwn && c.oneOk))
        · rw [hc] at h; cases h
        · rw [hc] at h
          simp only [Bool.and_eq_true] at hc
          injection h with h; injection h with h1 h2; subst h1 h2
          exact op_loadNB hd ho hr e eb rfl (Nat.eq_of_beq_eq_true hc.1) hc.2
    · cases h
  · rename_i c cs e
    cases row
    · simp only [cond_false] at h
      injection h with h; injection h with h1 h2; subst h1 h2
      exact op_load1F hd ho hr e rfl
    · simp only [cond_true] at h
      cases hc : (Nat.beq (((c :: cs).take m).map FC.cv).length m && (((c :: cs).take m).map FC.cv).all CV.oneOk)
      · rw [hc] at h; cases h
      · rw [hc] at h
        simp only [Bool.and_eq_true] at hc
        injection h with h; injection h with h1 h2; subst h1 h2
        exact op_loadNF hd ho hr e rfl (Nat.eq_of_beq_eq_true hc.1) hc.2
  · cases h
theorem stStore_ok {t : Nat} {s v : Operand} {row : Bool} {m : Nat} {i : Info} {δ : St} (hd : o.dst = none) (ho : o.op = .store t s v) (hr : rowT P t = some (row, m)) (h : stStore s v σ row m (St.ev σ s) (St.ev σ v) = some (i, δ)) : Op1 P n o i σ δ := by
  unfold stStore at h
  split at h
  · rename_i j q A e ev
    split at h
    · rename_i cs eb
      cases hn : A.noOwn
      · rw [hn] at h
        simp only [cond_false] at h
        split at h
        · rename_i tv E m' ds
          cases hq : Nat.blt q cs.length
          · rw [hq] at h; cases h
          · rw [hq] at h
            injection h with h; injection h with h1 h2; subst h1 h2
            exact op_storeOwn hd ho e eb hr ev hq rfl
        · cases h
      · rw [hn] at h
        simp only [cond_true] at h
        cases hc : (A.cells.all CV.oneOk && Nat.beq A.cells.length m && Nat.ble (q + m) cs.length)
        · rw [hc] at h; cases h
        · rw [hc] at h
          simp only [Bool.and_eq_true] at hc
          injection h with h; injection h with h1 h2; subst h1 h2
          exact op_store hd ho e eb hr ev hn hc.1.1 rfl (Nat.eq_of_beq_eq_true hc.1.2) (Nat.le_of_ble_eq_true hc.2) rfl
    · cases h
  · cases h
theorem vI_eq {d : Nat} {ks : List Key} {x : X} {i : Info} {δ : St} (h : some (vI d ks x) = some (i, δ)) : i = ⟨ks ++ x.ids.map Key.b, [.t d], []⟩ ∧ δ = [(.t d, some x)] := by
  injection h with h; injection h with h1 h2; exact ⟨h1.symm, h2.symm⟩

theorem stepD_ok {i : Info} {δ : St} (h : stepD T o σ = some (i, δ)) : Op1 P n o i σ δ := by
  unfold stepD at h
  split at h
  · rename_i d s hd ho
    split at h
    · rename_i x e
      cases hn : x.noOwn
      · rw [hn] at h
        simp only [cond_false] at h
        split at h
        · injection h with h; injection h with h1 h2; subst h1 h2
          exact op_moveOwn hd (.inl ho) e
        · cases h
      · rw [hn] at h
        obtain ⟨rfl, rfl⟩ := vI_eq h
        exact op_move hd (.inl ho) e hn
    · cases h
  · rename_i d s hd ho
    split at h
    · rename_i x e
      cases hn : x.noOwn
      · rw [hn] at h
        simp only [cond_false] at h
        split at h
        · injection h with h; injection h with h1 h2; subst h1 h2
          exact op_moveOwn hd (.inr ho) e
        · cases h
      · rw [hn] at h
        obtain ⟨rfl, rfl⟩ := vI_eq h
        exact op_move hd (.inr ho) e hn
    · cases h
  · rename_i d S s f hd ho
    split at h
    · rename_i off j q e1 e2
      obtain ⟨rfl, rfl⟩ := vI_eq h
      exact op_fldB hd ho (T.fo_ok e1) e2 rfl
    · rename_i off cs e1 e2
      obtain ⟨rfl, rfl⟩ := vI_eq h
      exact op_fldF hd ho (T.fo_ok e1) e2 rfl
    · cases h
  · rename_i d t s hd ho
    split at h
    · rename_i row m e
      exact stLoad_ok hd ho (T.rw_ok e) h
    · cases h
  · rename_i t s v hd ho
    split at h
    · rename_i row m e
      exact stStore_ok hd ho (T.rw_ok e) h
    · cases h
  · rename_i d E s hd ho
    split at h
    · rename_i A e
      cases hc : (A.noOwn && A.cells.all CV.oneOk && !(Nat.beq d EXT))
      · rw [hc] at h; cases h
      · rw [hc] at h
        simp only [Bool.and_eq_true, Bool.not_eq_true'] at hc
        injection h with h; injection h with h1 h2; subst h1 h2
        exact op_box hd ho e hc.1.1 hc.1.2 rfl hc.2
    · cases h
  · rename_i d E hd ho
    split at h
    · rename_i zs e
      cases hc : (!(Nat.beq d EXT))
      · rw [hc] at h; cases h
      · rw [hc] at h
        simp only [Bool.not_eq_true'] at hc
        injection h with h; injection h with h1 h2; subst h1 h2
        exact op_alloc hd ho (T.zo_ok e) rfl hc
    · cases h
  · rename_i d s ix hd ho
    split at h
    · rename_i As e
      split at h
      · rename_i A eA
        cases hn : A.noOwn
        · rw [hn] at h; cases h
        · rw [hn] at h
          obtain ⟨rfl, rfl⟩ := vI_eq h
          exact op_extract hd ho e eA hn
      · cases h
    · cases h
  · rename_i d t ps hd ho
    split at h
    · rename_i pl zs e1 e2
      cases hz : zs.all Value.oneCell'
      · rw [hz] at h; cases h
      · rw [hz] at h
        simp only [cond_true] at h
        split at h
        · rename_i cs eb
          obtain ⟨rfl, rfl⟩ := vI_eq h
          exact op_build hd ho (T.fp_ok e1) (T.zo_ok e2) hz eb
        · cases h
    · cases h
  · rename_i d c s1 s2 hd ho
    split at h
    · rename_i b e
      split at h
      · rename_i x ex
        cases hn : x.noOwn
        · rw [hn] at h; cases h
        · rw [hn] at h
          obtain ⟨rfl, rfl⟩ := vI_eq h
          exact op_pick hd ho e ex hn
      · cases h
    · cases h
  · rename_i d t s hd ho
    split at h
    · rename_i b e
      obtain ⟨rfl, rfl⟩ := vI_eq h
      exact op_not hd ho e rfl
    · cases h
  · rename_i d t s1 s2 t' hd ho
    split at h
    · rename_i a b e1 e2
      cases hb : T.bt t
      · rw [hb] at h; cases h
      · rw [hb] at h
        obtain ⟨rfl, rfl⟩ := vI_eq h
        exact op_bin hd ho e1 e2 (T.bt_ok hb a b).1
    · rename_i a b e1 e2
      obtain ⟨rfl, rfl⟩ := vI_eq h
      exact op_bin hd ho e1 e2 (bin_eqlS rfl)
    · cases h
  · rename_i d t s1 s2 t' hd ho
    split at h
    · rename_i a b e1 e2
      cases hb : T.bt t
      · rw [hb] at h; cases h
      · rw [hb] at h
        obtain ⟨rfl, rfl⟩ := vI_eq h
        exact op_bin hd ho e1 e2 (T.bt_ok hb a b).2
    · rename_i a b e1 e2
      obtain ⟨rfl, rfl⟩ := vI_eq h
      exact op_bin hd ho e1 e2 (bin_neqS rfl)
    · cases h
  · rename_i d t ps hd ho
    split at h
    · rename_i E m b e1 e2
      injection h with h; injection h with h1 h2; subst h1 h2
      obtain ⟨z, hz⟩ := T.sl_ok e1
      have : ps = #[] := by cases ps; simp at e2; subst e2; rfl
      subst this
      exact op_lit0 hd ho hz
    · cases h
  · cases h

/-- comparisons of numbers -/
def cmpP : BinOp → Int → Int → Prop
  | .lss, a, b => a < b
  | .leq, a, b => a ≤ b
  | .gtr, a, b => b < a
  | .geq, a, b => b ≤ a
  | .eql, a, b => a = b
  | .neq, a, b => a ≠ b
  | _, _, _ => False
def isCmp : BinOp → Bool
  | .lss | .leq | .gtr | .geq | .eql | .neq => true
  | _ => false
def cmpB : BinOp → Int → Int → Bool
  | .lss, a, b => decide (a < b)
  | .leq, a, b => decide (a ≤ b)
  | .gtr, a, b => decide (b < a)
  | .geq, a, b => decide (b ≤ a)
  | .eql, a, b => decide (a = b)
  | .neq, a, b => !decide (a = b)
  | _, _, _ => false
structure CmpR (op : BinOp) (a b : Int) (r : Bool) : Prop where
  eq : cmpB op a b = r
theorem cmpT {op : BinOp} {a b : Int} (h : cmpP op a b) : CmpR op a b true := ⟨by cases op <;> simp_all [cmpP, cmpB]⟩
theorem cmpF {op : BinOp} {a b : Int} (h : ¬ cmpP op a b) : CmpR op a b false := ⟨by cases op <;> simp_all [cmpP, cmpB]⟩
theorem cmpD {op : BinOp} {a b : Int} : CmpR op a b (cmpB op a b) := ⟨rfl⟩
theorem bin_cmp {op : BinOp} {t : Nat} {k : IntKind} {a b : Int} {r : Bool} (hop : isCmp op = true) (h : CmpR op a b r) : Bin P op t (.int k a) (.int k b) (.bool r) := by
  obtain ⟨h⟩ := h
  cases op <;> first | (simp [isCmp] at hop; done) | exact bin_lss h | exact bin_leq h | exact bin_gtr h | exact bin_geq h | exact bin_eql h | exact bin_neq h
theorem op_cmp {d : Nat} {op : BinOp} {t t' : TypeId} {s1 s2 : Operand} {k : IntKind} {a b : Int} {r : Bool} (hd : o.dst = some d) (ho : o.op = .binOp op t s1 s2 t') (hop : isCmp op = true) (h1 : St.ev σ s1 = some (.one (.c (.val (.int k a))))) (h2 : St.ev σ s2 = some (.one (.c (.val (.int k b)))))
    (hb : CmpR op a b r) : Op1 P n o ⟨(opKey s1 ++ opKey s2) ++ (X.one (.c (.val (.bool r)))).ids.map Key.b, [.t d], []⟩ σ [(.t d, some (.one (.c (.val (.bool r)))))] := op_bin hd ho h1 h2 (bin_cmp hop hb)

/-- data of one kind: what cells it has -/
class FCs {α : Type} (f : α → D) (m : outParam Nat) (g : outParam (α → List FC)) : Prop where
  eq : ∀ x, (f x).fc = g x
  len : ∀ x, (g x).length = m
  one : ∀ x, (g x).all FC.oneOk = true
theorem FCs.lenL {α : Type} {f : α → D} {m : Nat} {g : α → List FC} [h : FCs f m g] (l : List α) : ∀ d ∈ l.map f, d.fc.length = m := Go.Proofs.Ytmanhdacnkpclaa.lenL (fun x => by rw [h.eq]; exact h.len x) l
theorem FCs.oneL {α : Type} {f : α → D} {m : Nat} {g : α → List FC} [h : FCs f m g] (l : List α) : ∀ d ∈ l.map f, d.fc.all FC.oneOk = true := Go.Proofs.Ytmanhdacnkpclaa.oneL (fun x => by rw [h.eq]; exact h.one x) l
theorem op_lenT {α : Type} {f : α → D} {l : List α} {d t E m b : Nat} {s : Operand} (hd : o.dst = some d) (ho : o.op = .call { callee := .builtin .len, args := #[s], argTypes := #[t] }) (hT : T.sl t = some (E, m, b)) (hs : St.ev σ s = some (.one (.c (.arr (l.map f))))) :
    Op1 P n o ⟨opKey s ++ (X.one (iA l.length)).ids.map Key.b, [.t d], []⟩ σ [(.t d, some (.one (iA l.length)))] := by
  obtain ⟨z, hz⟩ := T.sl_ok hT
  exact op_lenL hd ho hz hs rfl
theorem op_lenOT {α : Type} {f : α → D} {l : List α} {d t E m b E' m' : Nat} {s : Operand} (hd : o.dst = some d) (ho : o.op = .call { callee := .builtin .len, args := #[s], argTypes := #[t] }) (hT : T.sl t = some (E, m, b)) (hs : St.ev σ s = some (.one (.c (.own E' m' (l.map f))))) :
    Op1 P n o ⟨opKey s ++ (X.one (iA l.length)).ids.map Key.b, [.t d], []⟩ σ [(.t d, some (.one (iA l.length)))] := by
  obtain ⟨z, hz⟩ := T.sl_ok hT
  exact op_lenO hd ho hz hs (by simp)
theorem op_lenNT {d t E m b k cap : Nat} {s : Operand} {ad : Option Addr} (hd : o.dst = some d) (ho : o.op = .call { callee := .builtin .len, args := #[s], argTypes := #[t] }) (hT : T.sl t = some (E, m, b)) (hs : St.ev σ s = some (.one (.c (.val (.slice ad k cap))))) :
    Op1 P n o ⟨opKey s ++ (X.one (iA k)).ids.map Key.b, [.t d], []⟩ σ [(.t d, some (.one (iA k)))] := by
  obtain ⟨z, hz⟩ := T.sl_ok hT
  exact op_len hd ho hz.und hs rfl rfl
theorem op_idxT {α : Type} {f : α → D} {m : Nat} {g : α → List FC} [FCs f m g] {l : List α} {d t E b : Nat} {s i : Operand} {k : Nat} {kk : IntKind} {zi : Int} {x : α} (hd : o.dst = some d) (ho : o.op = .indexAddr t s i) (hT : T.sl t = some (E, m, b)) (hs : St.ev σ s = some (.one (.c (.arr (l.map f)))))
    (hi : St.ev σ i = some (.one (.c (.val (.int kk zi))))) (hx : l[k]? = some x) (hz : zi = (k : Int)) :
    Op1 P n o ⟨(opKey s ++ opKey i) ++ (X.one (.c (.fp (g x)))).ids.map Key.b, [.t d], []⟩ σ [(.t d, some (.one (.c (.fp (g x)))))] := by
  obtain ⟨z, hzz⟩ := T.sl_ok hT
  exact op_idx hd ho hzz hs hi hz (by rw [List.getElem?_map, hx]; rfl) (FCs.lenL l) (FCs.eq x)
theorem op_appT {α : Type} {f : α → D} {m : Nat} {g : α → List FC} [FCs f m g] {l es rs : List α} {d t E b t1 : Nat} {y : Operand} (hd : o.dst = some d) (ho : o.op = .call { callee := .builtin .append, args := #[.tmp t1, y], argTypes := #[t, t] }) (hT : T.sl t = some (E, m, b))
    (hs : St.get σ (.t t1) = some (.one (.c (.own E m (l.map f))))) (hy : St.ev σ y = some (.one (.c (.arr (es.map f))))) (hc : l ++ es = rs) (hby : rs.length * b ≤ 140737488355328) (hb : b ≠ 0) :
    Op1 P n o ⟨[.t t1] ++ opKey y, [.t d, .t t1], []⟩ σ [(.t d, some (.one (.c (.own E m (rs.map f))))), (.t t1, none)] := by
  obtain ⟨z, hz⟩ := T.sl_ok hT
  subst hc
  have h2 : (l ++ es).length ≤ 140737488355328 := Nat.le_trans (Nat.le_mul_of_pos_right _ (Nat.pos_of_ne_zero hb)) hby
  rw [List.length_append] at hby h2
  exact op_app hd ho hz hs hy (FCs.lenL es) (FCs.oneL es) (by simpa using hby) (by simp; omega) (by simp)
theorem op_app0T {α : Type} {f : α → D} {m : Nat} {g : α → List FC} [FCs f m g] {es : List α} {d t E b : Nat} {s y : Operand} (hd : o.dst = some d) (ho : o.op = .call { callee := .builtin .append, args := #[s, y], argTypes := #[t, t] }) (hT : T.sl t = some (E, m, b))
    (hs : St.ev σ s = some (.one (.c (.val (.slice none 0 0))))) (hy : St.ev σ y = some (.one (.c (.arr (es.map f))))) (hby : es.length * b ≤ 140737488355328) (hb : b ≠ 0) :
    Op1 P n o ⟨opKey s ++ opKey y, [.t d], []⟩ σ [(.t d, some (.one (.c (.own E m (es.map f)))))] := by
  obtain ⟨z, hz⟩ := T.sl_ok hT
  have h2 : es.length ≤ 140737488355328 := Nat.le_trans (Nat.le_mul_of_pos_right _ (Nat.pos_of_ne_zero hb)) hby
  exact op_app0 hd ho hz hs hy (FCs.lenL es) (FCs.oneL es) (by simpa using hby) (by simp; omega)
theorem fcs_map {α : Type} {f : α → D} {m : Nat} {g : α → List FC} [FCs f m g] : ∀ l : List α, fcs (l.map f) = l.flatMap g
  | [] => rfl
  | x :: l => by simp only [List.map_cons, fcs, List.flatMap_cons, fcs_map l, FCs.eq x]
theorem op_bsT {α : Type} {f : α → D} {m : Nat} {g : α → List FC} [FCs f m g] (l : List α) {d t E b len : Nat} {ps : Array (Nat × Operand)} {zs : List Value} {cs : List CV} (hd : o.dst = some d) (ho : o.op = .buildSlice t len ps) (hT : T.sl t = some (E, m, b)) (hz : T.zo E = some zs)
    (hlen : Nat.ble (len * m) 16777216 = true) (hl0 : Nat.blt 0 len = true) (hzo : zs.all Value.oneCell' = true) (hzm : zs.length = m)
    (hb : buildC σ ((List.range len).map fun i => (i * m, m)) ps.toList ((List.replicate len (zs.map CV.val)).flatten) = some cs) (hds : (l.flatMap g).map FC.cv = cs) (hdl : l.length = len) :
    Op1 P n o ⟨partKeys ps.toList, [.t d], []⟩ σ [(.t d, some (.one (.c (.arr (l.map f)))))] := by
  obtain ⟨z, hzz⟩ := T.sl_ok hT
  exact op_buildSlice hd ho hzz (Nat.le_of_ble_eq_true hlen) (Nat.lt_of_succ_le (Nat.le_of_ble_eq_true hl0)) (T.zo_ok hz) hzo hzm hb (by rw [fcs_map]; exact hds) (by simp [hdl])
end
section
variable {P : Program} {n : Nat} {dr : Bool} {ops : Array Oper} {os : List Oper} {o : Oper} {acc : List Info} {i : Info} {σ : St} {K : St → Prop}
theorem SqA.a1 (T : Tabs P) {e : Key × Option X} (h : stepD T o σ = some (i, [e])) (hg : guardIs ops o σ = some true) (hal : i.al.all (fun j => nomem j (St.ids σ)) = true) (hk : SqA P n dr ops os (⟨guardKeys ops o ++ i.rd, i.wr, i.al⟩ :: acc) (e :: σ) K) : SqA P n dr ops (o :: os) acc σ K :=
  .goG (stepD_ok h) hg hal hk
theorem SqA.a2 (T : Tabs P) {e e' : Key × Option X} (h : stepD T o σ = some (i, [e, e'])) (hg : guardIs ops o σ = some true) (hal : i.al.all (fun j => nomem j (St.ids σ)) = true) (hk : SqA P n dr ops os (⟨guardKeys ops o ++ i.rd, i.wr, i.al⟩ :: acc) (e :: e' :: σ) K) : SqA P n dr ops (o :: os) acc σ K :=
  .goG (stepD_ok h) hg hal hk
theorem SqA.b1 {e : Key × Option X} (h : Op1 P n o i σ [e]) (hg : guardIs ops o σ = some true) (hal : i.al.all (fun j => nomem j (St.ids σ)) = true) (hk : SqA P n dr ops os (⟨guardKeys ops o ++ i.rd, i.wr, i.al⟩ :: acc) (e :: σ) K) : SqA P n dr ops (o :: os) acc σ K := .goG h hg hal hk
theorem SqA.b2 {e e' : Key × Option X} (h : Op1 P n o i σ [e, e']) (hg : guardIs ops o σ = some true) (hal : i.al.all (fun j => nomem j (St.ids σ)) = true) (hk : SqA P n dr ops os (⟨guardKeys ops o ++ i.rd, i.wr, i.al⟩ :: acc) (e :: e' :: σ) K) : SqA P n dr ops (o :: os) acc σ K := .goG h hg hal hk
end

section
variable {P : Program} {n : Nat} {x y : Code} {s : Operand} {Q : Exit → St → Prop} {σ : St} {b : Bool}
theorem dwp_yes (hs : St.ev σ s = some (.one (.c (.val (.bool b))))) (hb : b = true) (h : dwp P n x Q σ) : dwp P n (.cond s x y) Q σ := dwp_condT (hb ▸ hs) h
theorem dwp_nope (hs : St.ev σ s = some (.one (.c (.val (.bool b))))) (hb : b = false) (h : dwp P n y Q σ) : dwp P n (.cond s x y) Q σ := dwp_condF (hb ▸ hs) h
end
/-! ## this program's tables -/
def zoT : List (Nat × List Value) := [(3, [.int .i64 0]), (4, [.bool false]), (9, [.string ⟨#[]⟩]), (5, [.int .u8 0]), (49, [.int .i64 0]), (26, [.bool false, .int .i64 0, .slice none 0 0]), (42, [.int .i64 0, .bool false, .int .i64 0, .slice none 0 0]),
  (22, [.slice none 0 0]), (23, [.slice none 0 0]), (24, [.slice none 0 0]), (36, [.slice none 0 0])
  , (37, [.slice none 0 0])
  , (59, [.bool false, .bool false, .int .i64 0, .slice none 0 0, .bool false, .int .i64 0, .slice none 0 0])
  , (48, [.slice none 0 0])
  , (79, [.slice none 0 0])
  , (66, [.int .i64 0, .slice none 0 0])
  , (101, [.int .i64 0, .slice none 0 0, .slice none 0 0])
  , (96, [.slice none 0 0, .slice none 0 0, .slice none 0 0, .slice none 0 0, .int .i64 0, .bool false])
  , (124, [.slice none 0 0, .bool false])
  , (129, [.slice none 0 0, .bool false])
  , (170, [.slice none 0 0, .string ⟨#[]⟩, .int .i64 0])
  , (137, [.slice none 0 0, .slice none 0 0, .slice none 0 0, .slice none 0 0, .int .i64 0, .bool false])
  , (111, [.bool false, .int .i64 0, .slice none 0 0, .bool false, .int .i64 0, .slice none 0 0])
  , (46, [.int .i64 0, .int .i64 0, .int .i64 0])
  ]
theorem zoT_all : ∀ e ∈ zoT, zeroOf Try.prog e.1 = some e.2 := by
  unfold zoT
  repeat (first | exact List.forall_mem_nil _ | refine List.forall_mem_cons.2 ⟨(by kernel_rfl), ?_⟩)
theorem zoT_ok {t : Nat} {zs : List Value} (h : look2 zoT t = some zs) : zeroOf Try.prog t = some zs := zoT_all (t, zs) (look2_mem h)
def slT : List (Nat × Nat × Nat × Nat) := [
  (22, 3, 1, 8)
  , (23, 3, 1, 8)
  , (24, 26, 3, 40)
  , (36, 42, 4, 48)
  , (37, 22, 1, 24)
  , (48, 59, 7, 88)
  , (79, 48, 1, 24)
  , (94, 101, 3, 56)
  , (117, 36, 1, 24)
  , (112, 111, 6, 80)
  , (148, 9, 1, 16)
  ]
theorem slT_all : ∀ e ∈ slT, ∃ z, SliceOf Try.prog e.1 e.2.1 e.2.2.1 e.2.2.2 z := by
  unfold slT
  repeat (first | exact List.forall_mem_nil _ | refine List.forall_mem_cons.2 ⟨(by first | exact ⟨_, slInt⟩ | exact ⟨_, slSig⟩ | exact ⟨_, slTerm⟩ | exact ⟨_, slSub⟩ | exact ⟨_, slIntss⟩ | exact ⟨_, slClause⟩ | exact ⟨_, slClauses⟩ | exact ⟨_, slSteps⟩ | exact ⟨_, slSubs⟩ | exact ⟨_, slTwos⟩ | exact ⟨_, slStrs⟩), ?_⟩)
theorem slT_ok {t E m b : Nat} (h : look2 slT t = some (E, m, b)) : ∃ z, SliceOf Try.prog t E m b z := slT_all (t, E, m, b) (look2_mem h)
def fpT : List (Nat × List (Nat × Nat)) := [
  (26, [(0, 1), (1, 1), (2, 1)])
  , (42, [(0, 1), (1, 3)])
  , (59, [(0, 1), (1, 3), (4, 3)])
  , (66, [(0, 1), (1, 1)])
  , (101, [(0, 1), (1, 1), (2, 1)])
  , (96, [(0, 1), (1, 1), (2, 1), (3, 1), (4, 1), (5, 1)])
  , (124, [(0, 1), (1, 1)])
  , (129, [(0, 1), (1, 1)])
  , (170, [(0, 1), (1, 1), (2, 1)])
  , (137, [(0, 6)])
  ]
theorem fpT_all : ∀ e ∈ fpT, fieldPl Try.prog e.1 = some e.2 := by
  unfold fpT
  repeat (first | exact List.forall_mem_nil _ | refine List.forall_mem_cons.2 ⟨(by kernel_rfl), ?_⟩)
theorem fpT_ok {t : Nat} {l : List (Nat × Nat)} (h : look2 fpT t = some l) : fieldPl Try.prog t = some l := fpT_all (t, l) (look2_mem h)
def TB : Tabs Try.prog where
  fo := look3 foT
  fo_ok := fo_of
  rw := look2 rwT
  rw_ok := rw_of
  zo := look2 zoT
  zo_ok := zoT_ok
  sl := look2 slT
  sl_ok := slT_ok
  fp := look2 fpT
  fp_ok := fpT_ok
  bt := fun t => Nat.beq t 4
  bt_ok := fun {t} h a b => by
    have := Nat.eq_of_beq_eq_true h
    subst this
    exact ⟨bin_eqlB rfl, bin_neqB rfl⟩
  st := fun t => Nat.beq t 9
  st_ok := fun {t} h => by
    have := Nat.eq_of_beq_eq_true h
    subst this
    show Try.prog.underlying 9 = some .string
    kernel_rfl
instance : FCs Tm.d 3 (fun t => [.val (.bool t.var), .val (.int .i64 t.n), .arr (t.args.map Tm.d)]) := ⟨Tm_fc, fun _ => rfl, fun _ => rfl⟩
instance : FCs Pr.d 4 (fun p => [.val (.int .i64 p.1), .val (.bool p.2.var), .val (.int .i64 p.2.n), .arr (p.2.args.map Tm.d)]) := ⟨Pr_fc, fun _ => rfl, fun _ => rfl⟩
instance : FCs Lt.d 7 (fun p => [.val (.bool p.neg), .val (.bool p.left.var), .val (.int .i64 p.left.n), .arr (p.left.args.map Tm.d), .val (.bool p.right.var), .val (.int .i64 p.right.n), .arr (p.right.args.map Tm.d)]) := ⟨Lt_fc, fun _ => rfl, fun _ => rfl⟩
instance : FCs Int.d 1 (fun n => [.val (.int .i64 n)]) := ⟨Int_fc, fun _ => rfl, fun _ => rfl⟩
instance : FCs Cl.d 1 (fun c => [.arr (c.map Lt.d)]) := ⟨Cl_fc, fun _ => rfl, fun _ => rfl⟩
instance : FCs Is.d 1 (fun l => [.arr (l.map Int.d)]) := ⟨Is_fc, fun _ => rfl, fun _ => rfl⟩
instance : FCs Ss.d 1 (fun l => [.arr (l.map Pr.d)]) := ⟨Ss_fc, fun _ => rfl, fun _ => rfl⟩
end Go.Proofs.Ytmanhdacnkpclaa
