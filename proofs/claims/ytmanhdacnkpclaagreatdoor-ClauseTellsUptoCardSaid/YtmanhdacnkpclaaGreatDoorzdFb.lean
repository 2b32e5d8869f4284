/- Walks over abstract states: what slots and own boxes hold, with no world in sight. The words, and what is kept by a step. -/
import Derived.Test.YtmanhdacnkpclaaGreatDoorzdFa
import Derived.Orders
import Derived.Deep.MidRow
import Derived.Deep.LoopGhost
/- Walks over abstract states: what slots and own boxes hold, with no world in sight. The words, and what is kept by a step. -/
namespace Go.Proofs.YtmanhdacnkpclaaGreatDoor
set_option linter.unusedVariables false
set_option linter.unusedSimpArgs false
open Go.RowKit

inductive Key where
  | t (n : Nat)
  | b (j : Nat)
def Key.is : Key → Key → Bool
  | .t n, .t m => Nat.beq n m
  | .b n, .b m => Nat.beq n m
  | _, _ => false
theorem Key.is_iff {a b : Key} : Key.is a b = true ↔ a = b := by
  cases a <;> cases b <;> simp [Key.is]
theorem Key.is_self (a : Key) : Key.is a a = true := Key.is_iff.2 rfl
theorem Key.is_ne {a b : Key} (h : a ≠ b) : Key.is a b = false := by
  cases e : Key.is a b
  · rfl
  · exact absurd (Key.is_iff.1 e) h

/-- whose a block is -/
inductive Tag where
  | other
  | froz
  | bx (j : Nat)
  | own (k : Key) (p q : Nat)

/-- what a cell holds behind a pointer that nobody writes -/
inductive F0 where
  | val (v : Value)
  | arr (ds : List D)
/-- what a cell holds that nobody writes -/
inductive FC where
  | val (v : Value)
  | arr (ds : List D)
  | ptr (l : List F0)
def F0.fc : F0 → FC
  | .val v => .val v
  | .arr ds => .arr ds
mutual
def D.fc : D → List FC
  | .lit v => [.val v]
  | .agg ds => fcs ds
  | .arr ds => [.arr ds]
def fcs : List D → List FC
  | [] => []
  | d :: ds => D.fc d ++ fcs ds
end
/-- what a cell holds -/
inductive CV where
  | any
  | val (v : Value)
  | arr (ds : List D)
  | own (E m : Nat) (ds : List D)
  | ptr (j o : Nat)
  | fp (cs : List FC)
  | mp (j : Nat)
  | mc (es : Array MapEntry) (clock : Nat)
  | full (ds : List D)
  | sl (j n : Nat)
  | psl (j n : Nat)
  | fnv (f : FuncId) (caps : List (List FC))
  | isF (v : Value) (cs : List FC)
  | isP (v : Value) (j n : Nat)
  | isB (v : Value) (j : Nat)
  | ownK (v : Value) (E m : Nat) (ds : List D)
  | ms
  | mh (v : Option Value)
def FC.cv : FC → CV
  | .val v => .val v
  | .arr ds => .arr ds
  | .ptr l => .fp (l.map F0.fc)
inductive A1 where
  | c (x : CV)
  | agg (cs : List CV)
inductive X where
  | one (a : A1)
  | tup (as : List A1)
  | box (cs : List CV)
abbrev St := List (Key × Option X)
def St.get : St → Key → Option X
  | [], _ => none
  | (k, x) :: l, j => bif Key.is k j then x else St.get l j
def keyIn (r : Key) : St → Bool
  | [] => false
  | (k, _) :: l => Key.is k r || keyIn r l
theorem St.get_same {k : Key} {x : Option X} {l : St} : St.get ((k, x) :: l) k = x := by simp [St.get, Key.is_self]
theorem St.get_ne {k r : Key} {x : Option X} {l : St} (h : k ≠ r) : St.get ((k, x) :: l) r = St.get l r := by simp [St.get, Key.is_ne h]
theorem St.get_app {r : Key} : ∀ {δ σ : St}, St.get (δ ++ σ) r = bif keyIn r δ then St.get δ r else St.get σ r
  | [], σ => rfl
  | (k, x) :: l, σ => by
    simp only [List.cons_append, St.get, keyIn]
    cases h : Key.is k r
    · simp only [cond_false, Bool.false_or]; exact St.get_app
    · simp
theorem keyIn_mem {r : Key} : ∀ {δ : St}, keyIn r δ = true → ∃ e ∈ δ, e.1 = r
  | [], h => by simp [keyIn] at h
  | (k, x) :: l, h => by
    simp only [keyIn, Bool.or_eq_true] at h
    rcases h with h | h
    · exact ⟨_, List.mem_cons_self .., Key.is_iff.1 h⟩
    · obtain ⟨e, he, h⟩ := keyIn_mem h; exact ⟨e, List.mem_cons_of_mem _ he, h⟩

def CV.ids : CV → List Nat
  | .ptr j _ => [j]
  | .mp j => [j]
  | .sl j _ => [j]
  | .psl j _ => [j]
  | .isP _ j _ => [j]
  | .isB _ j => [j]
  | _ => []
def A1.ids : A1 → List Nat
  | .c x => x.ids
  | .agg cs => cs.flatMap CV.ids
def X.ids : X → List Nat
  | .one a => a.ids
  | .tup as => as.flatMap A1.ids
  | .box cs => cs.flatMap CV.ids
def oids : Option X → List Nat
  | some x => x.ids
  | none => []
def St.ids (σ : St) : List Nat := σ.flatMap fun e => oids e.2
theorem St.ids_get : ∀ {σ : St} {k : Key} {x : X} {j : Nat}, St.get σ k = some x → j ∈ x.ids → j ∈ St.ids σ
  | [], _, _, _, h, _ => by simp [St.get] at h
  | (k', x') :: l, k, x, j, h, hj => by
    simp only [St.get] at h
    simp only [St.ids, List.flatMap_cons, List.mem_append]
    cases hk : Key.is k' k <;> rw [hk] at h
    · exact .inr (St.ids_get (σ := l) h hj)
    · simp only [cond_true] at h; subst h; exact .inl hj
def nomem (j : Nat) (l : List Nat) : Bool := !(l.any (Nat.beq j))
theorem nomem_iff {j : Nat} {l : List Nat} : nomem j l = true ↔ j ∉ l := by
  simp only [nomem, Bool.not_eq_true', List.any_eq_false, Nat.beq_eq_true_eq]
  exact ⟨fun h hj => h j hj (Nat.beq_refl j), fun h x hx e => h (Nat.eq_of_beq_eq_true e ▸ hx)⟩

def Fz (who : Nat → Tag) : Nat → Prop := fun b => who b = .froz

def f0m (w : World) (F : Nat → Prop) : F0 → Value → Prop
  | .val v, u => u = v
  | .arr ds, u => rd w F (.arr ds) [u]
def fcm (w : World) (F : Nat → Prop) : FC → Value → Prop
  | .val v, u => u = v
  | .arr ds, u => rd w F (.arr ds) [u]
  | .ptr l, u => ∃ b o, u = .pointer (some ⟨b, o, none⟩) ∧ F b ∧ b < w.heap.size ∧ ∀ i e, l[i]? = some e → ∃ x, w.cell? ⟨b, o + i, none⟩ = some x ∧ f0m w F e x
theorem f0m.fc {w : World} {F : Nat → Prop} {e : F0} {x : Value} : f0m w F e x ↔ fcm w F e.fc x := by cases e <;> exact Iff.rfl
def cellsF (w : World) (F : Nat → Prop) : List FC → List Value → Prop
  | [], [] => True
  | c :: cs, x :: xs => fcm w F c x ∧ cellsF w F cs xs
  | _, _ => False
theorem cellsF_app {w : World} {F : Nat → Prop} : ∀ {l1 l2 : List FC} {xs : List Value}, cellsF w F (l1 ++ l2) xs ↔ ∃ x1 x2, xs = x1 ++ x2 ∧ cellsF w F l1 x1 ∧ cellsF w F l2 x2
  | [], l2, xs => by
    constructor
    · intro h; exact ⟨[], xs, rfl, trivial, h⟩
    · rintro ⟨x1, x2, rfl, h1, h2⟩
      cases x1 with
      | nil => exact h2
      | cons a l => simp [cellsF] at h1
  | c :: l1, l2, [] => by
    constructor
    · intro h; simp [cellsF] at h
    · rintro ⟨x1, x2, e, h1, h2⟩
      cases x1 with
      | nil => simp [cellsF] at h1
      | cons a l => simp at e
  | c :: l1, l2, x :: xs => by
    simp only [List.cons_append, cellsF, cellsF_app (l1 := l1)]
    constructor
    · rintro ⟨h, x1, x2, rfl, h1, h2⟩; exact ⟨x :: x1, x2, rfl, ⟨h, h1⟩, h2⟩
    · rintro ⟨x1, x2, e, h1, h2⟩
      cases x1 with
      | nil => simp [cellsF] at h1
      | cons a l =>
        simp only [List.cons_append, List.cons.injEq] at e
        obtain ⟨rfl, rfl⟩ := e
        exact ⟨h1.1, l, x2, rfl, h1.2, h2⟩
theorem cellsF_len {w : World} {F : Nat → Prop} : ∀ {l : List FC} {xs : List Value}, cellsF w F l xs → xs.length = l.length
  | [], [], _ => rfl
  | [], _ :: _, h => by simp [cellsF] at h
  | _ :: _, [], h => by simp [cellsF] at h
  | _ :: _, _ :: _, h => by simp [cellsF_len h.2]
theorem cellsF_at {w : World} {F : Nat → Prop} : ∀ {l : List FC} {xs : List Value}, cellsF w F l xs → ∀ (i : Nat) (c : FC), l[i]? = some c → ∃ x, xs[i]? = some x ∧ fcm w F c x
  | [], _, _, i, c, hi => by simp at hi
  | _ :: _, [], h, _, _, _ => by simp [cellsF] at h
  | c' :: l, x :: xs, h, 0, c, hi => by simp at hi; subst hi; exact ⟨x, rfl, h.1⟩
  | c' :: l, x :: xs, h, i + 1, c, hi => by
    obtain ⟨y, h1, h2⟩ := cellsF_at h.2 i c (by simpa using hi)
    exact ⟨y, by simpa using h1, h2⟩
theorem cellsF_mk {w : World} {F : Nat → Prop} : ∀ {l : List FC} {xs : List Value}, xs.length = l.length → (∀ (i : Nat) (c : FC) (x : Value), l[i]? = some c → xs[i]? = some x → fcm w F c x) → cellsF w F l xs
  | [], [], _, _ => trivial
  | [], _ :: _, h, _ => by simp at h
  | _ :: _, [], h, _ => by simp at h
  | c :: l, x :: xs, h, hh => ⟨hh 0 c x rfl rfl, cellsF_mk (by simpa using h) fun i c x hc hx => hh (i + 1) c x (by simpa using hc) (by simpa using hx)⟩
theorem rds_fc {w : World} {F : Nat → Prop} : ∀ (ds : List D), (∀ d ∈ ds, ∀ cs, rd w F d cs ↔ cellsF w F d.fc cs) → ∀ cs, rds w F ds cs ↔ cellsF w F (fcs ds) cs
  | [], _, cs => by
    cases cs <;> simp [rds, fcs, cellsF]
  | d :: ds, h, cs => by
    simp only [rds, fcs, cellsF_app]
    constructor
    · rintro ⟨c1, c2, e, h1, h2⟩; exact ⟨c1, c2, e, (h d (by simp) c1).1 h1, (rds_fc ds (fun d' hd => h d' (by simp [hd])) c2).1 h2⟩
    · rintro ⟨c1, c2, e, h1, h2⟩; exact ⟨c1, c2, e, (h d (by simp) c1).2 h1, (rds_fc ds (fun d' hd => h d' (by simp [hd])) c2).2 h2⟩
theorem rd_fc {w : World} {F : Nat → Prop} : ∀ (d : D) (cs : List Value), rd w F d cs ↔ cellsF w F d.fc cs := by
  refine D.ind ?_ ?_ ?_
  · intro v cs
    simp only [rd, D.fc]
    cases cs with
    | nil => simp [cellsF]
    | cons x l => cases l <;> simp [cellsF, fcm]
  · intro ds ih cs
    simp only [rd, D.fc]
    exact rds_fc ds ih cs
  · intro ds _ cs
    simp only [D.fc]
    cases cs with
    | nil => simp [cellsF, rd]
    | cons x l =>
      cases l with
      | nil => simp [cellsF, fcm]
      | cons y l => simp [cellsF, rd]
theorem fcm.keep {w w' : World} {F F' : Nat → Prop} (hz : w.heap.size ≤ w'.heap.size) (hS : ∀ b, b < w.heap.size → F b → F' b) (hw : ∀ b, b < w.heap.size → F b → w'.heap[b]? = w.heap[b]?) {c : FC} {x : Value} (h : fcm w F c x) : fcm w' F' c x := by
  cases c with
  | val v => exact h
  | arr ds => exact rd.keep hz hS hw _ _ h
  | ptr l =>
    obtain ⟨b, o, rfl, h1, h2, h3⟩ := h
    refine ⟨b, o, rfl, hS b h2 h1, Nat.lt_of_lt_of_le h2 hz, fun i e hi => ?_⟩
    obtain ⟨x, hx, he⟩ := h3 i e hi
    refine ⟨x, by rw [World.cell?_of_block (w := w) (hw b h2 h1)]; exact hx, ?_⟩
    cases e with
    | val v => exact he
    | arr ds => exact rd.keep hz hS hw _ _ he

/-- a pointer to cells that nobody writes -/
def fpm (w : World) (who : Nat → Tag) (cs : List FC) (u : Value) : Prop :=
  ∃ b o, u = .pointer (some ⟨b, o, none⟩) ∧ who b = .froz ∧ ∀ i c, cs[i]? = some c → ∃ x, w.cell? ⟨b, o + i, none⟩ = some x ∧ fcm w (Fz who) c x
/-- a pointer to a cell that nobody writes, in which lies the slice that is box j -/
def pslm (w : World) (who : Nat → Tag) (j n : Nat) (u : Value) : Prop :=
  ∃ b o b' cap, u = .pointer (some ⟨b, o, none⟩) ∧ who b = .froz ∧ w.cell? ⟨b, o, none⟩ = some (.slice (some ⟨b', 0, none⟩) n cap) ∧ (n ≤ cap ∧ cap ≤ maxLen) ∧ who b' = .bx j
theorem fpm.keep {w w' : World} {who who' : Nat → Tag} {cs : List FC} {u : Value} (h : fpm w who cs u) (hz : w.heap.size ≤ w'.heap.size) (hb : ∀ b, who b = .froz → b < w.heap.size) (hf : ∀ b, b < w.heap.size → Fz who b → Fz who' b)
    (hw : ∀ b, b < w.heap.size → Fz who b → w'.heap[b]? = w.heap[b]?) : fpm w' who' cs u := by
  obtain ⟨b, o, rfl, h1, h2⟩ := h
  have hlt := hb b h1
  refine ⟨b, o, rfl, hf b hlt h1, fun i c hc => ?_⟩
  obtain ⟨x, h3, h4⟩ := h2 i c hc
  exact ⟨x, by rw [World.cell?_of_block (w := w) (hw b hlt h1)]; exact h3, h4.keep hz hf hw⟩
theorem fpm.tags {w : World} {who who' : Nat → Tag} {cs : List FC} {u : Value} (h : fpm w who cs u) (hf : ∀ b, who b = .froz → who' b = .froz) : fpm w who' cs u := by
  obtain ⟨b, o, rfl, h1, h2⟩ := h
  refine ⟨b, o, rfl, hf b h1, fun i c hc => ?_⟩
  obtain ⟨x, h3, h4⟩ := h2 i c hc
  exact ⟨x, h3, h4.keep (Nat.le_refl _) (fun b _ hb => hf b hb) (fun _ _ _ => rfl)⟩
/-- value u is what c says, at place p -/
def cvm (w : World) (who : Nat → Tag) (p : Tag) : CV → Value → Prop
  | .any, _ => True
  | .val v, u => u = v
  | .arr ds, u => rd w (Fz who) (.arr ds) [u]
  | .own E m ds, u => Own w 0 E m (Fz who) u ds ∧ ∀ k, u.ownBlock = some k → who k = p
  | .ptr j o, u => ∃ b, u = .pointer (some ⟨b, o, none⟩) ∧ who b = .bx j
  | .fp cs, u => ∃ b o, u = .pointer (some ⟨b, o, none⟩) ∧ who b = .froz ∧ ∀ i c, cs[i]? = some c → ∃ x, w.cell? ⟨b, o + i, none⟩ = some x ∧ fcm w (Fz who) c x
  | .mp j, u => ∃ b, u = .map (some b) ∧ who b = .bx j
  | .mc _ _, _ => True
  | .full ds, u => (∃ ad, u = .slice ad ds.length ds.length) ∧ rd w (Fz who) (.arr ds) [u]
  | .sl j n, u => ∃ b cap, u = .slice (some ⟨b, 0, none⟩) n cap ∧ (n ≤ cap ∧ cap ≤ maxLen) ∧ who b = .bx j
  | .psl j n, u => pslm w who j n u
  | .fnv f caps, u => ∃ vs : List Value, u = .func (.func f) #[] vs.toArray ∧ vs.length = caps.length ∧ ∀ (i : Nat) (cs : List FC) (v : Value), caps[i]? = some cs → vs[i]? = some v → fpm w who cs v
  | .isF v cs, u => u = v ∧ fpm w who cs u
  | .isP v j n, u => u = v ∧ pslm w who j n u
  | .ownK v E m ds, u => u = v ∧ Own w 0 E m (Fz who) u ds ∧ ∀ k, u.ownBlock = some k → who k = p
  | .isB v j, u => u = v ∧ ∃ b, u = .pointer (some ⟨b, 0, none⟩) ∧ who b = .bx j
  | .ms, _ => True
  | .mh _, _ => True
theorem fcm.toC {w : World} {who : Nat → Tag} {p : Tag} {c : FC} {x : Value} (h : fcm w (Fz who) c x) : cvm w who p c.cv x := by
  cases c with
  | val v => exact h
  | arr ds => exact h
  | ptr l =>
    obtain ⟨b, o, rfl, h1, h2, h3⟩ := h
    refine ⟨b, o, rfl, h1, fun i c hi => ?_⟩
    rw [List.getElem?_map, Option.map_eq_some_iff] at hi
    obtain ⟨e, he, rfl⟩ := hi
    obtain ⟨x, hx, hm⟩ := h3 i e he
    exact ⟨x, hx, f0m.fc.1 hm⟩
theorem cvm.toF {w : World} {who : Nat → Tag} {p : Tag} {c : FC} {x : Value} (hz : ∀ b, who b ≠ .other → b < w.heap.size) (h : cvm w who p c.cv x) : fcm w (Fz who) c x := by
  cases c with
  | val v => exact h
  | arr ds => exact h
  | ptr l =>
    obtain ⟨b, o, rfl, h1, h3⟩ := h
    refine ⟨b, o, rfl, h1, hz b (by rw [h1]; simp), fun i e hi => ?_⟩
    obtain ⟨x, hx, hm⟩ := h3 i e.fc (by rw [List.getElem?_map, hi]; rfl)
    exact ⟨x, hx, f0m.fc.2 hm⟩
/-- the number of a box that was handed to the call; those of maps lie beyond it -/
def EXT : Nat := 1000000
/-- the object that a box is -/
def shp (j : Nat) (cs : List CV) (vs : List Value) (E : TypeId) : Obj := bif Nat.ble j EXT then .cells vs.toArray E (0, 0) else match cs with
  | [.mc es c] => .map es c
  | _ => .map #[] 0
theorem shp_of {j : Nat} (h : Nat.ble j EXT = true) (cs : List CV) (vs : List Value) (E : TypeId) : shp j cs vs E = .cells vs.toArray E (0, 0) := by
  unfold shp; rw [h]; rfl
section
variable {α : Type} [DecidableEq α] (enc : α → Value)
def mEs : Nat → List (α × Value) → List MapEntry
  | _, [] => []
  | i, (k, v) :: l => ⟨enc k, v, i⟩ :: mEs (i + 1) l
def mGet : List (α × Value) → α → Option Value
  | [], _ => none
  | (k, v) :: l, a => if a = k then some v else mGet l a
end
/-- maps of few keys (numbers 0 .. 7, or truth values): what one entry is has a number of its own -/
def bas (j : Nat) : Nat := bif Nat.ble j 9999999 then j else bif Nat.ble j 19999999 then 4000000 + (j - 10000000) / 8 else 6000000 + (j - 20000000) / 8
def msOk (j : Nat) (o : Option Obj) : Prop := bif Nat.ble 6000000 j then ∃ l : List (Bool × Value), o = some (.map (mEs Value.bool 0 l).toArray l.length)
  else ∃ l : List (Int × Value), o = some (.map (mEs (Value.int .i64) 0 l).toArray l.length) ∧ ∀ k, mGet l k ≠ none → 0 ≤ k ∧ k < 8
def mhOk (j : Nat) (v : Option Value) (o : Option Obj) : Prop := bif Nat.ble 20000000 j then ∃ l : List (Bool × Value), o = some (.map (mEs Value.bool 0 l).toArray l.length) ∧ (j % 8 < 2 → mGet l (Nat.beq (j % 8) 1) = v)
  else ∃ l : List (Int × Value), o = some (.map (mEs (Value.int .i64) 0 l).toArray l.length) ∧ mGet l ((j % 8 : Nat) : Int) = v
def altF (j : Nat) (cs : List CV) (o : Option Obj) : Prop := bif Nat.ble j 9999999 then (match cs with | [.ms] => msOk j o | _ => False) else (match cs with | [.mh v] => mhOk j v o | _ => False)
def isShp (o : Option Obj) (j : Nat) (cs : List CV) (vs : List Value) (E : TypeId) : Prop := bif Nat.ble j 3999999 then o = some (shp j cs vs E) else altF j cs o
theorem le_ext {j : Nat} (h : Nat.ble j EXT = true) : Nat.ble j 3999999 = true := by
  have := Nat.le_of_ble_eq_true h
  unfold EXT at this
  exact Nat.ble_eq_true_of_le (by omega)
theorem bas_of {j : Nat} (h : Nat.ble j 3999999 = true) : bas j = j := by
  have := Nat.le_of_ble_eq_true h
  unfold bas
  rw [show Nat.ble j 9999999 = true from Nat.ble_eq_true_of_le (by omega)]; rfl
theorem nb_eq {i j : Nat} (h : Nat.ble j 3999999 = true) (e : bas i = j) : i = j := by
  have h0 := Nat.le_of_ble_eq_true h
  have key : ∀ a b : Nat, 4000000 + a = b → b ≤ 3999999 → False := fun a b h1 h2 => by omega
  have key' : ∀ a b : Nat, 6000000 + a = b → b ≤ 3999999 → False := fun a b h1 h2 => by omega
  unfold bas at e
  cases h1 : Nat.ble i 9999999
  · rw [h1, cond_false] at e
    cases h2 : Nat.ble i 19999999
    · rw [h2, cond_false] at e; exact (key' _ _ e h0).elim
    · rw [h2, cond_true] at e; exact (key _ _ e h0).elim
  · rw [h1, cond_true] at e; exact e
theorem isShp_eq {o : Option Obj} {j : Nat} (h : Nat.ble j 3999999 = true) (cs : List CV) (vs : List Value) (E : TypeId) : isShp o j cs vs E = (o = some (shp j cs vs E)) := by
  unfold isShp; rw [h]; rfl
theorem isShp_of {o : Option Obj} {j : Nat} (h : Nat.ble j EXT = true) (cs : List CV) (vs : List Value) (E : TypeId) : isShp o j cs vs E = (o = some (.cells vs.toArray E (0, 0))) := by
  rw [isShp_eq (le_ext h), shp_of h]
def A1m (w : World) (who : Nat → Tag) (k : Key) (p : Nat) : A1 → Value → Prop
  | .c x, u => cvm w who (.own k p 0) x u
  | .agg cs, u => ∃ vs : List Value, u = .agg vs.toArray ∧ vs.length = cs.length ∧ ∀ q c v, cs[q]? = some c → vs[q]? = some v → cvm w who (.own k p q) c v ∧ v.oneCell' = true
def Xm (w : World) (who : Nat → Tag) (k : Key) : X → Value → Prop
  | .one a, u => A1m w who k 0 a u
  | .tup as, u => ∃ us : List Value, u = .tuple us.toArray ∧ us.length = as.length ∧ ∀ p a v, as[p]? = some a → us[p]? = some v → A1m w who k p a v
  | .box _, _ => True
def cellsm (w : World) (who : Nat → Tag) (k : Key) (cs : List CV) (vs : List Value) : Prop :=
  vs.length = cs.length ∧ ∀ q c v, cs[q]? = some c → vs[q]? = some v → cvm w who (.own k 0 q) c v
def Boxm (w : World) (who : Nat → Tag) (j : Nat) (cs : List CV) : Prop :=
  ∀ b, who b = .bx (bas j) → ∃ (vs : List Value) (E : TypeId), isShp w.heap[b]? j cs vs E ∧ cellsm w who (.b j) cs vs

/-! ## variables of the library's that are read: each holds a number -/
def globs : List Nat := [
  0
  ]
def Glob (w : World) (who : Nat → Tag) : Prop := ∀ g ∈ globs, (∃ m : Int, w.cell? ⟨g, 0, none⟩ = some (.int .i64 m)) ∧ g < w.heap.size ∧ (who g = .other ∨ who g = .froz)
theorem Glob.step {w w' : World} {who who' : Nat → Tag} (h : Glob w who) (hz : w.heap.size ≤ w'.heap.size) (hk : ∀ b, b < w.heap.size → (who b = .other ∨ who b = .froz) → w'.heap[b]? = w.heap[b]? ∧ (who' b = .other ∨ who' b = .froz)) : Glob w' who' := fun g hg => by
  obtain ⟨⟨m, hm⟩, hl, ht⟩ := h g hg
  obtain ⟨h1, h2⟩ := hk g hl ht
  refine ⟨⟨m, ?_⟩, Nat.lt_of_lt_of_le hl hz, h2⟩
  simp only [World.cell?] at hm ⊢
  rw [h1]; exact hm
structure Ctx where
  w0 : World
  who0 : Nat → Tag
  gl : Glob w0 who0
/-- what was not handed to the call is as it was -/
structure Adv (C : Ctx) (who : Nat → Tag) (w : World) : Prop where
  os : w.os = C.w0.os
  tape : w.tape = C.w0.tape
  output : w.output = C.w0.output
  size : C.w0.heap.size ≤ w.heap.size
  keep : ∀ b, b < C.w0.heap.size → (C.who0 b = .other ∨ C.who0 b = .froz) → w.heap[b]? = C.w0.heap[b]?
  tag : ∀ b, b < C.w0.heap.size → (C.who0 b = .other ∨ C.who0 b = .froz ∨ ∃ j, C.who0 b = .bx j) → who b = C.who0 b
theorem Adv.glob {C : Ctx} {who : Nat → Tag} {w : World} (h : Adv C who w) : Glob w who := C.gl.step h.size fun b hb ht => ⟨h.keep b hb ht, by rw [h.tag b hb (ht.imp id .inl)]; exact ht⟩
/-- a frame and a world that are as the state says -/
structure Rep (n : Nat) (C : Ctx) (who : Nat → Tag) (σ : St) (a : Act) (w : World) : Prop where
  nd : a.defers = []
  nt : a.tmps.size = n
  ext : ∀ b j, C.who0 b = .bx j → j = EXT
  adv : Adv C who w
  fz : ∀ b, who b ≠ .other → b < w.heap.size
  bxu : ∀ b b' j, who b = .bx j → who b' = .bx j → b = b'
  slot : ∀ t x, St.get σ (.t t) = some x → Xm w who (.t t) x (a.tmps.getD t undef)
  box : ∀ j cs, St.get σ (.b j) = some (.box cs) → Boxm w who j cs

theorem Rep.forget {n : Nat} {C : Ctx} {who : Nat → Tag} {σ σ' : St} {a : Act} {w : World} (h : Rep n C who σ a w) (hs : ∀ k x, St.get σ' k = some x → St.get σ k = some x) : Rep n C who σ' a w :=
  ⟨h.nd, h.nt, h.ext, h.adv, h.fz, h.bxu, fun t x hx => h.slot t x (hs _ _ hx), fun j cs hx => h.box j cs (hs _ _ hx)⟩
theorem Rep.congr {n : Nat} {C : Ctx} {who : Nat → Tag} {σ σ' : St} {a : Act} {w : World} (h : Rep n C who σ a w) (hs : ∀ k, St.get σ' k = St.get σ k) : Rep n C who σ' a w :=
  h.forget fun k x hx => by rw [← hs]; exact hx

/-- a step: T: blocks that are written; G: blocks that become another's -/
structure Stp (who : Nat → Tag) (w : World) (who' : Nat → Tag) (w' : World) (T G : Nat → Prop) : Prop where
  os : w'.os = w.os
  tape : w'.tape = w.tape
  output : w'.output = w.output
  size : w.heap.size ≤ w'.heap.size
  heap : ∀ b, b < w.heap.size → ¬ T b → w'.heap[b]? = w.heap[b]?
  tag : ∀ b, b < w.heap.size → ¬ G b → who' b = who b
  tf : ∀ b, T b → who b ≠ .froz
  gf : ∀ b, G b → who b ≠ .froz

theorem Own.kp {w w' : World} {B E m : Nat} {S S' : Nat → Prop} {v : Value} {ds : List D} (h : Own w B E m S v ds) (hz : w.heap.size ≤ w'.heap.size) (hS : ∀ b, b < w.heap.size → S b → S' b)
    (hw : ∀ b, b < w.heap.size → S b → w'.heap[b]? = w.heap[b]?) (hv : ∀ k, v.ownBlock = some k → w'.heap[k]? = w.heap[k]?) : Own w' B E m S' v ds := by
  obtain ⟨xs, ⟨l, h1⟩, h2, h3⟩ := h
  refine ⟨xs, ⟨l, ?_⟩, rds.keep hz (fun b hb ⟨h, h'⟩ => ⟨hS b hb h, h'⟩) (fun b hb h => hw b hb h.1) _ _ h2, h3⟩
  rcases h1 with h1 | ⟨g, cap, cur, rfl, e2, e3, e4⟩
  · exact .inl h1
  · exact .inr ⟨g, cap, cur, rfl, e2, by rw [hv g rfl]; exact e3, e4⟩

section
variable {who who' : Nat → Tag} {w w' : World} {T G : Nat → Prop}
theorem Stp.fz (hs : Stp who w who' w' T G) : ∀ b, b < w.heap.size → Fz who b → Fz who' b := fun b hb h =>
  (hs.tag b hb fun hg => hs.gf b hg h).trans h
theorem Stp.hw (hs : Stp who w who' w' T G) : ∀ b, b < w.heap.size → Fz who b → w'.heap[b]? = w.heap[b]? := fun b hb h => hs.heap b hb fun ht => hs.tf b ht h

theorem pslm.stp {j n : Nat} {u : Value} (h : pslm w who j n u) (hs : Stp who w who' w' T G) (hz : ∀ b, who b ≠ .other → b < w.heap.size) (hp : ∀ b, who b = .bx j → ¬ G b) : pslm w' who' j n u := by
  obtain ⟨b, o, b', cap, rfl, h1, h2, hcap, h3⟩ := h
  have hlt := hz b (by rw [h1]; simp)
  refine ⟨b, o, b', cap, rfl, hs.fz b hlt h1, ?_, hcap, (hs.tag b' (hz b' (by rw [h3]; simp)) (hp b' h3)).trans h3⟩
  rw [World.cell?_of_block (w := w) (hs.hw b hlt h1)]; exact h2
theorem cvm.stp {p : Tag} {c : CV} {u : Value} (h : cvm w who p c u) (hs : Stp who w who' w' T G) (hz : ∀ b, who b ≠ .other → b < w.heap.size)
    (ho : p ≠ .other → ∀ k, who k = p → ¬ T k ∧ ¬ G k) (hp' : p ≠ .other) (hp : ∀ j, j ∈ c.ids → ∀ b, who b = .bx j → ¬ G b) : cvm w' who' p c u := by
  cases c with
  | any => trivial
  | val v => exact h
  | arr ds => exact rd.keep hs.size hs.fz hs.hw _ _ h
  | own E m ds =>
    obtain ⟨h1, h2⟩ := h
    refine ⟨h1.kp hs.size hs.fz hs.hw fun k hk => ?_, fun k hk => ?_⟩
    · have hk' := h2 k hk
      exact hs.heap k (hz k (by rw [hk']; exact hp')) (ho hp' k hk').1
    · have hk' := h2 k hk
      exact (hs.tag k (hz k (by rw [hk']; exact hp')) (ho hp' k hk').2).trans hk'
  | ownK v E m ds =>
    obtain ⟨h0, h1, h2⟩ := h
    refine ⟨h0, h1.kp hs.size hs.fz hs.hw fun k hk => ?_, fun k hk => ?_⟩
    · have hk' := h2 k hk
      exact hs.heap k (hz k (by rw [hk']; exact hp')) (ho hp' k hk').1
    · have hk' := h2 k hk
      exact (hs.tag k (hz k (by rw [hk']; exact hp')) (ho hp' k hk').2).trans hk'
  | ptr j o =>
    obtain ⟨b, rfl, hb⟩ := h
    exact ⟨b, rfl, (hs.tag b (hz b (by rw [hb]; simp)) (hp j (by simp [CV.ids]) b hb)).trans hb⟩
  | mp j =>
    obtain ⟨b, rfl, hb⟩ := h
    exact ⟨b, rfl, (hs.tag b (hz b (by rw [hb]; simp)) (hp j (by simp [CV.ids]) b hb)).trans hb⟩
  | mc es c => trivial
  | full ds => exact ⟨h.1, rd.keep hs.size hs.fz hs.hw _ _ h.2⟩
  | sl j n =>
    obtain ⟨b, cap, rfl, hcap, hb⟩ := h
    exact ⟨b, cap, rfl, hcap, (hs.tag b (hz b (by rw [hb]; simp)) (hp j (by simp [CV.ids]) b hb)).trans hb⟩
  | psl j n => exact pslm.stp h hs hz (fun b hb => hp j (by simp [CV.ids]) b hb)
  | fnv f caps =>
    obtain ⟨vs, rfl, hl, h⟩ := h
    exact ⟨vs, rfl, hl, fun i cs v hi hv => (h i cs v hi hv).keep hs.size (fun b hb => hz b (by rw [hb]; simp)) hs.fz hs.hw⟩
  | isF v cs => exact ⟨h.1, h.2.keep hs.size (fun b hb => hz b (by rw [hb]; simp)) hs.fz hs.hw⟩
  | isP v j n => exact ⟨h.1, h.2.stp hs hz (fun b hb => hp j (by simp [CV.ids]) b hb)⟩
  | isB v j =>
    obtain ⟨hv, b, rfl, hb⟩ := h
    exact ⟨hv, b, rfl, (hs.tag b (hz b (by rw [hb]; simp)) (hp j (by simp [CV.ids]) b hb)).trans hb⟩
  | ms => trivial
  | mh v => trivial
  | fp cs =>
    obtain ⟨b, o, rfl, hb, h2⟩ := h
    have hlt := hz b (by rw [hb]; simp)
    refine ⟨b, o, rfl, hs.fz b hlt hb, fun i c hc => ?_⟩
    obtain ⟨x, h3, h4⟩ := h2 i c hc
    exact ⟨x, by rw [World.cell?_of_block (w := w) (hs.hw b hlt hb)]; exact h3, h4.keep hs.size hs.fz hs.hw⟩

theorem A1m.stp {k : Key} {p : Nat} {A : A1} {u : Value} (h : A1m w who k p A u) (hs : Stp who w who' w' T G) (hz : ∀ b, who b ≠ .other → b < w.heap.size)
    (ho : ∀ q b, who b = .own k p q → ¬ T b ∧ ¬ G b) (hp : ∀ j, j ∈ A.ids → ∀ b, who b = .bx j → ¬ G b) : A1m w' who' k p A u := by
  cases A with
  | c x => exact cvm.stp h hs hz (fun _ b hb => ho 0 b hb) (by simp) hp
  | agg cs =>
    obtain ⟨vs, rfl, hl, hc⟩ := h
    refine ⟨vs, rfl, hl, fun q c v hq hv => ⟨cvm.stp (hc q c v hq hv).1 hs hz (fun _ b hb => ho q b hb) (by simp) fun j hj => hp j ?_, (hc q c v hq hv).2⟩⟩
    exact List.mem_flatMap.2 ⟨c, List.mem_of_getElem? hq, hj⟩

theorem Xm.stp {k : Key} {x : X} {u : Value} (h : Xm w who k x u) (hs : Stp who w who' w' T G) (hz : ∀ b, who b ≠ .other → b < w.heap.size)
    (ho : ∀ p q b, who b = .own k p q → ¬ T b ∧ ¬ G b) (hp : ∀ j, j ∈ x.ids → ∀ b, who b = .bx j → ¬ G b) : Xm w' who' k x u := by
  cases x with
  | one a => exact A1m.stp h hs hz (ho 0) hp
  | tup as =>
    obtain ⟨us, rfl, hl, hc⟩ := h
    refine ⟨us, rfl, hl, fun p a v hq hv => A1m.stp (hc p a v hq hv) hs hz (ho p) fun j hj => hp j ?_⟩
    exact List.mem_flatMap.2 ⟨a, List.mem_of_getElem? hq, hj⟩
  | box cs => trivial

theorem cellsm.stp {k : Key} {cs : List CV} {vs : List Value} (h : cellsm w who k cs vs) (hs : Stp who w who' w' T G) (hz : ∀ b, who b ≠ .other → b < w.heap.size)
    (ho : ∀ q b, who b = .own k 0 q → ¬ T b ∧ ¬ G b) (hp : ∀ j, j ∈ cs.flatMap CV.ids → ∀ b, who b = .bx j → ¬ G b) : cellsm w' who' k cs vs :=
  ⟨h.1, fun q c v hq hv => cvm.stp (h.2 q c v hq hv) hs hz (fun _ b hb => ho q b hb) (by simp) fun j hj => hp j (List.mem_flatMap.2 ⟨c, List.mem_of_getElem? hq, hj⟩)⟩

/-- the state is kept by a step that does not touch what it speaks of -/
theorem Rep.stp {n : Nat} {C : Ctx} {σ : St} {a : Act} (h : Rep n C who σ a w) (hs : Stp who w who' w' T G)
    (h0 : ∀ b, b < C.w0.heap.size → (C.who0 b = .other ∨ C.who0 b = .froz) → ¬ T b ∧ ¬ G b) (h0' : ∀ b j, b < C.w0.heap.size → C.who0 b = .bx j → ¬ G b)
    (hz' : ∀ b, who' b ≠ .other → b < w'.heap.size) (hu' : ∀ b b' j, who' b = .bx j → who' b' = .bx j → b = b')
    (h1 : ∀ b k p q, who b = .own k p q → T b ∨ G b → St.get σ k = none)
    (h2 : ∀ b j, who b = .bx j → G b → j ∉ St.ids σ)
    (h3 : ∀ b j, who b = .bx (bas j) → T b ∨ G b → St.get σ (.b j) = none)
    (h4 : ∀ b j, who' b = .bx (bas j) → who b ≠ .bx (bas j) → St.get σ (.b j) = none) : Rep n C who' σ a w' where
  nd := h.nd
  nt := h.nt
  ext := h.ext
  adv := by
    refine ⟨hs.os.trans h.adv.os, hs.tape.trans h.adv.tape, hs.output.trans h.adv.output, Nat.le_trans h.adv.size hs.size, fun b hb ho => ?_, fun b hb ho => ?_⟩
    · exact (hs.heap b (Nat.lt_of_lt_of_le hb h.adv.size) (h0 b hb ho).1).trans (h.adv.keep b hb ho)
    · refine (hs.tag b (Nat.lt_of_lt_of_le hb h.adv.size) ?_).trans (h.adv.tag b hb ho)
      rcases ho with ho | ho | ⟨j, ho⟩
      · exact (h0 b hb (.inl ho)).2
      · exact (h0 b hb (.inr ho)).2
      · exact h0' b j hb ho
  fz := hz'
  bxu := hu'
  slot := fun t x hx => by
    refine Xm.stp (h.slot t x hx) hs h.fz (fun p q b hb => ?_) fun j hj b hb hG => h2 b j hb hG (St.ids_get hx hj)
    constructor <;> intro ht
    · have := h1 b _ _ _ hb (.inl ht); rw [hx] at this; cases this
    · have := h1 b _ _ _ hb (.inr ht); rw [hx] at this; cases this
  box := fun j cs hx b hb => by
    have hb0 : who b = .bx (bas j) := by
      rcases Classical.em (who b = .bx (bas j)) with e | e
      · exact e
      · have := h4 b j hb e; rw [hx] at this; cases this
    have hTG : ¬ T b ∧ ¬ G b := by
      constructor <;> intro ht
      · have := h3 b j hb0 (.inl ht); rw [hx] at this; cases this
      · have := h3 b j hb0 (.inr ht); rw [hx] at this; cases this
    obtain ⟨vs, E, e, hc⟩ := h.box j cs hx b hb0
    refine ⟨vs, E, ?_, cellsm.stp hc hs h.fz (fun q b' hb' => ?_) fun i hi b' hb' hG => h2 b' i hb' hG (St.ids_get hx hi)⟩
    · rw [hs.heap b (h.fz b (by rw [hb0]; simp)) hTG.1]; exact e
    · constructor <;> intro ht
      · have := h1 b' _ _ _ hb' (.inl ht); rw [hx] at this; cases this
      · have := h1 b' _ _ _ hb' (.inr ht); rw [hx] at this; cases this
end

section
variable {n : Nat} {C : Ctx} {who : Nat → Tag} {σ : St} {a : Act} {w : World}
theorem Rep.put (h : Rep n C who σ a w) {t : Nat} (ht : t < n) {x : X} {v : Value} (hx : Xm w who (.t t) x v) : Rep n C who ((.t t, some x) :: σ) (a.put (some t) v) w where
  nd := h.nd
  nt := by simp [Act.put, h.nt]
  ext := h.ext
  adv := h.adv
  fz := h.fz
  bxu := h.bxu
  slot := fun t' x' hx' => by
    rcases Classical.em (t = t') with rfl | hne
    · rw [St.get_same] at hx'; injection hx' with e; subst e
      have : (a.put (some t) v).tmps.getD t undef = v := by simp [Act.put, h.nt, ht]
      rw [this]; exact hx
    · rw [St.get_ne (by simpa using hne)] at hx'
      have : (a.put (some t) v).tmps.getD t' undef = a.tmps.getD t' undef := by simp [Act.put, Array.getElem?_setIfInBounds_ne hne]
      rw [this]; exact h.slot t' x' hx'
  box := fun j cs hx' => by rw [St.get_ne (by simp)] at hx'; exact h.box j cs hx'
theorem Rep.kill (h : Rep n C who σ a w) (k : Key) : Rep n C who ((k, none) :: σ) a w :=
  h.forget fun k' x hx => by
    rcases Classical.em (k = k') with rfl | hne
    · rw [St.get_same] at hx; cases hx
    · rw [St.get_ne hne] at hx; exact hx
theorem Rep.addBox (h : Rep n C who σ a w) {j : Nat} {cs : List CV} (hx : Boxm w who j cs) : Rep n C who ((.b j, some (.box cs)) :: σ) a w where
  nd := h.nd
  nt := h.nt
  ext := h.ext
  adv := h.adv
  fz := h.fz
  bxu := h.bxu
  slot := fun t x hx' => by rw [St.get_ne (by simp)] at hx'; exact h.slot t x hx'
  box := fun j' cs' hx' => by
    rcases Classical.em (j = j') with rfl | hne
    · rw [St.get_same] at hx'; injection hx' with e; injection e with e; subst e; exact hx
    · rw [St.get_ne (by simpa using hne)] at hx'; exact h.box j' cs' hx'
theorem Rep.addSlot (h : Rep n C who σ a w) {t : Nat} {x : X} (hx : Xm w who (.t t) x (a.tmps.getD t undef)) : Rep n C who ((.t t, some x) :: σ) a w where
  nd := h.nd
  nt := h.nt
  ext := h.ext
  adv := h.adv
  fz := h.fz
  bxu := h.bxu
  slot := fun t' x' hx' => by
    rcases Classical.em (t = t') with rfl | hne
    · rw [St.get_same] at hx'; injection hx' with e; subst e; exact hx
    · rw [St.get_ne (by simpa using hne)] at hx'; exact h.slot t' x' hx'
  box := fun j cs hx' => by rw [St.get_ne (by simp)] at hx'; exact h.box j cs hx'

/-- what an operand holds -/
def St.ev (σ : St) : Operand → Option X
  | .tmp t => St.get σ (.t t)
  | .const v => some (.one (.c (.val v)))
  | .func f => some (.one (.c (.val (.func (.func f) #[] #[]))))
  | .global _ => none
def opKey : Operand → List Key
  | .tmp t => [.t t]
  | _ => []
def opTag : Operand → Key
  | .tmp t => .t t
  | _ => .b 0
theorem Rep.ev (h : Rep n C who σ a w) {s : Operand} {x : X} (hx : St.ev σ s = some x) : Xm w who (opTag s) x (a.eval s) := by
  cases s with
  | tmp t => exact h.slot t x hx
  | const v => simp only [St.ev, Option.some.injEq] at hx; subst hx; rfl
  | func f => simp only [St.ev, Option.some.injEq] at hx; subst hx; rfl
  | global g => simp [St.ev] at hx
theorem ev_agree {σ' : St} {s : Operand} (h : ∀ k ∈ opKey s, St.get σ' k = St.get σ k) : St.ev σ' s = St.ev σ s := by
  cases s with
  | tmp t => exact h _ (by simp [opKey])
  | _ => rfl
end
end Go.Proofs.YtmanhdacnkpclaaGreatDoor

/- Walks over abstract states: one region, in whatever order it is drawn, does what it does in the order of its text. -/
namespace Go.Proofs.YtmanhdacnkpclaaGreatDoor
set_option linter.unusedVariables false
set_option linter.unusedSimpArgs false
open Go.RowKit

/-- what an operation looks at, what it writes, which boxes it makes -/
structure Info where
  rd : List Key
  wr : List Key
  al : List Nat

def Does (P : Program) (n : Nat) (o : Oper) (σ σ' : St) : Prop :=
  ∀ (C : Ctx) (who : Nat → Tag) (a : Act) (w : World), Rep n C who σ a w → (∀ d, o.dst = some d → d < n) →
    ∀ (K : Act → World → Prop) (Q : Exit → Act → World → Prop), (∀ who' v w', Rep n C who' σ' (a.put o.dst v) w' → K (a.put o.dst v) w') → o.wp P a w K Q

structure Op1 (P : Program) (n : Nat) (o : Oper) (i : Info) (σ δ : St) : Prop where
  does : ∀ σ', (∀ k ∈ i.rd, St.get σ' k = St.get σ k) → (∀ j ∈ i.al, j ∉ St.ids σ') → Does P n o σ' (δ ++ σ')
  wr : ∀ e ∈ δ, e.1 ∈ i.wr
  me : ∀ j ∈ St.ids δ, Key.b j ∈ i.rd ∨ j ∈ i.al
  al : ∀ j ∈ i.al, Key.b j ∈ i.wr

def guardIs (ops : Array Oper) (o : Oper) (σ : St) : Option Bool :=
  match o.guard with
  | none => some true
  | some (j, want) => match (ops[j]?).bind (·.dst) with
    | some t => match St.get σ (.t t) with
      | some (.one (.c (.val (.bool b)))) => some (b == want)
      | some (.one (.c (.val (.tuple _)))) => some false
      | _ => none
    | none => none
def guardKeys (ops : Array Oper) (o : Oper) : List Key :=
  match o.guard with
  | none => []
  | some (j, _) => match (ops[j]?).bind (·.dst) with
    | some t => [.t t]
    | none => []
def killDst (o : Oper) : St := match o.dst with | some d => [(.t d, some (.one (.c (.val (.tuple #[])))))] | none => []

def StepI (P : Program) (n : Nat) (ops : Array Oper) (o : Oper) (i : Info) (σ δ : St) : Prop :=
  (∀ k ∈ guardKeys ops o, k ∈ i.rd) ∧
  ((guardIs ops o σ = some true ∧ Op1 P n o i σ δ ∧ (∀ j ∈ i.al, j ∉ St.ids σ)) ∨ (guardIs ops o σ = some false ∧ δ = killDst o ∧ (∀ e ∈ δ, e.1 ∈ i.wr)))

theorem guard_agree {ops : Array Oper} {o : Oper} {σ σ' : St} (h : ∀ k ∈ guardKeys ops o, St.get σ' k = St.get σ k) : guardIs ops o σ' = guardIs ops o σ := by
  unfold guardKeys at h
  unfold guardIs
  cases hg : o.guard with
  | none => rfl
  | some jw =>
    obtain ⟨j, want⟩ := jw
    rw [hg] at h
    simp only at h ⊢
    cases ht : (ops[j]?).bind (·.dst) with
    | none => rfl
    | some t =>
      rw [ht] at h
      simp only at h ⊢
      rw [h (.t t) (by simp)]

theorem wanted_of {n : Nat} {C : Ctx} {who : Nat → Tag} {ops : Array Oper} {o : Oper} {σ : St} {a : Act} {w : World} {r : Bool} (h : Rep n C who σ a w) (hg : guardIs ops o σ = some r) : Region.wanted o (yielded ops a.tmps) = r := by
  unfold guardIs at hg
  unfold Region.wanted
  cases hgd : o.guard with
  | none => rw [hgd] at hg; simp at hg; simp [hg]
  | some jw =>
    obtain ⟨j, want⟩ := jw
    rw [hgd] at hg
    simp only at hg ⊢
    cases ht : (ops[j]?).bind (·.dst) with
    | none => rw [ht] at hg; simp at hg
    | some t =>
      rw [ht] at hg
      simp only at hg
      cases hx : St.get σ (.t t) with
      | none => rw [hx] at hg; simp at hg
      | some x =>
        rw [hx] at hg
        split at hg
        · rename_i b e
          injection e with e; subst e
          have hs : a.tmps.getD t undef = .bool b := h.slot t _ hx
          have hy : yielded ops a.tmps j = some b := by
            unfold yielded
            rw [ht]
            simp only [Option.bind_some]
            cases hq : a.tmps[t]? with
            | none => rw [Array.getD_eq_getD_getElem?, hq] at hs; simp [undef] at hs
            | some v => rw [Array.getD_eq_getD_getElem?, hq] at hs; simp at hs; simp [hs]
          rw [hy]
          exact Option.some.inj hg
        · rename_i vs e
          injection e with e; subst e
          have hs : a.tmps.getD t undef = .tuple vs := h.slot t _ hx
          have hy : yielded ops a.tmps j = none := by
            unfold yielded
            rw [ht]
            simp only [Option.bind_some]
            cases hq : a.tmps[t]? with
            | none => rfl
            | some v => rw [Array.getD_eq_getD_getElem?, hq] at hs; simp at hs; simp [hs]
          rw [hy]
          exact Option.some.inj hg
        · cases hg

/-- one operation, at a state that is as it wants it -/
theorem StepI.run {P : Program} {n : Nat} {ops : Array Oper} {o : Oper} {i : Info} {σ δ σ' : St} (h : StepI P n ops o i σ δ) (hag : ∀ k ∈ i.rd, St.get σ' k = St.get σ k) (hal : ∀ j ∈ i.al, j ∉ St.ids σ')
    {C : Ctx} {who : Nat → Tag} {a : Act} {w : World} (hr : Rep n C who σ' a w) (hd : ∀ d, o.dst = some d → d < n) {K : Act → World → Prop} {Q : Exit → Act → World → Prop}
    (hK : ∀ who' v w', Rep n C who' (δ ++ σ') (a.put o.dst v) w' → K (a.put o.dst v) w') :
    if Region.wanted o (yielded ops a.tmps) = true then o.wp P a w K Q else K (a.put o.dst undef) w := by
  obtain ⟨hk, h⟩ := h
  have hg := guard_agree (ops := ops) (o := o) fun k hk' => hag k (hk k hk')
  rcases h with ⟨h1, h2, h3⟩ | ⟨h1, rfl, h3⟩
  · rw [wanted_of hr (hg.trans h1), if_pos rfl]
    exact h2.does σ' hag hal C who a w hr hd K Q hK
  · rw [wanted_of hr (hg.trans h1), if_neg (by simp)]
    refine hK who undef w ?_
    unfold killDst
    cases hdst : o.dst with
    | none => simpa [Act.put] using hr
    | some d => exact hr.put (hd d hdst) rfl

/-- the operations in the order of the text -/
def Sq (P : Program) (n : Nat) (ops : Array Oper) : List Oper → List Info → St → (St → Prop) → Prop
  | [], is, σ, K => is = [] ∧ K σ
  | o :: os, is, σ, K => ∃ i is' δ, is = i :: is' ∧ StepI P n ops o i σ δ ∧ Sq P n ops os is' (δ ++ σ) K
/-- a region that is not drawn -/
theorem Sq.list {P : Program} {n : Nat} {ops : Array Oper} {C : Ctx} {Q : Exit → Act → World → Prop} {K : St → Prop} (hK : ∀ σ who a w, K σ → Rep n C who σ a w → Q .normal a w) :
    ∀ (os : List Oper) (is : List Info) (σ : St) (who : Nat → Tag) (a : Act) (w : World), (∀ o ∈ os, ∀ d, o.dst = some d → d < n) → Sq P n ops os is σ K → Rep n C who σ a w → wpList P ops Q os a w
  | [], _, σ, who, a, w, _, h, hr => hK σ who a w h.2 hr
  | o :: os, _, σ, who, a, w, hd, ⟨i, is', δ, rfl, hs, h⟩, hr => by
    have hal : ∀ j ∈ i.al, j ∉ St.ids σ ∨ guardIs ops o σ = some false := fun j hj => by
      rcases hs.2 with ⟨_, _, h3⟩ | ⟨h1, _⟩
      · exact .inl (h3 j hj)
      · exact .inr h1
    have key : if Region.wanted o (yielded ops a.tmps) = true then o.wp P a w (wpList P ops Q os) Q else wpList P ops Q os (a.put o.dst undef) w := by
      rcases hs.2 with ⟨h1, h2, h3⟩ | ⟨h1, h2, h3⟩
      · exact hs.run (fun _ _ => rfl) h3 hr (hd o (by simp)) fun who' v w' hr' => Sq.list hK os is' _ who' _ w' (fun o' ho' => hd o' (by simp [ho'])) h hr'
      · rw [wanted_of hr h1, if_neg (by simp)]
        refine Sq.list hK os is' _ who _ w (fun o' ho' => hd o' (by simp [ho'])) h ?_
        subst h2
        unfold killDst
        cases hdst : o.dst with
        | none => simpa [Act.put] using hr
        | some d => exact hr.put (hd o (by simp) d hdst) rfl
    show if _ then _ else _
    split
    · rename_i hw; rw [if_pos hw] at key; exact .inl key
    · rename_i hw; rw [if_neg hw] at key; exact key

def Chain (P : Program) (n : Nat) (ops : Array Oper) : List Oper → List Info → List St → St → Prop
  | [], [], [], _ => True
  | o :: os, i :: is, δ :: δs, σ => StepI P n ops o i σ δ ∧ Chain P n ops os is δs (δ ++ σ)
  | _, _, _, _ => False
/-- what those of the operations do that L names, in the order of the text -/
def look (L : Nat → Bool) : Nat → List St → St → St
  | _, [], σ => σ
  | i, δ :: δs, σ => look L (i + 1) δs (bif L i then δ ++ σ else σ)

theorem look_none {L : Nat → Bool} : ∀ (δs : List St) (f : Nat) (σ : St), (∀ m, f ≤ m → L m = false) → look L f δs σ = σ
  | [], _, _, _ => rfl
  | δ :: δs, f, σ, h => by
    simp only [look, h f (Nat.le_refl _), cond_false]
    exact look_none δs (f + 1) σ fun m hm => h m (by omega)
theorem look_get {L L' : Nat → Bool} {r : Key} : ∀ (δs : List St) (f : Nat) (σ σ' : St), St.get σ r = St.get σ' r → (∀ m δ, δs[m]? = some δ → L (f + m) ≠ L' (f + m) → keyIn r δ = false) →
    St.get (look L f δs σ) r = St.get (look L' f δs σ') r
  | [], _, _, _, h, _ => h
  | δ :: δs, f, σ, σ', h, hd => by
    simp only [look]
    refine look_get δs (f + 1) _ _ ?_ fun m δ' hm hne => hd (m + 1) δ' (by simpa using hm) (by rw [← Nat.add_assoc, Nat.add_right_comm]; exact hne)
    have h0 := hd 0 δ rfl
    simp only [Nat.add_zero] at h0
    cases e1 : L f <;> cases e2 : L' f <;> rw [e1, e2] at h0 <;> simp only [cond_true, cond_false, St.get_app]
    · exact h
    · rw [h0 (by simp)]; exact h
    · rw [h0 (by simp)]; exact h
    · rw [h]
theorem look_succ {k : Nat} {δ : St} : ∀ (δs : List St) (f : Nat) (σ : St), δs[k]? = some δ → look (fun m => decide (m < f + k + 1)) f δs σ = δ ++ look (fun m => decide (m < f + k)) f δs σ := by
  induction k with
  | zero =>
    intro δs f σ h
    cases δs with
    | nil => simp at h
    | cons d ds =>
      simp at h; subst h
      simp only [look, Nat.add_zero, Nat.lt_irrefl, decide_false, cond_false, Nat.lt_succ_self, decide_true, cond_true]
      rw [look_none ds (f + 1) _ (fun m hm => by simp; omega), look_none ds (f + 1) _ (fun m hm => by simp; omega)]
  | succ k ih =>
    intro δs f σ h
    cases δs with
    | nil => simp at h
    | cons d ds =>
      simp at h
      have e1 : (decide (f < f + (k + 1) + 1)) = true := by simp; omega
      have e2 : (decide (f < f + (k + 1))) = true := by simp
      simp only [look, e1, e2, cond_true]
      have := ih ds (f + 1) (d ++ σ) h
      rw [show f + 1 + k + 1 = f + (k + 1) + 1 by omega, show f + 1 + k = f + (k + 1) by omega] at this
      exact this
theorem Chain.at {P : Program} {n : Nat} {ops : Array Oper} : ∀ {os : List Oper} {is : List Info} {δs : List St} {σ : St} (f : Nat), Chain P n ops os is δs σ → ∀ k o, os[k]? = some o →
    ∃ i δ, is[k]? = some i ∧ δs[k]? = some δ ∧ StepI P n ops o i (look (fun m => decide (m < f + k)) f δs σ) δ
  | [], _, _, _, _, _, k, o, h => by simp at h
  | o' :: os, [], _, _, _, hc, _, _, _ => by simp [Chain] at hc
  | o' :: os, i :: is, [], _, _, hc, _, _, _ => by simp [Chain] at hc
  | o' :: os, i :: is, δ :: δs, σ, f, hc, 0, o, h => by
    simp at h; subst h
    refine ⟨i, δ, rfl, rfl, ?_⟩
    rw [look_none _ _ _ fun m hm => by simp; omega]
    exact hc.1
  | o' :: os, i :: is, δ :: δs, σ, f, hc, k + 1, o, h => by
    simp at h
    obtain ⟨i', δ', h1, h2, h3⟩ := Chain.at (f + 1) hc.2 k o h
    refine ⟨i', δ', by simpa using h1, by simpa using h2, ?_⟩
    have e2 : (decide (f < f + (k + 1))) = true := by simp
    simp only [look, e2, cond_true]
    rw [show f + 1 + k = f + (k + 1) by omega] at h3
    exact h3
theorem Chain.len {P : Program} {n : Nat} {ops : Array Oper} : ∀ {os : List Oper} {is : List Info} {δs : List St} {σ : St}, Chain P n ops os is δs σ → δs.length = os.length
  | [], [], [], _, _ => rfl
  | [], [], _ :: _, _, h => by simp [Chain] at h
  | [], _ :: _, _, _, h => by simp [Chain] at h
  | _ :: _, [], _, _, h => by simp [Chain] at h
  | _ :: _, _ :: _, [], _, h => by simp [Chain] at h
  | _ :: _, _ :: _, _ :: _, _, h => by simp [Chain.len h.2]
theorem Sq.chain {P : Program} {n : Nat} {ops : Array Oper} {K : St → Prop} : ∀ {os : List Oper} {is : List Info} {σ : St}, Sq P n ops os is σ K → ∃ δs, Chain P n ops os is δs σ ∧ K (look (fun _ => true) 0 δs σ)
  | [], _, σ, ⟨rfl, h⟩ => ⟨[], trivial, h⟩
  | o :: os, _, σ, ⟨i, is', δ, rfl, hs, h⟩ => by
    obtain ⟨δs, h1, h2⟩ := Sq.chain h
    refine ⟨δ :: δs, ⟨hs, h1⟩, ?_⟩
    have : ∀ (δs : List St) (f g : Nat) (σ : St), look (fun _ => true) f δs σ = look (fun _ => true) g δs σ := by
      intro δs
      induction δs with
      | nil => intro _ _ _; rfl
      | cons d ds ih => intro f g σ; exact ih _ _ _
    show K (look (fun _ => true) 1 δs (δ ++ σ))
    rw [this δs 1 0]; exact h2

def memK (k : Key) (l : List Key) : Bool := l.any (Key.is k)
theorem memK_iff {k : Key} {l : List Key} : memK k l = true ↔ k ∈ l := by
  simp only [memK, List.any_eq_true, Key.is_iff]
  exact ⟨fun ⟨x, hx, e⟩ => e ▸ hx, fun h => ⟨k, h, rfl⟩⟩
def confl (a b : Info) : Bool := a.wr.any (fun k => memK k b.rd || memK k b.wr) || a.rd.any (fun k => memK k b.wr)
def bnd (e : Edge) : Bool := Region.binds .any e
/-- what gets in each other's way stands in order -/
def chk (ops : Array Oper) (is : List Info) : Bool :=
  let M := (Region.before ops).toList
  (List.range ops.size).all fun k => ((ops[k]?).any fun o => o.after.all fun e => !bnd e || decide (e.on < k)) &&
    (List.range k).all fun i => (!(Nat.testBit (M.getD k 0) i) || (ops[k]?).any fun o => o.after.any fun e => bnd e && (Nat.beq e.on i || (decide (e.on < k) && decide (i < e.on) && Nat.testBit (M.getD e.on 0) i))) &&
      (!((is[i]?).any fun a => (is[k]?).any fun b => confl a b) || Nat.testBit (M.getD k 0) i)

section
variable {ops : Array Oper} {is : List Info}
theorem chk_edge (h : chk ops is = true) {k : Nat} {o : Oper} (hk : ops[k]? = some o) {e : Edge} (he : e ∈ o.after) (hb : bnd e = true) : e.on < k := by
  unfold chk at h
  have hlt : k < ops.size := (Array.getElem?_eq_some_iff.1 hk).1
  have h1 := List.all_eq_true.1 h k (List.mem_range.2 hlt)
  simp only [Bool.and_eq_true, hk, Option.any_some] at h1
  have h2 := (Array.all_eq_true_iff_forall_mem.1 h1.1) e he
  simpa [hb] using h2
theorem chk_anc (h : chk ops is = true) {L : Nat → Bool} (hL : ∀ m o e, L m = true → ops[m]? = some o → e ∈ o.after → bnd e = true → L e.on = true) :
    ∀ k o i, ops[k]? = some o → (∀ e ∈ o.after, bnd e = true → L e.on = true) → i < k → Nat.testBit ((Region.before ops).toList.getD k 0) i = true → L i = true := by
  intro k
  induction k using Nat.strongRecOn with
  | ind k ih =>
    intro o i hk hrd hi ht
    have h' := h
    unfold chk at h'
    have hlt : k < ops.size := (Array.getElem?_eq_some_iff.1 hk).1
    have h1 := List.all_eq_true.1 h' k (List.mem_range.2 hlt)
    simp only [Bool.and_eq_true, hk, Option.any_some] at h1
    have h2 := List.all_eq_true.1 h1.2 i (List.mem_range.2 hi)
    simp only [Bool.and_eq_true, ht, Bool.not_true, Bool.false_or, Option.any_some] at h2
    obtain ⟨ie, hie, h3⟩ := Array.any_eq_true.1 h2.1
    obtain ⟨e, he, hee⟩ : ∃ e ∈ o.after, e = o.after[ie] := ⟨_, Array.getElem_mem hie, rfl⟩
    rw [← hee] at h3
    simp only [Bool.and_eq_true, Bool.or_eq_true, decide_eq_true_eq] at h3
    obtain ⟨hb, h3⟩ := h3
    have hLe := hrd e he hb
    rcases h3 with h3 | ⟨⟨h3, h5⟩, h4⟩
    · rw [← Nat.eq_of_beq_eq_true h3]; exact hLe
    · obtain ⟨o', ho'⟩ : ∃ o', ops[e.on]? = some o' := ⟨ops[e.on]'(by omega), Array.getElem?_eq_getElem _⟩
      exact ih e.on h3 o' i ho' (fun e' he' hb' => hL _ _ _ hLe ho' he' hb') h5 h4
theorem chk_confl (h : chk ops is = true) {k i : Nat} {a b : Info} (hk : k < ops.size) (hi : i < k) (ha : is[i]? = some a) (hb : is[k]? = some b) (hc : confl a b = true) : Nat.testBit ((Region.before ops).toList.getD k 0) i = true := by
  unfold chk at h
  have h1 := List.all_eq_true.1 h k (List.mem_range.2 hk)
  simp only [Bool.and_eq_true] at h1
  have h2 := List.all_eq_true.1 h1.2 i (List.mem_range.2 hi)
  simp only [Bool.and_eq_true, ha, hb, Option.any_some, hc, Bool.not_true, Bool.false_or] at h2
  exact h2.2
end
theorem confl_rw {a b : Info} {k : Key} (h1 : k ∈ a.rd) (h2 : k ∈ b.wr) : confl a b = true := by
  simp only [confl, Bool.or_eq_true, List.any_eq_true, memK_iff]
  exact .inr ⟨k, h1, h2⟩
theorem confl_wr {a b : Info} {k : Key} (h1 : k ∈ a.wr) (h2 : k ∈ b.rd) : confl a b = true := by
  simp only [confl, Bool.or_eq_true, List.any_eq_true, memK_iff]
  exact .inl ⟨k, h1, .inl h2⟩
theorem confl_ww {a b : Info} {k : Key} (h1 : k ∈ a.wr) (h2 : k ∈ b.wr) : confl a b = true := by
  simp only [confl, Bool.or_eq_true, List.any_eq_true, memK_iff]
  exact .inl ⟨k, h1, .inr h2⟩

theorem StepI.wr {P : Program} {n : Nat} {ops : Array Oper} {o : Oper} {i : Info} {σ δ : St} (h : StepI P n ops o i σ δ) : ∀ e ∈ δ, e.1 ∈ i.wr := by
  rcases h.2 with ⟨_, h, _⟩ | ⟨_, _, h⟩
  · exact h.wr
  · exact h
theorem StepI.wrk {P : Program} {n : Nat} {ops : Array Oper} {o : Oper} {i : Info} {σ δ : St} {r : Key} (h : StepI P n ops o i σ δ) (hr : keyIn r δ = true) : r ∈ i.wr := by
  obtain ⟨e, he, rfl⟩ := keyIn_mem hr
  exact h.wr e he

/-- a region in whatever order -/
theorem any_run {P : Program} {n : Nat} {ops : Array Oper} {is : List Info} {δs : List St} {σ0 : St} {Q : Exit → Act → World → Prop} {C : Ctx} (hc : Chain P n ops ops.toList is δs σ0) (hchk : chk ops is = true)
    (hd : ∀ o ∈ ops.toList, ∀ d, o.dst = some d → d < n) (hQ : ∀ who a w, Rep n C who (look (fun _ => true) 0 δs σ0) a w → Q .normal a w) :
    ∀ (fuel : Nat) (listed : Array Bool) (σ : St) (who : Nat → Tag) (a : Act) (w : World), listed.size = ops.size → ((List.range ops.size).filter (fun m => !listed.getD m false)).length ≤ fuel →
      (∀ m o e, listed.getD m false = true → ops[m]? = some o → e ∈ o.after → bnd e = true → listed.getD e.on false = true) →
      (∀ r, St.get σ r = St.get (look (fun m => listed.getD m false) 0 δs σ0) r) → (∀ j ∈ St.ids σ, j ∈ St.ids σ0 ∨ ∃ m δ, listed.getD m false = true ∧ δs[m]? = some δ ∧ j ∈ St.ids δ) →
      Rep n C who σ a w → wpAny P .any ops Q fuel listed a w := by
  have hlen : δs.length = ops.size := by rw [hc.len]; simp
  intro fuel
  induction fuel with
  | zero =>
    intro listed σ who a w hls hcnt hcl hst hids hr
    have hall : ∀ m, m < ops.size → listed.getD m false = true := by
      intro m hm
      have h0 : (List.range ops.size).filter (fun m => !listed.getD m false) = [] := List.eq_nil_of_length_eq_zero (by omega)
      have := List.filter_eq_nil_iff.1 h0 m (List.mem_range.2 hm)
      simpa using this
    refine ⟨?_, hQ who a w (hr.congr fun r => ?_)⟩
    · cases hq : Region.ready .any ops listed with
      | nil => rfl
      | cons j l =>
        have hj : j ∈ Region.ready .any ops listed := by rw [hq]; exact List.mem_cons_self ..
        obtain ⟨h1, o, ho, _⟩ := mem_ready.1 hj
        have := hall j (Array.getElem?_eq_some_iff.1 ho).1
        have hjl : j < listed.size := by rw [hls]; exact (Array.getElem?_eq_some_iff.1 ho).1
        simp [hjl] at h1 this
        rw [h1] at this; cases this
    · rw [hst r]
      refine (look_get δs 0 σ0 σ0 rfl fun m δ hm hne => ?_).symm
      exact absurd (by simp [hall m (by rw [← hlen]; exact (List.getElem?_eq_some_iff.1 hm).1)]) hne
  | succ fuel ih =>
    intro listed σ who a w hls hcnt hcl hst hids hr
    refine ⟨fun hnil => hQ who a w (hr.congr fun r => ?_), fun k hk => ?_⟩
    · have hall : ∀ m, m < ops.size → listed.getD m false = true := by
        intro m
        induction m using Nat.strongRecOn with
        | ind m ihm =>
          intro hm
          cases hq : listed.getD m false
          · have ho : ops[m]? = some ops[m] := Array.getElem?_eq_getElem hm
            have : m ∈ Region.ready .any ops listed := by
              refine mem_ready.2 ⟨?_, _, ho, fun e he hb => ?_⟩
              · have hml : m < listed.size := by omega
                simp [hml] at hq ⊢; exact hq
              · have hlt := chk_edge hchk ho he hb
                exact ihm e.on hlt (by omega)
            rw [hnil] at this; cases this
          · rfl
      rw [hst r]
      refine (look_get δs 0 σ0 σ0 rfl fun m δ hm hne => ?_).symm
      exact absurd (by simp [hall m (by rw [← hlen]; exact (List.getElem?_eq_some_iff.1 hm).1)]) hne
    · obtain ⟨hk0, o, ho, hed⟩ := mem_ready.1 hk
      have hks : k < ops.size := (Array.getElem?_eq_some_iff.1 ho).1
      have hkl : k < listed.size := by omega
      have hkf : listed.getD k false = false := by simp [hkl] at hk0 ⊢; exact hk0
      have hol : ops.toList[k]? = some o := by simpa using ho
      obtain ⟨i, δ, hi, hδ, hs⟩ := Chain.at 0 hc k o hol
      simp only [Nat.zero_add] at hs
      -- who stands ahead in the text and writes what k looks at or writes is listed
      have hahead : ∀ m i' , m < k → is[m]? = some i' → confl i' i = true → listed.getD m false = true := fun m i' hm hi' hcf =>
        chk_anc hchk hcl k o m ho (fun e he hb => hed e he hb) hm (chk_confl hchk hks hm hi' hi hcf)
      -- who stands behind it and gets in its way is not listed
      have hbehind : ∀ m i', k < m → m < ops.size → is[m]? = some i' → confl i i' = true → listed.getD m false = false := fun m i' hm hms hi' hcf => by
        cases hq : listed.getD m false
        · rfl
        · have hom : ops[m]? = some ops[m] := Array.getElem?_eq_getElem hms
          have := chk_anc hchk hcl m _ k hom (fun e he hb => hcl m _ e hq hom he hb) hm (chk_confl hchk hms hm hi hi' hcf)
          rw [this] at hkf; cases hkf
      have hat : ∀ m δ', δs[m]? = some δ' → ∃ i' o', is[m]? = some i' ∧ m < ops.size ∧ StepI P n ops o' i' (look (fun x => decide (x < m)) 0 δs σ0) δ' := fun m δ' hm => by
        have hms : m < ops.size := by rw [← hlen]; exact (List.getElem?_eq_some_iff.1 hm).1
        obtain ⟨i', δ'', h1, h2, h3⟩ := Chain.at 0 hc m ops[m] (by simp [hms])
        rw [hm] at h2; injection h2 with h2; subst h2
        simp only [Nat.zero_add] at h3
        exact ⟨i', _, h1, hms, h3⟩
      have hag : ∀ r ∈ i.rd, St.get σ r = St.get (look (fun m => decide (m < k)) 0 δs σ0) r := fun r hr' => by
        rw [hst r]
        refine look_get δs 0 σ0 σ0 rfl fun m δ' hm hne => ?_
        simp only [Nat.zero_add] at hne
        obtain ⟨i', o', hi', hms, hs'⟩ := hat m δ' hm
        cases hki : keyIn r δ'
        · rfl
        · have hw := hs'.wrk hki
          rcases Nat.lt_trichotomy m k with hlt | heq | hgt
          · have := hahead m i' hlt hi' (confl_wr hw hr')
            exact absurd (by rw [this]; simp [hlt]) hne
          · subst heq; exact absurd (by rw [hkf]; simp) hne
          · have := hbehind m i' hgt hms hi' (confl_rw hr' hw)
            exact absurd (by rw [this]; simp; omega) hne
      have hgi : ∀ j ∈ i.al, j ∉ St.ids σ ∨ ¬ Region.wanted o (yielded ops a.tmps) = true := fun j hj => by
        rcases hs.2 with ⟨h1, h2, h3⟩ | ⟨h1, _⟩
        · left
          intro hjm
          have hnot := h3 j hj
          have hsub : ∀ (δs : List St) (f : Nat) (L : Nat → Bool) (τ : St), j ∉ St.ids (look L f δs τ) → j ∉ St.ids τ ∧ ∀ m δ, L (f + m) = true → δs[m]? = some δ → j ∉ St.ids δ := by
            intro δs
            induction δs with
            | nil => intro f L τ h; exact ⟨h, fun m δ _ hm => by simp at hm⟩
            | cons d ds ihd =>
              intro f L τ h
              obtain ⟨g1, g2⟩ := ihd (f + 1) L _ h
              have g1' : j ∉ St.ids τ := fun hh => g1 (by
                cases L f
                · exact hh
                · simp only [cond_true, St.ids, List.flatMap_append, List.mem_append]; exact .inr hh)
              refine ⟨g1', fun m δ hL hm => ?_⟩
              cases m with
              | zero =>
                simp at hm; subst hm
                intro hh
                refine g1 ?_
                rw [Nat.add_zero] at hL
                rw [hL]
                simp only [cond_true, St.ids, List.flatMap_append, List.mem_append]; exact .inl hh
              | succ m => exact g2 m δ (by rw [show f + 1 + m = f + (m + 1) by omega]; exact hL) (by simpa using hm)
          obtain ⟨g1, g2⟩ := hsub δs 0 _ σ0 hnot
          rcases hids j hjm with hj0 | ⟨m, δ', hml, hm, hjδ⟩
          · exact g1 hj0
          · obtain ⟨i', o', hi', hms, hs'⟩ := hat m δ' hm
            rcases Nat.lt_trichotomy m k with hlt | heq | hgt
            · exact g2 m δ' (by simp [hlt]) hm hjδ
            · subst heq; rw [hkf] at hml; cases hml
            · rcases hs'.2 with ⟨_, h2', _⟩ | ⟨_, h2', _⟩
              · rcases h2'.me j hjδ with hme | hme
                · have := hbehind m i' hgt hms hi' (confl_wr (h2.al j hj) hme)
                  rw [this] at hml; cases hml
                · have := hbehind m i' hgt hms hi' (confl_ww (h2.al j hj) (h2'.al j hme))
                  rw [this] at hml; cases hml
              · rw [h2'] at hjδ
                unfold killDst at hjδ
                cases hdst : o'.dst <;> rw [hdst] at hjδ <;> simp [St.ids, oids, X.ids, A1.ids, CV.ids] at hjδ
        · right
          rw [wanted_of hr ((guard_agree fun k' hk' => hag k' (hs.1 k' hk')).trans h1)]; simp
      have hnext : ∀ who' v w', Rep n C who' (δ ++ σ) (a.put o.dst v) w' → wpAny P .any ops Q fuel (listed.setIfInBounds k true) (a.put o.dst v) w' := fun who' v w' hr' => by
        have hg : ∀ m, (listed.setIfInBounds k true).getD m false = (listed.getD m false || Nat.beq m k) := fun m => by
          rcases Classical.em (m = k) with rfl | hne
          · simp [hkl]
          · have : Nat.beq m k = false := by
              cases e : Nat.beq m k
              · rfl
              · exact absurd (Nat.eq_of_beq_eq_true e) hne
            rw [getD_set_ne false (Ne.symm hne), this, Bool.or_false]
        have hgk : (listed.setIfInBounds k true).getD k false = true := by rw [hg, Nat.beq_refl, Bool.or_true]
        refine ih _ (δ ++ σ) who' _ w' (by simp [hls]) ?_ ?_ ?_ ?_ hr'
        · have h1 : (List.range ops.size).filter (fun m => !(listed.setIfInBounds k true).getD m false) = ((List.range ops.size).filter (fun m => !listed.getD m false)).filter (fun m => !Nat.beq m k) := by
            rw [List.filter_filter]
            refine List.filter_congr fun m _ => ?_
            rw [hg]; cases listed.getD m false <;> cases Nat.beq m k <;> rfl
          rw [h1]
          have h2 : k ∈ (List.range ops.size).filter (fun m => !listed.getD m false) := List.mem_filter.2 ⟨List.mem_range.2 hks, by rw [hkf]; rfl⟩
          have h3 := (List.length_filter_lt_length_iff_exists (p := fun m => !Nat.beq m k)).2 ⟨k, h2, by rw [Nat.beq_refl]; simp⟩
          omega
        · intro m o' e hm ho' he hb
          rw [hg] at hm ⊢
          cases hm' : listed.getD m false
          · rw [hm', Bool.false_or] at hm
            have : m = k := Nat.eq_of_beq_eq_true hm
            subst this
            rw [ho] at ho'; injection ho' with ho'; subst ho'
            rw [hed e he hb, Bool.true_or]
          · rw [hcl m o' e hm' ho' he hb, Bool.true_or]
        · intro r
          rw [St.get_app]
          cases hki : keyIn r δ
          · simp only [cond_false]
            rw [hst r]
            refine look_get δs 0 σ0 σ0 rfl fun m δ' hm hne => ?_
            simp only [Nat.zero_add] at hne
            rcases Classical.em (m = k) with rfl | hmk
            · rw [hδ] at hm; injection hm with hm; subst hm; exact hki
            · exact absurd (by rw [getD_set_ne false (Ne.symm hmk)]) hne
          · simp only [cond_true]
            have hw := hs.wrk hki
            have e1 : St.get (look (fun m => (listed.setIfInBounds k true).getD m false) 0 δs σ0) r = St.get (look (fun m => decide (m < 0 + k + 1)) 0 δs σ0) r := by
              refine look_get δs 0 σ0 σ0 rfl fun m δ' hm hne => ?_
              simp only [Nat.zero_add] at hne
              obtain ⟨i', o', hi', hms, hs'⟩ := hat m δ' hm
              cases hki' : keyIn r δ'
              · rfl
              · have hw' := hs'.wrk hki'
                rcases Nat.lt_trichotomy m k with hlt | heq | hgt
                · have := hahead m i' hlt hi' (confl_ww hw' hw)
                  refine absurd ?_ hne
                  rw [hg, this, Bool.true_or]; simp; omega
                · subst heq
                  refine absurd ?_ hne
                  rw [hgk]; simp
                · have := hbehind m i' hgt hms hi' (confl_ww hw hw')
                  refine absurd ?_ hne
                  rw [getD_set_ne false (by omega), this]; simp; omega
            rw [e1, look_succ δs 0 σ0 hδ, St.get_app, hki, cond_true]
        · intro j hj
          simp only [St.ids, List.flatMap_append, List.mem_append] at hj
          rcases hj with hj | hj
          · exact .inr ⟨k, δ, hgk, hδ, hj⟩
          · rcases hids j hj with h | ⟨m, δ', h1, h2, h3⟩
            · exact .inl h
            · exact .inr ⟨m, δ', by rw [hg, h1, Bool.true_or], h2, h3⟩
      unfold wpOp
      rw [ho]
      simp only
      have hmem : o ∈ ops.toList := List.mem_of_getElem? hol
      rcases Classical.em (Region.wanted o (yielded ops a.tmps) = true) with hw | hw
      · have := hs.run hag (fun j hj => (hgi j hj).resolve_right fun h => h hw) hr (hd o hmem) (Q := Q) hnext
        rw [if_pos hw] at this ⊢
        exact .inl this
      · have hw' : guardIs ops o (look (fun m => decide (m < k)) 0 δs σ0) = some false ∧ δ = killDst o := by
          rcases hs.2 with ⟨h1, h2, h3⟩ | ⟨h1, h2, h3⟩
          · exact absurd (wanted_of hr ((guard_agree fun k' hk' => hag k' (hs.1 k' hk')).trans h1)) hw
          · exact ⟨h1, h2⟩
        rw [if_neg hw]
        refine hnext who undef w ?_
        rw [hw'.2]
        unfold killDst
        cases hdst : o.dst with
        | none => simpa [Act.put] using hr
        | some d => exact hr.put (hd o hmem d hdst) rfl

/-- a region in whatever order, from where it begins -/
theorem Sq.any {P : Program} {n : Nat} {ops : Array Oper} {is : List Info} {σ : St} {K : St → Prop} {C : Ctx} {Q : Exit → Act → World → Prop} (h : Sq P n ops ops.toList is σ K) (hchk : chk ops is = true)
    (hd : ∀ o ∈ ops.toList, ∀ d, o.dst = some d → d < n) (hK : ∀ σ who a w, K σ → Rep n C who σ a w → Q .normal a w) {who : Nat → Tag} {a : Act} {w : World} (hr : Rep n C who σ a w) :
    wpAny P .any ops Q ops.size (Array.replicate ops.size false) a w := by
  obtain ⟨δs, hc, hk⟩ := Sq.chain h
  have hf : ∀ m, (Array.replicate ops.size false).getD m false = false := fun m => by
    rw [Array.getD_eq_getD_getElem?]; by_cases h : m < ops.size <;> simp [h]
  refine any_run hc hchk hd (fun who a w hr => hK _ who a w hk hr) ops.size _ σ who a w (by simp) ?_ ?_ ?_ ?_ hr
  · exact Nat.le_trans (List.length_filter_le _ _) (by simp)
  · intro m o e hm; rw [hf] at hm; cases hm
  · intro r
    rw [look_none δs 0 σ (fun m _ => hf m)]
  · intro j hj; exact .inl hj
end Go.Proofs.YtmanhdacnkpclaaGreatDoor

/- Walks over abstract states: what each operation does. -/
namespace Go.Proofs.YtmanhdacnkpclaaGreatDoor
set_option linter.unusedVariables false
set_option linter.unusedSimpArgs false
open Go.RowKit

def CV.noOwn : CV → Bool
  | .own .. => false
  | .ownK .. => false
  | .mc .. => false
  | .ms => false
  | .mh .. => false
  | _ => true
def CV.oneOk : CV → Bool
  | .any => false
  | .mc .. => false
  | .ms => false
  | .mh .. => false
  | .val v => v.oneCell'
  | _ => true
def A1.noOwn : A1 → Bool
  | .c x => x.noOwn
  | .agg cs => cs.all CV.noOwn
def X.noOwn : X → Bool
  | .one a => a.noOwn
  | .tup as => as.all A1.noOwn
  | .box _ => false
def A1.cells : A1 → List CV
  | .c x => [x]
  | .agg cs => cs

theorem cvm.re {w : World} {who : Nat → Tag} {p p' : Tag} {c : CV} {u : Value} (hn : c.noOwn = true) (h : cvm w who p c u) : cvm w who p' c u := by
  cases c <;> first | exact h | (simp [CV.noOwn] at hn)
theorem A1m.re {w : World} {who : Nat → Tag} {k k' : Key} {p p' : Nat} {A : A1} {u : Value} (hn : A.noOwn = true) (h : A1m w who k p A u) : A1m w who k' p' A u := by
  cases A with
  | c x => exact cvm.re hn h
  | agg cs =>
    obtain ⟨vs, rfl, hl, hc⟩ := h
    exact ⟨vs, rfl, hl, fun q c v hq hv => ⟨cvm.re (List.all_eq_true.1 hn c (List.mem_of_getElem? hq)) (hc q c v hq hv).1, (hc q c v hq hv).2⟩⟩
theorem Xm.re {w : World} {who : Nat → Tag} {k k' : Key} {x : X} {u : Value} (hn : x.noOwn = true) (h : Xm w who k x u) : Xm w who k' x u := by
  cases x with
  | one a => exact A1m.re hn h
  | tup as =>
    obtain ⟨us, rfl, hl, hc⟩ := h
    exact ⟨us, rfl, hl, fun p a v hp hv => A1m.re (List.all_eq_true.1 hn a (List.mem_of_getElem? hp)) (hc p a v hp hv)⟩
  | box cs => trivial
theorem rd_arr_one {w : World} {S : Nat → Prop} {ds : List D} {u : Value} (h : rd w S (.arr ds) [u]) : ∃ a c, u = .slice a ds.length c := by
  obtain ⟨a, c, e, _⟩ := h
  exact ⟨a, c, by simpa using e⟩
theorem Own.form {w : World} {B E m : Nat} {S : Nat → Prop} {v : Value} {ds : List D} (h : Own w B E m S v ds) : ∃ a c, v = .slice a ds.length c := by
  obtain ⟨xs, ⟨_, h⟩, _⟩ := h
  rcases h with ⟨rfl, e⟩ | ⟨g, cap, cur, rfl, _⟩
  · exact ⟨none, 0, by rw [e]⟩
  · exact ⟨_, _, rfl⟩
theorem cvm.one {w : World} {who : Nat → Tag} {p : Tag} {c : CV} {u : Value} (hn : c.oneOk = true) (h : cvm w who p c u) : u.oneCell' = true := by
  cases c with
  | any => simp [CV.oneOk] at hn
  | val v => simp only [cvm] at h; subst h; exact hn
  | arr ds => obtain ⟨a, c, rfl⟩ := rd_arr_one h; rfl
  | own E m ds => obtain ⟨a, c, rfl⟩ := h.1.form; rfl
  | ownK v E m ds => obtain ⟨a, c, rfl⟩ := h.2.1.form; rfl
  | ptr j o => obtain ⟨b, rfl, _⟩ := h; rfl
  | fp cs => obtain ⟨b, o, rfl, _⟩ := h; rfl
  | mp j => obtain ⟨b, rfl, _⟩ := h; rfl
  | full ds => obtain ⟨⟨ad, rfl⟩, _⟩ := h; rfl
  | sl j n => obtain ⟨b, cap, rfl, _⟩ := h; rfl
  | psl j n => obtain ⟨b, o, b', cap, rfl, _⟩ := h; rfl
  | fnv f caps => obtain ⟨vs, rfl, _⟩ := h; rfl
  | isF v cs => obtain ⟨_, b, o, rfl, _⟩ := h; rfl
  | isP v j n => obtain ⟨_, b, o, b', cap, rfl, _⟩ := h; rfl
  | isB v j => obtain ⟨_, b, rfl, _⟩ := h; rfl
  | mc es c => simp [CV.oneOk] at hn
  | ms => simp [CV.oneOk] at hn
  | mh v => simp [CV.oneOk] at hn
theorem cells_one {u : Value} (h : u.oneCell' = true) : u.cells = #[u] := by cases u <;> simp_all [Value.cells, Value.oneCell']

/-- the cells of a value -/
theorem A1m.cells {w : World} {who : Nat → Tag} {k : Key} {p : Nat} {A : A1} {u : Value} (h : A1m w who k p A u) (hok : A.cells.all CV.oneOk = true) :
    u.cells.toList.length = A.cells.length ∧ (∀ q c v, A.cells[q]? = some c → u.cells.toList[q]? = some v → cvm w who (.own k p q) c v) ∧ ∀ v ∈ u.cells.toList, v.oneCell' = true := by
  cases A with
  | c x =>
    have h1 : x.oneOk = true := by simpa [A1.cells] using hok
    have h2 := cvm.one h1 h
    rw [cells_one h2]
    refine ⟨rfl, fun q c v hq hv => ?_, by simpa using h2⟩
    cases q with
    | zero => simp [A1.cells] at hq hv; subst hq hv; exact h
    | succ q => simp [A1.cells] at hq
  | agg cs =>
    obtain ⟨vs, rfl, hl, hc⟩ := h
    refine ⟨hl, fun q c v hq hv => (hc q c v hq (by simpa [Value.cells] using hv)).1, fun v hv => ?_⟩
    have hv' : v ∈ vs := by simpa [Value.cells] using hv
    obtain ⟨q, hq, rfl⟩ := List.getElem_of_mem hv'
    exact (hc q _ _ (List.getElem?_eq_getElem (hl ▸ hq)) (List.getElem?_eq_getElem hq)).2

section
variable {P : Program} {n : Nat} {o : Oper} {σ : St}

/-- an operation that only yields a value -/
theorem Op1.value {d : Nat} {x : X} (ks : List Key) (hd : o.dst = some d)
    (h : ∀ σ', (∀ k ∈ ks, St.get σ' k = St.get σ k) → ∀ C who a w, Rep n C who σ' a w → ∃ v, (execOp a.eval o).run P w = .ok (.value v) w ∧ Xm w who (.t d) x v) :
    Op1 P n o ⟨ks ++ x.ids.map Key.b, [.t d], []⟩ σ [(.t d, some x)] where
  does := fun σ' hag _ C who a w hr hdst K Q hK => by
    obtain ⟨v, hv, hx⟩ := h σ' (fun k hk => hag k (List.mem_append_left _ hk)) C who a w hr
    unfold Oper.wp
    rw [hv]
    show K (a.put o.dst v) w
    refine hK who v w ?_
    rw [hd]
    exact hr.put (hdst d hd) hx
  wr := by simp
  me := fun j hj => by
    left
    have hj' : j ∈ x.ids := by simpa [St.ids, oids] using hj
    exact List.mem_append_right _ (List.mem_map.2 ⟨j, hj', rfl⟩)
  al := by simp

theorem op_move {d : Nat} {s : Operand} {x : X} (hd : o.dst = some d) (ho : o.op = .move s ∨ o.op = .assign s) (hs : St.ev σ s = some x) (hn : x.noOwn = true) :
    Op1 P n o ⟨opKey s ++ x.ids.map Key.b, [.t d], []⟩ σ [(.t d, some x)] :=
  .value (opKey s) hd fun σ' hag C who a w hr => ⟨a.eval s, by rcases ho with ho | ho <;> simp [execOp, ho], (hr.ev ((ev_agree hag).trans hs)).re hn⟩

/-- an operator on two values -/
structure Bin (P : Program) (op : BinOp) (T : TypeId) (x y v : Value) : Prop where
  run : ∀ (s1 s2 : Operand) (w : World), (do eqGuard op T s1 s2 x y; binOp op T x y : Sem Value).run P w = .ok v w
theorem op_bin {d : Nat} {op : BinOp} {T T' : TypeId} {s1 s2 : Operand} {x y v : Value} (hd : o.dst = some d) (ho : o.op = .binOp op T s1 s2 T') (h1 : St.ev σ s1 = some (.one (.c (.val x)))) (h2 : St.ev σ s2 = some (.one (.c (.val y))))
    (hb : Bin P op T x y v) : Op1 P n o ⟨(opKey s1 ++ opKey s2) ++ (X.one (.c (.val v))).ids.map Key.b, [.t d], []⟩ σ [(.t d, some (.one (.c (.val v))))] :=
  .value _ hd fun σ' hag C who a w hr => by
    have e1 : a.eval s1 = x := hr.ev ((ev_agree fun k hk => hag k (List.mem_append_left _ hk)).trans h1)
    have e2 : a.eval s2 = y := hr.ev ((ev_agree fun k hk => hag k (List.mem_append_right _ hk)).trans h2)
    refine ⟨v, ?_, rfl⟩
    have := hb.run s1 s2 w
    simp only [execOp, ho, e1, e2, Sem.run_bind] at this ⊢
    rw [this]; rfl
section
variable {T : TypeId}
theorem bin_add {a b c : Int} (h : a + b = c) (h0 : -9223372036854775808 ≤ c ∧ c ≤ 9223372036854775807) : Bin P .add T (.int .i64 a) (.int .i64 b) (.int .i64 c) := .mk fun s1 s2 w => by
  subst h
  have e : IntKind.i64.wrap (a + b) = a + b := IntWalk.i64_in _ h0
  simp [eqGuard, binOp, Op.intArith, e]
theorem bin_sub {a b c : Int} (h : a - b = c) (h0 : -9223372036854775808 ≤ c ∧ c ≤ 9223372036854775807) : Bin P .sub T (.int .i64 a) (.int .i64 b) (.int .i64 c) := .mk fun s1 s2 w => by
  subst h
  have e : IntKind.i64.wrap (a - b) = a - b := IntWalk.i64_in _ h0
  simp [eqGuard, binOp, Op.intArith, e]
theorem bin_addw {a b : Int} : Bin P .add T (.int .i64 a) (.int .i64 b) (.int .i64 (wrap64 (a + b))) := .mk fun s1 s2 w => by
  simp [eqGuard, binOp, Op.intArith, IntWalk.i64_left]
theorem bin_lss {k : IntKind} {a b : Int} {r : Bool} (h : decide (a < b) = r) : Bin P .lss T (.int k a) (.int k b) (.bool r) := .mk fun s1 s2 w => by subst h; simp [eqGuard, binOp, Op.intCmp]
theorem bin_leq {k : IntKind} {a b : Int} {r : Bool} (h : decide (a ≤ b) = r) : Bin P .leq T (.int k a) (.int k b) (.bool r) := .mk fun s1 s2 w => by subst h; simp [eqGuard, binOp, Op.intCmp]
theorem bin_gtr {k : IntKind} {a b : Int} {r : Bool} (h : decide (b < a) = r) : Bin P .gtr T (.int k a) (.int k b) (.bool r) := .mk fun s1 s2 w => by subst h; simp [eqGuard, binOp, Op.intCmp]
theorem bin_geq {k : IntKind} {a b : Int} {r : Bool} (h : decide (b ≤ a) = r) : Bin P .geq T (.int k a) (.int k b) (.bool r) := .mk fun s1 s2 w => by subst h; simp [eqGuard, binOp, Op.intCmp]
theorem bin_eql {k : IntKind} {a b : Int} {r : Bool} (h : decide (a = b) = r) : Bin P .eql T (.int k a) (.int k b) (.bool r) := .mk fun s1 s2 w => by
  subst h; simp [eqGuard, binOp, Op.intCmp]; rw [Bool.eq_iff_iff]; simp
theorem bin_neq {k : IntKind} {a b : Int} {r : Bool} (h : (!decide (a = b)) = r) : Bin P .neq T (.int k a) (.int k b) (.bool r) := .mk fun s1 s2 w => by
  subst h; simp [eqGuard, binOp, Op.intCmp]; rw [Bool.eq_iff_iff]; simp
theorem bin_eqlS {a b : ByteArray} {r : Bool} (h : (a.toList == b.toList) = r) : Bin P .eql T (.string a) (.string b) (.bool r) := .mk fun s1 s2 w => by
  subst h; simp [eqGuard, binOp, Op.stringOp]
theorem bin_neqS {a b : ByteArray} {r : Bool} (h : (!(a.toList == b.toList)) = r) : Bin P .neq T (.string a) (.string b) (.bool r) := .mk fun s1 s2 w => by
  subst h; simp [eqGuard, binOp, Op.stringOp]
end
theorem op_not {d : Nat} {T : TypeId} {s : Operand} {x : Bool} (hd : o.dst = some d) (ho : o.op = .unOp .not T s) (h1 : St.ev σ s = some (.one (.c (.val (.bool x))))) {r : Bool} (hr : (!x) = r) :
    Op1 P n o ⟨opKey s ++ (X.one (.c (.val (.bool r)))).ids.map Key.b, [.t d], []⟩ σ [(.t d, some (.one (.c (.val (.bool r)))))] :=
  .value _ hd fun σ' hag C who a w hrp => by
    have e1 : a.eval s = .bool x := hrp.ev ((ev_agree hag).trans h1)
    exact ⟨.bool r, by subst hr; simp [execOp, ho, e1, Op.unary], rfl⟩

def CV.len : CV → Option Nat
  | .arr ds => some ds.length
  | .own _ _ ds => some ds.length
  | .val (.slice _ m _) => some m
  | _ => none
theorem cvm.len {w : World} {who : Nat → Tag} {p : Tag} {c : CV} {u : Value} {m : Nat} (hl : c.len = some m) (h : cvm w who p c u) : ∃ a cap, u = .slice a m cap := by
  cases c with
  | arr ds => simp only [CV.len, Option.some.injEq] at hl; subst hl; exact rd_arr_one h
  | own E m ds => simp only [CV.len, Option.some.injEq] at hl; subst hl; exact h.1.form
  | val v =>
    have h' : u = v := h
    rw [h']
    cases v <;> simp [CV.len] at hl
    subst hl; exact ⟨_, _, rfl⟩
  | _ => simp [CV.len] at hl
theorem op_len {d : Nat} {T E : TypeId} {s : Operand} {c : CV} {m : Nat} {k : Int} (hd : o.dst = some d) (ho : o.op = .call { callee := .builtin .len, args := #[s], argTypes := #[T] }) (hT : P.underlying T = some (.slice E))
    (hs : St.ev σ s = some (.one (.c c))) (hl : c.len = some m) (hk : (m : Int) = k) :
    Op1 P n o ⟨opKey s ++ (X.one (.c (.val (.int .i64 k)))).ids.map Key.b, [.t d], []⟩ σ [(.t d, some (.one (.c (.val (.int .i64 k)))))] :=
  .value _ hd fun σ' hag C who a w hr => by
    obtain ⟨ad, cap, e⟩ := cvm.len hl (hr.ev ((ev_agree hag).trans hs))
    refine ⟨_, ?_, rfl⟩
    subst hk
    simp [execOp, ho, e, resolve, invoke, builtin, Builtin.len_, run_underlying hT, goInt]

def fieldOff (P : Program) (S f : Nat) : Option Nat :=
  match P.underlying S with
  | some (.struct fields) => (fields[f]?).bind fun fl => (P.info? fl.type).bind fun i => if i.size = 0 then none else some fl.offset
  | _ => none
theorem run_fieldAt {S f off : Nat} (h : fieldOff P S f = some off) (b q : Nat) (w : World) : (Instr.fieldAt S (.pointer (some ⟨b, q, none⟩)) f).run P w = .ok (.pointer (some ⟨b, q + off, none⟩)) w := by
  unfold fieldOff at h
  split at h
  · rename_i fields hu
    obtain ⟨fl, hf, h⟩ := Option.bind_eq_some_iff.1 h
    obtain ⟨i, hi, h⟩ := Option.bind_eq_some_iff.1 h
    split at h
    · cases h
    · rename_i hz
      injection h with h
      simp [Instr.fieldAt, run_underlying hu, hf, Instr.sureAddr, fieldPlace, sizeOf, typeInfo, hi, hz, add_lit, h]
  · cases h
theorem op_fldF {d S f off : Nat} {s : Operand} {cs cs' : List FC} (hd : o.dst = some d) (ho : o.op = .fieldAddr S s f) (hf : fieldOff P S f = some off) (hs : St.ev σ s = some (.one (.c (.fp cs)))) (hc : cs.drop off = cs') :
    Op1 P n o ⟨opKey s ++ (X.one (.c (.fp cs'))).ids.map Key.b, [.t d], []⟩ σ [(.t d, some (.one (.c (.fp cs'))))] :=
  .value _ hd fun σ' hag C who a w hr => by
    obtain ⟨b, q, e, hb, h⟩ := hr.ev ((ev_agree hag).trans hs)
    refine ⟨.pointer (some ⟨b, q + off, none⟩), by simp [execOp, ho, e, run_fieldAt hf], b, q + off, rfl, hb, fun i c hi => ?_⟩
    subst hc
    rw [List.getElem?_drop] at hi
    rw [Nat.add_assoc]; exact h _ c hi
theorem op_fldB {d S f off j q q' : Nat} {s : Operand} (hd : o.dst = some d) (ho : o.op = .fieldAddr S s f) (hf : fieldOff P S f = some off) (hs : St.ev σ s = some (.one (.c (.ptr j q)))) (hq : q + off = q') :
    Op1 P n o ⟨opKey s ++ (X.one (.c (.ptr j q'))).ids.map Key.b, [.t d], []⟩ σ [(.t d, some (.one (.c (.ptr j q'))))] :=
  .value _ hd fun σ' hag C who a w hr => by
    obtain ⟨b, e, hb⟩ := hr.ev ((ev_agree hag).trans hs)
    subst hq
    exact ⟨.pointer (some ⟨b, q + off, none⟩), by simp [execOp, ho, e, run_fieldAt hf], b, rfl, hb⟩

/-- is a type's value a row of cells? -/
def rowT (P : Program) (t : Nat) : Option (Bool × Nat) := (P.underlying t).bind fun d => (P.info? t).map fun i => (d.isRow, i.size)
theorem rowT_parts {t m : Nat} {r : Bool} (h : rowT P t = some (r, m)) : ∃ d i, P.underlying t = some d ∧ d.isRow = r ∧ P.info? t = some i ∧ i.size = m := by
  unfold rowT at h
  obtain ⟨d, hu, h⟩ := Option.bind_eq_some_iff.1 h
  obtain ⟨i, hi, h⟩ := Option.map_eq_some_iff.1 h
  injection h with h1 h2
  exact ⟨d, i, hu, h1, hi, h2⟩
theorem run_load1 {t m : Nat} (h : rowT P t = some (false, m)) {b q : Nat} {w : World} {x : Value} (hx : w.cell? ⟨b, q, none⟩ = some x) : (Instr.loadAt t (.pointer (some ⟨b, q, none⟩))).run P w = .ok x w := by
  obtain ⟨d, i, hu, hr, hi, rfl⟩ := rowT_parts h
  have hagg : (isAgg t).run P w = .ok false w := by
    unfold isAgg
    rw [Sem.run_bind, run_underlying hu w]
    cases d <;> simp_all [TypeDesc.isRow]
  simp [Instr.loadAt, Instr.sureAddr, loadVar, hagg, load, Sem.run, hx]
theorem run_loadN {t m : Nat} (h : rowT P t = some (true, m)) {b q : Nat} {w : World} {cs : List Value} (hl : cs.length = m) (hx : ∀ j v, cs[j]? = some v → w.cell? ⟨b, q + j, none⟩ = some v) :
    (Instr.loadAt t (.pointer (some ⟨b, q, none⟩))).run P w = .ok (.agg cs.toArray) w := by
  obtain ⟨d, i, hu, hr, hi, hm⟩ := rowT_parts h
  exact run_loadAt_mid w b q t cs d hx hu hr (by rw [hi]; simp [hm, hl])

theorem op_load1F {d t m : Nat} {s : Operand} {c : FC} {cs : List FC} (hd : o.dst = some d) (ho : o.op = .load t s) (hr : rowT P t = some (false, m)) (hs : St.ev σ s = some (.one (.c (.fp (c :: cs))))) {c' : CV} (hc : c.cv = c') :
    Op1 P n o ⟨opKey s ++ (X.one (.c c')).ids.map Key.b, [.t d], []⟩ σ [(.t d, some (.one (.c c')))] :=
  .value _ hd fun σ' hag C who a w hrp => by
    obtain ⟨b, q, e, hb, h⟩ := hrp.ev ((ev_agree hag).trans hs)
    obtain ⟨x, hx, hcm⟩ := h 0 c rfl
    rw [Nat.add_zero] at hx
    subst hc
    exact ⟨x, by simp [execOp, ho, e, run_load1 hr hx], fcm.toC hcm⟩
theorem op_loadNG {d t m : Nat} {s : Operand} {cs : List FC} (ks : List Key) (hd : o.dst = some d) (ho : o.op = .load t s) (hr : rowT P t = some (true, m)) (hs : ∀ σ', (∀ k ∈ ks, St.get σ' k = St.get σ k) → ∀ C who a w, Rep n C who σ' a w → fpm w who cs (a.eval s)) {cs' : List CV} (hc : (cs.take m).map FC.cv = cs') (hl : cs'.length = m)
    (hok : cs'.all CV.oneOk = true) : Op1 P n o ⟨ks ++ (X.one (.agg cs')).ids.map Key.b, [.t d], []⟩ σ [(.t d, some (.one (.agg cs')))] :=
  .value _ hd fun σ' hag C who a w hrp => by
    obtain ⟨b, q, e, hb, h⟩ := hs σ' hag C who a w hrp
    subst hc
    have hl' : m ≤ cs.length := by rw [List.length_map, List.length_take] at hl; omega
    have hex : ∀ i, i < m → ∃ x, w.cell? ⟨b, q + i, none⟩ = some x ∧ ∀ c, cs[i]? = some c → fcm w (Fz who) c x := fun i hi => by
      obtain ⟨x, hx, hcm⟩ := h i cs[i] (List.getElem?_eq_getElem (by omega))
      refine ⟨x, hx, fun c hc => ?_⟩
      rw [List.getElem?_eq_getElem (by omega)] at hc; injection hc with hc; subst hc; exact hcm
    obtain ⟨vs, hvl, hvs⟩ : ∃ vs : List Value, vs.length = m ∧ ∀ i x, vs[i]? = some x → w.cell? ⟨b, q + i, none⟩ = some x ∧ ∀ c, cs[i]? = some c → fcm w (Fz who) c x := by
      have : ∀ m, (∀ i, i < m → ∃ x, w.cell? ⟨b, q + i, none⟩ = some x ∧ ∀ c, cs[i]? = some c → fcm w (Fz who) c x) → ∃ vs : List Value, vs.length = m ∧ ∀ i x, vs[i]? = some x → w.cell? ⟨b, q + i, none⟩ = some x ∧ ∀ c, cs[i]? = some c → fcm w (Fz who) c x := by
        intro m
        induction m with
        | zero => intro _; exact ⟨[], rfl, by simp⟩
        | succ m ih =>
          intro hex
          obtain ⟨vs, h1, h2⟩ := ih fun i hi => hex i (by omega)
          obtain ⟨x, hx⟩ := hex m (by omega)
          refine ⟨vs ++ [x], by simp [h1], fun i y hy => ?_⟩
          rcases Nat.lt_or_ge i vs.length with hi | hi
          · rw [List.getElem?_append_left hi] at hy; exact h2 i y hy
          · rw [List.getElem?_append_right hi] at hy
            have hi0 : i - vs.length = 0 := by
              rcases Nat.eq_zero_or_pos (i - vs.length) with h0 | h0
              · exact h0
              · rw [List.getElem?_eq_none (by simp; omega)] at hy; cases hy
            rw [hi0] at hy; simp at hy; subst hy
            have : i = m := by omega
            subst this; exact hx
      exact this m hex
    refine ⟨.agg vs.toArray, by simp [execOp, ho, e, run_loadN hr hvl fun j v hv => (hvs j v hv).1], vs, rfl, by rw [hl, hvl], fun i c v hc hv => ?_⟩
    have hc' := hc
    rw [List.getElem?_map, Option.map_eq_some_iff] at hc
    obtain ⟨c0, hc0, rfl⟩ := hc
    rw [List.getElem?_take] at hc0
    have him : i < m := by rw [← hvl]; exact (List.getElem?_eq_some_iff.1 hv).1
    rw [if_pos him] at hc0
    have hcm := (hvs i v hv).2 c0 hc0
    have hcv : cvm w who (.own (.t d) 0 i) c0.cv v := fcm.toC hcm
    exact ⟨hcv, cvm.one (List.all_eq_true.1 hok _ (List.mem_of_getElem? hc')) hcv⟩

theorem op_loadNF {d t m : Nat} {s : Operand} {cs : List FC} (hd : o.dst = some d) (ho : o.op = .load t s) (hr : rowT P t = some (true, m)) (hs : St.ev σ s = some (.one (.c (.fp cs)))) {cs' : List CV} (hc : (cs.take m).map FC.cv = cs') (hl : cs'.length = m)
    (hok : cs'.all CV.oneOk = true) : Op1 P n o ⟨opKey s ++ (X.one (.agg cs')).ids.map Key.b, [.t d], []⟩ σ [(.t d, some (.one (.agg cs')))] :=
  op_loadNG (opKey s) hd ho hr (fun σ' hag C who a w hrp => hrp.ev ((ev_agree hag).trans hs)) hc hl hok

theorem box_cell {C : Ctx} {who : Nat → Tag} {σ : St} {a : Act} {w : World} (hrp : Rep n C who σ a w) {j b : Nat} {cs : List CV} (hb : who b = .bx j) (hbx : St.get σ (.b j) = some (.box cs)) (hmc : Nat.ble j EXT = true) :
    ∃ (vs : List Value) (E : TypeId), w.heap[b]? = some (.cells vs.toArray E (0, 0)) ∧ vs.length = cs.length ∧ (∀ i v, vs[i]? = some v → w.cell? ⟨b, i, none⟩ = some v) ∧ ∀ q c v, cs[q]? = some c → vs[q]? = some v → cvm w who (.own (.b j) 0 q) c v := by
  obtain ⟨vs, E, h1, h2, h3⟩ := hrp.box j cs hbx b (by rw [bas_of (le_ext hmc)]; exact hb)
  rw [isShp_of hmc] at h1
  exact ⟨vs, E, h1, h2, fun i v hv => by rw [cell_of_row w b i _ _ _ h1]; simpa using hv, h3⟩
theorem op_load1B {d t m j q : Nat} {s : Operand} {cs : List CV} {c : CV} (hd : o.dst = some d) (ho : o.op = .load t s) (hr : rowT P t = some (false, m)) (hs : St.ev σ s = some (.one (.c (.ptr j q)))) (hb : St.get σ (.b j) = some (.box cs))
    (hc : cs[q]? = some c) (hn : c.noOwn = true) (hmc : Nat.ble j EXT = true) : Op1 P n o ⟨(opKey s ++ [.b j]) ++ (X.one (.c c)).ids.map Key.b, [.t d], []⟩ σ [(.t d, some (.one (.c c)))] :=
  .value _ hd fun σ' hag C who a w hrp => by
    obtain ⟨b, e, hbw⟩ := hrp.ev ((ev_agree fun k hk => hag k (List.mem_append_left _ hk)).trans hs)
    obtain ⟨vs, E, h1, h2, h3, h4⟩ := box_cell hrp hbw ((hag _ (List.mem_append_right _ (by simp))).trans hb) hmc
    have hq : q < vs.length := by rw [h2]; exact (List.getElem?_eq_some_iff.1 hc).1
    have hv := List.getElem?_eq_getElem hq
    exact ⟨vs[q], by simp [execOp, ho, e, run_load1 hr (h3 q _ hv)], cvm.re (p := .own (.b j) 0 q) hn (h4 q c _ hc hv)⟩
theorem op_loadNB {d t m j q : Nat} {s : Operand} {cs cs' : List CV} (hd : o.dst = some d) (ho : o.op = .load t s) (hr : rowT P t = some (true, m)) (hs : St.ev σ s = some (.one (.c (.ptr j q)))) (hb : St.get σ (.b j) = some (.box cs))
    (hc : (cs.drop q).take m = cs') (hl : cs'.length = m) (hn : cs'.all (fun c => c.noOwn && c.oneOk) = true) (hmc : Nat.ble j EXT = true) : Op1 P n o ⟨(opKey s ++ [.b j]) ++ (X.one (.agg cs')).ids.map Key.b, [.t d], []⟩ σ [(.t d, some (.one (.agg cs')))] :=
  .value _ hd fun σ' hag C who a w hrp => by
    obtain ⟨b, e, hbw⟩ := hrp.ev ((ev_agree fun k hk => hag k (List.mem_append_left _ hk)).trans hs)
    obtain ⟨vs, E, h1, h2, h3, h4⟩ := box_cell hrp hbw ((hag _ (List.mem_append_right _ (by simp))).trans hb) hmc
    subst hc
    have hlen : ((vs.drop q).take m).length = m := by simp [List.length_take, List.length_drop] at hl ⊢; omega
    refine ⟨.agg ((vs.drop q).take m).toArray, by
      simp [execOp, ho, e, run_loadN hr hlen fun i v hv => by
        rw [List.getElem?_take] at hv
        split at hv
        · rw [List.getElem?_drop] at hv; exact h3 _ v hv
        · cases hv], _, rfl, by rw [hl, hlen], fun i c v hc hv => ?_⟩
    have hall := List.all_eq_true.1 hn c (List.mem_of_getElem? hc)
    simp only [Bool.and_eq_true] at hall
    rw [List.getElem?_take] at hv hc
    split at hv
    · rename_i him
      rw [if_pos him, List.getElem?_drop] at hc
      rw [List.getElem?_drop] at hv
      have h5 := h4 _ c v hc hv
      exact ⟨cvm.re hall.1 h5, cvm.one hall.2 h5⟩
    · cases hv

/-- an element of a slice that nobody writes -/
theorem op_idx {d T E m by_ : Nat} {z : Value} {s i : Operand} {ds : List D} {k : Nat} {kk : IntKind} {zi : Int} {x : D} {cs : List FC} (hd : o.dst = some d) (ho : o.op = .indexAddr T s i) (hT : SliceOf P T E m by_ z) (hs : St.ev σ s = some (.one (.c (.arr ds))))
    (hi : St.ev σ i = some (.one (.c (.val (.int kk zi))))) (hz : zi = (k : Int)) (hx : ds[k]? = some x) (hm : ∀ x ∈ ds, x.fc.length = m) (hc : x.fc = cs) :
    Op1 P n o ⟨(opKey s ++ opKey i) ++ (X.one (.c (.fp cs))).ids.map Key.b, [.t d], []⟩ σ [(.t d, some (.one (.c (.fp cs))))] :=
  .value _ hd fun σ' hag C who a w hrp => by
    have e2 : a.eval i = .int kk zi := hrp.ev ((ev_agree fun k hk => hag k (List.mem_append_right _ hk)).trans hi)
    have hrd : rd w (Fz who) (.arr ds) [a.eval s] := hrp.ev ((ev_agree fun k hk => hag k (List.mem_append_left _ hk)).trans hs)
    obtain ⟨ad, cap, e, _, _, h3⟩ := hrd
    have e1 : a.eval s = .slice ad ds.length cap := by simpa using e
    have hk : k < ds.length := (List.getElem?_eq_some_iff.1 hx).1
    rcases h3 with h3 | ⟨b, q, xs, ha, hb, hlt, hrs, hcell⟩
    · omega
    · subst ha
      obtain ⟨c, hcl, hrc, hcj⟩ := rds.nth ds xs hrs (fun d hd c hc => by rw [cellsF_len ((rd_fc d c).1 hc)]; exact hm d hd) k hk
      have hxe : ds[k] = x := by rw [List.getElem?_eq_getElem hk] at hx; injection hx
      rw [hxe] at hrc
      have hcf := (rd_fc x c).1 hrc
      rw [hc] at hcf
      obtain ⟨i', hi', hz0, hz1, hz2⟩ := info_parts hT.info
      subst hz
      refine ⟨.pointer (some ⟨b, q + k * m, none⟩), ?_, b, q + k * m, rfl, hb, fun l c' hl => ?_⟩
      · simp [execOp, ho, e1, e2, Instr.indexAt, run_underlying hT.und, asIntOf, sizeOf, typeInfo, hi', hz1, hk, add_lit]
      · obtain ⟨y, hy, hcm⟩ := cellsF_at hcf l c' hl
        exact ⟨y, by rw [Nat.add_assoc]; exact hcell _ y (hcj l y hy), hcm⟩

/-- a component of a result -/
theorem op_extract {d ix : Nat} {s : Operand} {as : List A1} {A : A1} (hd : o.dst = some d) (ho : o.op = .extract s ix) (hs : St.ev σ s = some (.tup as)) (hA : as[ix]? = some A) (hn : A.noOwn = true) :
    Op1 P n o ⟨opKey s ++ (X.one A).ids.map Key.b, [.t d], []⟩ σ [(.t d, some (.one A))] :=
  .value _ hd fun σ' hag C who a w hrp => by
    obtain ⟨us, e, hl, h⟩ := hrp.ev ((ev_agree hag).trans hs)
    have hix : ix < us.length := by rw [hl]; exact (List.getElem?_eq_some_iff.1 hA).1
    have hu := List.getElem?_eq_getElem hix
    exact ⟨us[ix], by simp [execOp, ho, e, Instr.extract, hix], A1m.re hn (h ix A _ hA hu)⟩
theorem op_pick {d : Nat} {c s1 s2 : Operand} {b : Bool} {x : X} (hd : o.dst = some d) (ho : o.op = .pick c s1 s2) (hc : St.ev σ c = some (.one (.c (.val (.bool b))))) (hs : St.ev σ (if b then s1 else s2) = some x) (hn : x.noOwn = true) :
    Op1 P n o ⟨(opKey c ++ opKey (if b then s1 else s2)) ++ x.ids.map Key.b, [.t d], []⟩ σ [(.t d, some x)] :=
  .value _ hd fun σ' hag C who a w hrp => by
    have e1 : a.eval c = .bool b := hrp.ev ((ev_agree fun k hk => hag k (List.mem_append_left _ hk)).trans hc)
    have e2 := hrp.ev ((ev_agree fun k hk => hag k (List.mem_append_right _ hk)).trans hs)
    refine ⟨a.eval (if b then s1 else s2), ?_, e2.re hn⟩
    cases b <;> simp [execOp, ho, e1, asBool]
end
end Go.Proofs.YtmanhdacnkpclaaGreatDoor

/- Walks over abstract states: operations that make memory, or write it; calls. -/
namespace Go.Proofs.YtmanhdacnkpclaaGreatDoor
set_option linter.unusedVariables false
set_option linter.unusedSimpArgs false
open Go.RowKit

theorem ids_kill {σ : St} {k : Key} {j : Nat} (h : j ∉ St.ids σ) : j ∉ St.ids ((k, none) :: σ) := by simpa [St.ids, oids] using h

section
variable {P : Program} {n : Nat} {o : Oper} {σ : St}

def tagBox (d sz : Nat) (who : Nat → Tag) : Nat → Tag := fun b => if b = sz then .bx d else match who b with | .bx i => if i = d then .other else .bx i | t => t
theorem tagBox_new {d sz : Nat} {who : Nat → Tag} : tagBox d sz who sz = .bx d := by simp [tagBox]
theorem tagBox_old {d sz b : Nat} {who : Nat → Tag} (h : b ≠ sz) (h2 : who b ≠ .bx d) : tagBox d sz who b = who b := by
  simp only [tagBox, if_neg h]
  split
  · rename_i i e
    have : i ≠ d := fun hh => h2 (by rw [e, hh])
    rw [if_neg this]; exact e.symm
  · rfl
theorem tagBox_gone {d sz b : Nat} {who : Nat → Tag} (h : b ≠ sz) (h2 : who b = .bx d) : tagBox d sz who b = .other := by simp [tagBox, h, h2]

/-- a new block is a box -/
theorem new_tag {C : Ctx} {who : Nat → Tag} {a : Act} {w : World} {j0 : Nat} {ob : Obj} (hr : Rep n C who σ a w) (hx : Nat.beq j0 EXT = false) (hids : j0 ∉ St.ids σ) (hgone : ∀ i, bas i = j0 → St.get σ (.b i) = none) :
    Rep n C (tagBox j0 w.heap.size who) σ a (w.alloc ob) ∧ Stp who w (tagBox j0 w.heap.size who) (w.alloc ob) (fun _ => False) (fun b => who b = .bx j0) ∧ ∀ b, tagBox j0 w.heap.size who b = .bx j0 → b = w.heap.size := by
  have hnew : who w.heap.size = .other := by
    rcases Classical.em (who w.heap.size = .other) with h | h
    · exact h
    · exact absurd (hr.fz _ h) (Nat.lt_irrefl _)
  have hstp : Stp who w (tagBox j0 w.heap.size who) (w.alloc ob) (fun _ => False) (fun b => who b = .bx j0) := by
    refine ⟨rfl, rfl, rfl, by simp, fun b hb _ => Below.heap_alloc w _ b hb, fun b hb hg => tagBox_old (by omega) hg, fun b h => h.elim, fun b h => by rw [h]; simp⟩
  have hne : j0 ≠ EXT := fun h => by rw [h] at hx; simp at hx
  refine ⟨?_, hstp, fun b hb => ?_⟩
  rotate_left
  · rcases Classical.em (b = w.heap.size) with h | hne'
    · exact h
    · rcases Classical.em (who b = .bx j0) with hd' | hd'
      · rw [tagBox_gone hne' hd'] at hb; cases hb
      · rw [tagBox_old hne' hd'] at hb; exact absurd hb hd'
  refine hr.stp hstp ?_ ?_ ?_ ?_ ?_ ?_ ?_ ?_
  · intro b hb ho
    refine ⟨fun h => h, fun hg => ?_⟩
    have := hr.adv.tag b hb (ho.imp id .inl)
    rw [this] at hg
    rcases ho with ho | ho <;> rw [ho] at hg <;> cases hg
  · intro b j hb ho hg
    have := hr.adv.tag b hb (.inr (.inr ⟨j, ho⟩))
    rw [this, ho] at hg
    injection hg with hg
    exact hne (hg ▸ hr.ext b j ho)
  · intro b hb
    rcases Classical.em (b = w.heap.size) with rfl | hne'
    · simp
    · have : who b ≠ .other := fun h => by
        rw [tagBox_old hne' (by rw [h]; simp)] at hb; exact hb h
      have := hr.fz b this
      simp; omega
  · intro b b' j hb hb'
    have key : ∀ b, tagBox j0 w.heap.size who b = .bx j → (b = w.heap.size ∧ j = j0) ∨ (b ≠ w.heap.size ∧ who b = .bx j ∧ j ≠ j0) := by
      intro b hb
      rcases Classical.em (b = w.heap.size) with rfl | hne'
      · rw [tagBox_new] at hb; injection hb with hb; exact .inl ⟨rfl, hb.symm⟩
      · rcases Classical.em (who b = .bx j0) with hd' | hd'
        · rw [tagBox_gone hne' hd'] at hb; cases hb
        · rw [tagBox_old hne' hd'] at hb
          exact .inr ⟨hne', hb, fun e => hd' (e ▸ hb)⟩
    rcases key b hb with ⟨e1, e2⟩ | ⟨e1, e2, e3⟩ <;> rcases key b' hb' with ⟨f1, f2⟩ | ⟨f1, f2, f3⟩
    · rw [e1, f1]
    · exact absurd e2 f3
    · exact absurd f2 e3
    · exact hr.bxu b b' j e2 f2
  · intro b k p q hb ho
    rcases ho with ho | ho
    · exact ho.elim
    · rw [ho] at hb; cases hb
  · intro b j hb hg
    rw [hg] at hb; injection hb with hb; subst hb
    exact hids
  · intro b j hb hg
    rcases hg with hg | hg
    · exact hg.elim
    · rw [hg] at hb; injection hb with hb; exact hgone _ hb.symm
  · intro b j hb hnb'
    rcases Classical.em (b = w.heap.size) with rfl | hne'
    · rw [tagBox_new] at hb; injection hb with hb; exact hgone _ hb.symm
    · rcases Classical.em (who b = .bx j0) with hd' | hd'
      · rw [tagBox_gone hne' hd'] at hb; cases hb
      · rw [tagBox_old hne' hd'] at hb; exact absurd hb hnb'
/-- a new box -/
theorem new_boxG {C : Ctx} {who : Nat → Tag} {a : Act} {w : World} {d j0 E : Nat} {u : List Value} {cs : List CV} {ob : Obj} {cv : CV} {v : Value} (hr : Rep n C who σ a w) (hd : d < n) (hx : Nat.beq j0 EXT = false) (hnb : Nat.ble j0 3999999 = true) (hob : shp j0 cs u E = ob) (hids : j0 ∉ St.ids σ)
    (hc : ∀ who' w', (∀ q c v, cs[q]? = some c → u[q]? = some v → ∀ T G, Stp who w who' w' T G → (∀ b, T b → False) → (∀ b, G b → who b = .bx j0) → cvm w' who' (.own (.b j0) 0 q) c v)) (hl : u.length = cs.length) (hcv : cvm (w.alloc ob) (tagBox j0 w.heap.size who) (.own (.t d) 0 0) cv v) :
    Rep n C (tagBox j0 w.heap.size who) ((.t d, some (.one (.c cv))) :: (.b j0, some (.box cs)) :: σ) (a.put (some d) v) (w.alloc ob) := by
  obtain ⟨h1, hstp, hat⟩ := new_tag (ob := ob) (hr.kill (.b j0)) hx (ids_kill hids) (fun i e => by have := nb_eq hnb e; subst this; exact St.get_same)
  have hbx : Boxm (w.alloc ob) (tagBox j0 w.heap.size who) j0 cs := by
    intro b hb
    rw [bas_of hnb] at hb
    have := hat b hb
    subst this
    exact ⟨u, E, by rw [isShp_eq hnb, hob]; exact Go.heap_alloc_new w _, hl, fun q c v hq hv => hc _ _ q c v hq hv _ _ hstp (fun _ h => h) (fun _ h => h)⟩
  have h2 := (h1.addBox hbx).put hd (x := .one (.c cv)) (v := v) hcv
  refine h2.congr fun k => ?_
  simp only [St.get]
  cases Key.is (.t d) k
  · cases Key.is (.b j0) k <;> simp
  · simp

theorem new_box {C : Ctx} {who : Nat → Tag} {a : Act} {w : World} {d E : Nat} {u : List Value} {cs : List CV} (hr : Rep n C who σ a w) (hd : d < n) (hx : Nat.beq d EXT = false) (hmc : Nat.ble d EXT = true) (hids : d ∉ St.ids σ)
    (hc : ∀ who' w', (∀ q c v, cs[q]? = some c → u[q]? = some v → ∀ T G, Stp who w who' w' T G → (∀ b, T b → False) → (∀ b, G b → who b = .bx d) → cvm w' who' (.own (.b d) 0 q) c v)) (hl : u.length = cs.length) :
    Rep n C (tagBox d w.heap.size who) ((.t d, some (.one (.c (.ptr d 0)))) :: (.b d, some (.box cs)) :: σ) (a.put (some d) (.pointer (some ⟨w.heap.size, 0, none⟩))) (w.alloc (.cells u.toArray E)) :=
  new_boxG (cv := .ptr d 0) hr hd hx (le_ext hmc) (shp_of hmc cs u E) hids hc hl ⟨_, rfl, tagBox_new⟩

theorem op_box {d E : Nat} {s : Operand} {A : A1} {cs : List CV} (hd : o.dst = some d) (ho : o.op = .box E s) (hs : St.ev σ s = some (.one A)) (hn : A.noOwn = true) (hok : A.cells.all CV.oneOk = true) (hc : A.cells = cs) (hx : Nat.beq d EXT = false) (hmc : Nat.ble d EXT = true) :
    Op1 P n o ⟨opKey s ++ (cs.flatMap CV.ids).map Key.b, [.t d, .b d], [d]⟩ σ [(.t d, some (.one (.c (.ptr d 0)))), (.b d, some (.box cs))] where
  does := fun σ' hag hal C who a w hr hdst K Q hK => by
    have hm := hr.ev ((ev_agree fun k hk => hag k (List.mem_append_left _ hk)).trans hs)
    have hdn := hdst d hd
    subst hc
    have hm' : A1m w who (opTag s) 0 A (a.eval s) := hm
    obtain ⟨h1, h2, h3⟩ := A1m.cells hm' hok
    have hids := hal d (by simp)
    unfold Oper.wp
    have hrun : (execOp a.eval o).run P w = .ok (.value (.pointer (some ⟨w.heap.size, 0, none⟩))) (w.alloc (.cells (a.eval s).cells E)) := by
      simp [execOp, ho, Instr.box, newVar, newRow]
    rw [hrun]
    show K (a.put o.dst _) _
    refine hK (tagBox d w.heap.size who) _ _ ?_
    rw [hd]
    have := new_box (E := E) (u := (a.eval s).cells.toList) (cs := A.cells) hr hdn hx hmc hids (fun who' w' q c v hq hv T G hst hT hG => ?_) h1
    · simpa using this
    · have hnc : c.noOwn = true := by
        cases A with
        | c x => simp [A1.cells] at hq; cases q <;> simp at hq; subst hq; exact hn
        | agg l => exact List.all_eq_true.1 hn c (List.mem_of_getElem? hq)
      have hcid : ∀ j ∈ c.ids, j ≠ d := fun j hj e => by
        subst e
        refine hids ?_
        have hmem : j ∈ (X.one A).ids := by
          cases A with
          | c x => simp [A1.cells] at hq; cases q <;> simp at hq; subst hq; exact hj
          | agg l => exact List.mem_flatMap.2 ⟨c, List.mem_of_getElem? hq, hj⟩
        cases s with
        | tmp t => exact St.ids_get (k := .t t) ((ev_agree (s := .tmp t) fun k hk => hag k (List.mem_append_left _ hk)).trans hs) hmem
        | const v => simp only [St.ev, Option.some.injEq, X.one.injEq] at hs; subst hs; simp [X.ids, A1.ids, CV.ids] at hmem
        | func f => simp only [St.ev, Option.some.injEq, X.one.injEq] at hs; subst hs; simp [X.ids, A1.ids, CV.ids] at hmem
        | global g => simp [St.ev] at hs
      refine cvm.stp (cvm.re (p' := .own (.b d) 0 q) hnc (h2 q c v hq hv)) hst hr.fz (fun _ b hb => ⟨fun h => hT b h, fun h => by have := hG b h; rw [hb] at this; cases this⟩) (by simp) fun j hj b hb hg => ?_
      have := hG b hg
      rw [hb] at this; injection this with this
      exact hcid j hj this
  wr := by simp
  me := fun j hj => by
    have : j = d ∨ j ∈ cs.flatMap CV.ids := by simpa [St.ids, oids, X.ids, A1.ids, CV.ids] using hj
    rcases this with h | h
    · exact .inr (by simp [h])
    · exact .inl (List.mem_append_right _ (List.mem_map.2 ⟨j, h, rfl⟩))
  al := by simp

def zeroOf (P : Program) (t : Nat) : Option (List Value) := ((P.info? t).bind (·.zero)).map fun z => z.cells.toList
theorem run_zeroOf {t : Nat} {zs : List Value} (h : zeroOf P t = some zs) (w : World) : ∃ z, (zeroValue t).run P w = .ok z w ∧ z.cells = zs.toArray := by
  unfold zeroOf at h
  obtain ⟨z, h1, h2⟩ := Option.map_eq_some_iff.1 h
  obtain ⟨i, hi, hz⟩ := Option.bind_eq_some_iff.1 h1
  exact ⟨z, by simp [zeroValue, typeInfo, hi, hz], by rw [← h2]⟩
/-- a new variable -/
theorem op_alloc {d E : Nat} {zs : List Value} {cs : List CV} (hd : o.dst = some d) (ho : o.op = .alloc E) (hz : zeroOf P E = some zs) (hc : zs.map CV.val = cs) (hx : Nat.beq d EXT = false) (hmc : Nat.ble d EXT = true) :
    Op1 P n o ⟨[], [.t d, .b d], [d]⟩ σ [(.t d, some (.one (.c (.ptr d 0)))), (.b d, some (.box cs))] where
  does := fun σ' hag hal C who a w hr hdst K Q hK => by
    have hids := hal d (by simp)
    obtain ⟨z, hz1, hz2⟩ := run_zeroOf hz w
    unfold Oper.wp
    have hrun : (execOp a.eval o).run P w = .ok (.value (.pointer (some ⟨w.heap.size, 0, none⟩))) (w.alloc (.cells zs.toArray E)) := by
      simp [execOp, ho, Instr.alloc, newVar, newRow, hz1, hz2]
    rw [hrun]
    show K (a.put o.dst _) _
    refine hK (tagBox d w.heap.size who) _ _ ?_
    rw [hd]
    subst hc
    exact new_box (E := E) (u := zs) hr (hdst d hd) hx hmc hids (fun who' w' q c v hq hv T G hst hT hG => by
      rw [List.getElem?_map, hv] at hq; simp at hq; subst hq; rfl) (by simp)
  wr := by simp
  me := fun j hj => by
    subst hc
    have : j = d ∨ j ∈ (zs.map CV.val).flatMap CV.ids := by simpa [St.ids, oids, X.ids, A1.ids, CV.ids] using hj
    rcases this with h | h
    · exact .inr (by simp [h])
    · obtain ⟨c, hc', hj'⟩ := List.mem_flatMap.1 h
      obtain ⟨v, _, rfl⟩ := List.mem_map.1 hc'
      cases hj'
  al := by simp

def splL {α : Type} : List α → Nat → List α → List α
  | l, _, [] => l
  | l, q, x :: xs => splL (l.set q x) (q + 1) xs
theorem splL_len {α : Type} : ∀ (xs : List α) (l : List α) (q : Nat), (splL l q xs).length = l.length
  | [], _, _ => rfl
  | x :: xs, l, q => by rw [splL, splL_len xs]; simp
theorem splL_get {α : Type} : ∀ (xs : List α) (l : List α) (q i : Nat), q + xs.length ≤ l.length → (splL l q xs)[i]? = if q ≤ i ∧ i < q + xs.length then xs[i - q]? else l[i]?
  | [], l, q, i, _ => by simp [splL]; omega
  | x :: xs, l, q, i, h => by
    simp only [List.length_cons] at h
    rw [splL, splL_get xs _ _ _ (by simp; omega)]
    simp only [List.length_cons]
    rcases Nat.lt_trichotomy i q with h1 | h1 | h1
    · rw [if_neg (by omega), if_neg (by omega), List.getElem?_set_ne (by omega)]
    · subst h1; rw [if_neg (by omega), if_pos (by omega), List.getElem?_set_self (by omega)]; simp
    · rcases Nat.lt_or_ge i (q + 1 + xs.length) with h2 | h2
      · rw [if_pos (by omega), if_pos (by omega)]
        rw [show i - q = (i - (q + 1)) + 1 by omega]; simp
      · rw [if_neg (by omega), if_neg (by omega), List.getElem?_set_ne (by omega)]
theorem setCells_blk : ∀ (news : List Value) (w : World) (b q : Nat) (vs : List Value) (E : TypeId), w.heap[b]? = some (.cells vs.toArray E (0, 0)) →
    (w.setCells b q news).heap[b]? = some (.cells (splL vs q news).toArray E (0, 0)) ∧ (∀ k, k ≠ b → (w.setCells b q news).heap[k]? = w.heap[k]?) ∧ (w.setCells b q news).heap.size = w.heap.size ∧
      (w.setCells b q news).os = w.os ∧ (w.setCells b q news).tape = w.tape ∧ (w.setCells b q news).output = w.output
  | [], w, b, q, vs, E, h => ⟨h, fun _ _ => rfl, rfl, rfl, rfl, rfl⟩
  | x :: xs, w, b, q, vs, E, h => by
    have h1 : (w.setCell ⟨b, q, none⟩ x).heap[b]? = some (.cells (vs.set q x).toArray E (0, 0)) := by
      simp [World.setCell, Array.getElem?_modify, h]
    obtain ⟨g1, g2, g3, g4, g5, g6⟩ := setCells_blk xs (w.setCell ⟨b, q, none⟩ x) b (q + 1) (vs.set q x) E h1
    refine ⟨g1, fun k hk => (g2 k hk).trans (Below.heap_setCell w _ _ _ hk), g3.trans (by simp [World.setCell]), g4.trans rfl, g5.trans rfl, g6.trans rfl⟩

/-- a store into a box -/
def CV.ptrTo : CV → Option (Nat × Nat)
  | .ptr j q => some (j, q)
  | .isB _ j => some (j, 0)
  | _ => none
theorem cvm.ptrTo {w : World} {who : Nat → Tag} {p : Tag} {c : CV} {j q : Nat} {u : Value} (hp : c.ptrTo = some (j, q)) (h : cvm w who p c u) : ∃ b, u = .pointer (some ⟨b, q, none⟩) ∧ who b = .bx j := by
  cases c <;> simp only [CV.ptrTo] at hp
  case ptr => injection hp with hp; injection hp with h1 h2; subst h1 h2; exact h
  case isB => injection hp with hp; injection hp with h1 h2; subst h1 h2; exact h.2
  all_goals cases hp
theorem op_storeG {t m j q : Nat} {s v : Operand} {c0 : CV} {A : A1} {cs as cs' : List CV} (hd : o.dst = none) (ho : o.op = .store t s v) (hs : St.ev σ s = some (.one (.c c0))) (hp : c0.ptrTo = some (j, q)) (hb : St.get σ (.b j) = some (.box cs)) {rb : Bool} (hr : rowT P t = some (rb, m))
    (hv : St.ev σ v = some (.one A)) (hn : A.noOwn = true) (hok : A.cells.all CV.oneOk = true) (has : A.cells = as) (hm : as.length = m) (hq : q + m ≤ cs.length) (hc : splL cs q as = cs') (hmc : Nat.ble j EXT = true) :
    Op1 P n o ⟨(opKey s ++ opKey v ++ [.b j]) ++ ((cs ++ as).flatMap CV.ids).map Key.b, [.b j], []⟩ σ [(.b j, some (.box cs'))] where
  does := fun σ' hag hal C who a w hrp hdst K Q hK => by
    obtain ⟨b, e, hbw⟩ := cvm.ptrTo hp (hrp.ev ((ev_agree fun k hk => hag k (by simp [hk])).trans hs))
    have hvm : A1m w who (opTag v) 0 A (a.eval v) := hrp.ev ((ev_agree fun k hk => hag k (by simp [hk])).trans hv)
    obtain ⟨v1, v2, v3⟩ := A1m.cells hvm hok
    have hgb : St.get σ' (.b j) = some (.box cs) := (hag (.b j) (by simp)).trans hb
    obtain ⟨vs, E, h1, h2, h3, h4⟩ := box_cell hrp hbw hgb hmc
    obtain ⟨dsc, ii, hu, hrow, hi, hsz⟩ := rowT_parts hr
    subst has
    generalize hnews : (a.eval v).cells.toList = news at v1 v2 v3
    have hcells : (a.eval v).cells = news.toArray := by rw [← hnews]
    have hst := run_storeCells_cells (P := P) b q news 0 w (fun i hi' => by
      rw [Nat.add_zero, h3 (q + i) _ (List.getElem?_eq_getElem (by omega))]; rfl) (fun i _ => by simp [World.frozen?, h1]) v3
    have hrun : (execOp a.eval o).run P w = .ok .skip (w.setCells b q news) := by
      simp only [execOp, ho, e, Instr.storeAt, Instr.sureAddr, Sem.run_bind, Sem.run_pure, Result.andThen_ok, storeVar, sizeOf, typeInfo, run_program, hi, hcells]
      rw [if_neg (by simp; omega)]
      simp only [Nat.add_zero] at hst
      simp [hst]
    unfold Oper.wp
    rw [hrun]
    show K (a.put o.dst undef) _
    obtain ⟨g1, g2, g3, g4, g5, g6⟩ := setCells_blk news w b q vs E h1
    have hstp : Stp who w who (w.setCells b q news) (fun k => k = b) (fun _ => False) :=
      ⟨g4, g5, g6, by rw [g3]; exact Nat.le_refl _, fun k _ hk => g2 k hk, fun _ _ _ => rfl, fun k hk => by rw [hk, hbw]; simp, fun _ h => h.elim⟩
    have hrep : Rep n C who ((.b j, none) :: σ') a (w.setCells b q news) := by
      refine (hrp.kill (.b j)).stp hstp (fun k hk hoo => ⟨fun hkb => ?_, fun h => h⟩) (fun _ _ _ _ h => h) (fun k hk => by rw [g3]; exact hrp.fz k hk) hrp.bxu ?_ ?_ ?_ ?_
      · have := hrp.adv.tag k hk (hoo.imp id .inl)
        rw [hkb, hbw] at this
        rw [hkb] at hoo
        rcases hoo with hoo | hoo <;> rw [hoo] at this <;> cases this
      · intro k kk p q' hk hT
        rcases hT with hT | hT
        · rw [hT, hbw] at hk; cases hk
        · exact hT.elim
      · intro k i _ h; exact h.elim
      · intro k i hk hT
        rcases hT with hT | hT
        · rw [hT, hbw] at hk; injection hk with hk; have hk := nb_eq (le_ext hmc) hk.symm; subst hk; exact St.get_same
        · exact hT.elim
      · intro k i h1 h2; exact absurd h1 h2
    have hbox : Boxm (w.setCells b q news) who j cs' := by
      intro k hk
      rw [bas_of (le_ext hmc)] at hk
      have : k = b := hrp.bxu k b j hk hbw
      subst this
      refine ⟨splL vs q news, E, by rw [isShp_of hmc]; exact g1, by rw [splL_len, ← hc, splL_len, h2], fun i c u hi' hu' => ?_⟩
      rw [← hc, splL_get _ _ _ _ (by omega)] at hi'
      rw [splL_get _ _ _ _ (by omega)] at hu'
      have hstep : ∀ (kk : Key) (pp qq : Nat) (c : CV) (u : Value), cvm w who (.own kk pp qq) c u → cvm (w.setCells k q news) who (.own kk pp qq) c u := fun kk pp qq c u hcv =>
        cvm.stp hcv hstp hrp.fz (fun _ k' hk' => ⟨fun hT => (by rw [hT, hbw] at hk'; cases hk'), fun h => h⟩) (by simp) fun _ _ _ _ h => h
      split at hi'
      · rename_i hin
        rw [if_pos (by omega)] at hu'
        have hnc : c.noOwn = true := by
          have hmem := List.mem_of_getElem? hi'
          cases A with
          | c x => simp [A1.cells] at hmem; subst hmem; exact hn
          | agg l => exact List.all_eq_true.1 hn c hmem
        exact cvm.re hnc (hstep _ _ _ _ _ (v2 _ c u hi' hu'))
      · rename_i hin
        rw [if_neg (by omega)] at hu'
        exact hstep _ _ _ _ _ (h4 i c u hi' hu')
    refine hK who undef _ ?_
    rw [hd]
    refine (hrep.addBox hbox).congr fun k => ?_
    simp only [List.cons_append, List.nil_append, St.get]
    cases Key.is (.b j) k <;> simp
  wr := by simp
  me := fun i hi => by
    left
    have : i ∈ cs'.flatMap CV.ids := by simpa [St.ids, oids, X.ids] using hi
    obtain ⟨c, hc', hic⟩ := List.mem_flatMap.1 this
    refine List.mem_append_right _ (List.mem_map.2 ⟨i, List.mem_flatMap.2 ⟨c, ?_, hic⟩, rfl⟩)
    rw [← hc] at hc'
    obtain ⟨k, hk, rfl⟩ := List.getElem_of_mem hc'
    have hk' := List.getElem?_eq_getElem hk
    rw [splL_get _ _ _ _ (by omega)] at hk'
    split at hk'
    · exact List.mem_append_right _ (List.mem_of_getElem? hk')
    · exact List.mem_append_left _ (List.mem_of_getElem? hk')
  al := by simp
theorem op_store {t m j q : Nat} {s v : Operand} {A : A1} {cs as cs' : List CV} (hd : o.dst = none) (ho : o.op = .store t s v) (hs : St.ev σ s = some (.one (.c (.ptr j q)))) (hb : St.get σ (.b j) = some (.box cs)) {rb : Bool} (hr : rowT P t = some (rb, m))
    (hv : St.ev σ v = some (.one A)) (hn : A.noOwn = true) (hok : A.cells.all CV.oneOk = true) (has : A.cells = as) (hm : as.length = m) (hq : q + m ≤ cs.length) (hc : splL cs q as = cs') (hmc : Nat.ble j EXT = true) :
    Op1 P n o ⟨(opKey s ++ opKey v ++ [.b j]) ++ ((cs ++ as).flatMap CV.ids).map Key.b, [.b j], []⟩ σ [(.b j, some (.box cs'))] :=
  op_storeG hd ho hs rfl hb hr hv hn hok has hm hq hc hmc
end
end Go.Proofs.YtmanhdacnkpclaaGreatDoor

/- Walks over abstract states: slices that are built, and grown. -/
namespace Go.Proofs.YtmanhdacnkpclaaGreatDoor
set_option linter.unusedVariables false
set_option linter.unusedSimpArgs false
open Go.RowKit

def FC.oneOk : FC → Bool
  | .val v => v.oneCell'
  | .arr _ => true
  | .ptr _ => true
theorem fcm.one {w : World} {F : Nat → Prop} {c : FC} {x : Value} (hn : c.oneOk = true) (h : fcm w F c x) : x.oneCell' = true := by
  cases c with
  | val v => simp only [fcm] at h; subst h; exact hn
  | arr ds => obtain ⟨a, c, rfl⟩ := rd_arr_one h; rfl
  | ptr l => obtain ⟨b, o, rfl, _⟩ := h; rfl
theorem Own.rdF {w : World} {B E m : Nat} {S S' : Nat → Prop} {v : Value} {ds : List D} (h : Own w B E m S v ds) (hS : ∀ b, b < w.heap.size → S b → S' b) (hk : ∀ k, v.ownBlock = some k → S' k) : Go.Proofs.YtmanhdacnkpclaaGreatDoor.rd w S' (.arr ds) [v] := by
  obtain ⟨xs, h1, h2, h3⟩ := h
  rcases h1.2 with ⟨rfl, h0⟩ | ⟨g, cap, cur, rfl, hg, hh, hn, hm, hsz, ht⟩
  · exact ⟨none, 0, by rw [h0], by omega, by simp [maxLen], .inl h0⟩
  · refine ⟨_, cap, rfl, hn, hm, .inr ⟨g, 0, xs, rfl, hk g rfl, (Array.getElem?_eq_some_iff.1 hh).1, h2.wide (fun b hb h => hS b hb h.1), fun j u hu => ?_⟩⟩
    have := h1.cells (g := g) rfl j u hu
    rw [add_lit] at this; exact this

section
variable {P : Program} {n : Nat} {o : Oper} {σ : St}
open Classical in
noncomputable def tagAll (p : Tag) (t : Tag) (who : Nat → Tag) : Nat → Tag := fun b => if who b = p then t else who b
theorem tagAll_at {p t : Tag} {who : Nat → Tag} {b : Nat} (h : who b = p) : tagAll p t who b = t := by simp [tagAll, h]
theorem tagAll_ne {p t : Tag} {who : Nat → Tag} {b : Nat} (h : who b ≠ p) : tagAll p t who b = who b := by simp [tagAll, h]

/-- what nobody writes any more -/
theorem Rep.freeze {C : Ctx} {who : Nat → Tag} {a : Act} {w : World} {d E m : Nat} {ds : List D} (h : Rep n C who ((.t d, some (.one (.c (.own E m ds)))) :: σ) a w) :
    ∃ who', Rep n C who' ((.t d, some (.one (.c (.arr ds)))) :: σ) a w := by
  have hx := h.slot d _ St.get_same
  obtain ⟨h1, h2⟩ : Own w 0 E m (Fz who) (a.tmps.getD d undef) ds ∧ ∀ k, (a.tmps.getD d undef).ownBlock = some k → who k = .own (.t d) 0 0 := hx
  have hstp : Stp who w (tagAll (.own (.t d) 0 0) .froz who) w (fun _ => False) (fun b => who b = .own (.t d) 0 0) :=
    ⟨rfl, rfl, rfl, Nat.le_refl _, fun _ _ _ => rfl, fun b _ hb => tagAll_ne hb, fun _ h => h.elim, fun b hb => by rw [hb]; simp⟩
  have hr := (h.kill (.t d)).stp hstp (fun b hb ho => ⟨fun h => h, fun hg => by
      have := h.adv.tag b hb (ho.imp id .inl)
      rw [hg] at this
      rcases ho with ho | ho <;> rw [ho] at this <;> cases this⟩) (fun b j hb ho hg => by
      have := h.adv.tag b hb (.inr (.inr ⟨j, ho⟩))
      rw [hg, ho] at this; cases this) (fun b hb => by
      rcases Classical.em (who b = .own (.t d) 0 0) with e | e
      · exact h.fz b (by rw [e]; simp)
      · rw [tagAll_ne e] at hb; exact h.fz b hb) (fun b b' j hb hb' => by
      have key : ∀ b, tagAll (.own (.t d) 0 0) .froz who b = .bx j → who b = .bx j := fun b hb => by
        rcases Classical.em (who b = .own (.t d) 0 0) with e | e
        · rw [tagAll_at e] at hb; cases hb
        · rw [tagAll_ne e] at hb; exact hb
      exact h.bxu b b' j (key b hb) (key b' hb')) (fun b k p q hb hg => by
      rcases hg with hg | hg
      · exact hg.elim
      · rw [hg] at hb; injection hb with hb; subst hb; exact St.get_same) (fun b j hb hg => by rw [hg] at hb; cases hb) (fun b j hb hg => by
      rcases hg with hg | hg
      · exact hg.elim
      · rw [hg] at hb; cases hb) (fun b j hb hnb => by
      rcases Classical.em (who b = .own (.t d) 0 0) with e | e
      · rw [tagAll_at e] at hb; cases hb
      · rw [tagAll_ne e] at hb; exact absurd hb hnb)
  refine ⟨_, (hr.addSlot (t := d) (x := .one (.c (.arr ds))) ?_).congr fun k => ?_⟩
  · exact h1.rdF (fun b hb hF => hstp.fz b hb hF) fun k hk => tagAll_at (h2 k hk)
  · simp only [St.get]
    cases Key.is (.t d) k <;> simp
theorem Op1.frz {i : Info} {d E m : Nat} {ds : List D} {δ : St} (h : Op1 P n o i σ ((.t d, some (.one (.c (.own E m ds)))) :: δ)) : Op1 P n o i σ ((.t d, some (.one (.c (.arr ds)))) :: δ) where
  does := fun σ' hag hal C who a w hr hdst K Q hK => h.does σ' hag hal C who a w hr hdst K Q fun who' v w' hr' => by
    obtain ⟨who'', hr''⟩ := Rep.freeze hr'
    exact hK who'' v w' hr''
  wr := fun e he => by
    simp only [List.mem_cons] at he
    rcases he with rfl | he
    · exact h.wr (.t d, some (.one (.c (.own E m ds)))) (by simp)
    · exact h.wr e (by simp [he])
  me := fun j hj => by
    have : j ∈ St.ids δ := by simpa [St.ids, oids, X.ids, A1.ids, CV.ids] using hj
    exact h.me j (by simp only [St.ids, List.flatMap_cons, List.mem_append]; exact .inr this)
  al := h.al

/-- the cells that an append takes -/
theorem src_of {w : World} {F : Nat → Prop} {es : List D} {u : Value} {m : Nat} (h : rd w F (.arr es) [u]) (hm : ∀ e ∈ es, e.fc.length = m) (h1 : ∀ e ∈ es, e.fc.all FC.oneOk = true) :
    ∃ A c news, u = .slice A es.length c ∧ SrcAt w A es.length m news ∧ (∀ x ∈ news, x.oneCell' = true) ∧ rds w F es news := by
  obtain ⟨A, c, e, _, _, h3⟩ := h
  have e' : u = .slice A es.length c := by simpa using e
  have hlen : ∀ (es : List D) (xs : List Value), (∀ e ∈ es, e.fc.length = m) → rds w F es xs → xs.length = es.length * m := by
    intro es
    induction es with
    | nil => intro xs _ h; cases h; simp
    | cons e es ih =>
      intro xs hm ⟨c1, c2, e0, g1, g2⟩
      have := cellsF_len ((rd_fc e c1).1 g1)
      rw [e0, List.length_append, this, hm e (by simp), ih c2 (fun e' he => hm e' (by simp [he])) g2, List.length_cons, Nat.add_mul]; omega
  have hone : ∀ (es : List D) (xs : List Value), (∀ e ∈ es, e.fc.all FC.oneOk = true) → rds w F es xs → ∀ x ∈ xs, x.oneCell' = true := by
    intro es
    induction es with
    | nil => intro xs _ h x hx; cases h; cases hx
    | cons e es ih =>
      intro xs h1 ⟨c1, c2, e0, g1, g2⟩ x hx
      rw [e0] at hx
      rcases List.mem_append.1 hx with hx | hx
      · have hc := (rd_fc e c1).1 g1
        obtain ⟨i, hi, rfl⟩ := List.getElem_of_mem hx
        have hil : i < e.fc.length := by rw [← cellsF_len hc]; exact hi
        obtain ⟨y, hy, hcm⟩ := cellsF_at hc i _ (List.getElem?_eq_getElem hil)
        rw [List.getElem?_eq_getElem hi] at hy; injection hy with hy; subst hy
        exact hcm.one (List.all_eq_true.1 (h1 e (by simp)) _ (List.getElem_mem hil))
      · exact ih c2 (fun e' he => h1 e' (by simp [he])) g2 x hx
  rcases h3 with h3 | ⟨b, q, xs, rfl, _, _, hrs, hcell⟩
  · have : es = [] := List.eq_nil_of_length_eq_zero h3
    subst this
    exact ⟨A, c, [], e', ⟨by simp, .inl rfl⟩, by simp, rfl⟩
  · exact ⟨_, c, xs, e', ⟨hlen es xs hm hrs, .inr ⟨b, q, rfl, hcell⟩⟩, hone es xs h1 hrs, hrs⟩

open Classical in
noncomputable def tagApp (v v' : Value) (d : Nat) (who : Nat → Tag) : Nat → Tag := fun b => if v'.ownBlock = some b then .own (.t d) 0 0 else if v.ownBlock = some b then .other else who b

/-- append to a slice that the call owns -/
theorem app_core {d T E m by_ : Nat} {z : Value} {s y : Operand} {ds es : List D} {k0 : List Key} (hd : o.dst = some d) (ho : o.op = .call { callee := .builtin .append, args := #[s, y], argTypes := #[T, T] }) (hT : SliceOf P T E m by_ z)
    (hm : ∀ e ∈ es, e.fc.length = m) (h1 : ∀ e ∈ es, e.fc.all FC.oneOk = true) (hby : (ds.length + es.length) * by_ ≤ 140737488355328) (hlen : ds.length + es.length ≤ 9223372036854775807)
    {C : Ctx} {who : Nat → Tag} {a : Act} {w : World} (hr : Rep n C who σ a w) (hdn : d < n) {v : Value} (hv : a.eval s = v) (hown : Own w 0 E m (Fz who) v ds) (hk : ∀ k, v.ownBlock = some k → ∃ t, who k = .own (.t t) 0 0 ∧ Key.t t ∈ k0)
    (hy : rd w (Fz who) (.arr es) [a.eval y]) {K : Act → World → Prop} {Q : Exit → Act → World → Prop}
    (hK : ∀ who' v' w', Rep n C who' ((.t d, some (.one (.c (.own E m (ds ++ es))))) :: (k0.map fun k => (k, none)) ++ σ) (a.put o.dst v') w' → K (a.put o.dst v') w') : o.wp P a w K Q := by
  obtain ⟨A, c, news, eu, hsrc, hone, hrds⟩ := src_of hy hm h1
  have hnf : ∀ k, v.ownBlock = some k → who k ≠ .froz := fun k hk' => by obtain ⟨t, ht, _⟩ := hk k hk'; rw [ht]; simp
  refine wp_appG (S := Fz who) w s y ho hT hv hown eu hsrc rfl hone ?_ (Nat.zero_le _) hby hlen fun v' w' hown' hg hb hk' => ?_
  · refine hrds.wide fun b _ hF => ⟨hF, fun e => ?_⟩
    exact hnf b e.symm hF
  have hvlt : ∀ k, v.ownBlock = some k → k < w.heap.size := fun k hk => (hown.lt k hk).2
  have hstp : Stp who w (tagApp v v' d who) w' (fun b => v.ownBlock = some b) (fun b => v.ownBlock = some b ∨ (v'.ownBlock = some b)) := by
    refine ⟨hg.os, hg.tape, hg.output, hg.size, fun b hb hT => hg.block b hb (fun e => hT e.symm), fun b hb hG => ?_, fun b hb => hnf b hb, fun b hb => ?_⟩
    · have h1 : ¬ v.ownBlock = some b := fun h => hG (.inl h)
      have h2 : ¬ v'.ownBlock = some b := fun h => hG (.inr h)
      simp [tagApp, h1, h2]
    · rcases hb with hb | hb
      · exact hnf b hb
      · rcases (hk' b hb).2.2 with h | h
        · exact hnf b h.symm
        · intro hf
          have := hr.fz b (by rw [hf]; simp)
          omega
  have hold : ∀ b, b < w.heap.size → (v.ownBlock = some b ∨ v'.ownBlock = some b) → v.ownBlock = some b := fun b hb h => by
    rcases h with h | h
    · exact h
    · rcases (hk' b h).2.2 with h' | h'
      · exact h'.symm
      · omega
  have htag : ∀ b, (v.ownBlock = some b ∨ v'.ownBlock = some b) → who b ≠ .other → ∃ t, who b = .own (.t t) 0 0 ∧ Key.t t ∈ k0 := fun b h hne => hk b (hold b (hr.fz b hne) h)
  have hkill : ∀ (l : List Key) (k : Key), k ∈ l → St.get (l.map (fun k => (k, none)) ++ σ) k = none := by
    intro l
    induction l with
    | nil => intro k h; cases h
    | cons k' l ih =>
      intro k h
      simp only [List.map_cons, List.cons_append, St.get]
      cases e : Key.is k' k
      · simp only [cond_false]
        refine ih k ?_
        rcases List.mem_cons.1 h with h | h
        · subst h; rw [Key.is_self] at e; cases e
        · exact h
      · rfl
  have hrk : ∀ (l : List Key), Rep n C who (l.map (fun k => (k, none)) ++ σ) a w := by
    intro l
    induction l with
    | nil => exact hr
    | cons k l ih => exact ih.kill k
  have hrep : Rep n C (tagApp v v' d who) (k0.map (fun k => (k, none)) ++ σ) a w' := by
    refine (hrk k0).stp hstp ?_ ?_ ?_ ?_ ?_ ?_ ?_ ?_
    · intro b hb ho'
      have htg := hr.adv.tag b hb (ho'.imp id .inl)
      have hnb : ¬ (v.ownBlock = some b) := fun h => by
        obtain ⟨t, ht, _⟩ := hk b h
        rw [ht] at htg
        rcases ho' with ho' | ho' <;> rw [ho'] at htg <;> cases htg
      exact ⟨hnb, fun h => hnb (hold b (Nat.lt_of_lt_of_le hb hr.adv.size) h)⟩
    · intro b j hb hj hG
      have htg := hr.adv.tag b hb (.inr (.inr ⟨j, hj⟩))
      obtain ⟨t, ht, _⟩ := hk b (hold b (Nat.lt_of_lt_of_le hb hr.adv.size) hG)
      rw [ht, hj] at htg; cases htg
    · intro b hb
      unfold tagApp at hb
      split at hb
      · rename_i h; exact (hk' b h).2.1
      · split at hb
        · exact absurd rfl hb
        · exact Nat.lt_of_lt_of_le (hr.fz b hb) hg.size
    · intro b b' j hb hb'
      have key : ∀ b, tagApp v v' d who b = .bx j → who b = .bx j := fun b hb => by
        unfold tagApp at hb
        split at hb
        · cases hb
        · split at hb
          · cases hb
          · exact hb
      exact hr.bxu b b' j (key b hb) (key b' hb')
    · intro b k p q hb hTG
      have hG : v.ownBlock = some b ∨ v'.ownBlock = some b := hTG.elim .inl id
      obtain ⟨t, ht, hmem⟩ := htag b hG (by rw [hb]; simp)
      rw [ht] at hb; injection hb with hb; subst hb
      exact hkill k0 _ hmem
    · intro b j hb hG
      obtain ⟨t, ht, _⟩ := htag b hG (by rw [hb]; simp)
      rw [ht] at hb; cases hb
    · intro b j hb hTG
      have hG : v.ownBlock = some b ∨ v'.ownBlock = some b := hTG.elim .inl id
      obtain ⟨t, ht, _⟩ := htag b hG (by rw [hb]; simp)
      rw [ht] at hb; cases hb
    · intro b j hb hnb
      unfold tagApp at hb
      split at hb
      · cases hb
      · split at hb
        · cases hb
        · exact absurd hb hnb
  refine hK (tagApp v v' d who) v' w' ?_
  rw [hd]
  refine hrep.put hdn (x := .one (.c (.own E m (ds ++ es)))) ⟨hown'.wide (fun b hb hF => ?_) (Nat.le_refl _), fun k hk => by simp [tagApp, hk]⟩
  have hlt : b < w.heap.size := hr.fz b (by rw [show who b = .froz from hF]; simp)
  exact hstp.fz b hlt hF

theorem op_app {d T E m by_ t : Nat} {z : Value} {y : Operand} {ds es rs : List D} (hd : o.dst = some d) (ho : o.op = .call { callee := .builtin .append, args := #[.tmp t, y], argTypes := #[T, T] }) (hT : SliceOf P T E m by_ z)
    (hs : St.get σ (.t t) = some (.one (.c (.own E m ds)))) (hy : St.ev σ y = some (.one (.c (.arr es)))) (hm : ∀ e ∈ es, e.fc.length = m) (h1 : ∀ e ∈ es, e.fc.all FC.oneOk = true)
    (hby : (ds.length + es.length) * by_ ≤ 140737488355328) (hlen : ds.length + es.length ≤ 9223372036854775807) (hc : ds ++ es = rs) :
    Op1 P n o ⟨[.t t] ++ opKey y, [.t d, .t t], []⟩ σ [(.t d, some (.one (.c (.own E m rs)))), (.t t, none)] where
  does := fun σ' hag hal C who a w hr hdst K Q hK => by
    subst hc
    have hx := hr.slot t _ ((hag (.t t) (by simp)).trans hs)
    obtain ⟨g1, g2⟩ : Own w 0 E m (Fz who) (a.tmps.getD t undef) ds ∧ ∀ k, (a.tmps.getD t undef).ownBlock = some k → who k = .own (.t t) 0 0 := hx
    exact app_core (k0 := [.t t]) hd ho hT hm h1 hby hlen hr (hdst d hd) rfl g1 (fun k hk => ⟨t, g2 k hk, by simp⟩) (hr.ev ((ev_agree fun k hk => hag k (List.mem_append_right _ hk)).trans hy)) hK
  wr := by simp
  me := fun j hj => by simp [St.ids, oids, X.ids, A1.ids, CV.ids] at hj
  al := by simp
/-- parts put into cells -/
def buildC (σ : St) (pl : List (Nat × Nat)) : List (Nat × Operand) → List CV → Option (List CV)
  | [], cs => some cs
  | (i, s) :: r, cs =>
    match pl[i]?, St.ev σ s with
    | some (off, sz), some (.one A) => bif A.noOwn && A.cells.all CV.oneOk && Nat.beq A.cells.length sz && Nat.ble (off + sz) cs.length then buildC σ pl r (splL cs off A.cells) else none
    | _, _ => none
theorem foldl_spl : ∀ (xs : List Value) (k off : Nat) (cs : Array Value), ((xs.zipIdx k).foldl (fun cs (p : Value × Nat) => cs.setIfInBounds (off + p.2) p.1) cs) = (splL cs.toList (off + k) xs).toArray
  | [], k, off, cs => by simp [splL]
  | x :: xs, k, off, cs => by
    simp only [List.zipIdx_cons, List.foldl_cons, splL]
    rw [foldl_spl xs (k + 1) off]
    simp [Nat.add_assoc]
theorem buildC_run {C : Ctx} {who : Nat → Tag} {a : Act} {w : World} (hr : Rep n C who σ a w) {pl : List (Nat × Nat)} {place : Nat → Option (Nat × Nat)} (hpl : ∀ i x, pl[i]? = some x → place i = some x) :
    ∀ (parts : List (Nat × Operand)) (cs cs' : List CV) (vs : List Value), buildC σ pl parts cs = some cs' → vs.length = cs.length → (∀ (q : Nat) (c : CV) (v : Value), cs[q]? = some c → vs[q]? = some v → c.noOwn = true ∧ cvm w who .other c v ∧ v.oneCell' = true) →
      ∃ vs' : List Value, Instr.fill place vs.toArray (parts.map fun p => (p.1, a.eval p.2)) = some vs'.toArray ∧ vs'.length = cs'.length ∧ ∀ (q : Nat) (c : CV) (v : Value), cs'[q]? = some c → vs'[q]? = some v → c.noOwn = true ∧ cvm w who .other c v ∧ v.oneCell' = true
  | [], cs, cs', vs, h, hl, hc => by simp only [buildC, Option.some.injEq] at h; subst h; exact ⟨vs, rfl, hl, hc⟩
  | (i, s) :: r, cs, cs', vs, h, hl, hc => by
    simp only [buildC] at h
    split at h
    · rename_i off sz A e1 e2
      cases hcond : (A.noOwn && A.cells.all CV.oneOk && Nat.beq A.cells.length sz && Nat.ble (off + sz) cs.length)
      · rw [hcond] at h; cases h
      · rw [hcond] at h
        simp only [Bool.and_eq_true, cond_true] at hcond h
        obtain ⟨⟨⟨k1, k2⟩, k3⟩, k4⟩ := hcond
        have k3' := Nat.eq_of_beq_eq_true k3
        have k4' := Nat.le_of_ble_eq_true k4
        have hA : A1m w who (opTag s) 0 A (a.eval s) := hr.ev e2
        obtain ⟨g1, g2, g3⟩ := A1m.cells hA k2
        have hfit : ¬ ((a.eval s).cells.size ≠ sz ∨ off + (a.eval s).cells.size > vs.length) := by
          have : (a.eval s).cells.size = sz := by rw [← k3', ← g1]; simp
          omega
        obtain ⟨vs', r1, r2, r3⟩ := buildC_run hr hpl r (splL cs off A.cells) cs' (splL vs off (a.eval s).cells.toList) h (by rw [splL_len, splL_len, hl]) (fun q c v hq hv => by
          rw [splL_get _ _ _ _ (by omega)] at hq
          rw [splL_get _ _ _ _ (by omega)] at hv
          split at hq
          · rename_i hin
            rw [if_pos (by omega)] at hv
            have hnc : c.noOwn = true := by
              have hmem := List.mem_of_getElem? hq
              cases A with
              | c x => simp [A1.cells] at hmem; subst hmem; exact k1
              | agg l => exact List.all_eq_true.1 k1 c hmem
            exact ⟨hnc, cvm.re hnc (g2 _ c v hq hv), g3 v (List.mem_of_getElem? hv)⟩
          · rename_i hin
            rw [if_neg (by omega)] at hv
            exact hc q c v hq hv)
        refine ⟨vs', ?_, r2, r3⟩
        simp only [List.map_cons, Instr.fill, hpl i _ e1]
        rw [if_neg (by simpa using hfit)]
        rw [← r1]
        congr 1
        have := foldl_spl (a.eval s).cells.toList 0 off vs.toArray
        simp only [Nat.add_zero] at this
        rw [← this]
        rw [← Array.toList_zipIdx, Array.foldl_toList]
    · cases h

def fieldPl (P : Program) (T : Nat) : Option (List (Nat × Nat)) :=
  match P.underlying T with
  | some (.struct fields) => fields.toList.mapM fun f => (P.info? f.type).map fun i => (f.offset, i.size)
  | _ => none
end
end Go.Proofs.YtmanhdacnkpclaaGreatDoor

/- Walks over abstract states: code, loops, and what a function does. -/
namespace Go.Proofs.YtmanhdacnkpclaaGreatDoor
set_option linter.unusedVariables false
set_option linter.unusedSimpArgs false
open Go.RowKit

def lift (n : Nat) (C : Ctx) (Q : Exit → St → Prop) : Exit → Act → World → Prop := fun e a w => ∃ who σ, Rep n C who σ a w ∧ Q e σ
def dwp (P : Program) (n : Nat) (c : Code) (Q : Exit → St → Prop) (σ : St) : Prop := ∀ (C : Ctx) (who : Nat → Tag) (a : Act) (w : World), Rep n C who σ a w → c.wp P (lift n C Q) a w
def thenD (K : St → Prop) (Q : Exit → St → Prop) : Exit → St → Prop
  | .normal, σ => K σ
  | e, σ => Q e σ
def inB (id : Nat) (Q : Exit → St → Prop) : Exit → St → Prop
  | .exit id', σ => if id' = id then Q .normal σ else Q (.exit id') σ
  | e, σ => Q e σ
/-- the same frame and world, said by another state -/
def Wk (n : Nat) (σ σ' : St) : Prop := ∀ (C : Ctx) (who : Nat → Tag) (a : Act) (w : World), Rep n C who σ a w → ∃ who', Rep n C who' σ' a w

section
variable {P : Program} {n : Nat} {Q : Exit → St → Prop} {σ : St}
theorem dwp_skip (h : Q .normal σ) : dwp P n .skip Q σ := fun C who a w hr => wp_skip ⟨who, σ, hr, h⟩
theorem dwp_exit {id : Nat} (h : Q (.exit id) σ) : dwp P n (.exit id) Q σ := fun C who a w hr => wp_exit ⟨who, σ, hr, h⟩
theorem dwp_ret (h : Q .ret σ) : dwp P n .ret Q σ := fun C who a w hr => wp_ret ⟨who, σ, hr, h⟩
theorem dwp_seq {x y : Code} (h : dwp P n x (thenD (dwp P n y Q) Q) σ) : dwp P n (.seq x y) Q σ := fun C who a w hr =>
  wp_seq (wp_mono (h C who a w hr) fun e a' w' ⟨who', σ', hr', hq⟩ => by
    cases e with
    | normal => exact hq C who' a' w' hr'
    | _ => exact ⟨who', σ', hr', hq⟩)
theorem dwp_block {id : Nat} {c : Code} (h : dwp P n c (inB id Q) σ) : dwp P n (.block id c) Q σ := fun C who a w hr =>
  wp_block (wp_mono (h C who a w hr) fun e a' w' ⟨who', σ', hr', hq⟩ => by
    cases e with
    | exit id' =>
      simp only [Exit.inBlock]
      simp only [inB] at hq
      split
      · rename_i h; rw [if_pos h] at hq; exact ⟨who', σ', hr', hq⟩
      · rename_i h; rw [if_neg h] at hq; exact ⟨who', σ', hr', hq⟩
    | _ => exact ⟨who', σ', hr', hq⟩)
theorem dwp_cond {c : Operand} {x y : Code} {b : Bool} (hc : St.ev σ c = some (.one (.c (.val (.bool b))))) (ht : b = true → dwp P n x Q σ) (hf : b = false → dwp P n y Q σ) : dwp P n (.cond c x y) Q σ := fun C who a w hr => by
  have e : a.eval c = .bool b := hr.ev hc
  exact wp_cond_split e (fun h => ht h C who a w hr) (fun h => hf h C who a w hr)
theorem dwp_condT {c : Operand} {x y : Code} (hc : St.ev σ c = some (.one (.c (.val (.bool true))))) (ht : dwp P n x Q σ) : dwp P n (.cond c x y) Q σ := dwp_cond hc (fun _ => ht) (fun h => by cases h)
theorem dwp_condF {c : Operand} {x y : Code} (hc : St.ev σ c = some (.one (.c (.val (.bool false))))) (hf : dwp P n y Q σ) : dwp P n (.cond c x y) Q σ := dwp_cond hc (fun h => by cases h) (fun _ => hf)
theorem thenD_n {K : St → Prop} (h : K σ) : thenD K Q .normal σ := h
theorem thenD_ret {K : St → Prop} (h : Q .ret σ) : thenD K Q .ret σ := h
theorem thenD_exit {K : St → Prop} {id : Nat} (h : Q (.exit id) σ) : thenD K Q (.exit id) σ := h
theorem inB_n {id : Nat} (h : Q .normal σ) : inB id Q .normal σ := h
theorem inB_ret {id : Nat} (h : Q .ret σ) : inB id Q .ret σ := h
theorem inB_same {id : Nat} (h : Q .normal σ) : inB id Q (.exit id) σ := by simp only [inB, if_pos rfl]; exact h
theorem Wk.refl : Wk n σ σ := fun _ who _ _ h => ⟨who, h⟩
theorem Wk.trans {σ' σ'' : St} (h : Wk n σ σ') (h' : Wk n σ' σ'') : Wk n σ σ'' := fun C who a w hr => by
  obtain ⟨who', hr'⟩ := h C who a w hr
  exact h' C who' a w hr'
theorem dwp_wk {c : Code} {σ' : St} (h : Wk n σ σ') (h' : dwp P n c Q σ') : dwp P n c Q σ := fun C who a w hr => by
  obtain ⟨who', hr'⟩ := h C who a w hr
  exact h' C who' a w hr'
/-- what is forgotten -/
def Fg (σ' σ : St) : Prop := ∀ k x, St.get σ' k = some x → St.get σ k = some x
theorem Fg.nil : Fg [] σ := fun k x h => by simp [St.get] at h
theorem Fg.cons {k : Key} {x : Option X} {σ' : St} (h : St.get σ k = x) (h' : Fg σ' σ) : Fg ((k, x) :: σ') σ := fun k' x' hx => by
  simp only [St.get] at hx
  cases e : Key.is k k'
  · rw [e] at hx; exact h' k' x' hx
  · rw [e] at hx
    have := Key.is_iff.1 e
    subst this; rw [h]; exact hx
theorem Fg.wk {σ' : St} (h : Fg σ' σ) : Wk n σ σ' := fun _ who _ _ hr => ⟨who, hr.forget h⟩
theorem Wk.freeze {d E m : Nat} {ds : List D} : Wk n ((.t d, some (.one (.c (.own E m ds)))) :: σ) ((.t d, some (.one (.c (.arr ds)))) :: σ) := fun _ _ _ _ hr => hr.freeze
theorem Wk.add {d : Nat} {x : X} (h : ∀ C who a w, Rep n C who σ a w → Xm w who (.t d) x (a.tmps.getD d undef)) : Wk n σ ((.t d, some x) :: σ) := fun C who a w hr => ⟨who, hr.addSlot (h C who a w hr)⟩
theorem Wk.nilOwn {d E m : Nat} (h : St.get σ (.t d) = some (.one (.c (.val (.slice none 0 0))))) : Wk n σ ((.t d, some (.one (.c (.own E m [])))) :: σ) :=
  Wk.add fun C who a w hr => by
    have e : a.tmps.getD d undef = .slice none 0 0 := hr.slot d _ h
    rw [e]
    exact ⟨Own.nil _ _ _ _ _, fun k hk => by simp [Value.ownBlock] at hk⟩
theorem rd_nil {w : World} {F : Nat → Prop} : rd w F (.arr []) [.slice none 0 0] := ⟨none, 0, rfl, Nat.le_refl _, by simp [maxLen], .inl rfl⟩
theorem Wk.nilArr {d : Nat} (h : St.get σ (.t d) = some (.one (.c (.val (.slice none 0 0))))) : Wk n σ ((.t d, some (.one (.c (.arr [])))) :: σ) :=
  Wk.add fun C who a w hr => by
    have e : a.tmps.getD d undef = .slice none 0 0 := hr.slot d _ h
    rw [e]; exact rd_nil
/-- freezes a slot wherever it stands -/
theorem Wk.freezeAt {d E m : Nat} {ds : List D} (h : St.get σ (.t d) = some (.one (.c (.own E m ds)))) : Wk n σ ((.t d, some (.one (.c (.arr ds)))) :: σ) := by
  refine Wk.trans (σ' := (.t d, some (.one (.c (.own E m ds)))) :: σ) ?_ Wk.freeze
  exact Wk.add fun C who a w hr => hr.slot d _ h

theorem dwp_loop {α : Type} {c : Code} (I : α → St) (J : α → Prop) (μ : α → Nat) (x0 : α) (hJ : J x0) (h0 : Wk n σ (I x0))
    (round : ∀ x, J x → dwp P n c (thenD (fun σ' => ∃ x', J x' ∧ Wk n σ' (I x') ∧ μ x' < μ x) Q) (I x)) : dwp P n (.loop c) Q σ := fun C who a w hr => by
  obtain ⟨who', hr'⟩ := h0 C who a w hr
  refine wp_loop_ghost (fun k a w => ∃ x who, J x ∧ μ x = k ∧ Rep n C who (I x) a w) (μ x0) ⟨x0, who', hJ, rfl, hr'⟩ ?_
  rintro k a w ⟨x, who, hJx, rfl, hrx⟩
  refine wp_mono (round x hJx C who a w hrx) fun e a' w' ⟨who', σ', hr', hq⟩ => ?_
  cases e with
  | normal =>
    obtain ⟨x', hJ', hwk, hlt⟩ := hq
    obtain ⟨who'', hr''⟩ := hwk C who' a' w' hr'
    exact ⟨μ x', hlt, x', who'', hJ', rfl, hr''⟩
  | _ => exact ⟨who', σ', hr', hq⟩

theorem Rep.drew {C : Ctx} {who : Nat → Tag} {a : Act} {w : World} (h : Rep n C who σ a w) : Rep n C who σ a { w with drawn := w.drawn + 1 } := by
  have hs : Stp who w who { w with drawn := w.drawn + 1 } (fun _ => False) (fun _ => False) := ⟨rfl, rfl, rfl, Nat.le_refl _, fun _ _ _ => rfl, fun _ _ _ => rfl, fun _ h => h.elim, fun _ h => h.elim⟩
  exact h.stp hs (fun _ _ _ => ⟨fun h => h, fun h => h⟩) (fun _ _ _ _ h => h) h.fz h.bxu (fun _ _ _ _ _ h => by rcases h with h | h <;> exact h.elim) (fun _ _ _ h => h.elim) (fun _ _ _ h => by rcases h with h | h <;> exact h.elim) (fun _ _ h h' => absurd h h')

def dstsLt (n : Nat) (ops : List Oper) : Bool := ops.all fun o => match o.dst with | some d => Nat.blt d n | none => true
theorem dstsLt_spec {ops : List Oper} (h : dstsLt n ops = true) : ∀ o ∈ ops, ∀ d, o.dst = some d → d < n := fun o ho d hd => by
  have := List.all_eq_true.1 h o ho
  rw [hd] at this
  exact Nat.lt_of_succ_le (Nat.le_of_ble_eq_true this)
theorem dwp_region {id : Nat} {ops : List Oper} {is : List Info} (h : Sq P n ops.toArray ops is σ (fun σ' => Q .normal σ')) (hd : dstsLt n ops = true) : dwp P n (.region id ops.toArray false) Q σ := fun C who a w hr =>
  wp_region_lit (Sq.list (fun σ' who' a' w' hq hr' => ⟨who', σ', hr', hq⟩) ops is σ who a w (dstsLt_spec hd) h hr)
theorem dwp_draw (hm : P.follows .mixedOrders = true) {id : Nat} {ops : List Oper} {is : List Info} (h : Sq P n ops.toArray ops is σ (fun σ' => Q .normal σ')) (hd : dstsLt n ops = true) (hchk : chk ops.toArray is = true) : dwp P n (.region id ops.toArray true) Q σ := fun C who a w hr =>
  wp_region_any hm (Sq.any (K := fun σ' => Q .normal σ') h hchk (dstsLt_spec hd) (fun σ' who' a' w' hq hr' => ⟨who', σ', hr', hq⟩) hr.drew)

variable {ops : Array Oper} {os : List Oper} {o : Oper} {K : St → Prop} {is : List Info}
theorem Op1.more {i : Info} {δ : St} (h : Op1 P n o i σ δ) (ks : List Key) : Op1 P n o ⟨ks ++ i.rd, i.wr, i.al⟩ σ δ :=
  ⟨fun σ' hag hal => h.does σ' (fun k hk => hag k (List.mem_append_right _ hk)) hal, h.wr, fun j hj => (h.me j hj).imp (fun h => List.mem_append_right _ h) id, h.al⟩
theorem Sq.goG {i : Info} {δ : St} (h : Op1 P n o i σ δ) (hg : guardIs ops o σ = some true) (hal : i.al.all (fun j => nomem j (St.ids σ)) = true) (hk : Sq P n ops os is (δ ++ σ) K) : Sq P n ops (o :: os) (⟨guardKeys ops o ++ i.rd, i.wr, i.al⟩ :: is) σ K :=
  ⟨_, is, δ, rfl, ⟨fun k hk => List.mem_append_left _ hk, .inl ⟨hg, h.more _, fun j hj => nomem_iff.1 (List.all_eq_true.1 hal j hj)⟩⟩, hk⟩
theorem Sq.noG (hg : guardIs ops o σ = some false) (hk : Sq P n ops os is (killDst o ++ σ) K) : Sq P n ops (o :: os) (⟨guardKeys ops o, (killDst o).map (·.1), []⟩ :: is) σ K :=
  ⟨_, is, killDst o, rfl, ⟨fun k hk => hk, .inr ⟨hg, rfl, fun e he => List.mem_map.2 ⟨e, he, rfl⟩⟩⟩, hk⟩
end

/-! ## what a function does -/
def ent : Nat → List A1 → St
  | _, [] => []
  | i, A :: l => (.t i, some (.one A)) :: ent (i + 1) l
def entB : Option (List CV) → St
  | some cs => [(.b EXT, some (.box cs))]
  | none => []
def inTag : Tag → Prop
  | .other => True
  | .froz => True
  | .bx j => j = EXT
  | .own k _ _ => k = .b EXT

def Fn (P : Program) (f : FuncId) (args : List A1) (pre : Option (List CV)) (R : X → List CV → Prop) : Prop :=
  ∀ (who : Nat → Tag) (w : World) (vs : List Value) (hz : (∀ b, who b ≠ .other → b < w.heap.size) ∧ Glob w who), (∀ b b' j, who b = .bx j → who b' = .bx j → b = b') → (∀ b, inTag (who b)) →
    vs.length = args.length → (∀ i A v, args[i]? = some A → vs[i]? = some v → A1m w who (.t i) 0 A v) → (∀ cs, pre = some cs → Boxm w who EXT cs) →
    Calls P f vs.toArray w fun e w' => ∃ v x cs' who', e = .returned v ∧ R x cs' ∧ x.ids = [] ∧ Xm w' who' (.t 0) x v ∧ (pre.isSome = true → cs'.flatMap CV.ids = [] ∧ Boxm w' who' EXT cs') ∧ Adv ⟨w, who, hz.2⟩ who' w' ∧
      (∀ b, who' b ≠ .other → b < w'.heap.size) ∧ (∀ b b' j, who' b = .bx j → who' b' = .bx j → b = b')

def resOf (P : Program) (σ : St) : ResultVar → Option A1
  | .tmp t => match St.get σ (.t t) with
    | some (.one A) => some A
    | _ => none
  | .cell a T => match St.get σ (.t a) with
    | some (.one (.c (.ptr j q))) => bif Nat.ble j EXT then (match St.get σ (.b j), rowT P T with
      | some (.box cs), some (false, _) => (cs[q]?).map A1.c
      | some (.box cs), some (true, m) => bif Nat.beq ((cs.drop q).take m).length m then some (.agg ((cs.drop q).take m)) else none
      | _, _ => none) else none
    | _ => none
def mkX : List A1 → X
  | [A] => .one A
  | as => .tup as
/-- what is handed back -/
inductive ResX (P : Program) (rs : List ResultVar) (σ : St) : X → Prop
  | all (as : List A1) (h : rs.mapM (resOf P σ) = some as) (hn : as.all (fun A => A.noOwn && A.cells.all CV.oneOk) = true) (hi : (mkX as).ids = []) : ResX P rs σ (mkX as)
  | own (t E m : Nat) (ds : List D) (h : rs = [.tmp t]) (hs : St.get σ (.t t) = some (.one (.c (.own E m ds)))) : ResX P rs σ (.one (.c (.own E m ds)))
  | aggB (t0 T j m : Nat) (cs : List CV) (h : rs = [.cell t0 T]) (hrow : rowT P T = some (true, m)) (hs : St.get σ (.t t0) = some (.one (.c (.ptr j 0)))) (hb : St.get σ (.b j) = some (.box cs)) (hl : cs.length = m) (hok : cs.all CV.oneOk = true) (hi : cs.flatMap CV.ids = []) (hj : Nat.beq j EXT = false) (hmc : Nat.ble j EXT = true) : ResX P rs σ (.one (.agg cs))
def finD (P : Program) (rs : List ResultVar) (pre : Bool) (R : X → List CV → Prop) : Exit → St → Prop
  | .normal, σ | .ret, σ => ∃ σ', (∀ n, Wk n σ σ') ∧ ∃ x cs', ResX P rs σ' x ∧ (pre = true → St.get σ' (.b EXT) = some (.box cs') ∧ cs'.flatMap CV.ids = []) ∧ R x cs'
  | _, _ => False

def resRun (a : Act) : ResultVar → Sem Value
  | .tmp t => pure (a.tmps.getD t undef)
  | .cell x t => do loadVar t (← asAddr (a.tmps.getD x undef))
theorem run_resOf {P : Program} {n : Nat} {C : Ctx} {who : Nat → Tag} {σ : St} {a : Act} {w : World} (hr : Rep n C who σ a w) {r : ResultVar} {A : A1} (h : resOf P σ r = some A) (hn : A.noOwn = true) (hok : A.cells.all CV.oneOk = true) :
    ∃ v, (resRun a r).run P w = .ok v w ∧ ∀ k p, A1m w who k p A v := by
  cases r with
  | tmp t =>
    simp only [resOf] at h
    split at h
    · rename_i A' e
      injection h with h; subst h
      exact ⟨_, rfl, fun k p => A1m.re hn (hr.slot t _ e)⟩
    · cases h
  | cell x T =>
    simp only [resOf] at h
    split at h
    · rename_i j q e
      obtain ⟨b, eb, hb⟩ := hr.slot x _ e
      have eb' : a.tmps.getD x undef = .pointer (some ⟨b, q, none⟩) := eb
      cases hmc : Nat.ble j EXT
      · rw [hmc] at h; cases h
      rw [hmc, cond_true] at h
      split at h
      · rename_i cs m e1 e2
        obtain ⟨vs, E, h1, h2, h3, h4⟩ := box_cell hr hb e1 hmc
        obtain ⟨c, hc, rfl⟩ := Option.map_eq_some_iff.1 h
        have hq : q < vs.length := by rw [h2]; exact (List.getElem?_eq_some_iff.1 hc).1
        have hv := List.getElem?_eq_getElem hq
        refine ⟨vs[q], ?_, fun k p => cvm.re (p := .own (.b j) 0 q) hn (h4 q c _ hc hv)⟩
        have := run_load1 e2 (h3 q _ hv)
        simp only [Instr.loadAt, Instr.sureAddr, Sem.run_bind, Sem.run_pure, Result.andThen_ok] at this
        simp [resRun, eb', asAddr, this]
      · rename_i cs m e1 e2
        obtain ⟨vs, E, h1, h2, h3, h4⟩ := box_cell hr hb e1 hmc
        cases hbq : Nat.beq ((cs.drop q).take m).length m
        · rw [hbq] at h; cases h
        · rw [hbq] at h
          simp only [cond_true, Option.some.injEq] at h
          subst h
          have hl := Nat.eq_of_beq_eq_true hbq
          have hlen : ((vs.drop q).take m).length = m := by simp [List.length_take, List.length_drop] at hl ⊢; omega
          have := run_loadN e2 (b := b) (q := q) (w := w) hlen fun i v hv => by
            rw [List.getElem?_take] at hv
            split at hv
            · rw [List.getElem?_drop] at hv; exact h3 _ v hv
            · cases hv
          simp only [Instr.loadAt, Instr.sureAddr, Sem.run_bind, Sem.run_pure, Result.andThen_ok] at this
          refine ⟨.agg ((vs.drop q).take m).toArray, by simp [resRun, eb', asAddr, this], fun k p => ⟨_, rfl, by rw [hl, hlen], fun i c v hc hv => ?_⟩⟩
          have hnc := List.all_eq_true.1 hn c (List.mem_of_getElem? hc)
          have hok' := List.all_eq_true.1 hok c (List.mem_of_getElem? hc)
          rw [List.getElem?_take] at hv hc
          split at hv
          · rename_i him
            rw [if_pos him, List.getElem?_drop] at hc
            rw [List.getElem?_drop] at hv
            have h5 := h4 _ c v hc hv
            exact ⟨cvm.re hnc h5, cvm.one hok' h5⟩
          · cases hv
      · cases h
    · cases h

theorem run_results {P : Program} {n : Nat} {C : Ctx} {who : Nat → Tag} {σ : St} {a : Act} {w : World} (hr : Rep n C who σ a w) : ∀ {rs : List ResultVar} {as : List A1}, rs.mapM (resOf P σ) = some as → as.all (fun A => A.noOwn && A.cells.all CV.oneOk) = true →
    ∃ vs : List Value, (rs.mapM (resRun a)).run P w = .ok vs w ∧ vs.length = as.length ∧ ∀ (p : Nat) (A : A1) (v : Value), as[p]? = some A → vs[p]? = some v → ∀ k p', A1m w who k p' A v
  | [], as, h, _ => by
    simp at h; subst h
    exact ⟨[], by simp, rfl, by simp⟩
  | r :: rs, as, h, hn => by
    simp only [List.mapM_cons, Option.bind_eq_bind, Option.bind_eq_some_iff] at h
    obtain ⟨A, hA, as', has, e⟩ := h
    simp at e; subst e
    simp only [List.all_cons, Bool.and_eq_true] at hn
    obtain ⟨v, hv, hm⟩ := run_resOf hr hA hn.1.1 hn.1.2
    obtain ⟨vs, hvs, hl, hms⟩ := run_results hr has hn.2
    refine ⟨v :: vs, ?_, by simp [hl], fun p A' v' hp hv' => ?_⟩
    · rw [List.mapM_cons, Sem.run_bind, hv]
      simp only [Result.andThen_ok, Sem.run_bind, hvs, Sem.run_pure]
    · cases p with
      | zero => simp at hp hv'; subst hp hv'; exact hm
      | succ p => exact hms p A' v' (by simpa using hp) (by simpa using hv')

open Classical in
/-- the tags that a call leaves -/
noncomputable def outTag (who : Nat → Tag) (r : Option Key) : Nat → Tag := fun b => match who b with
  | .froz => .froz
  | .other => .other
  | .bx j => if j = EXT then .bx j else .other
  | .own k p q => if k = .b EXT then .own k p q else if r = some k ∧ p = 0 then .own (.t 0) 0 q else .other

theorem ent_get {t : Nat} {x : X} {pre : Option (List CV)} : ∀ {args : List A1} {i : Nat}, St.get (ent i args ++ entB pre) (.t t) = some x → i ≤ t ∧ ∃ A, args[t - i]? = some A ∧ x = .one A
  | [], i, h => by
    cases pre <;> simp [ent, entB, St.get, Key.is] at h
  | A :: l, i, h => by
    simp only [ent, List.cons_append, St.get] at h
    cases e : Key.is (.t i) (.t t)
    · rw [e] at h
      obtain ⟨h1, A', h2, h3⟩ := ent_get (i := i + 1) h
      refine ⟨by omega, A', ?_, h3⟩
      rw [show t - i = (t - (i + 1)) + 1 by omega]; simpa using h2
    · rw [e] at h
      have := Key.is_iff.1 e
      injection this with this; subst this
      simp only [cond_true, Option.some.injEq] at h
      exact ⟨Nat.le_refl _, A, by simp, h.symm⟩
theorem ent_getB {j : Nat} {x : X} {pre : Option (List CV)} : ∀ {args : List A1} {i : Nat}, St.get (ent i args ++ entB pre) (.b j) = some x → j = EXT ∧ ∃ cs, pre = some cs ∧ x = .box cs
  | [], i, h => by
    cases pre with
    | none => simp [ent, entB, St.get] at h
    | some cs =>
      simp only [ent, List.nil_append, entB, St.get] at h
      cases e : Key.is (.b EXT) (.b j)
      · rw [e] at h; simp at h
      · rw [e] at h
        have := Key.is_iff.1 e
        injection this with this
        simp only [cond_true, Option.some.injEq] at h
        exact ⟨this.symm, cs, rfl, h.symm⟩
  | A :: l, i, h => by
    simp only [ent, List.cons_append, St.get] at h
    rw [Key.is_ne (by simp)] at h
    exact ent_getB (i := i + 1) h

theorem cvm.tr6 {w : World} {who who2 : Nat → Tag} {p p2 : Tag} {c : CV} {u : Value} (h : cvm w who p c u) (hf : ∀ b, who b = .froz → who2 b = .froz) (hp : ∀ k, who k = p → who2 k = p2) (hi : c.ids = []) : cvm w who2 p2 c u := by
  cases c with
  | any => trivial
  | val v => exact h
  | arr ds => exact rd.wide h fun b _ hb => hf b hb
  | own E m ds => exact ⟨h.1.wide (fun b _ hb => hf b hb) (Nat.le_refl _), fun k hk => hp k (h.2 k hk)⟩
  | ownK v E m ds => exact ⟨h.1, h.2.1.wide (fun b _ hb => hf b hb) (Nat.le_refl _), fun k hk => hp k (h.2.2 k hk)⟩
  | ptr j o => simp [CV.ids] at hi
  | mp j => simp [CV.ids] at hi
  | mc es c => trivial
  | ms => trivial
  | mh v => trivial
  | full ds => exact ⟨h.1, rd.wide h.2 fun b _ hb => hf b hb⟩
  | sl j n => simp [CV.ids] at hi
  | psl j n => simp [CV.ids] at hi
  | fnv f caps =>
    obtain ⟨vs, rfl, hl, h⟩ := h
    exact ⟨vs, rfl, hl, fun i cs v hi hv => (h i cs v hi hv).tags hf⟩
  | isF v cs => exact ⟨h.1, h.2.tags hf⟩
  | isP v j n => simp [CV.ids] at hi
  | isB v j => simp [CV.ids] at hi
  | fp cs =>
    obtain ⟨b, o, rfl, hb, hc⟩ := h
    exact ⟨b, o, rfl, hf b hb, fun i c hi => by
      obtain ⟨x, h1, h2⟩ := hc i c hi
      exact ⟨x, h1, h2.keep (Nat.le_refl _) (fun b _ hb => hf b hb) (fun _ _ _ => rfl)⟩⟩
theorem Fn.of {P : Program} {f : FuncId} {fn : Func} {c : Code} {n : Nat} {args : List A1} {pre : Option (List CV)} {R : X → List CV → Prop} {rs : List ResultVar} (hf : P.funcs[f]? = some fn) (hb : fn.body = some c) (hn : fn.ntmps = n)
    (hrs : fn.results = rs.toArray) (hl : args.length ≤ n) (h : dwp P n c (finD P rs pre.isSome R) (ent 0 args ++ entB pre)) : Fn P f args pre R := by
  intro who w vs ⟨hfz, hgl⟩ hbu hin hlen hargs hbox
  refine calls_of_wp hf hb ?_
  have hr0 : Rep n ⟨w, who, hgl⟩ who (ent 0 args ++ entB pre) { tmps := vs.toArray ++ Array.replicate (fn.ntmps - vs.toArray.size) undef, defers := [] } w := by
    refine ⟨rfl, by simp [hn]; omega, fun b j hb => ?_, ⟨rfl, rfl, rfl, Nat.le_refl _, fun _ _ _ => rfl, fun _ _ _ => rfl⟩, hfz, hbu, fun t x hx => ?_, fun j cs hx => ?_⟩
    · have := hin b
      rw [show who b = .bx j from hb] at this; exact this
    · obtain ⟨_, A, hA, rfl⟩ := ent_get hx
      simp only [Nat.sub_zero] at hA
      have ht : t < vs.length := by rw [hlen]; exact (List.getElem?_eq_some_iff.1 hA).1
      have hv := List.getElem?_eq_getElem ht
      have : (vs.toArray ++ Array.replicate (fn.ntmps - vs.toArray.size) undef).getD t undef = vs[t] := by
        simp [Array.getElem?_append, ht]
      rw [this]
      exact hargs t A _ hA hv
    · obtain ⟨rfl, cs', hcs, e⟩ := ent_getB hx
      injection e with e; subst e
      exact hbox _ hcs
  refine wp_mono (h ⟨w, who, hgl⟩ who _ w hr0) fun e a w' ⟨who', σ', hr', hq⟩ => ?_
  have key : ∀ (σ' : St) (who' : Nat → Tag) (_ : Rep n ⟨w, who, hgl⟩ who' σ' a w') x cs', ResX P rs σ' x → (pre.isSome = true → St.get σ' (.b EXT) = some (.box cs') ∧ cs'.flatMap CV.ids = []) → R x cs' → a.defers = [] ∧ ∃ v, (results fn a.tmps).run P w' = .ok v w' ∧
      ∃ v' x cs' who', Ending.returned v = .returned v' ∧ R x cs' ∧ x.ids = [] ∧ Xm w' who' (.t 0) x v' ∧ (pre.isSome = true → cs'.flatMap CV.ids = [] ∧ Boxm w' who' EXT cs') ∧ Adv ⟨w, who, hgl⟩ who' w' ∧
        (∀ b, who' b ≠ .other → b < w'.heap.size) ∧ (∀ b b' j, who' b = .bx j → who' b' = .bx j → b = b') := by
    intro σ' who' hr' x cs' hx hbx hR
    refine ⟨hr'.nd, ?_⟩
    have hmap : ∀ vs : List Value, (rs.mapM (resRun a)).run P w' = .ok vs w' →
        (results fn a.tmps).run P w' = .ok (if h : vs.length = 1 then vs[0] else .tuple vs.toArray) w' := by
      intro vs hvs
      have e0 : results fn a.tmps = (do let vs ← fn.results.mapM (resRun a); pure (if h : vs.size = 1 then vs[0] else .tuple vs) : Sem Value) := rfl
      rw [e0, hrs, List.mapM_toArray]
      simp only [Sem.run_bind, Sem.run_map]
      have : (rs.mapM (resRun a)).run P w' = .ok vs w' := hvs
      rw [this]
      simp
    cases hx with
    | all as has hnn hii =>
      obtain ⟨vs, hvs, hvl, hvm⟩ := run_results hr' has hnn
      refine ⟨_, hmap vs hvs, _, _, cs', who', rfl, hR, hii, ?_, fun hp => ⟨(hbx hp).2, hr'.box EXT cs' (hbx hp).1⟩, hr'.adv, hr'.fz, hr'.bxu⟩
      match as, vs, hvl with
      | [], [], _ => exact ⟨[], rfl, rfl, by simp⟩
      | [A], [v], _ => exact hvm 0 A v rfl rfl _ _
      | A :: B :: as, v :: u :: vs, hvl =>
        exact ⟨v :: u :: vs, by simp, hvl, fun p A' v' hp hv' => hvm p A' v' hp hv' _ _⟩
    | own t E m ds hrt hs =>
      subst hrt
      have hxs := hr'.slot t _ hs
      obtain ⟨g1, g2⟩ : Own w' 0 E m (Fz who') (a.tmps.getD t undef) ds ∧ ∀ k, (a.tmps.getD t undef).ownBlock = some k → who' k = .own (.t t) 0 0 := hxs
      have hres := hmap [a.tmps.getD t undef] (by simp [resRun])
      simp only [List.length_cons, List.length_nil, Nat.zero_add, dite_true, List.getElem_cons_zero] at hres
      have hfzo : ∀ b, Fz who' b → Fz (outTag who' (some (.t t))) b := fun b hb => by
        have hb' : who' b = .froz := hb
        show outTag who' (some (.t t)) b = .froz
        simp [outTag, hb']
      have hne : ∀ b, outTag who' (some (.t t)) b ≠ .other → who' b ≠ .other := fun b hb h0 => hb (by simp [outTag, h0])
      have hbxo : ∀ b j, outTag who' (some (.t t)) b = .bx j → who' b = .bx j ∧ j = EXT := fun b j hb => by
        unfold outTag at hb
        split at hb
        · cases hb
        · cases hb
        · split at hb
          · rename_i i e hj; injection hb with hb; subst hb; exact ⟨e, hj⟩
          · cases hb
        · split at hb
          · cases hb
          · split at hb <;> cases hb
      have hstp : Stp who' w' (outTag who' (some (.t t))) w' (fun _ => False) (fun b => outTag who' (some (.t t)) b ≠ who' b) :=
        ⟨rfl, rfl, rfl, Nat.le_refl _, fun _ _ _ => rfl, fun b _ hb => Classical.not_not.1 hb, fun _ h => h.elim, fun b hb h0 => hb (by simp [outTag, h0])⟩
      refine ⟨_, hres, _, _, cs', outTag who' (some (.t t)), rfl, hR, rfl, ⟨g1.wide (fun b _ hb => hfzo b hb) (Nat.le_refl _), fun k hk => by simp [outTag, g2 k hk]⟩, fun hp => ⟨(hbx hp).2, fun b hb => ?_⟩, ?_, fun b hb => hr'.fz b (hne b hb), fun b b' j hb hb' => hr'.bxu b b' j (hbxo b j hb).1 (hbxo b' j hb').1⟩
      · obtain ⟨vs, E', h1, h2⟩ := hr'.box EXT cs' (hbx hp).1 b (hbxo b EXT hb).1
        refine ⟨vs, E', h1, cellsm.stp h2 hstp hr'.fz (fun q b' hb' => ⟨fun h => h, fun hG => hG (by simp [outTag, hb'])⟩) fun j hj b' hb' hG => ?_⟩
        rw [(hbx hp).2] at hj; cases hj
      · refine ⟨hr'.adv.os, hr'.adv.tape, hr'.adv.output, hr'.adv.size, hr'.adv.keep, fun b hb ho => ?_⟩
        have := hr'.adv.tag b hb ho
        rcases ho with ho | ho | ⟨j, ho⟩
        · rw [ho] at this ⊢; simp [outTag, this]
        · rw [ho] at this ⊢; simp [outTag, this]
        · have hj := hr'.ext b j ho
          rw [ho] at this ⊢; simp [outTag, this, hj]
    | aggB t0 T j m cs hrt hrow hsl hbb hl hok hi hj hmc =>
      subst hrt
      obtain ⟨b0, eb, hbw⟩ := hr'.slot t0 _ hsl
      have eb' : a.tmps.getD t0 undef = .pointer (some ⟨b0, 0, none⟩) := eb
      obtain ⟨vs, E, h1, h2, h3, h4⟩ := box_cell hr' hbw hbb hmc
      have hrunN := run_loadN hrow (b := b0) (q := 0) (w := w') (h2.trans hl) fun i v hv => by rw [Nat.zero_add]; exact h3 i v hv
      simp only [Instr.loadAt, Instr.sureAddr, Sem.run_bind, Sem.run_pure, Result.andThen_ok] at hrunN
      have hres := hmap [.agg vs.toArray] (by simp [resRun, eb', asAddr, hrunN])
      simp only [List.length_cons, List.length_nil, Nat.zero_add, dite_true, List.getElem_cons_zero] at hres
      have hjE : j ≠ EXT := fun e => by rw [e] at hj; simp at hj
      have hfzo : ∀ b, Fz who' b → Fz (outTag who' (some (.b j))) b := fun b hb => by
        have hb' : who' b = .froz := hb
        show outTag who' (some (.b j)) b = .froz
        simp [outTag, hb']
      have hne : ∀ b, outTag who' (some (.b j)) b ≠ .other → who' b ≠ .other := fun b hb h0 => hb (by simp [outTag, h0])
      have hbxo : ∀ b i, outTag who' (some (.b j)) b = .bx i → who' b = .bx i ∧ i = EXT := fun b i hb => by
        unfold outTag at hb
        split at hb
        · cases hb
        · cases hb
        · split at hb
          · rename_i i e hj; injection hb with hb; subst hb; exact ⟨e, hj⟩
          · cases hb
        · split at hb
          · cases hb
          · split at hb <;> cases hb
      have hstp : Stp who' w' (outTag who' (some (.b j))) w' (fun _ => False) (fun b => outTag who' (some (.b j)) b ≠ who' b) :=
        ⟨rfl, rfl, rfl, Nat.le_refl _, fun _ _ _ => rfl, fun b _ hb => Classical.not_not.1 hb, fun _ h => h.elim, fun b hb h0 => hb (by simp [outTag, h0])⟩
      refine ⟨_, hres, _, _, cs', outTag who' (some (.b j)), rfl, hR, hi, ⟨vs, rfl, h2, fun q c v hc hv => ?_⟩, fun hp => ⟨(hbx hp).2, fun b hb => ?_⟩, ?_, fun b hb => hr'.fz b (hne b hb), fun b b' i hb hb' => hr'.bxu b b' i (hbxo b i hb).1 (hbxo b' i hb').1⟩
      · have h5 := h4 q c v hc hv
        have h6 := cvm.tr6 (who2 := outTag who' (some (.b j))) (p2 := .own (.t 0) 0 q) h5 (fun b hb => hfzo b hb) (fun k hk => by simp [outTag, hk, hjE]) (List.flatMap_eq_nil_iff.1 hi c (List.mem_of_getElem? hc))
        exact ⟨h6, cvm.one (List.all_eq_true.1 hok c (List.mem_of_getElem? hc)) h5⟩
      · obtain ⟨vs, E', h1, h2⟩ := hr'.box EXT cs' (hbx hp).1 b (hbxo b EXT hb).1
        refine ⟨vs, E', h1, cellsm.stp h2 hstp hr'.fz (fun q b' hb' => ⟨fun h => h, fun hG => hG (by simp [outTag, hb'])⟩) fun j hj b' hb' hG => ?_⟩
        rw [(hbx hp).2] at hj; cases hj
      · refine ⟨hr'.adv.os, hr'.adv.tape, hr'.adv.output, hr'.adv.size, hr'.adv.keep, fun b hb ho => ?_⟩
        have := hr'.adv.tag b hb ho
        rcases ho with ho | ho | ⟨i, ho⟩
        · rw [ho] at this ⊢; simp [outTag, this]
        · rw [ho] at this ⊢; simp [outTag, this]
        · have hj := hr'.ext b i ho
          rw [ho] at this ⊢; simp [outTag, this, hj]
  cases e with
  | normal => obtain ⟨σ1, hw, x, cs', hx, hbx, hR⟩ := hq; obtain ⟨who1, hr1⟩ := hw n _ _ _ _ hr'; exact key σ1 who1 hr1 x cs' hx hbx hR
  | ret => obtain ⟨σ1, hw, x, cs', hx, hbx, hR⟩ := hq; obtain ⟨who1, hr1⟩ := hw n _ _ _ _ hr'; exact key σ1 who1 hr1 x cs' hx hbx hR
  | _ => exact hq.elim
end Go.Proofs.YtmanhdacnkpclaaGreatDoor

/- Walks over abstract states: calls. -/
namespace Go.Proofs.YtmanhdacnkpclaaGreatDoor
set_option linter.unusedVariables false
set_option linter.unusedSimpArgs false
open Go.RowKit

def enters (P : Program) (f : FuncId) : Bool := (P.funcs[f]?).any fun fn => fn.body.isSome && !(fn.name == "runtime.NumGoroutine")
theorem run_enters {P : Program} {f : FuncId} (h : enters P f = true) (args : Array Value) (w : World) : (callFunc f args).run P w = .ok (.enter f args) w := by
  unfold enters at h
  cases hf : P.funcs[f]? with
  | none => rw [hf] at h; simp at h
  | some fn =>
    rw [hf] at h
    simp only [Option.any_some, Bool.and_eq_true, Bool.not_eq_true'] at h
    have h2 : ¬ (fn.name = "runtime.NumGoroutine") := by
      have := h.2
      simpa using this
    cases hb : fn.body with
    | none => rw [hb] at h; simp at h
    | some c => simp [callFunc, hf, h2, hb]

def CV.ren (oj : Option Nat) : CV → CV
  | .ptr i o => if oj = some i then .ptr EXT o else .any
  | .mp i => if oj = some i then .mp EXT else .any
  | .sl i n => if oj = some i then .sl EXT n else .any
  | .psl i n => if oj = some i then .psl EXT n else .any
  | .isP v i n => if oj = some i then .isP v EXT n else .any
  | .isB v i => if oj = some i then .isB v EXT else .any
  | c => c
def A1.ren (oj : Option Nat) : A1 → A1
  | .c x => .c (x.ren oj)
  | .agg cs => .agg (cs.map (CV.ren oj))
/-- the tags as the callee sees them -/
def inTags (oj : Option Nat) (who : Nat → Tag) : Nat → Tag := fun b => match who b with
  | .froz => .froz
  | .bx j => if oj = some j then .bx EXT else .other
  | .own (.b j) p q => if oj = some j then .own (.b EXT) p q else .other
  | _ => .other
/-- the tags as the caller sees them afterwards -/
def backOne (oj : Option Nat) (d : Nat) : Tag → Tag
  | .froz => .froz
  | .own (.t 0) p q => .own (.t d) p q
  | .own (.b _) p q => match oj with | some j => .own (.b j) p q | none => .other
  | .bx i => match oj with | some j => if i = EXT then .bx j else .other | none => .other
  | _ => .other
def backTags (oj : Option Nat) (d sz : Nat) (who who' : Nat → Tag) : Nat → Tag := fun b =>
  match decide (b < sz), inTags oj who b with
  | true, .other => who b
  | _, _ => backOne oj d (who' b)

theorem inTags_froz {oj : Option Nat} {who : Nat → Tag} {b : Nat} : inTags oj who b = .froz ↔ who b = .froz := by
  unfold inTags
  split
  · rename_i h; simp [h]
  · rename_i j h; rw [h]; split <;> simp
  · rename_i j p q h; rw [h]; split <;> simp
  · rename_i h1 h2 h3
    constructor
    · intro h; cases h
    · intro h; exact absurd h h1
theorem inTags_bx {oj : Option Nat} {who : Nat → Tag} {b j : Nat} (h : inTags oj who b = .bx j) : j = EXT ∧ ∃ i, oj = some i ∧ who b = .bx i := by
  unfold inTags at h
  split at h
  · cases h
  · rename_i i hi
    split at h
    · rename_i ho; injection h with h; exact ⟨h.symm, i, ho, hi⟩
    · cases h
  · split at h <;> cases h
  · cases h
theorem inTags_own {oj : Option Nat} {who : Nat → Tag} {b : Nat} {k : Key} {p q : Nat} (h : inTags oj who b = .own k p q) : k = .b EXT ∧ ∃ i, oj = some i ∧ who b = .own (.b i) p q := by
  unfold inTags at h
  split at h
  · cases h
  · split at h <;> cases h
  · rename_i i p' q' hi
    split at h
    · rename_i ho; injection h with h1 h2 h3; subst h2 h3; exact ⟨h1.symm, i, ho, hi⟩
    · cases h
  · cases h
theorem inTags_other {oj : Option Nat} {who : Nat → Tag} {b : Nat} (h : who b = .other) : inTags oj who b = .other := by simp [inTags, h]

theorem cvm.tr {w : World} {who who2 : Nat → Tag} {p p2 : Tag} {c : CV} {u : Value} (h : cvm w who p c u) (hf : ∀ b, who b = .froz → who2 b = .froz) (hp : ∀ k, who k = p → who2 k = p2) (hi : c.ids = []) : cvm w who2 p2 c u := by
  cases c with
  | any => trivial
  | val v => exact h
  | arr ds => exact rd.wide h fun b _ hb => hf b hb
  | own E m ds => exact ⟨h.1.wide (fun b _ hb => hf b hb) (Nat.le_refl _), fun k hk => hp k (h.2 k hk)⟩
  | ownK v E m ds => exact ⟨h.1, h.2.1.wide (fun b _ hb => hf b hb) (Nat.le_refl _), fun k hk => hp k (h.2.2 k hk)⟩
  | ptr j o => simp [CV.ids] at hi
  | mp j => simp [CV.ids] at hi
  | mc es c => trivial
  | ms => trivial
  | mh v => trivial
  | full ds => exact ⟨h.1, rd.wide h.2 fun b _ hb => hf b hb⟩
  | sl j n => simp [CV.ids] at hi
  | psl j n => simp [CV.ids] at hi
  | fnv f caps =>
    obtain ⟨vs, rfl, hl, h⟩ := h
    exact ⟨vs, rfl, hl, fun i cs v hi hv => (h i cs v hi hv).tags hf⟩
  | isF v cs => exact ⟨h.1, h.2.tags hf⟩
  | isP v j n => simp [CV.ids] at hi
  | isB v j => simp [CV.ids] at hi
  | fp cs =>
    obtain ⟨b, o, rfl, hb, hc⟩ := h
    exact ⟨b, o, rfl, hf b hb, fun i c hi => by
      obtain ⟨x, h1, h2⟩ := hc i c hi
      exact ⟨x, h1, h2.keep (Nat.le_refl _) (fun b _ hb => hf b hb) (fun _ _ _ => rfl)⟩⟩
theorem A1m.tr {w : World} {who who2 : Nat → Tag} {k k2 : Key} {p p2 : Nat} {A : A1} {u : Value} (h : A1m w who k p A u) (hf : ∀ b, who b = .froz → who2 b = .froz) (hp : ∀ q b, who b = .own k p q → who2 b = .own k2 p2 q) (hi : A.ids = []) : A1m w who2 k2 p2 A u := by
  cases A with
  | c x => exact cvm.tr h hf (hp 0) hi
  | agg cs =>
    obtain ⟨vs, rfl, hl, hc⟩ := h
    refine ⟨vs, rfl, hl, fun q c v hq hv => ⟨cvm.tr (hc q c v hq hv).1 hf (hp q) ?_, (hc q c v hq hv).2⟩⟩
    exact List.flatMap_eq_nil_iff.1 hi c (List.mem_of_getElem? hq)
theorem Xm.tr {w : World} {who who2 : Nat → Tag} {k k2 : Key} {x : X} {u : Value} (h : Xm w who k x u) (hf : ∀ b, who b = .froz → who2 b = .froz) (hp : ∀ p q b, who b = .own k p q → who2 b = .own k2 p q) (hi : x.ids = []) : Xm w who2 k2 x u := by
  cases x with
  | one a => exact A1m.tr h hf (hp 0) hi
  | tup as =>
    obtain ⟨us, rfl, hl, hc⟩ := h
    refine ⟨us, rfl, hl, fun p a v hq hv => A1m.tr (hc p a v hq hv) hf (hp p) ?_⟩
    exact List.flatMap_eq_nil_iff.1 hi a (List.mem_of_getElem? hq)
  | box cs => trivial

/-- an argument as the callee sees it -/
theorem cvm.ren {w : World} {who : Nat → Tag} {oj : Option Nat} {p p2 : Tag} {c : CV} {u : Value} (h : cvm w who p c u) (hn : c.noOwn = true ∨ ∀ b, who b = p → inTags oj who b = p2) : cvm w (inTags oj who) p2 (c.ren oj) u := by
  cases c with
  | any => trivial
  | val v => exact h
  | arr ds => exact rd.wide h fun b _ hb => inTags_froz.2 hb
  | own E m ds =>
    rcases hn with hn | hn
    · simp [CV.noOwn] at hn
    · exact ⟨h.1.wide (fun b _ hb => inTags_froz.2 hb) (Nat.le_refl _), fun k hk => hn k (h.2 k hk)⟩
  | ownK v E m ds =>
    rcases hn with hn | hn
    · simp [CV.noOwn] at hn
    · exact ⟨h.1, h.2.1.wide (fun b _ hb => inTags_froz.2 hb) (Nat.le_refl _), fun k hk => hn k (h.2.2 k hk)⟩
  | ptr j o =>
    simp only [CV.ren]
    split
    · rename_i hj
      obtain ⟨b, rfl, hb⟩ := h
      exact ⟨b, rfl, by simp [inTags, hb, hj]⟩
    · trivial
  | mp j =>
    simp only [CV.ren]
    split
    · rename_i hj
      obtain ⟨b, rfl, hb⟩ := h
      exact ⟨b, rfl, by simp [inTags, hb, hj]⟩
    · trivial
  | mc es c => trivial
  | ms => trivial
  | mh v => trivial
  | full ds => exact ⟨h.1, rd.wide h.2 fun b _ hb => inTags_froz.2 hb⟩
  | sl j n =>
    simp only [CV.ren]
    split
    · rename_i hj
      obtain ⟨b, cap, rfl, hcap, hb⟩ := h
      exact ⟨b, cap, rfl, hcap, by simp [inTags, hb, hj]⟩
    · trivial
  | psl j n =>
    simp only [CV.ren]
    split
    · rename_i hj
      obtain ⟨b, o, b', cap, rfl, h1, h2, hcap, hb⟩ := h
      exact ⟨b, o, b', cap, rfl, inTags_froz.2 h1, h2, hcap, by simp [inTags, hb, hj]⟩
    · trivial
  | fnv f caps =>
    obtain ⟨vs, rfl, hl, h⟩ := h
    exact ⟨vs, rfl, hl, fun i cs v hi hv => (h i cs v hi hv).tags fun b hb => inTags_froz.2 hb⟩
  | isF v cs => exact ⟨h.1, h.2.tags fun b hb => inTags_froz.2 hb⟩
  | isP v j n =>
    simp only [CV.ren]
    split
    · rename_i hj
      obtain ⟨h0, b, o, b', cap, rfl, h1, h2, hcap, hb⟩ := h
      exact ⟨h0, b, o, b', cap, rfl, inTags_froz.2 h1, h2, hcap, by simp [inTags, hb, hj]⟩
    · trivial
  | isB v j =>
    simp only [CV.ren]
    split
    · rename_i hj
      obtain ⟨h0, b, rfl, hb⟩ := h
      exact ⟨h0, b, rfl, by simp [inTags, hb, hj]⟩
    · trivial
  | fp cs =>
    obtain ⟨b, o, rfl, hb, hc⟩ := h
    exact ⟨b, o, rfl, inTags_froz.2 hb, fun i c hi => by
      obtain ⟨x, h1, h2⟩ := hc i c hi
      exact ⟨x, h1, h2.keep (Nat.le_refl _) (fun b _ hb => inTags_froz.2 hb) (fun _ _ _ => rfl)⟩⟩
theorem A1m.ren {w : World} {who : Nat → Tag} {oj : Option Nat} {k k2 : Key} {p p2 : Nat} {A : A1} {u : Value} (h : A1m w who k p A u) (hn : A.noOwn = true) : A1m w (inTags oj who) k2 p2 (A.ren oj) u := by
  cases A with
  | c x => exact cvm.ren h (.inl hn)
  | agg cs =>
    obtain ⟨vs, rfl, hl, hc⟩ := h
    refine ⟨vs, rfl, by simp [hl], fun q c v hq hv => ?_⟩
    rw [List.getElem?_map, Option.map_eq_some_iff] at hq
    obtain ⟨c0, hc0, rfl⟩ := hq
    exact ⟨cvm.ren (hc q c0 v hc0 hv).1 (.inl (List.all_eq_true.1 hn c0 (List.mem_of_getElem? hc0))), (hc q c0 v hc0 hv).2⟩

def argsOf (σ : St) : List Operand → Option (List A1)
  | [] => some []
  | s :: r => match St.ev σ s, argsOf σ r with
    | some (.one A), some l => some (A :: l)
    | _, _ => none
theorem argsOf_at {σ : St} : ∀ {xs : List Operand} {As : List A1}, argsOf σ xs = some As → xs.length = As.length ∧ ∀ (i : Nat) (A : A1) (s : Operand), As[i]? = some A → xs[i]? = some s → St.ev σ s = some (.one A)
  | [], As, h => by simp only [argsOf, Option.some.injEq] at h; subst h; simp
  | s :: r, As, h => by
    simp only [argsOf] at h
    split at h
    · rename_i A l e1 e2
      injection h with h; subst h
      obtain ⟨h1, h2⟩ := argsOf_at e2
      refine ⟨by simp [h1], fun i A' s' hi hs => ?_⟩
      cases i with
      | zero => simp at hi hs; subst hi hs; exact e1
      | succ i => exact h2 i A' s' (by simpa using hi) (by simpa using hs)
    · cases h

section
variable {P : Program} {n : Nat} {o : Oper} {σ : St}

def boxEnt (oj : Option Nat) (cs : List CV) : St := match oj with | some j => [(.b j, some (.box cs))] | none => []
def boxKeys (oj : Option Nat) : List Key := match oj with | some j => [.b j] | none => []
/-- what a callee is handed, where it is handed a box -/
def boxPre (oj : Option Nat) (σ : St) : Option (Option (List CV)) := match oj with
  | none => some none
  | some j => match St.get σ (.b j) with
    | some (.box cs) => some (some (cs.map (CV.ren oj)))
    | _ => none

theorem back_bx {oj : Option Nat} {d sz b i : Nat} {who who' : Nat → Tag} (h : backTags oj d sz who who' b = .bx i) : (b < sz ∧ inTags oj who b = .other ∧ who b = .bx i) ∨ (oj = some i ∧ who' b = .bx EXT) := by
  unfold backTags at h
  split at h
  · rename_i h1 h2; exact .inl ⟨by simpa using h1, h2, h⟩
  · right
    unfold backOne at h
    split at h
    · cases h
    · cases h
    · split at h <;> cases h
    · rename_i i' h3
      split at h
      · split at h
        · rename_i he; injection h with h; subst h; exact ⟨rfl, by rw [h3, he]⟩
        · cases h
      · cases h
    · cases h
theorem back_ne {oj : Option Nat} {d sz b : Nat} {who who' : Nat → Tag} (h : backTags oj d sz who who' b ≠ .other) : (b < sz ∧ who b ≠ .other) ∨ who' b ≠ .other := by
  unfold backTags at h
  split at h
  · rename_i h1 h2; exact .inl ⟨by simpa using h1, h⟩
  · right
    intro h3
    rw [h3] at h
    exact h rfl
theorem back_of {oj : Option Nat} {d sz b : Nat} {who who' : Nat → Tag} (h : ¬ (b < sz ∧ inTags oj who b = .other)) : backTags oj d sz who who' b = backOne oj d (who' b) := by
  unfold backTags
  split
  · rename_i h1 h2; exact absurd ⟨by simpa using h1, h2⟩ h
  · rfl
theorem back_old {oj : Option Nat} {d sz b : Nat} {who who' : Nat → Tag} (h1 : b < sz) (h2 : inTags oj who b = .other) : backTags oj d sz who who' b = who b := by
  unfold backTags
  simp only [h1, decide_true, h2]

theorem op_callX {d : Nat} {f : FuncId} {fo : Operand} {xs : Array Operand} {ts : Array TypeId} {As caps args : List A1} {pre : Option (List CV)} {x : X} {cs : List CV} (ks : List Key) (oj : Option Nat) (hd : o.dst = some d) (ho : o.op = .call { callee := .value fo, args := xs, argTypes := ts })
    (hval : ∀ σ', (∀ k ∈ ks, St.get σ' k = St.get σ k) → ∀ C who a w, Rep n C who σ' a w → ∃ us : List Value, a.eval fo = .func (.func f) #[] us.toArray ∧ us.length = caps.length ∧ ∀ (i : Nat) (A : A1) (v : Value), caps[i]? = some A → us[i]? = some v → A1m w who (.t 0) 0 A v)
    (hf : enters P f = true) (hF : Fn P f args pre (fun x' cs' => x' = x ∧ (pre.isSome = true → cs' = cs))) (hA : argsOf σ xs.toList = some As) (hn : (As ++ caps).all A1.noOwn = true) (hren : (As ++ caps).map (A1.ren oj) = args) (hpre : boxPre oj σ = some pre) (hx : x.ids = []) (hcs : cs.flatMap CV.ids = []) (hoj : oj.all (fun j => Nat.ble j EXT) = true := by rfl) :
    Op1 P n o ⟨xs.toList.flatMap opKey ++ (ks ++ boxKeys oj), .t d :: boxKeys oj, []⟩ σ ((.t d, some x) :: boxEnt oj cs) where
  does := fun σ' hag hal C who a w hr hdst K Q hK => by
    have hdn := hdst d hd
    obtain ⟨hl, hat⟩ := argsOf_at hA
    have hpre' : boxPre oj σ' = some pre := by
      rw [← hpre]
      cases oj with
      | none => rfl
      | some j => simp only [boxPre, hag (.b j) (by simp [boxKeys])]
    obtain ⟨us, hus, hul, hua⟩ := hval σ' (fun k hk => hag k (List.mem_append_right _ (List.mem_append_left _ hk))) C who a w hr
    have hrun : (execOp a.eval o).run P w = .ok (.enter f (xs.map a.eval ++ us.toArray)) w := by
      simp [execOp, ho, resolve, hus, Deferred.ofValue, invoke, run_enters hf]
    unfold Oper.wp
    rw [hrun]
    show Calls P f (xs.map a.eval ++ us.toArray) w _
    have hargs : (xs.map a.eval ++ us.toArray) = ((xs.toList.map a.eval ++ us).toArray) := by cases xs; simp
    rw [hargs]
    have hw := hF (inTags oj who) w (xs.toList.map a.eval ++ us) ⟨fun b hb => hr.fz b fun h => hb (inTags_other h), hr.adv.glob.step (Nat.le_refl _) fun b _ h => ⟨rfl, h.imp inTags_other inTags_froz.2⟩⟩
      (fun b b' j hb hb' => by
        obtain ⟨_, i, h1, h2⟩ := inTags_bx hb
        obtain ⟨_, i', h1', h2'⟩ := inTags_bx hb'
        rw [h1] at h1'; injection h1' with h1'; subst h1'
        exact hr.bxu b b' i h2 h2')
      (fun b => by
        cases e : inTags oj who b with
        | other => trivial
        | froz => trivial
        | bx j => exact (inTags_bx e).1
        | own k p q => exact (inTags_own e).1)
      (by rw [← hren]; simp [hl, hul])
      (fun i A v hi hv => by
        rw [← hren, List.getElem?_map, Option.map_eq_some_iff] at hi
        obtain ⟨A0, hA0, rfl⟩ := hi
        have hn0 := List.all_eq_true.1 hn A0 (List.mem_of_getElem? hA0)
        rcases Nat.lt_or_ge i As.length with hlt | hge
        · rw [List.getElem?_append_left hlt] at hA0
          rw [List.getElem?_append_left (by rw [List.length_map, hl]; exact hlt), List.getElem?_map, Option.map_eq_some_iff] at hv
          obtain ⟨s, hs, rfl⟩ := hv
          have h1 := hat i A0 s hA0 hs
          have h2 : A1m w who (opTag s) 0 A0 (a.eval s) := hr.ev ((ev_agree fun k hk => hag k (List.mem_append_left _ (List.mem_flatMap.2 ⟨s, List.mem_of_getElem? hs, hk⟩))).trans h1)
          exact h2.ren hn0
        · rw [List.getElem?_append_right hge] at hA0
          rw [List.getElem?_append_right (by rw [List.length_map, hl]; exact hge), List.length_map, hl] at hv
          exact (hua _ A0 v hA0 hv).ren hn0)
      (fun cs0 hcs0 b hb => by
        rw [bas_of (by decide)] at hb
        obtain ⟨_, j, hj, hbj⟩ := inTags_bx hb
        subst hj
        have hjm : Nat.ble j EXT = true := by simpa using hoj
        simp only [boxPre] at hpre'
        split at hpre'
        · rename_i cs1 e1
          rw [hcs0] at hpre'
          injection hpre' with hpre'; injection hpre' with hpre'; subst hpre'
          obtain ⟨vs, E, g1, g2, g3⟩ := hr.box j cs1 e1 b (by rw [bas_of (le_ext hjm)]; exact hbj)
          rw [isShp_of hjm] at g1
          refine ⟨vs, E, by rw [isShp_of (by decide)]; exact g1, by simp [g2], fun q c v hq hv => ?_⟩
          rw [List.getElem?_map, Option.map_eq_some_iff] at hq
          obtain ⟨c0, hc0, rfl⟩ := hq
          exact cvm.ren (g3 q c0 v hc0 hv) (.inr fun b' hb' => by simp [inTags, hb'])
        · cases hpre')
    refine hw.mono ?_
    rintro e w' ⟨v, x', cs', who', rfl, ⟨rfl, hcs'⟩, hxi, hxm, hbx, hadv, hfz, hbu⟩
    show K (a.put o.dst v) w'
    refine hK (backTags oj d w.heap.size who who') v w' ?_
    have hkeep : ∀ b, b < w.heap.size → (inTags oj who b = .other ∨ inTags oj who b = .froz) → w'.heap[b]? = w.heap[b]? := fun b hb h => hadv.keep b hb h
    have htag : ∀ b, b < w.heap.size → (inTags oj who b = .other ∨ inTags oj who b = .froz ∨ ∃ j, inTags oj who b = .bx j) → who' b = inTags oj who b := fun b hb h => hadv.tag b hb h
    have hnot : ∀ b, who' b ≠ .other → ¬ (b < w.heap.size ∧ inTags oj who b = .other) := fun b hb ⟨h1, h2⟩ => hb ((htag b h1 (.inl h2)).trans h2)
    have hfr : ∀ b, who' b = .froz → backTags oj d w.heap.size who who' b = .froz := fun b hb => by
      rw [back_of (hnot b (by rw [hb]; simp)), hb]; rfl
    have hcase : ∀ b, inTags oj who b = .other ∨ inTags oj who b = .froz ∨ (∃ j, oj = some j ∧ who b = .bx j ∧ inTags oj who b = .bx EXT) ∨ (∃ j p q, oj = some j ∧ who b = .own (.b j) p q) := fun b => by
      cases e : inTags oj who b with
      | other => exact .inl rfl
      | froz => exact .inr (.inl rfl)
      | bx j =>
        obtain ⟨h1, i, h2, h3⟩ := inTags_bx e
        subst h1; exact .inr (.inr (.inl ⟨i, h2, h3, rfl⟩))
      | own k p q =>
        obtain ⟨h1, i, h2, h3⟩ := inTags_own e
        exact .inr (.inr (.inr ⟨i, p, q, h2, h3⟩))
    have hstp : Stp who w (backTags oj d w.heap.size who who') w' (fun b => ∃ j, oj = some j ∧ (who b = .bx j ∨ ∃ p q, who b = .own (.b j) p q)) (fun b => ∃ j p q, oj = some j ∧ who b = .own (.b j) p q) := by
      refine ⟨hadv.os, hadv.tape, hadv.output, hadv.size, fun b hb hT => ?_, fun b hb hG => ?_, ?_, ?_⟩
      · rcases hcase b with h | h | ⟨j, h1, h2, _⟩ | ⟨j, p, q, h1, h2⟩
        · exact hkeep b hb (.inl h)
        · exact hkeep b hb (.inr h)
        · exact absurd ⟨j, h1, .inl h2⟩ hT
        · exact absurd ⟨j, h1, .inr ⟨p, q, h2⟩⟩ hT
      · rcases hcase b with h | h | ⟨j, h1, h2, h3⟩ | ⟨j, p, q, h1, h2⟩
        · exact back_old hb h
        · rw [hfr b ((htag b hb (.inr (.inl h))).trans h)]; exact (inTags_froz.1 h).symm
        · have h4 := (htag b hb (.inr (.inr ⟨_, h3⟩))).trans h3
          rw [back_of (hnot b (by rw [h4]; simp)), h4, h1, h2]; simp [backOne]
        · exact absurd ⟨j, p, q, h1, h2⟩ hG
      · rintro b ⟨j, _, h | ⟨p, q, h⟩⟩ <;> rw [h] <;> simp
      · rintro b ⟨j, p, q, _, h⟩; rw [h]; simp
    have hkill : Rep n C who (boxEnt oj [] ++ σ') a w → Rep n C who ((boxKeys oj).map (fun k => (k, none)) ++ σ') a w := fun _ => by
      cases oj with
      | none => exact hr
      | some j => exact hr.kill (.b j)
    have hr1 : Rep n C who ((boxKeys oj).map (fun k => (k, none)) ++ σ') a w := by
      cases oj with
      | none => exact hr
      | some j => exact hr.kill (.b j)
    clear hkill
    have hgone : ∀ j, oj = some j → St.get ((boxKeys oj).map (fun k => (k, none)) ++ σ') (.b j) = none := fun j hj => by subst hj; exact St.get_same
    have hr2 : Rep n C (backTags oj d w.heap.size who who') ((boxKeys oj).map (fun k => (k, none)) ++ σ') a w' := by
      refine hr1.stp hstp ?_ ?_ ?_ ?_ ?_ ?_ ?_ ?_
      · intro b hb ho'
        have htg := hr.adv.tag b hb (ho'.imp id .inl)
        constructor
        · rintro ⟨j, _, h | ⟨p, q, h⟩⟩ <;> rw [h] at htg <;> rcases ho' with ho' | ho' <;> rw [ho'] at htg <;> cases htg
        · rintro ⟨j, p, q, _, h⟩; rw [h] at htg; rcases ho' with ho' | ho' <;> rw [ho'] at htg <;> cases htg
      · rintro b i hb hi ⟨j, p, q, _, h⟩
        have htg := hr.adv.tag b hb (.inr (.inr ⟨i, hi⟩))
        rw [h, hi] at htg; cases htg
      · intro b hb
        rcases back_ne hb with ⟨h1, _⟩ | h
        · exact Nat.lt_of_lt_of_le h1 hadv.size
        · exact hfz b h
      · intro b b' i hb hb'
        rcases back_bx hb with ⟨h1, h2, h3⟩ | ⟨h1, h2⟩ <;> rcases back_bx hb' with ⟨g1, g2, g3⟩ | ⟨g1, g2⟩
        · exact hr.bxu b b' i h3 g3
        · rw [show inTags oj who b = .bx EXT by simp [inTags, h3, g1]] at h2; cases h2
        · rw [show inTags oj who b' = .bx EXT by simp [inTags, g3, h1]] at g2; cases g2
        · exact hbu b b' EXT h2 g2
      · rintro b k p q hb (⟨j, hj, h | ⟨p', q', h⟩⟩ | ⟨j, p', q', hj, h⟩)
        · rw [h] at hb; cases hb
        · rw [h] at hb; injection hb with hb; subst hb; exact hgone j hj
        · rw [h] at hb; injection hb with hb; subst hb; exact hgone j hj
      · rintro b i hb ⟨j, p, q, _, h⟩; rw [h] at hb; cases hb
      · rintro b i hb (⟨j, hj, h | ⟨p', q', h⟩⟩ | ⟨j, p', q', hj, h⟩)
        · rw [h] at hb; injection hb with hb; have hb := nb_eq (le_ext (by subst hj; simpa using hoj)) hb.symm; subst hb; exact hgone _ hj
        · rw [h] at hb; cases hb
        · rw [h] at hb; cases hb
      · intro b i hb hnb
        rcases back_bx hb with ⟨h1, h2, h3⟩ | ⟨h1, h2⟩
        · exact absurd h3 hnb
        · refine hgone i ?_
          rw [h1]; congr 1
          exact (nb_eq (j := bas i) (le_ext (by subst h1; simpa using hoj)) rfl).symm
    have hr3 : Rep n C (backTags oj d w.heap.size who who') (boxEnt oj cs ++ ((boxKeys oj).map (fun k => (k, none)) ++ σ')) a w' := by
      cases oj with
      | none => exact hr2
      | some j =>
        refine hr2.addBox fun b hb => ?_
        have hjm : Nat.ble j EXT = true := by simpa using hoj
        rw [bas_of (le_ext hjm)] at hb
        have hsome : pre.isSome = true := by
          simp only [boxPre] at hpre
          split at hpre
          · injection hpre with hpre; rw [← hpre]; rfl
          · cases hpre
        obtain ⟨hi0, hb0⟩ := hbx hsome
        rw [hcs' hsome] at hb0 hi0
        have hbE : who' b = .bx EXT := by
          rcases back_bx hb with ⟨h1, h2, h3⟩ | ⟨h1, h2⟩
          · rw [show inTags (some j) who b = .bx EXT by simp [inTags, h3]] at h2; cases h2
          · exact h2
        obtain ⟨vs, E, g1, g2, g3⟩ := hb0 b (by rw [bas_of (by decide)]; exact hbE)
        rw [isShp_of (by decide)] at g1
        refine ⟨vs, E, by rw [isShp_of hjm]; exact g1, g2, fun q c v hq hv => cvm.tr (g3 q c v hq hv) hfr (fun k hk => ?_) (List.flatMap_eq_nil_iff.1 hi0 c (List.mem_of_getElem? hq))⟩
        rw [back_of (hnot k (by rw [hk]; simp)), hk]; rfl
    rw [hd]
    have hr4 := hr3.put hdn (x := x') (v := v) (Xm.tr hxm hfr (fun p q b hb => by rw [back_of (hnot b (by rw [hb]; simp)), hb]; rfl) hxi)
    refine hr4.congr fun k => ?_
    cases oj with
    | none => rfl
    | some j =>
      simp only [boxEnt, boxKeys, List.map_cons, List.map_nil, List.cons_append, List.nil_append, St.get]
      cases Key.is (.t d) k
      · cases Key.is (.b j) k <;> simp
      · simp
  wr := fun e he => by
    cases oj with
    | none => simp [boxEnt] at he; subst he; simp
    | some j =>
      simp [boxEnt] at he
      rcases he with rfl | rfl <;> simp [boxKeys]
  me := fun j hj => by
    have : j ∈ x.ids ∨ j ∈ cs.flatMap CV.ids := by
      cases oj with
      | none => left; simpa [St.ids, oids, boxEnt] using hj
      | some i => simpa [St.ids, oids, boxEnt, X.ids] using hj
    rw [hx, hcs] at this
    simp at this
  al := by simp
theorem op_call {d : Nat} {f : FuncId} {fo : Operand} {xs : Array Operand} {ts : Array TypeId} {As args : List A1} {pre : Option (List CV)} {x : X} {cs : List CV} (oj : Option Nat) (hd : o.dst = some d) (ho : o.op = .call { callee := .value fo, args := xs, argTypes := ts }) (hfo : St.ev σ fo = some (.one (.c (.val (.func (.func f) #[] #[])))))
    (hf : enters P f = true) (hF : Fn P f args pre (fun x' cs' => x' = x ∧ (pre.isSome = true → cs' = cs))) (hA : argsOf σ xs.toList = some As) (hn : As.all A1.noOwn = true) (hren : As.map (A1.ren oj) = args) (hpre : boxPre oj σ = some pre) (hx : x.ids = []) (hcs : cs.flatMap CV.ids = []) (hoj : oj.all (fun j => Nat.ble j EXT) = true := by rfl) :
    Op1 P n o ⟨xs.toList.flatMap opKey ++ (opKey fo ++ boxKeys oj), .t d :: boxKeys oj, []⟩ σ ((.t d, some x) :: boxEnt oj cs) :=
  op_callX (caps := []) (opKey fo) oj hd ho (fun σ' hag C who a w hr => ⟨[], hr.ev ((ev_agree hag).trans hfo), rfl, fun i A v h => by simp at h⟩) hf hF hA (by simpa using hn) (by simpa using hren) hpre hx hcs hoj
end
end Go.Proofs.YtmanhdacnkpclaaGreatDoor

/- Walks over abstract states: slices of one's own that lie in boxes; slice expressions; literals. -/
namespace Go.Proofs.YtmanhdacnkpclaaGreatDoor
set_option linter.unusedVariables false
set_option linter.unusedSimpArgs false
open Go.RowKit

section
variable {P : Program} {n : Nat} {o : Oper} {σ : St} {C : Ctx} {who : Nat → Tag} {a : Act} {w : World}

theorem tag_stp {k0 : Key} {p0 q0 : Nat} {t : Tag} : Stp who w (tagAll (.own k0 p0 q0) t who) w (fun _ => False) (fun b => who b = .own k0 p0 q0) :=
  ⟨rfl, rfl, rfl, Nat.le_refl _, fun _ _ _ => rfl, fun b _ hb => tagAll_ne hb, fun _ h => h.elim, fun b hb => by rw [hb]; simp⟩
theorem Rep.tagMove {k0 : Key} {p0 q0 : Nat} {t : Tag} (h : Rep n C who σ a w) (ht : ∀ j, t ≠ .bx j) : Rep n C (tagAll (.own k0 p0 q0) t who) ((k0, none) :: σ) a w := by
  refine (h.kill k0).stp tag_stp (fun b hb ho => ⟨fun h => h, fun hg => ?_⟩) (fun b j hb ho hg => ?_) (fun b hb => ?_) (fun b b' j hb hb' => ?_) (fun b k p q hb hg => ?_) (fun b j hb hg => ?_) (fun b j hb hg => ?_) (fun b j hb hnb => ?_)
  · have := h.adv.tag b hb (ho.imp id .inl)
    rw [hg] at this
    rcases ho with ho | ho <;> rw [ho] at this <;> cases this
  · have := h.adv.tag b hb (.inr (.inr ⟨j, ho⟩))
    rw [hg, ho] at this; cases this
  · rcases Classical.em (who b = .own k0 p0 q0) with e | e
    · exact h.fz b (by rw [e]; simp)
    · rw [tagAll_ne e] at hb; exact h.fz b hb
  · have key : ∀ b, tagAll (.own k0 p0 q0) t who b = .bx j → who b = .bx j := fun b hb => by
      rcases Classical.em (who b = .own k0 p0 q0) with e | e
      · rw [tagAll_at e] at hb; exact absurd hb (ht j)
      · rw [tagAll_ne e] at hb; exact hb
    exact h.bxu b b' j (key b hb) (key b' hb')
  · rcases hg with hg | hg
    · exact hg.elim
    · rw [hg] at hb; injection hb with hb; subst hb; exact St.get_same
  · rw [hg] at hb; cases hb
  · rcases hg with hg | hg
    · exact hg.elim
    · rw [hg] at hb; cases hb
  · rcases Classical.em (who b = .own k0 p0 q0) with e | e
    · rw [tagAll_at e] at hb; exact absurd hb (ht _)
    · rw [tagAll_ne e] at hb; exact absurd hb hnb
theorem cvm.tag_other {k0 : Key} {p0 q0 : Nat} {t p' : Tag} {c : CV} {u : Value} (h : cvm w who p' c u) (hz : ∀ b, who b ≠ .other → b < w.heap.size) (hne : p' ≠ .own k0 p0 q0) (hp' : p' ≠ .other) : cvm w (tagAll (.own k0 p0 q0) t who) p' c u :=
  cvm.stp h tag_stp hz (fun _ k hk => ⟨fun h => h, fun hg => hne (hk.symm.trans hg)⟩) hp' fun j _ b hb hg => by rw [hg] at hb; cases hb
theorem cvm.tag_own {k0 : Key} {p0 q0 E m : Nat} {t : Tag} {ds : List D} {u : Value} (h : cvm w who (.own k0 p0 q0) (.own E m ds) u) (hz : ∀ b, who b ≠ .other → b < w.heap.size) : cvm w (tagAll (.own k0 p0 q0) t who) t (.own E m ds) u :=
  ⟨h.1.wide (fun b hb hF => (tag_stp (w := w)).fz b hb hF) (Nat.le_refl _), fun k hk => tagAll_at (h.2 k hk)⟩
theorem cvm.tag_frz {k0 : Key} {p0 q0 E m : Nat} {p' : Tag} {ds : List D} {u : Value} (h : cvm w who (.own k0 p0 q0) (.own E m ds) u) : cvm w (tagAll (.own k0 p0 q0) .froz who) p' (.arr ds) u :=
  h.1.rdF (fun b hb hF => (tag_stp (w := w)).fz b hb hF) fun k hk => tagAll_at (h.2 k hk)

/-- what a box holds, where one of its cells is another's -/
theorem box_tag {j q : Nat} {t : Tag} {cs : List CV} {c' : CV} (hr : Rep n C who σ a w) (hb : St.get σ (.b j) = some (.box cs)) (hmc : Nat.ble j EXT = true) (ht : ∀ i, t ≠ .bx i)
    (hc : ∀ c v, cs[q]? = some c → cvm w who (.own (.b j) 0 q) c v → cvm w (tagAll (.own (.b j) 0 q) t who) (.own (.b j) 0 q) c' v) : Boxm w (tagAll (.own (.b j) 0 q) t who) j (cs.set q c') := by
  intro b hbw
  rw [bas_of (le_ext hmc)] at hbw
  have hb0 : who b = .bx j := by
    rcases Classical.em (who b = .own (.b j) 0 q) with e | e
    · rw [tagAll_at e] at hbw; exact absurd hbw (ht j)
    · rw [tagAll_ne e] at hbw; exact hbw
  obtain ⟨vs, E, h1, h2, h3⟩ := hr.box j cs hb b (by rw [bas_of (le_ext hmc)]; exact hb0)
  rw [isShp_of hmc] at h1
  refine ⟨vs, E, by rw [isShp_of hmc]; exact h1, by simp [h2], fun q' c v hq hv => ?_⟩
  rcases Classical.em (q = q') with rfl | hne
  · have hlt : q < cs.length := by rw [← h2]; exact (List.getElem?_eq_some_iff.1 hv).1
    rw [List.getElem?_set_self hlt] at hq; injection hq with hq; subst hq
    exact hc _ v (List.getElem?_eq_getElem hlt) (h3 q _ v (List.getElem?_eq_getElem hlt) hv)
  · rw [List.getElem?_set_ne hne] at hq
    exact (h3 q' c v hq hv).tag_other hr.fz (by simp; omega) (by simp)

/-- a slice of one's own is taken out of a box -/
theorem op_loadOwn {d t m j q E m' : Nat} {s : Operand} {cs cs' : List CV} {ds : List D} (hd : o.dst = some d) (ho : o.op = .load t s) (hr : rowT P t = some (false, m)) (hs : St.ev σ s = some (.one (.c (.ptr j q)))) (hb : St.get σ (.b j) = some (.box cs))
    (hc : cs[q]? = some (.own E m' ds)) (hc' : cs.set q .any = cs') (hmc : Nat.ble j EXT = true) : Op1 P n o ⟨(opKey s ++ [.b j]) ++ (cs'.flatMap CV.ids).map Key.b, [.t d, .b j], []⟩ σ [(.t d, some (.one (.c (.own E m' ds)))), (.b j, some (.box cs'))] where
  does := fun σ' hag hal C who a w hrp hdst K Q hK => by
    obtain ⟨b, e, hbw⟩ := hrp.ev ((ev_agree fun k hk => hag k (by simp [hk])).trans hs)
    have hgb := (hag (.b j) (by simp)).trans hb
    obtain ⟨vs, E', h1, h2, h3, h4⟩ := box_cell hrp hbw hgb hmc
    have hq : q < vs.length := by rw [h2]; exact (List.getElem?_eq_some_iff.1 hc).1
    have hv := List.getElem?_eq_getElem hq
    have hrun : (execOp a.eval o).run P w = .ok (.value vs[q]) w := by simp [execOp, ho, e, run_load1 hr (h3 q _ hv)]
    unfold Oper.wp
    rw [hrun]
    show K (a.put o.dst vs[q]) w
    refine hK (tagAll (.own (.b j) 0 q) (.own (.t d) 0 0) who) _ _ ?_
    rw [hd]
    have hown := (h4 q _ _ hc hv)
    have hr1 := hrp.tagMove (k0 := .b j) (p0 := 0) (q0 := q) (t := .own (.t d) 0 0) (by simp)
    have hbx := box_tag (q := q) (t := .own (.t d) 0 0) (c' := .any) hrp hgb hmc (by simp) (fun (_ : CV) (_ : Value) _ _ => trivial)
    subst hc'
    refine ((hr1.addBox hbx).put (hdst d hd) (x := .one (.c (.own E m' ds))) (hown.tag_own hrp.fz)).congr fun k => ?_
    simp only [List.cons_append, List.nil_append, St.get]
    cases Key.is (.t d) k
    · cases Key.is (.b j) k <;> simp
    · simp
  wr := by simp
  me := fun i hi => by
    left
    have : i ∈ cs'.flatMap CV.ids := by simpa [St.ids, oids, X.ids, A1.ids, CV.ids] using hi
    exact List.mem_append_right _ (List.mem_map.2 ⟨i, this, rfl⟩)
  al := by simp

/-- one cell is stored -/
theorem store1 {j b q : Nat} {c : CV} {u : Value} {cs : List CV} (hrp : Rep n C who σ a w) (hbw : who b = .bx j) (hgb : St.get σ (.b j) = some (.box cs)) (hq : q < cs.length) (hu : cvm w who (.own (.b j) 0 q) c u) (hmc : Nat.ble j EXT = true) :
    Rep n C who ((.b j, some (.box (cs.set q c))) :: σ) a (w.setCell ⟨b, q, none⟩ u) := by
  obtain ⟨vs, E, h1, h2, h3, h4⟩ := box_cell hrp hbw hgb hmc
  obtain ⟨g1, g2, g3, g4, g5, g6⟩ := setCells_blk [u] w b q vs E h1
  simp only [World.setCells] at g1 g2 g3 g4 g5 g6
  have hstp : Stp who w who (w.setCell ⟨b, q, none⟩ u) (fun k => k = b) (fun _ => False) :=
    ⟨g4, g5, g6, by rw [g3]; exact Nat.le_refl _, fun k _ hk => g2 k hk, fun _ _ _ => rfl, fun k hk => by rw [hk, hbw]; simp, fun _ h => h.elim⟩
  have hrep : Rep n C who ((.b j, none) :: σ) a (w.setCell ⟨b, q, none⟩ u) := by
    refine (hrp.kill (.b j)).stp hstp (fun k hk hoo => ⟨fun hkb => ?_, fun h => h⟩) (fun _ _ _ _ h => h) (fun k hk => by rw [g3]; exact hrp.fz k hk) hrp.bxu ?_ ?_ ?_ ?_
    · have := hrp.adv.tag k hk (hoo.imp id .inl)
      rw [hkb, hbw] at this
      rw [hkb] at hoo
      rcases hoo with hoo | hoo <;> rw [hoo] at this <;> cases this
    · intro k kk p q' hk hT
      rcases hT with hT | hT
      · rw [hT, hbw] at hk; cases hk
      · exact hT.elim
    · intro k i _ h; exact h.elim
    · intro k i hk hT
      rcases hT with hT | hT
      · rw [hT, hbw] at hk; injection hk with hk; have hk := nb_eq (le_ext hmc) hk.symm; subst hk; exact St.get_same
      · exact hT.elim
    · intro k i h1 h2; exact absurd h1 h2
  have hstep : ∀ (kk : Key) (pp qq : Nat) (c : CV) (u' : Value), cvm w who (.own kk pp qq) c u' → cvm (w.setCell ⟨b, q, none⟩ u) who (.own kk pp qq) c u' := fun kk pp qq c u' hcv =>
    cvm.stp hcv hstp hrp.fz (fun _ k' hk' => ⟨fun hT => (by rw [hT, hbw] at hk'; cases hk'), fun h => h⟩) (by simp) fun _ _ _ _ h => h
  refine (hrep.addBox (j := j) (cs := cs.set q c) fun k hk => ?_).congr fun k => ?_
  · rw [bas_of (le_ext hmc)] at hk
    have : k = b := hrp.bxu k b j hk hbw
    subst this
    refine ⟨splL vs q [u], E, by rw [isShp_of hmc]; exact g1, by rw [splL_len, h2]; simp, fun i c' u' hi hu' => ?_⟩
    rw [splL_get _ _ _ _ (by simp; omega)] at hu'
    rcases Classical.em (q = i) with rfl | hne
    · rw [List.getElem?_set_self hq] at hi; injection hi with hi; subst hi
      rw [if_pos (by simp)] at hu'
      simp at hu'; subst hu'
      exact hstep _ _ _ _ _ hu
    · rw [List.getElem?_set_ne hne] at hi
      rw [if_neg (by simp; omega)] at hu'
      exact hstep _ _ _ _ _ (h4 i c' u' hi hu')
  · simp only [St.get]
    cases Key.is (.b j) k <;> simp
theorem run_store1 {t m b q : Nat} (hr : rowT P t = some (false, 1) ∨ m = 1 ∧ rowT P t = some (true, m)) {x u : Value} (h1 : u.oneCell' = true) (hx : w.cell? ⟨b, q, none⟩ = some x) (hf : w.frozen? ⟨b, q, none⟩ = false) :
    (Instr.storeAt t (.pointer (some ⟨b, q, none⟩)) u).run P w = .ok () (w.setCell ⟨b, q, none⟩ u) := by
  have hsz : ∃ i, P.info? t = some i ∧ i.size = 1 := by
    rcases hr with hr | ⟨rfl, hr⟩ <;> obtain ⟨_, i, _, _, hi, hs⟩ := rowT_parts hr <;> exact ⟨i, hi, hs⟩
  obtain ⟨i, hi, hs⟩ := hsz
  have hst := run_storeCells_cells (P := P) b q [u] 0 w (fun j hj => by
    have : j = 0 := by simp at hj; omega
    subst this; simp [hx]) (fun j hj => by
    have : j = 0 := by simp at hj; omega
    subst this; simpa using hf) (by simpa using h1)
  simp only [Nat.add_zero, World.setCells] at hst
  simp only [Instr.storeAt, Instr.sureAddr, Sem.run_bind, Sem.run_pure, Result.andThen_ok, storeVar, sizeOf, typeInfo, run_program, hi, cells_one h1]
  simp [hs, hst]
/-- a slice of one's own is put into a box -/
theorem op_storeOwn {t j q tv E m : Nat} {s : Operand} {cs cs' : List CV} {ds : List D} (hd : o.dst = none) (ho : o.op = .store t s (.tmp tv)) (hs : St.ev σ s = some (.one (.c (.ptr j q)))) (hb : St.get σ (.b j) = some (.box cs)) (hr : rowT P t = some (false, 1))
    (hv : St.get σ (.t tv) = some (.one (.c (.own E m ds)))) (hq : Nat.blt q cs.length = true) (hc : cs.set q (.own E m ds) = cs') (hmc : Nat.ble j EXT = true) :
    Op1 P n o ⟨(opKey s ++ [.t tv, .b j]) ++ (cs'.flatMap CV.ids).map Key.b, [.b j, .t tv], []⟩ σ [(.b j, some (.box cs')), (.t tv, none)] where
  does := fun σ' hag hal C who a w hrp hdst K Q hK => by
    have hq' : q < cs.length := Nat.lt_of_succ_le (Nat.le_of_ble_eq_true hq)
    obtain ⟨b, e, hbw⟩ := hrp.ev ((ev_agree fun k hk => hag k (by simp [hk])).trans hs)
    have hgb := (hag (.b j) (by simp)).trans hb
    have hx := hrp.slot tv _ ((hag (.t tv) (by simp)).trans hv)
    have hx' : cvm w who (.own (.t tv) 0 0) (.own E m ds) (a.tmps.getD tv undef) := hx
    have hone := cvm.one (c := .own E m ds) rfl hx'
    obtain ⟨vs, E', h1, h2, h3, h4⟩ := box_cell hrp hbw hgb hmc
    have hrun : (execOp a.eval o).run P w = .ok .skip (w.setCell ⟨b, q, none⟩ (a.tmps.getD tv undef)) := by
      have := run_store1 (P := P) (w := w) (t := t) (m := 0) (b := b) (q := q) (.inl hr) hone (h3 q _ (List.getElem?_eq_getElem (by omega))) (by simp [World.frozen?, h1])
      have e2 : a.eval (.tmp tv) = a.tmps.getD tv undef := rfl
      simp only [execOp, ho, e, e2, Sem.run_bind, this]; rfl
    unfold Oper.wp
    rw [hrun]
    show K (a.put o.dst undef) _
    refine hK (tagAll (.own (.t tv) 0 0) (.own (.b j) 0 q) who) undef _ ?_
    rw [hd]
    have hr1 := hrp.tagMove (k0 := .t tv) (p0 := 0) (q0 := 0) (t := .own (.b j) 0 q) (by simp)
    have hbw1 : tagAll (.own (.t tv) 0 0) (.own (.b j) 0 q) who b = .bx j := (tagAll_ne (by rw [hbw]; simp)).trans hbw
    have hr2 := store1 (q := q) (c := .own E m ds) (u := a.tmps.getD tv undef) hr1 hbw1 ((St.get_ne (by simp)).trans hgb) hq' (hx'.tag_own hrp.fz) hmc
    subst hc
    exact hr2
  wr := by simp
  me := fun i hi => by
    left
    have : i ∈ cs'.flatMap CV.ids := by simpa [St.ids, oids, X.ids, A1.ids, CV.ids] using hi
    exact List.mem_append_right _ (List.mem_map.2 ⟨i, this, rfl⟩)
  al := by simp
/-- a slice of one's own goes from slot to slot -/
theorem op_moveOwn {d t E m : Nat} {ds : List D} (hd : o.dst = some d) (ho : o.op = .move (.tmp t) ∨ o.op = .assign (.tmp t)) (hs : St.get σ (.t t) = some (.one (.c (.own E m ds)))) :
    Op1 P n o ⟨[.t t], [.t d, .t t], []⟩ σ [(.t d, some (.one (.c (.own E m ds)))), (.t t, none)] where
  does := fun σ' hag hal C who a w hrp hdst K Q hK => by
    have hx := hrp.slot t _ ((hag (.t t) (by simp)).trans hs)
    have hx' : cvm w who (.own (.t t) 0 0) (.own E m ds) (a.tmps.getD t undef) := hx
    have hrun : (execOp a.eval o).run P w = .ok (.value (a.tmps.getD t undef)) w := by rcases ho with ho | ho <;> simp [execOp, ho, Act.eval]
    unfold Oper.wp
    rw [hrun]
    show K (a.put o.dst _) w
    refine hK (tagAll (.own (.t t) 0 0) (.own (.t d) 0 0) who) _ _ ?_
    rw [hd]
    exact (hrp.tagMove (k0 := .t t) (p0 := 0) (q0 := 0) (t := .own (.t d) 0 0) (by simp)).put (hdst d hd) (x := .one (.c (.own E m ds))) (hx'.tag_own hrp.fz)
  wr := by simp
  me := fun i hi => by simp [St.ids, oids, X.ids, A1.ids, CV.ids] at hi
  al := by simp

/-- in a box: nothing is a slice of one's own that is empty; what is one's own may be given away -/
theorem Wk.nilOwnB {j q E m : Nat} {cs cs' : List CV} (h : St.get σ (.b j) = some (.box cs)) (hq : cs[q]? = some (.val (.slice none 0 0))) (hc : cs.set q (.own E m []) = cs') (hmc : Nat.ble j EXT = true := by rfl) : Wk n σ ((.b j, some (.box cs')) :: σ) := fun C who a w hr => by
  subst hc
  refine ⟨who, hr.addBox fun b hb => ?_⟩
  obtain ⟨vs, E', h1, h2, h3⟩ := hr.box j cs h b hb
  rw [isShp_of hmc] at h1
  refine ⟨vs, E', by rw [isShp_of hmc]; exact h1, by simp [h2], fun i c v hi hv => ?_⟩
  rcases Classical.em (q = i) with rfl | hne
  · have hlt : q < cs.length := (List.getElem?_eq_some_iff.1 hq).1
    rw [List.getElem?_set_self hlt] at hi; injection hi with hi; subst hi
    have hv' : v = .slice none 0 0 := h3 q _ v hq hv
    subst hv'
    exact ⟨Own.nil _ _ _ _ _, fun k hk => by simp [Value.ownBlock] at hk⟩
  · rw [List.getElem?_set_ne hne] at hi
    exact h3 i c v hi hv
theorem Wk.nilArrB {j q : Nat} {cs cs' : List CV} (h : St.get σ (.b j) = some (.box cs)) (hq : cs[q]? = some (.val (.slice none 0 0))) (hc : cs.set q (.arr []) = cs') (hmc : Nat.ble j EXT = true := by rfl) : Wk n σ ((.b j, some (.box cs')) :: σ) := fun C who a w hr => by
  subst hc
  refine ⟨who, hr.addBox fun b hb => ?_⟩
  obtain ⟨vs, E', h1, h2, h3⟩ := hr.box j cs h b hb
  rw [isShp_of hmc] at h1
  refine ⟨vs, E', by rw [isShp_of hmc]; exact h1, by simp [h2], fun i c v hi hv => ?_⟩
  rcases Classical.em (q = i) with rfl | hne
  · have hlt : q < cs.length := (List.getElem?_eq_some_iff.1 hq).1
    rw [List.getElem?_set_self hlt] at hi; injection hi with hi; subst hi
    have hv' : v = .slice none 0 0 := h3 q _ v hq hv
    subst hv'
    exact rd_nil
  · rw [List.getElem?_set_ne hne] at hi
    exact h3 i c v hi hv
theorem Wk.freezeB {j q E m : Nat} {ds : List D} {cs cs' : List CV} (h : St.get σ (.b j) = some (.box cs)) (hq : cs[q]? = some (.own E m ds)) (hc : cs.set q (.arr ds) = cs') (hmc : Nat.ble j EXT = true := by rfl) : Wk n σ ((.b j, some (.box cs')) :: σ) := fun C who a w hr => by
  subst hc
  refine ⟨tagAll (.own (.b j) 0 q) .froz who, ((hr.tagMove (k0 := .b j) (p0 := 0) (q0 := q) (t := .froz) (by simp)).addBox (box_tag (t := .froz) (c' := .arr ds) hr h hmc (by simp) fun c v hcq hcv => ?_)).congr fun k => ?_⟩
  · rw [hq] at hcq; injection hcq with hcq; subst hcq; exact hcv.tag_frz
  · simp only [St.get]
    cases Key.is (.b j) k <;> simp

theorem fcs_app : ∀ {l1 l2 : List D}, fcs (l1 ++ l2) = fcs l1 ++ fcs l2
  | [], _ => rfl
  | d :: l1, l2 => by simp only [List.cons_append, fcs, fcs_app (l1 := l1), List.append_assoc]
theorem fcs_len {m : Nat} : ∀ {ds : List D}, (∀ d ∈ ds, d.fc.length = m) → (fcs ds).length = ds.length * m
  | [], _ => by simp [fcs]
  | d :: ds, h => by
    have h2 := fcs_len (m := m) (ds := ds) fun d' hd => h d' (List.mem_cons_of_mem _ hd)
    simp only [fcs, List.length_append, h d (List.mem_cons_self ..), h2, List.length_cons, Nat.add_mul]; omega
theorem rds_iff {w : World} {F : Nat → Prop} {ds : List D} {cs : List Value} : rds w F ds cs ↔ cellsF w F (fcs ds) cs := rds_fc ds (fun d _ cs => rd_fc d cs) cs
theorem rd_sub {w : World} {F : Nat → Prop} {ds : List D} {ad : Option Addr} {cap l h m : Nat} (hrd : rd w F (.arr ds) [.slice ad ds.length cap]) (hlh : l ≤ h) (hh : h ≤ ds.length) (hm : ∀ x ∈ ds, x.fc.length = m) :
    rd w F (.arr ((ds.drop l).take (h - l))) [.slice (if cap = l then ad else ad.map (·.add (l * m))) (h - l) (cap - l)] := by
  obtain ⟨a', cap', e, hcap, hmax, h3⟩ := hrd
  simp only [List.cons.injEq, Value.slice.injEq, true_and, and_true] at e
  obtain ⟨rfl, rfl⟩ := e
  have hrl : ((ds.drop l).take (h - l)).length = h - l := by simp; omega
  refine ⟨_, _, by rw [hrl], by omega, by omega, ?_⟩
  rcases Nat.eq_zero_or_pos (h - l) with h0 | h0
  · left; omega
  · right
    rcases h3 with h3 | ⟨b, q, xs, ha, hb, hlt, hrs', hcell⟩
    · omega
    · subst ha
      have hcl : cap ≠ l := by omega
      have hsplit : ds = ds.take l ++ ((ds.drop l).take (h - l) ++ (ds.drop l).drop (h - l)) := by rw [List.take_append_drop, List.take_append_drop]
      have hc := rds_iff.1 hrs'
      rw [hsplit, fcs_app, fcs_app] at hc
      obtain ⟨x1, x23, rfl, k1, k23⟩ := cellsF_app.1 hc
      obtain ⟨x2, x3, rfl, k2, k3⟩ := cellsF_app.1 k23
      have hx1 : x1.length = l * m := by
        rw [cellsF_len k1, fcs_len (m := m) fun d hd => hm d (List.mem_of_mem_take hd)]
        rw [List.length_take, Nat.min_eq_left (by omega)]
      refine ⟨b, q + l * m, x2, ?_, hb, hlt, rds_iff.2 k2, fun j u hj => ?_⟩
      · rw [if_neg hcl]; simp [add_lit]
      · rw [Nat.add_assoc]
        refine hcell _ u ?_
        rw [List.getElem?_append_right (by omega), hx1, show l * m + j - l * m = j by omega]
        rw [List.getElem?_append_left (List.getElem?_eq_some_iff.1 hj).1]; exact hj

/-- 's[l:h]' of what nobody writes -/
theorem op_slice {d T E m by_ l h : Nat} {z : Value} {s : Operand} {lo hi : Option Operand} {ds rs : List D} (hd : o.dst = some d) (ho : o.op = .slice T s lo hi none) (hT : SliceOf P T E m by_ z) (hs : St.ev σ s = some (.one (.c (.arr ds))))
    (hlo : match lo with | some i => St.ev σ i = some (.one (.c (.val (.int .i64 (l : Int))))) | none => l = 0) (hhi : match hi with | some i => St.ev σ i = some (.one (.c (.val (.int .i64 (h : Int))))) | none => h = ds.length)
    (hlh : l ≤ h) (hh : h ≤ ds.length) (hm : ∀ x ∈ ds, x.fc.length = m) (hrs : (ds.drop l).take (h - l) = rs) :
    Op1 P n o ⟨(opKey s ++ (lo.toList ++ hi.toList).flatMap opKey) ++ (X.one (.c (.arr rs))).ids.map Key.b, [.t d], []⟩ σ [(.t d, some (.one (.c (.arr rs))))] :=
  .value _ hd fun σ' hag C who a w hrp => by
    have hrd : rd w (Fz who) (.arr ds) [a.eval s] := hrp.ev ((ev_agree fun k hk => hag k (List.mem_append_left _ hk)).trans hs)
    obtain ⟨ad, cap, e, hcap, hmax, h3⟩ := hrd
    have e1 : a.eval s = .slice ad ds.length cap := by simpa using e
    obtain ⟨i', hi', hz0, hz1, hz2⟩ := info_parts hT.info
    have elo : ∀ i, lo = some i → a.eval i = .int .i64 (l : Int) := fun i hi0 => by
      subst hi0
      exact hrp.ev ((ev_agree fun k hk => hag k (List.mem_append_right _ (by simp [hk]))).trans hlo)
    have ehi : ∀ i, hi = some i → a.eval i = .int .i64 (h : Int) := fun i hi0 => by
      subst hi0
      exact hrp.ev ((ev_agree fun k hk => hag k (List.mem_append_right _ (by simp [hk]))).trans hhi)
    have hl2 : h ≤ cap := by omega
    have hb : (Instr.sliceBounds true ds.length cap (lo.map a.eval) (hi.map a.eval) none).run P w = .ok (l, h, cap) w := by
      cases lo with
      | none =>
        simp only at hlo
        cases hi with
        | none =>
          simp only at hhi
          simp [Instr.sliceBounds, hlo, hhi]
        | some i => simp [Instr.sliceBounds, Instr.sliceBound, asIntOf, ehi i rfl, hlo, hl2]
      | some j =>
        cases hi with
        | none =>
          simp only at hhi
          have hl3 : l ≤ ds.length := by omega
          simp [Instr.sliceBounds, Instr.sliceBound, asIntOf, elo j rfl, hhi, hl3]
        | some i => simp [Instr.sliceBounds, Instr.sliceBound, asIntOf, elo j rfl, ehi i rfl, hlh, hl2]
    refine ⟨.slice (if cap = l then ad else ad.map (·.add (l * m))) (h - l) (cap - l), ?_, ?_⟩
    · simp [execOp, ho, e1, Instr.sliceAt, run_underlying hT.und, Instr.slice, hb, sizeOf, typeInfo, hi', hz1]
    · subst hrs
      exact rd_sub (m := m) ⟨ad, cap, rfl, hcap, hmax, h3⟩ hlh hh hm
end
end Go.Proofs.YtmanhdacnkpclaaGreatDoor

/- Walks over abstract states: literals; regions, operation by operation. -/
namespace Go.Proofs.YtmanhdacnkpclaaGreatDoor
set_option linter.unusedVariables false
set_option linter.unusedSimpArgs false
open Go.RowKit

section
variable {P : Program} {n : Nat} {o : Oper} {σ : St}

def partKeys (ps : List (Nat × Operand)) : List Key := ps.flatMap fun p => opKey p.2
theorem buildC_agree {σ' : St} {pl : List (Nat × Nat)} : ∀ {ps : List (Nat × Operand)} {cs : List CV}, (∀ k ∈ partKeys ps, St.get σ' k = St.get σ k) → buildC σ' pl ps cs = buildC σ pl ps cs
  | [], _, _ => rfl
  | (i, s) :: r, cs, h => by
    have e : St.ev σ' s = St.ev σ s := ev_agree fun k hk => h k (by simp [partKeys, hk])
    have ih : ∀ cs, buildC σ' pl r cs = buildC σ pl r cs := fun cs => buildC_agree fun k hk => h k (by
      simp only [partKeys, List.flatMap_cons, List.mem_append] at hk ⊢; exact .inr hk)
    simp only [buildC, e]
    split
    · rw [ih]
    · rfl
theorem cvm.of {w : World} {who : Nat → Tag} {p : Tag} {c : CV} {v : Value} (h : c.noOwn = true ∧ cvm w who .other c v ∧ v.oneCell' = true) : cvm w who p c v ∧ v.oneCell' = true := ⟨h.2.1.re h.1, h.2.2⟩

theorem fieldPl_parts {T : Nat} {pl : List (Nat × Nat)} (h : fieldPl P T = some pl) : ∃ fields, P.underlying T = some (.struct fields) ∧ ∀ w : World, (fields.mapM (fun f => do pure (f.offset, ← sizeOf f.type)) : Sem (Array (Nat × Nat))).run P w = .ok pl.toArray w := by
  unfold fieldPl at h
  split at h
  · rename_i fields hu
    refine ⟨fields, hu, fun w => ?_⟩
    have key : ∀ (l : List Field) (pl : List (Nat × Nat)), (l.mapM fun f => (P.info? f.type).map fun i => (f.offset, i.size)) = some pl → ((l.mapM (fun f => do pure (f.offset, ← sizeOf f.type))) : Sem (List (Nat × Nat))).run P w = .ok pl w := by
      intro l
      induction l with
      | nil => intro pl h; simp at h; subst h; simp
      | cons f l ih =>
        intro pl h
        simp only [List.mapM_cons, Option.bind_eq_bind, Option.bind_eq_some_iff] at h
        obtain ⟨x, hx, pl', hpl, e⟩ := h
        simp at e; subst e
        obtain ⟨i, hi, rfl⟩ := Option.map_eq_some_iff.1 hx
        rw [List.mapM_cons]
        have h1 := ih pl' hpl
        simp only [Sem.run_bind, sizeOf, typeInfo, run_program, hi, Sem.run_pure, Result.andThen_ok] at h1 ⊢
        rw [h1]; simp
    obtain ⟨l⟩ := fields
    rw [List.mapM_toArray]
    simp only [Sem.run_map]
    rw [key l pl h]; simp
  · cases h

/-- a struct, out of its parts -/
theorem op_build {d T : Nat} {ps : Array (Nat × Operand)} {pl : List (Nat × Nat)} {zs : List Value} {cs : List CV} (hd : o.dst = some d) (ho : o.op = .build T ps) (hp : fieldPl P T = some pl) (hz : zeroOf P T = some zs) (hzo : zs.all Value.oneCell' = true)
    (hb : buildC σ pl ps.toList (zs.map CV.val) = some cs) : Op1 P n o ⟨partKeys ps.toList ++ (X.one (.agg cs)).ids.map Key.b, [.t d], []⟩ σ [(.t d, some (.one (.agg cs)))] :=
  .value _ hd fun σ' hag C who a w hr => by
    obtain ⟨z, hz1, hz2⟩ := run_zeroOf hz w
    obtain ⟨fields, hu, hpl⟩ := fieldPl_parts hp
    obtain ⟨vs, h1, h2, h3⟩ := buildC_run (place := fun i => pl.toArray[i]?) hr (fun i x hi => by simpa using hi) ps.toList (zs.map CV.val) cs zs ((buildC_agree hag).trans hb) (by simp) (fun q c v hq hv => by
      rw [List.getElem?_map, hv] at hq; simp at hq; subst hq
      exact ⟨rfl, rfl, List.all_eq_true.1 hzo v (List.mem_of_getElem? hv)⟩)
    refine ⟨.agg vs.toArray, ?_, vs, rfl, h2, fun q c v hq hv => cvm.of (h3 q c v hq hv)⟩
    have e : (ps.map fun p => (p.1, a.eval p.2)).toList = ps.toList.map fun p => (p.1, a.eval p.2) := by simp
    simp only [execOp, ho, Instr.build, Sem.run_bind, hz1, Result.andThen_ok, run_underlying hu, hpl, hz2, e, h1, Sem.run_pure]

/-- a slice literal, that nobody writes -/
theorem op_buildSlice {d T E m by_ len : Nat} {z : Value} {ps : Array (Nat × Operand)} {zs : List Value} {cs : List CV} {ds : List D} (hd : o.dst = some d) (ho : o.op = .buildSlice T len ps) (hT : SliceOf P T E m by_ z) (hlen : len * m ≤ 16777216) (hl0 : 0 < len) (hz : zeroOf P E = some zs)
    (hzo : zs.all Value.oneCell' = true) (hzm : zs.length = m) (hb : buildC σ ((List.range len).map fun i => (i * m, m)) ps.toList ((List.replicate len (zs.map CV.val)).flatten) = some cs) (hds : (fcs ds).map FC.cv = cs) (hdl : ds.length = len) :
    Op1 P n o ⟨partKeys ps.toList, [.t d], []⟩ σ [(.t d, some (.one (.c (.arr ds))))] where
  does := fun σ' hag hal C who a w hr hdst K Q hK => by
    obtain ⟨i', hi', hz0, hz1, hz2⟩ := info_parts hT.info
    obtain ⟨zv, hzv1, hzv2⟩ := run_zeroOf hz w
    have hmp := hT.pos
    have hcat : ((Array.range (len * m)).map (fun x => zs.toArray[x % zs.toArray.size]!)).toList = (List.replicate len zs).flatten := by
      apply List.ext_getElem?
      intro j
      have hz' : zs.toArray.size = m := by simp [hzm]
      rcases Nat.lt_or_ge j (len * m) with hj | hj
      · have hjm : j % m < zs.length := by rw [hzm]; exact Nat.mod_lt _ hmp
        have e1 : ((Array.range (len * m)).map (fun x => zs.toArray[x % zs.toArray.size]!)).toList[j]? = some zs[j % m] := by
          simp [hj, hz', hjm, hzm]
          rw [List.getElem?_eq_getElem hjm]; rfl
        rw [e1]
        have : ∀ (len j : Nat), j < len * m → (List.replicate len zs).flatten[j]? = zs[j % m]? := by
          intro len
          induction len with
          | zero => intro j hj; omega
          | succ k ih =>
            intro j hj
            simp only [List.replicate_succ, List.flatten_cons]
            rcases Nat.lt_or_ge j zs.length with h | h
            · rw [List.getElem?_append_left h, Nat.mod_eq_of_lt (by omega)]
            · rw [List.getElem?_append_right h, ih (j - zs.length) (by rw [hzm] at h ⊢; rw [Nat.add_mul] at hj; omega), hzm]
              rw [hzm] at h
              rw [Nat.mod_eq_sub_mod h]
        rw [this len j hj, List.getElem?_eq_getElem hjm]
      · rw [List.getElem?_eq_none (by simp; omega), List.getElem?_eq_none (by simp [List.length_flatten, hzm]; omega)]
    have hmap : ((List.replicate len zs).flatten).map CV.val = (List.replicate len (zs.map CV.val)).flatten := by simp [List.map_flatten]
    obtain ⟨vs, h1, h2, h3⟩ := buildC_run (place := fun i => some (i * m, m)) hr (fun i x hi => by
      rw [List.getElem?_map, Option.map_eq_some_iff] at hi
      obtain ⟨k, hk, rfl⟩ := hi
      have : k = i := by
        rw [List.getElem?_eq_some_iff] at hk
        obtain ⟨hk1, hk2⟩ := hk
        simp at hk2; exact hk2.symm
      rw [this]) ps.toList ((List.replicate len (zs.map CV.val)).flatten) cs ((List.replicate len zs).flatten) ((buildC_agree hag).trans hb) (by rw [← hmap]; simp) (fun q c v hq hv => by
      rw [← hmap, List.getElem?_map, hv] at hq; simp at hq; subst hq
      refine ⟨rfl, rfl, List.all_eq_true.1 hzo v ?_⟩
      obtain ⟨l, hl, hvl⟩ := List.mem_flatten.1 (List.mem_of_getElem? hv)
      rw [List.mem_replicate] at hl; rw [← hl.2]; exact hvl)
    have hrun : (execOp a.eval o).run P w = .ok (.value (.slice (some ⟨w.heap.size, 0, none⟩) len len)) (w.alloc (.cells vs.toArray E)) := by
      have e : (ps.map fun p => (p.1, a.eval p.2)).toList = ps.toList.map fun p => (p.1, a.eval p.2) := by simp
      have e2 : (Array.range (len * m)).map (fun x => zs.toArray[x % zs.toArray.size]!) = ((List.replicate len zs).flatten).toArray := by
        rw [← hcat]
      have hne : ¬ (len * m = 0) := by
        intro h0
        rcases Nat.mul_eq_zero.1 h0 with h0 | h0 <;> omega
      simp only [execOp, ho, Instr.buildSlice, Sem.run_bind, run_underlying hT.und, Result.andThen_ok, sizeOf, typeInfo, run_program, hi', Sem.run_pure, hz1]
      rw [if_neg (by omega : ¬ len * m > 2 ^ 24)]
      simp only [if_neg hne, Sem.run_bind, hzv1, Result.andThen_ok, hzv2, Sem.run_pure, e, e2, h1, newRow, run_newObj_alloc]
    unfold Oper.wp
    rw [hrun]
    show K (a.put o.dst _) _
    have hnew : who w.heap.size = .other := by
      rcases Classical.em (who w.heap.size = .other) with h | h
      · exact h
      · exact absurd (hr.fz _ h) (Nat.lt_irrefl _)
    have hstp : Stp who w (fun b => if b = w.heap.size then .froz else who b) (w.alloc (.cells vs.toArray E)) (fun _ => False) (fun _ => False) :=
      ⟨rfl, rfl, rfl, by simp, fun b hb _ => Below.heap_alloc w _ b hb, fun b hb _ => by rw [if_neg (by omega)], fun _ h => h.elim, fun _ h => h.elim⟩
    refine hK (fun b => if b = w.heap.size then .froz else who b) _ _ ?_
    rw [hd]
    have hr1 := hr.stp hstp (fun _ _ _ => ⟨fun h => h, fun h => h⟩) (fun _ _ _ _ h => h) (fun b hb => by
      split at hb
      · rename_i h; subst h; simp
      · have := hr.fz b hb; simp; omega) (fun b b' j hb hb' => by
      split at hb
      · cases hb
      · split at hb'
        · cases hb'
        · exact hr.bxu b b' j hb hb') (fun _ _ _ _ _ h => by rcases h with h | h <;> exact h.elim) (fun _ _ _ h => h.elim) (fun _ _ _ h => by rcases h with h | h <;> exact h.elim) (fun b j hb hnb => by
      split at hb
      · cases hb
      · exact absurd hb hnb)
    refine hr1.put (hdst d hd) (x := .one (.c (.arr ds))) ?_
    show rd _ _ (.arr ds) [_]
    have hl16 : len ≤ 16777216 := Nat.le_trans (Nat.le_mul_of_pos_right len hmp) hlen
    refine ⟨_, len, by rw [hdl], by omega, by simp only [maxLen]; omega, .inr ⟨w.heap.size, 0, vs, rfl, by simp [Fz], by simp, rds_iff.2 (cellsF_mk ?_ ?_), fun j u hj => by rw [Nat.zero_add, World.cell?_alloc_new]; simpa using hj⟩⟩
    · have := congrArg List.length hds
      rw [List.length_map] at this; rw [this, h2]
    · intro i c x hc hx
      have hcs : cs[i]? = some c.cv := by rw [← hds, List.getElem?_map, hc]; rfl
      have h4 := (h3 i _ x hcs hx).2.1
      have h5 : fcm w (Fz who) c x := cvm.toF hr.fz h4
      refine h5.keep (by simp) (fun b hb hF => ?_) fun b hb _ => Below.heap_alloc w _ b hb
      show (if b = w.heap.size then Tag.froz else who b) = .froz
      rw [if_neg (by omega)]; exact hF
  wr := by simp
  me := fun j hj => by simp [St.ids, oids, X.ids, A1.ids, CV.ids] at hj
  al := by simp

end

/-! ## regions, operation by operation -/
/-- the rest of a region; what has been done so far -/
def SqA (P : Program) (n : Nat) (dr : Bool) (ops : Array Oper) (os : List Oper) (acc : List Info) (σ : St) (K : St → Prop) : Prop :=
  ∃ is, Sq P n ops os is σ K ∧ (dr = true → chk ops (acc.reverse ++ is) = true)
section
variable {P : Program} {n : Nat} {dr : Bool} {ops : Array Oper} {os : List Oper} {o : Oper} {acc : List Info} {i : Info} {σ : St} {K : St → Prop} {Q : Exit → St → Prop}
theorem SqA.nil (h : K σ) (hc : dr = true → chk ops acc.reverse = true) : SqA P n dr ops [] acc σ K := ⟨[], ⟨rfl, h⟩, fun hd => by rw [List.append_nil]; exact hc hd⟩
theorem SqA.nilN (h : K σ) : SqA P n false ops [] acc σ K := .nil h (by simp)
theorem SqA.nilD (h : K σ) (hc : chk ops acc.reverse = true) : SqA P n true ops [] acc σ K := .nil h fun _ => hc
theorem SqA.goG {δ : St} (h : Op1 P n o i σ δ) (hg : guardIs ops o σ = some true) (hal : i.al.all (fun j => nomem j (St.ids σ)) = true) (hk : SqA P n dr ops os (⟨guardKeys ops o ++ i.rd, i.wr, i.al⟩ :: acc) (δ ++ σ) K) : SqA P n dr ops (o :: os) acc σ K := by
  obtain ⟨is, h1, h2⟩ := hk
  exact ⟨_, Sq.goG h hg hal h1, fun hd => by have := h2 hd; simpa using this⟩
theorem SqA.noG (hg : guardIs ops o σ = some false) (hk : SqA P n dr ops os (⟨guardKeys ops o, (killDst o).map (·.1), []⟩ :: acc) (killDst o ++ σ) K) : SqA P n dr ops (o :: os) acc σ K := by
  obtain ⟨is, h1, h2⟩ := hk
  exact ⟨_, Sq.noG hg h1, fun hd => by have := h2 hd; simpa using this⟩
theorem SqA.noG1 {d : Nat} (hg : guardIs ops o σ = some false) (hd : o.dst = some d) (hk : SqA P n dr ops os (⟨guardKeys ops o, [.t d], []⟩ :: acc) ((.t d, some (.one (.c (.val (.tuple #[]))))) :: σ) K) : SqA P n dr ops (o :: os) acc σ K :=
  .noG hg (by unfold killDst; rw [hd]; exact hk)
theorem dwp_reg {id : Nat} {ops : List Oper} (hd : dstsLt n ops = true) (h : SqA P n false ops.toArray ops [] σ (fun σ' => Q .normal σ')) : dwp P n (.region id ops.toArray false) Q σ := by
  obtain ⟨is, h1, _⟩ := h
  exact dwp_region h1 hd
theorem dwp_drw (hm : P.follows .mixedOrders = true) {id : Nat} {ops : List Oper} (hd : dstsLt n ops = true) (h : SqA P n true ops.toArray ops [] σ (fun σ' => Q .normal σ')) : dwp P n (.region id ops.toArray true) Q σ := by
  obtain ⟨is, h1, h2⟩ := h
  exact dwp_draw hm h1 hd (h2 rfl)
end
end Go.Proofs.YtmanhdacnkpclaaGreatDoor
