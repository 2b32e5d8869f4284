/- Walks over abstract states: what slots and own boxes hold, with no world in sight. The words, and what is kept by a step. -/
import Derived.Test.YtmanhdacnkpclaaDeep2
import Derived.Orders
namespace Go.Proofs.Ytmanhdacnkpclaa
set_option linter.unusedVariables false
set_option linter.unusedSimpArgs false
open Go.RowKit

inductive Key where
  | t (n : Nat)
  | b (j : Nat)
def Key.is : Key → Key → Bool
  | .t n, .t m => Nat.beq n m
  | .b n, .b m => Nat.beq n m
  | _, _ => false
theorem Key.is_iff {a b : Key} : Key.is a b = true ↔ a = b := by
  cases a <;> cases b <;> simp [Key.is]
theorem Key.is_self (a : Key) : Key.is a a = true := Key.is_iff.2 rfl
theorem Key.is_ne {a b : Key} (h : a ≠ b) : Key.is a b = false := by
  cases e : Key.is a b
  · rfl
  · exact absurd (Key.is_iff.1 e) h

/-- whose a block is -/
inductive Tag where
  | other
  | froz
  | bx (j : Nat)
  | own (k : Key) (p q : Nat)

/-- what a cell holds that nobody writes -/
inductive FC where
  | val (v : Value)
  | arr (ds : List D)
mutual
def D.fc : D → List FC
  | .lit v => [.val v]
  | .agg ds => fcs ds
  | .arr ds => [.arr ds]
def fcs : List D → List FC
  | [] => []
  | d :: ds => D.fc d ++ fcs ds
end
/-- what a cell holds -/
inductive CV where
  | any
  | val (v : Value)
  | arr (ds : List D)
  | own (E m : Nat) (ds : List D)
  | ptr (j o : Nat)
  | fp (cs : List FC)
def FC.cv : FC → CV
  | .val v => .val v
  | .arr ds => .arr ds
inductive A1 where
  | c (x : CV)
  | agg (cs : List CV)
inductive X where
  | one (a : A1)
  | tup (as : List A1)
  | box (cs : List CV)
abbrev St := List (Key × Option X)
def St.get : St → Key → Option X
  | [], _ => none
  | (k, x) :: l, j => bif Key.is k j then x else St.get l j
def keyIn (r : Key) : St → Bool
  | [] => false
  | (k, _) :: l => Key.is k r || keyIn r l
theorem St.get_same {k : Key} {x : Option X} {l : St} : St.get ((k, x) :: l) k = x := by simp [St.get, Key.is_self]
theorem St.get_ne {k r : Key} {x : Option X} {l : St} (h : k ≠ r) : St.get ((k, x) :: l) r = St.get l r := by simp [St.get, Key.is_ne h]
theorem St.get_app {r : Key} : ∀ {δ σ : St}, St.get (δ ++ σ) r = bif keyIn r δ then St.get δ r else St.get σ r
  | [], σ => rfl
  | (k, x) :: l, σ => by
    simp only [List.cons_append, St.get, keyIn]
    cases h : Key.is k r
    · simp only [cond_false, Bool.false_or]; exact St.get_app
    · simp
theorem keyIn_mem {r : Key} : ∀ {δ : St}, keyIn r δ = true → ∃ e ∈ δ, e.1 = r
  | [], h => by simp [keyIn] at h
  | (k, x) :: l, h => by
    simp only [keyIn, Bool.or_eq_true] at h
    rcases h with h | h
    · exact ⟨_, List.mem_cons_self .., Key.is_iff.1 h⟩
    · obtain ⟨e, he, h⟩ := keyIn_mem h; exact ⟨e, List.mem_cons_of_mem _ he, h⟩

def CV.ids : CV → List Nat
  | .ptr j _ => [j]
  | _ => []
def A1.ids : A1 → List Nat
  | .c x => x.ids
  | .agg cs => cs.flatMap CV.ids
def X.ids : X → List Nat
  | .one a => a.ids
  | .tup as => as.flatMap A1.ids
  | .box cs => cs.flatMap CV.ids
def oids : Option X → List Nat
  | some x => x.ids
  | none => []
def St.ids (σ : St) : List Nat := σ.flatMap fun e => oids e.2
theorem St.ids_get : ∀ {σ : St} {k : Key} {x : X} {j : Nat}, St.get σ k = some x → j ∈ x.ids → j ∈ St.ids σ
  | [], _, _, _, h, _ => by simp [St.get] at h
  | (k', x') :: l, k, x, j, h, hj => by
    simp only [St.get] at h
    simp only [St.ids, List.flatMap_cons, List.mem_append]
    cases hk : Key.is k' k <;> rw [hk] at h
    · exact .inr (St.ids_get (σ := l) h hj)
    · simp only [cond_true] at h; subst h; exact .inl hj
def nomem (j : Nat) (l : List Nat) : Bool := !(l.any (Nat.beq j))
theorem nomem_iff {j : Nat} {l : List Nat} : nomem j l = true ↔ j ∉ l := by
  simp only [nomem, Bool.not_eq_true', List.any_eq_false, Nat.beq_eq_true_eq]
  exact ⟨fun h hj => h j hj (Nat.beq_refl j), fun h x hx e => h (Nat.eq_of_beq_eq_true e ▸ hx)⟩

def Fz (who : Nat → Tag) : Nat → Prop := fun b => who b = .froz

def fcm (w : World) (F : Nat → Prop) : FC → Value → Prop
  | .val v, u => u = v
  | .arr ds, u => rd w F (.arr ds) [u]
def cellsF (w : World) (F : Nat → Prop) : List FC → List Value → Prop
  | [], [] => True
  | c :: cs, x :: xs => fcm w F c x ∧ cellsF w F cs xs
  | _, _ => False
theorem cellsF_app {w : World} {F : Nat → Prop} : ∀ {l1 l2 : List FC} {xs : List Value}, cellsF w F (l1 ++ l2) xs ↔ ∃ x1 x2, xs = x1 ++ x2 ∧ cellsF w F l1 x1 ∧ cellsF w F l2 x2
  | [], l2, xs => by
    constructor
    · intro h; exact ⟨[], xs, rfl, trivial, h⟩
    · rintro ⟨x1, x2, rfl, h1, h2⟩
      cases x1 with
      | nil => exact h2
      | cons a l => simp [cellsF] at h1
  | c :: l1, l2, [] => by
    constructor
    · intro h; simp [cellsF] at h
    · rintro ⟨x1, x2, e, h1, h2⟩
      cases x1 with
      | nil => simp [cellsF] at h1
      | cons a l => simp at e
  | c :: l1, l2, x :: xs => by
    simp only [List.cons_append, cellsF, cellsF_app (l1 := l1)]
    constructor
    · rintro ⟨h, x1, x2, rfl, h1, h2⟩; exact ⟨x :: x1, x2, rfl, ⟨h, h1⟩, h2⟩
    · rintro ⟨x1, x2, e, h1, h2⟩
      cases x1 with
      | nil => simp [cellsF] at h1
      | cons a l =>
        simp only [List.cons_append, List.cons.injEq] at e
        obtain ⟨rfl, rfl⟩ := e
        exact ⟨h1.1, l, x2, rfl, h1.2, h2⟩
theorem cellsF_len {w : World} {F : Nat → Prop} : ∀ {l : List FC} {xs : List Value}, cellsF w F l xs → xs.length = l.length
  | [], [], _ => rfl
  | [], _ :: _, h => by simp [cellsF] at h
  | _ :: _, [], h => by simp [cellsF] at h
  | _ :: _, _ :: _, h => by simp [cellsF_len h.2]
theorem cellsF_at {w : World} {F : Nat → Prop} : ∀ {l : List FC} {xs : List Value}, cellsF w F l xs → ∀ (i : Nat) (c : FC), l[i]? = some c → ∃ x, xs[i]? = some x ∧ fcm w F c x
  | [], _, _, i, c, hi => by simp at hi
  | _ :: _, [], h, _, _, _ => by simp [cellsF] at h
  | c' :: l, x :: xs, h, 0, c, hi => by simp at hi; subst hi; exact ⟨x, rfl, h.1⟩
  | c' :: l, x :: xs, h, i + 1, c, hi => by
    obtain ⟨y, h1, h2⟩ := cellsF_at h.2 i c (by simpa using hi)
    exact ⟨y, by simpa using h1, h2⟩
theorem cellsF_mk {w : World} {F : Nat → Prop} : ∀ {l : List FC} {xs : List Value}, xs.length = l.length → (∀ (i : Nat) (c : FC) (x : Value), l[i]? = some c → xs[i]? = some x → fcm w F c x) → cellsF w F l xs
  | [], [], _, _ => trivial
  | [], _ :: _, h, _ => by simp at h
  | _ :: _, [], h, _ => by simp at h
  | c :: l, x :: xs, h, hh => ⟨hh 0 c x rfl rfl, cellsF_mk (by simpa using h) fun i c x hc hx => hh (i + 1) c x (by simpa using hc) (by simpa using hx)⟩
theorem rds_fc {w : World} {F : Nat → Prop} : ∀ (ds : List D), (∀ d ∈ ds, ∀ cs, rd w F d cs ↔ cellsF w F d.fc cs) → ∀ cs, rds w F ds cs ↔ cellsF w F (fcs ds) cs
  | [], _, cs => by
    cases cs <;> simp [rds, fcs, cellsF]
  | d :: ds, h, cs => by
    simp only [rds, fcs, cellsF_app]
    constructor
    · rintro ⟨c1, c2, e, h1, h2⟩; exact ⟨c1, c2, e, (h d (by simp) c1).1 h1, (rds_fc ds (fun d' hd => h d' (by simp [hd])) c2).1 h2⟩
    · rintro ⟨c1, c2, e, h1, h2⟩; exact ⟨c1, c2, e, (h d (by simp) c1).2 h1, (rds_fc ds (fun d' hd => h d' (by simp [hd])) c2).2 h2⟩
theorem rd_fc {w : World} {F : Nat → Prop} : ∀ (d : D) (cs : List Value), rd w F d cs ↔ cellsF w F d.fc cs := by
  refine D.ind ?_ ?_ ?_
  · intro v cs
    simp only [rd, D.fc]
    cases cs with
    | nil => simp [cellsF]
    | cons x l => cases l <;> simp [cellsF, fcm]
  · intro ds ih cs
    simp only [rd, D.fc]
    exact rds_fc ds ih cs
  · intro ds _ cs
    simp only [D.fc]
    cases cs with
    | nil => simp [cellsF, rd]
    | cons x l =>
      cases l with
      | nil => simp [cellsF, fcm]
      | cons y l => simp [cellsF, rd]
theorem fcm.keep {w w' : World} {F F' : Nat → Prop} (hz : w.heap.size ≤ w'.heap.size) (hS : ∀ b, b < w.heap.size → F b → F' b) (hw : ∀ b, b < w.heap.size → F b → w'.heap[b]? = w.heap[b]?) {c : FC} {x : Value} (h : fcm w F c x) : fcm w' F' c x := by
  cases c with
  | val v => exact h
  | arr ds => exact rd.keep hz hS hw _ _ h

/-- value u is what c says, at place p -/
def cvm (w : World) (who : Nat → Tag) (p : Tag) : CV → Value → Prop
  | .any, _ => True
  | .val v, u => u = v
  | .arr ds, u => rd w (Fz who) (.arr ds) [u]
  | .own E m ds, u => Own w 0 E m (Fz who) u ds ∧ ∀ k, u.ownBlock = some k → who k = p
  | .ptr j o, u => ∃ b, u = .pointer (some ⟨b, o, none⟩) ∧ who b = .bx j
  | .fp cs, u => ∃ b o, u = .pointer (some ⟨b, o, none⟩) ∧ who b = .froz ∧ ∀ i c, cs[i]? = some c → ∃ x, w.cell? ⟨b, o + i, none⟩ = some x ∧ fcm w (Fz who) c x
def A1m (w : World) (who : Nat → Tag) (k : Key) (p : Nat) : A1 → Value → Prop
  | .c x, u => cvm w who (.own k p 0) x u
  | .agg cs, u => ∃ vs : List Value, u = .agg vs.toArray ∧ vs.length = cs.length ∧ ∀ q c v, cs[q]? = some c → vs[q]? = some v → cvm w who (.own k p q) c v ∧ v.oneCell' = true
def Xm (w : World) (who : Nat → Tag) (k : Key) : X → Value → Prop
  | .one a, u => A1m w who k 0 a u
  | .tup as, u => ∃ us : List Value, u = .tuple us.toArray ∧ us.length = as.length ∧ ∀ p a v, as[p]? = some a → us[p]? = some v → A1m w who k p a v
  | .box _, _ => True
def cellsm (w : World) (who : Nat → Tag) (k : Key) (cs : List CV) (vs : List Value) : Prop :=
  vs.length = cs.length ∧ ∀ q c v, cs[q]? = some c → vs[q]? = some v → cvm w who (.own k 0 q) c v
def Boxm (w : World) (who : Nat → Tag) (j : Nat) (cs : List CV) : Prop :=
  ∀ b, who b = .bx j → ∃ (vs : List Value) (E : TypeId), w.heap[b]? = some (.cells vs.toArray E (0, 0)) ∧ cellsm w who (.b j) cs vs

structure Ctx where
  w0 : World
  who0 : Nat → Tag
/-- the number of a box that was handed to the call -/
def EXT : Nat := 1000000
/-- what was not handed to the call is as it was -/
structure Adv (C : Ctx) (who : Nat → Tag) (w : World) : Prop where
  os : w.os = C.w0.os
  tape : w.tape = C.w0.tape
  output : w.output = C.w0.output
  size : C.w0.heap.size ≤ w.heap.size
  keep : ∀ b, b < C.w0.heap.size → (C.who0 b = .other ∨ C.who0 b = .froz) → w.heap[b]? = C.w0.heap[b]?
  tag : ∀ b, b < C.w0.heap.size → (C.who0 b = .other ∨ C.who0 b = .froz ∨ ∃ j, C.who0 b = .bx j) → who b = C.who0 b
/-- a frame and a world that are as the state says -/
structure Rep (n : Nat) (C : Ctx) (who : Nat → Tag) (σ : St) (a : Act) (w : World) : Prop where
  nd : a.defers = []
  nt : a.tmps.size = n
  ext : ∀ b j, C.who0 b = .bx j → j = EXT
  adv : Adv C who w
  fz : ∀ b, who b ≠ .other → b < w.heap.size
  bxu : ∀ b b' j, who b = .bx j → who b' = .bx j → b = b'
  slot : ∀ t x, St.get σ (.t t) = some x → Xm w who (.t t) x (a.tmps.getD t undef)
  box : ∀ j cs, St.get σ (.b j) = some (.box cs) → Boxm w who j cs

theorem Rep.forget {n : Nat} {C : Ctx} {who : Nat → Tag} {σ σ' : St} {a : Act} {w : World} (h : Rep n C who σ a w) (hs : ∀ k x, St.get σ' k = some x → St.get σ k = some x) : Rep n C who σ' a w :=
  ⟨h.nd, h.nt, h.ext, h.adv, h.fz, h.bxu, fun t x hx => h.slot t x (hs _ _ hx), fun j cs hx => h.box j cs (hs _ _ hx)⟩
theorem Rep.congr {n : Nat} {C : Ctx} {who : Nat → Tag} {σ σ' : St} {a : Act} {w : World} (h : Rep n C who σ a w) (hs : ∀ k, St.get σ' k = St.get σ k) : Rep n C who σ' a w :=
  h.forget fun k x hx => by rw [← hs]; exact hx

/-- a step: T: blocks that are written; G: blocks that become another's -/
structure Stp (who : Nat → Tag) (w : World) (who' : Nat → Tag) (w' : World) (T G : Nat → Prop) : Prop where
  os : w'.os = w.os
  tape : w'.tape = w.tape
  output : w'.output = w.output
  size : w.heap.size ≤ w'.heap.size
  heap : ∀ b, b < w.heap.size → ¬ T b → w'.heap[b]? = w.heap[b]?
  tag : ∀ b, b < w.heap.size → ¬ G b → who' b = who b
  tf : ∀ b, T b → who b ≠ .froz
  gf : ∀ b, G b → who b ≠ .froz

theorem Own.kp {w w' : World} {B E m : Nat} {S S' : Nat → Prop} {v : Value} {ds : List D} (h : Own w B E m S v ds) (hz : w.heap.size ≤ w'.heap.size) (hS : ∀ b, b < w.heap.size → S b → S' b)
    (hw : ∀ b, b < w.heap.size → S b → w'.heap[b]? = w.heap[b]?) (hv : ∀ k, v.ownBlock = some k → w'.heap[k]? = w.heap[k]?) : Own w' B E m S' v ds := by
  obtain ⟨xs, ⟨l, h1⟩, h2, h3⟩ := h
  refine ⟨xs, ⟨l, ?_⟩, rds.keep hz (fun b hb ⟨h, h'⟩ => ⟨hS b hb h, h'⟩) (fun b hb h => hw b hb h.1) _ _ h2, h3⟩
  rcases h1 with h1 | ⟨g, cap, cur, rfl, e2, e3, e4⟩
  · exact .inl h1
  · exact .inr ⟨g, cap, cur, rfl, e2, by rw [hv g rfl]; exact e3, e4⟩

section
variable {who who' : Nat → Tag} {w w' : World} {T G : Nat → Prop}
theorem Stp.fz (hs : Stp who w who' w' T G) : ∀ b, b < w.heap.size → Fz who b → Fz who' b := fun b hb h =>
  (hs.tag b hb fun hg => hs.gf b hg h).trans h
theorem Stp.hw (hs : Stp who w who' w' T G) : ∀ b, b < w.heap.size → Fz who b → w'.heap[b]? = w.heap[b]? := fun b hb h => hs.heap b hb fun ht => hs.tf b ht h

theorem cvm.stp {p : Tag} {c : CV} {u : Value} (h : cvm w who p c u) (hs : Stp who w who' w' T G) (hz : ∀ b, who b ≠ .other → b < w.heap.size)
    (ho : p ≠ .other → ∀ k, who k = p → ¬ T k ∧ ¬ G k) (hp' : p ≠ .other) (hp : ∀ j, j ∈ c.ids → ∀ b, who b = .bx j → ¬ G b) : cvm w' who' p c u := by
  cases c with
  | any => trivial
  | val v => exact h
  | arr ds => exact rd.keep hs.size hs.fz hs.hw _ _ h
  | own E m ds =>
    obtain ⟨h1, h2⟩ := h
    refine ⟨h1.kp hs.size hs.fz hs.hw fun k hk => ?_, fun k hk => ?_⟩
    · have hk' := h2 k hk
      exact hs.heap k (hz k (by rw [hk']; exact hp')) (ho hp' k hk').1
    · have hk' := h2 k hk
      exact (hs.tag k (hz k (by rw [hk']; exact hp')) (ho hp' k hk').2).trans hk'
  | ptr j o =>
    obtain ⟨b, rfl, hb⟩ := h
    exact ⟨b, rfl, (hs.tag b (hz b (by rw [hb]; simp)) (hp j (by simp [CV.ids]) b hb)).trans hb⟩
  | fp cs =>
    obtain ⟨b, o, rfl, hb, h2⟩ := h
    have hlt := hz b (by rw [hb]; simp)
    refine ⟨b, o, rfl, hs.fz b hlt hb, fun i c hc => ?_⟩
    obtain ⟨x, h3, h4⟩ := h2 i c hc
    exact ⟨x, by rw [World.cell?_of_block (w := w) (hs.hw b hlt hb)]; exact h3, h4.keep hs.size hs.fz hs.hw⟩

theorem A1m.stp {k : Key} {p : Nat} {A : A1} {u : Value} (h : A1m w who k p A u) (hs : Stp who w who' w' T G) (hz : ∀ b, who b ≠ .other → b < w.heap.size)
    (ho : ∀ q b, who b = .own k p q → ¬ T b ∧ ¬ G b) (hp : ∀ j, j ∈ A.ids → ∀ b, who b = .bx j → ¬ G b) : A1m w' who' k p A u := by
  cases A with
  | c x => exact cvm.stp h hs hz (fun _ b hb => ho 0 b hb) (by simp) hp
  | agg cs =>
    obtain ⟨vs, rfl, hl, hc⟩ := h
    refine ⟨vs, rfl, hl, fun q c v hq hv => ⟨cvm.stp (hc q c v hq hv).1 hs hz (fun _ b hb => ho q b hb) (by simp) fun j hj => hp j ?_, (hc q c v hq hv).2⟩⟩
    exact List.mem_flatMap.2 ⟨c, List.mem_of_getElem? hq, hj⟩

theorem Xm.stp {k : Key} {x : X} {u : Value} (h : Xm w who k x u) (hs : Stp who w who' w' T G) (hz : ∀ b, who b ≠ .other → b < w.heap.size)
    (ho : ∀ p q b, who b = .own k p q → ¬ T b ∧ ¬ G b) (hp : ∀ j, j ∈ x.ids → ∀ b, who b = .bx j → ¬ G b) : Xm w' who' k x u := by
  cases x with
  | one a => exact A1m.stp h hs hz (ho 0) hp
  | tup as =>
    obtain ⟨us, rfl, hl, hc⟩ := h
    refine ⟨us, rfl, hl, fun p a v hq hv => A1m.stp (hc p a v hq hv) hs hz (ho p) fun j hj => hp j ?_⟩
    exact List.mem_flatMap.2 ⟨a, List.mem_of_getElem? hq, hj⟩
  | box cs => trivial

theorem cellsm.stp {k : Key} {cs : List CV} {vs : List Value} (h : cellsm w who k cs vs) (hs : Stp who w who' w' T G) (hz : ∀ b, who b ≠ .other → b < w.heap.size)
    (ho : ∀ q b, who b = .own k 0 q → ¬ T b ∧ ¬ G b) (hp : ∀ j, j ∈ cs.flatMap CV.ids → ∀ b, who b = .bx j → ¬ G b) : cellsm w' who' k cs vs :=
  ⟨h.1, fun q c v hq hv => cvm.stp (h.2 q c v hq hv) hs hz (fun _ b hb => ho q b hb) (by simp) fun j hj => hp j (List.mem_flatMap.2 ⟨c, List.mem_of_getElem? hq, hj⟩)⟩

/-- the state is kept by a step that does not touch what it speaks of -/
theorem Rep.stp {n : Nat} {C : Ctx} {σ : St} {a : Act} (h : Rep n C who σ a w) (hs : Stp who w who' w' T G)
    (h0 : ∀ b, b < C.w0.heap.size → (C.who0 b = .other ∨ C.who0 b = .froz) → ¬ T b ∧ ¬ G b) (h0' : ∀ b j, b < C.w0.heap.size → C.who0 b = .bx j → ¬ G b)
    (hz' : ∀ b, who' b ≠ .other → b < w'.heap.size) (hu' : ∀ b b' j, who' b = .bx j → who' b' = .bx j → b = b')
    (h1 : ∀ b k p q, who b = .own k p q → T b ∨ G b → St.get σ k = none)
    (h2 : ∀ b j, who b = .bx j → G b → j ∉ St.ids σ)
    (h3 : ∀ b j, who b = .bx j → T b ∨ G b → St.get σ (.b j) = none)
    (h4 : ∀ b j, who' b = .bx j → who b ≠ .bx j → St.get σ (.b j) = none) : Rep n C who' σ a w' where
  nd := h.nd
  nt := h.nt
  ext := h.ext
  adv := by
    refine ⟨hs.os.trans h.adv.os, hs.tape.trans h.adv.tape, hs.output.trans h.adv.output, Nat.le_trans h.adv.size hs.size, fun b hb ho => ?_, fun b hb ho => ?_⟩
    · exact (hs.heap b (Nat.lt_of_lt_of_le hb h.adv.size) (h0 b hb ho).1).trans (h.adv.keep b hb ho)
    · refine (hs.tag b (Nat.lt_of_lt_of_le hb h.adv.size) ?_).trans (h.adv.tag b hb ho)
      rcases ho with ho | ho | ⟨j, ho⟩
      · exact (h0 b hb (.inl ho)).2
      · exact (h0 b hb (.inr ho)).2
      · exact h0' b j hb ho
  fz := hz'
  bxu := hu'
  slot := fun t x hx => by
    refine Xm.stp (h.slot t x hx) hs h.fz (fun p q b hb => ?_) fun j hj b hb hG => h2 b j hb hG (St.ids_get hx hj)
    constructor <;> intro ht
    · have := h1 b _ _ _ hb (.inl ht); rw [hx] at this; cases this
    · have := h1 b _ _ _ hb (.inr ht); rw [hx] at this; cases this
  box := fun j cs hx b hb => by
    have hb0 : who b = .bx j := by
      rcases Classical.em (who b = .bx j) with e | e
      · exact e
      · have := h4 b j hb e; rw [hx] at this; cases this
    have hTG : ¬ T b ∧ ¬ G b := by
      constructor <;> intro ht
      · have := h3 b j hb0 (.inl ht); rw [hx] at this; cases this
      · have := h3 b j hb0 (.inr ht); rw [hx] at this; cases this
    obtain ⟨vs, E, e, hc⟩ := h.box j cs hx b hb0
    refine ⟨vs, E, ?_, cellsm.stp hc hs h.fz (fun q b' hb' => ?_) fun i hi b' hb' hG => h2 b' i hb' hG (St.ids_get hx hi)⟩
    · rw [hs.heap b (h.fz b (by rw [hb0]; simp)) hTG.1]; exact e
    · constructor <;> intro ht
      · have := h1 b' _ _ _ hb' (.inl ht); rw [hx] at this; cases this
      · have := h1 b' _ _ _ hb' (.inr ht); rw [hx] at this; cases this
end

section
variable {n : Nat} {C : Ctx} {who : Nat → Tag} {σ : St} {a : Act} {w : World}
theorem Rep.put (h : Rep n C who σ a w) {t : Nat} (ht : t < n) {x : X} {v : Value} (hx : Xm w who (.t t) x v) : Rep n C who ((.t t, some x) :: σ) (a.put (some t) v) w where
  nd := h.nd
  nt := by simp [Act.put, h.nt]
  ext := h.ext
  adv := h.adv
  fz := h.fz
  bxu := h.bxu
  slot := fun t' x' hx' => by
    rcases Classical.em (t = t') with rfl | hne
    · rw [St.get_same] at hx'; injection hx' with e; subst e
      have : (a.put (some t) v).tmps.getD t undef = v := by simp [Act.put, h.nt, ht]
      rw [this]; exact hx
    · rw [St.get_ne (by simpa using hne)] at hx'
      have : (a.put (some t) v).tmps.getD t' undef = a.tmps.getD t' undef := by simp [Act.put, Array.getElem?_setIfInBounds_ne hne]
      rw [this]; exact h.slot t' x' hx'
  box := fun j cs hx' => by rw [St.get_ne (by simp)] at hx'; exact h.box j cs hx'
theorem Rep.putNone (h : Rep n C who σ a w) {t : Nat} {v : Value} : Rep n C who ((.t t, none) :: σ) (a.put (some t) v) w where
  nd := h.nd
  nt := by simp [Act.put, h.nt]
  ext := h.ext
  adv := h.adv
  fz := h.fz
  bxu := h.bxu
  slot := fun t' x' hx' => by
    rcases Classical.em (t = t') with rfl | hne
    · rw [St.get_same] at hx'; cases hx'
    · rw [St.get_ne (by simpa using hne)] at hx'
      have : (a.put (some t) v).tmps.getD t' undef = a.tmps.getD t' undef := by simp [Act.put, Array.getElem?_setIfInBounds_ne hne]
      rw [this]; exact h.slot t' x' hx'
  box := fun j cs hx' => by rw [St.get_ne (by simp)] at hx'; exact h.box j cs hx'
theorem Rep.kill (h : Rep n C who σ a w) (k : Key) : Rep n C who ((k, none) :: σ) a w :=
  h.forget fun k' x hx => by
    rcases Classical.em (k = k') with rfl | hne
    · rw [St.get_same] at hx; cases hx
    · rw [St.get_ne hne] at hx; exact hx
theorem Rep.addBox (h : Rep n C who σ a w) {j : Nat} {cs : List CV} (hx : Boxm w who j cs) : Rep n C who ((.b j, some (.box cs)) :: σ) a w where
  nd := h.nd
  nt := h.nt
  ext := h.ext
  adv := h.adv
  fz := h.fz
  bxu := h.bxu
  slot := fun t x hx' => by rw [St.get_ne (by simp)] at hx'; exact h.slot t x hx'
  box := fun j' cs' hx' => by
    rcases Classical.em (j = j') with rfl | hne
    · rw [St.get_same] at hx'; injection hx' with e; injection e with e; subst e; exact hx
    · rw [St.get_ne (by simpa using hne)] at hx'; exact h.box j' cs' hx'
theorem Rep.addSlot (h : Rep n C who σ a w) {t : Nat} {x : X} (hx : Xm w who (.t t) x (a.tmps.getD t undef)) : Rep n C who ((.t t, some x) :: σ) a w where
  nd := h.nd
  nt := h.nt
  ext := h.ext
  adv := h.adv
  fz := h.fz
  bxu := h.bxu
  slot := fun t' x' hx' => by
    rcases Classical.em (t = t') with rfl | hne
    · rw [St.get_same] at hx'; injection hx' with e; subst e; exact hx
    · rw [St.get_ne (by simpa using hne)] at hx'; exact h.slot t' x' hx'
  box := fun j cs hx' => by rw [St.get_ne (by simp)] at hx'; exact h.box j cs hx'

/-- what an operand holds -/
def St.ev (σ : St) : Operand → Option X
  | .tmp t => St.get σ (.t t)
  | .const v => some (.one (.c (.val v)))
  | .func f => some (.one (.c (.val (.func (.func f) #[] #[]))))
  | .global _ => none
def opKey : Operand → List Key
  | .tmp t => [.t t]
  | _ => []
def opTag : Operand → Key
  | .tmp t => .t t
  | _ => .b 0
theorem Rep.ev (h : Rep n C who σ a w) {s : Operand} {x : X} (hx : St.ev σ s = some x) : Xm w who (opTag s) x (a.eval s) := by
  cases s with
  | tmp t => exact h.slot t x hx
  | const v => simp only [St.ev, Option.some.injEq] at hx; subst hx; rfl
  | func f => simp only [St.ev, Option.some.injEq] at hx; subst hx; rfl
  | global g => simp [St.ev] at hx
theorem ev_agree {σ' : St} {s : Operand} (h : ∀ k ∈ opKey s, St.get σ' k = St.get σ k) : St.ev σ' s = St.ev σ s := by
  cases s with
  | tmp t => exact h _ (by simp [opKey])
  | _ => rfl
end
end Go.Proofs.Ytmanhdacnkpclaa
