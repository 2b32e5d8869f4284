/- Terms, pairs, literals, clauses as plain data, and how they lie in memory. -/
import Derived.Test.YtmanhdacnkpclaaDeep
namespace Go.Proofs.Ytmanhdacnkpclaa
set_option linter.unusedVariables false
set_option linter.unusedSimpArgs false
open Go.RowKit

structure Tm where
  var : Bool
  n : Int
  args : List Tm

theorem Tm.ind {P : Tm → Prop} (h : ∀ v n l, (∀ a ∈ l, P a) → P ⟨v, n, l⟩) : ∀ t, P t
  | ⟨v, n, l⟩ => h v n l fun a _ => Tm.ind h a

mutual
def Tm.d : Tm → D
  | ⟨v, n, l⟩ => .agg [.lit (.bool v), .lit (.int .i64 n), .arr (Tm.ds l)]
def Tm.ds : List Tm → List D
  | [] => []
  | a :: l => Tm.d a :: Tm.ds l
end

theorem Tm.ds_eq : ∀ l, Tm.ds l = l.map Tm.d
  | [] => rfl
  | a :: l => by simp [Tm.ds, Tm.ds_eq l]

/-- a slice value that reads as a list, each element by f -/
def RdL {α : Type} (f : α → D) (w : World) (S : Nat → Prop) (l : List α) (v : Value) : Prop := rd w S (.arr (l.map f)) [v]

section
variable {α : Type} {f : α → D} {w w' : World} {S S' : Nat → Prop} {l : List α} {v : Value}
theorem RdL.form (h : RdL f w S l v) : ∃ a cap, v = .slice a l.length cap ∧ l.length ≤ cap ∧ cap ≤ 9223372036854775807 := by
  obtain ⟨a, cap, e, h1, h2, _⟩ := h
  rw [List.length_map] at e h1
  exact ⟨a, cap, by simpa using e, h1, by simpa [maxLen] using h2⟩
theorem RdL.keep (h : RdL f w S l v) (hz : w.heap.size ≤ w'.heap.size) (hS : ∀ b, b < w.heap.size → S b → S' b) (hw : ∀ b, b < w.heap.size → S b → w'.heap[b]? = w.heap[b]?) : RdL f w' S' l v := rd.keep hz hS hw _ _ h
theorem RdL.below {B : Nat} (h : RdL f w S l v) (hb : Below B w w') (hB : w.heap.size ≤ B) : RdL f w' S l v := rd.below h hb hB
theorem RdL.alloc (h : RdL f w S l v) (o : Obj) : RdL f (w.alloc o) S l v := h.keep (by simp) (fun _ _ h => h) (fun b hb _ => Below.heap_alloc w o b hb)
theorem RdL.same_ (h : RdL f w S l v) (hh : w'.heap = w.heap) : RdL f w' S l v := h.keep (by rw [hh]; exact Nat.le_refl _) (fun _ _ h => h) (fun b _ _ => by rw [hh])
theorem RdL.wide (h : RdL f w S l v) (hS : ∀ b, b < w.heap.size → S b → S' b) : RdL f w S' l v := rd.wide h hS
theorem RdL.nil (c : Nat) (hc : c ≤ 9223372036854775807) (a : Option Addr) : RdL f w S [] (.slice a 0 c) := ⟨a, c, rfl, Nat.zero_le _, by simpa [maxLen] using hc, .inl rfl⟩
theorem RdL.nth {P : Program} {T E m bytes : Nat} {z : Value} {a : Option Addr} {n cap k : Nat} (h : RdL f w S l (.slice a n cap)) (hT : SliceOf P T E m bytes z)
    (hm : ∀ x c, rd w S (f x) c → c.length = m) (hk : k < l.length) :
    ∃ x b o cs, Hid (l[k]? = some x) ∧ S b ∧ b < w.heap.size ∧ (∀ W, (Instr.indexAt T (.slice a n cap) (.int .i64 (k : Int))).run P W = .ok (.pointer (some ⟨b, o + k * m, none⟩)) W) ∧
      rd w S (f x) cs ∧ ∀ j u, cs[j]? = some u → w.cell? ⟨b, o + k * m + j, none⟩ = some u := by
  obtain ⟨a', cap', e, h1, h2, h3⟩ := h
  simp only [List.cons.injEq, Value.slice.injEq, and_true, List.length_map] at e h1 h3
  obtain ⟨rfl, rfl, rfl⟩ := e
  rcases h3 with h3 | ⟨b, o, xs, e1, e2, eb, e3, e4⟩
  · omega
  · obtain ⟨c, _, hr, hj⟩ := rds.nth _ xs e3 (fun d hd c hc => by
      obtain ⟨x, _, rfl⟩ := List.mem_map.1 hd
      exact hm x c hc) k (by simpa using hk)
    refine ⟨l[k], b, o, c, List.getElem?_eq_getElem hk, e2, eb, fun W => hT.index e1 hk W, by simpa using hr, fun j u hu => ?_⟩
    rw [Nat.add_assoc]; exact e4 _ u (hj j u hu)
end

theorem Own.rdl {α : Type} {f : α → D} {w : World} {B E m : Nat} {S : Nat → Prop} {v : Value} {l : List α} (h : Own w B E m S v (l.map f)) : RdL f w (Up S B) l v := h.rd

abbrev RdTs := RdL Tm.d
/-- value v reads as the term t -/
def RdT (w : World) (S : Nat → Prop) (t : Tm) (v : Value) : Prop :=
  ∃ a c, v = .agg #[.bool t.var, .int .i64 t.n, .slice a t.args.length c] ∧ RdTs w S t.args (.slice a t.args.length c)

theorem rd_tm {w : World} {S : Nat → Prop} {t : Tm} {cs : List Value} : rd w S t.d cs ↔ ∃ a c, cs = [.bool t.var, .int .i64 t.n, .slice a t.args.length c] ∧ RdTs w S t.args (.slice a t.args.length c) := by
  obtain ⟨b, n, l⟩ := t
  constructor
  · rintro ⟨c1, c2, rfl, h1, c3, c4, rfl, h2, c5, c6, rfl, h3, h4⟩
    rw [Tm.ds_eq] at h3
    have h3' := h3
    obtain ⟨a, cap, rfl, _⟩ := h3'
    simp only [rd, rds, List.length_map] at h1 h2 h3 h4 ⊢
    subst h1 h2 h4
    exact ⟨_, _, rfl, by simpa [RdL, rd] using h3⟩
  · rintro ⟨a, c, rfl, h⟩
    refine ⟨[_], [_, _], rfl, rfl, [_], [_], rfl, rfl, [_], [], rfl, ?_, rfl⟩
    rw [Tm.ds_eq]; exact h
theorem RdT.rd {w : World} {S : Nat → Prop} {t : Tm} {cs : List Value} (h : RdT w S t (.agg cs.toArray)) : rd w S t.d cs := by
  obtain ⟨a, c, e, h⟩ := h
  refine rd_tm.2 ⟨a, c, ?_, h⟩
  simpa using e
theorem rd_tm_len {w : World} {S : Nat → Prop} (t : Tm) (c : List Value) (h : Go.Proofs.Ytmanhdacnkpclaa.rd w S t.d c) : c.length = 3 := by
  obtain ⟨_, _, rfl, _⟩ := rd_tm.1 h; rfl
section
variable {w w' : World} {S S' : Nat → Prop} {t : Tm} {v : Value}
theorem RdT.keep (h : RdT w S t v) (hz : w.heap.size ≤ w'.heap.size) (hS : ∀ b, b < w.heap.size → S b → S' b) (hw : ∀ b, b < w.heap.size → S b → w'.heap[b]? = w.heap[b]?) : RdT w' S' t v := by
  obtain ⟨a, c, rfl, h⟩ := h; exact ⟨a, c, rfl, h.keep hz hS hw⟩
theorem RdT.below {B : Nat} (h : RdT w S t v) (hb : Below B w w') (hB : w.heap.size ≤ B) : RdT w' S t v := by obtain ⟨a, c, rfl, h⟩ := h; exact ⟨a, c, rfl, h.below hb hB⟩
theorem RdT.alloc (h : RdT w S t v) (o : Obj) : RdT (w.alloc o) S t v := h.keep (by simp) (fun _ _ h => h) (fun b hb _ => Below.heap_alloc w o b hb)
theorem RdT.same_ (h : RdT w S t v) (hh : w'.heap = w.heap) : RdT w' S t v := h.keep (by rw [hh]; exact Nat.le_refl _) (fun _ _ h => h) (fun b _ _ => by rw [hh])
theorem RdT.wide (h : RdT w S t v) (hS : ∀ b, b < w.heap.size → S b → S' b) : RdT w S' t v := by obtain ⟨a, c, rfl, h⟩ := h; exact ⟨a, c, rfl, h.wide hS⟩
end
/-- element k of a slice of terms -/
theorem RdL.nthT {P : Program} {T E bytes : Nat} {z : Value} {w : World} {S : Nat → Prop} {l : List Tm} {a : Option Addr} {n cap k : Nat} (h : RdTs w S l (.slice a n cap)) (hT : SliceOf P T E 3 bytes z) (hk : k < l.length) :
    ∃ x b o a' c', Hid (l[k]? = some x) ∧ S b ∧ b < w.heap.size ∧ (∀ W, (Instr.indexAt T (.slice a n cap) (.int .i64 (k : Int))).run P W = .ok (.pointer (some ⟨b, o + k * 3, none⟩)) W) ∧
      w.cell? ⟨b, o + k * 3, none⟩ = some (.bool x.var) ∧ w.cell? ⟨b, o + k * 3 + 1, none⟩ = some (.int .i64 x.n) ∧ w.cell? ⟨b, o + k * 3 + 2, none⟩ = some (.slice a' x.args.length c') ∧
      RdTs w S x.args (.slice a' x.args.length c') := by
  obtain ⟨x, b, o, cs, hx, hS, hb, hi, hr, hc⟩ := RdL.nth h hT rd_tm_len hk
  obtain ⟨a', c', rfl, h2⟩ := rd_tm.1 hr
  exact ⟨x, b, o, a', c', hx, hS, hb, hi, hc 0 _ rfl, hc 1 _ rfl, hc 2 _ rfl, h2⟩

/-- a pair: a variable, and what it is bound to -/
abbrev Pr := Int × Tm
def Pr.d (p : Pr) : D := .agg [.lit (.int .i64 p.1), p.2.d]
theorem rd_pr {w : World} {S : Nat → Prop} {p : Pr} {cs : List Value} : rd w S (Pr.d p) cs ↔ ∃ a c, cs = [.int .i64 p.1, .bool p.2.var, .int .i64 p.2.n, .slice a p.2.args.length c] ∧ RdTs w S p.2.args (.slice a p.2.args.length c) := by
  constructor
  · rintro ⟨c1, c2, rfl, h1, c3, c4, rfl, h2, h4⟩
    obtain ⟨a, c, rfl, h⟩ := rd_tm.1 h2
    simp only [rd, rds] at h1 h4
    subst h1 h4
    exact ⟨a, c, rfl, h⟩
  · rintro ⟨a, c, rfl, h⟩
    exact ⟨[_], [_, _, _], rfl, rfl, [_, _, _], [], rfl, rd_tm.2 ⟨a, c, rfl, h⟩, rfl⟩
theorem rd_pr_len {w : World} {S : Nat → Prop} (p : Pr) (c : List Value) (h : rd w S (Pr.d p) c) : c.length = 4 := by
  obtain ⟨_, _, rfl, _⟩ := rd_pr.1 h; rfl
abbrev RdS := RdL Pr.d
theorem RdL.nthS {P : Program} {T E bytes : Nat} {z : Value} {w : World} {S : Nat → Prop} {l : List Pr} {a : Option Addr} {n cap k : Nat} (h : RdS w S l (.slice a n cap)) (hT : SliceOf P T E 4 bytes z) (hk : k < l.length) :
    ∃ x b o a' c', Hid (l[k]? = some x) ∧ S b ∧ b < w.heap.size ∧ (∀ W, (Instr.indexAt T (.slice a n cap) (.int .i64 (k : Int))).run P W = .ok (.pointer (some ⟨b, o + k * 4, none⟩)) W) ∧
      w.cell? ⟨b, o + k * 4, none⟩ = some (.int .i64 x.1) ∧ w.cell? ⟨b, o + k * 4 + 1, none⟩ = some (.bool x.2.var) ∧ w.cell? ⟨b, o + k * 4 + 2, none⟩ = some (.int .i64 x.2.n) ∧
      w.cell? ⟨b, o + k * 4 + 3, none⟩ = some (.slice a' x.2.args.length c') ∧ RdTs w S x.2.args (.slice a' x.2.args.length c') := by
  obtain ⟨x, b, o, cs, hx, hS, hb, hi, hr, hc⟩ := RdL.nth h hT rd_pr_len hk
  obtain ⟨a', c', rfl, h2⟩ := rd_pr.1 hr
  exact ⟨x, b, o, a', c', hx, hS, hb, hi, hc 0 _ rfl, hc 1 _ rfl, hc 2 _ rfl, hc 3 _ rfl, h2⟩

/-- a literal -/
structure Lt where
  neg : Bool
  left : Tm
  right : Tm
def Lt.d (p : Lt) : D := .agg [.lit (.bool p.neg), p.left.d, p.right.d]
theorem rd_lt {w : World} {S : Nat → Prop} {p : Lt} {cs : List Value} : rd w S p.d cs ↔ ∃ a c a' c', cs = [.bool p.neg, .bool p.left.var, .int .i64 p.left.n, .slice a p.left.args.length c, .bool p.right.var, .int .i64 p.right.n, .slice a' p.right.args.length c'] ∧
    RdTs w S p.left.args (.slice a p.left.args.length c) ∧ RdTs w S p.right.args (.slice a' p.right.args.length c') := by
  constructor
  · rintro ⟨c1, c2, rfl, h1, c3, c4, rfl, h2, c5, c6, rfl, h3, h4⟩
    obtain ⟨a, c, rfl, h⟩ := rd_tm.1 h2
    obtain ⟨a', c', rfl, h'⟩ := rd_tm.1 h3
    simp only [rd, rds] at h1 h4
    subst h1 h4
    exact ⟨a, c, a', c', rfl, h, h'⟩
  · rintro ⟨a, c, a', c', rfl, h, h'⟩
    exact ⟨[_], [_, _, _, _, _, _], rfl, rfl, [_, _, _], [_, _, _], rfl, rd_tm.2 ⟨a, c, rfl, h⟩, [_, _, _], [], rfl, rd_tm.2 ⟨a', c', rfl, h'⟩, rfl⟩
theorem rd_lt_len {w : World} {S : Nat → Prop} (p : Lt) (c : List Value) (h : rd w S p.d c) : c.length = 7 := by
  obtain ⟨_, _, _, _, rfl, _⟩ := rd_lt.1 h; rfl
abbrev Cl := List Lt
def Cl.d (c : Cl) : D := .arr (c.map Lt.d)
abbrev RdC := RdL Lt.d
theorem RdL.nthC {P : Program} {T E bytes : Nat} {z : Value} {w : World} {S : Nat → Prop} {l : Cl} {a : Option Addr} {n cap k : Nat} (h : RdC w S l (.slice a n cap)) (hT : SliceOf P T E 7 bytes z) (hk : k < l.length) :
    ∃ x b o a1 c1 a2 c2, Hid (l[k]? = some x) ∧ S b ∧ b < w.heap.size ∧ (∀ W, (Instr.indexAt T (.slice a n cap) (.int .i64 (k : Int))).run P W = .ok (.pointer (some ⟨b, o + k * 7, none⟩)) W) ∧
      w.cell? ⟨b, o + k * 7, none⟩ = some (.bool x.neg) ∧ w.cell? ⟨b, o + k * 7 + 1, none⟩ = some (.bool x.left.var) ∧ w.cell? ⟨b, o + k * 7 + 2, none⟩ = some (.int .i64 x.left.n) ∧
      w.cell? ⟨b, o + k * 7 + 3, none⟩ = some (.slice a1 x.left.args.length c1) ∧ w.cell? ⟨b, o + k * 7 + 4, none⟩ = some (.bool x.right.var) ∧ w.cell? ⟨b, o + k * 7 + 5, none⟩ = some (.int .i64 x.right.n) ∧
      w.cell? ⟨b, o + k * 7 + 6, none⟩ = some (.slice a2 x.right.args.length c2) ∧ RdTs w S x.left.args (.slice a1 x.left.args.length c1) ∧ RdTs w S x.right.args (.slice a2 x.right.args.length c2) := by
  obtain ⟨x, b, o, cs, hx, hS, hb, hi, hr, hc⟩ := RdL.nth h hT rd_lt_len hk
  obtain ⟨a1, c1, a2, c2, rfl, hr1, hr2⟩ := rd_lt.1 hr
  exact ⟨x, b, o, a1, c1, a2, c2, hx, hS, hb, hi, hc 0 _ rfl, hc 1 _ rfl, hc 2 _ rfl, hc 3 _ rfl, hc 4 _ rfl, hc 5 _ rfl, hc 6 _ rfl, hr1, hr2⟩

/-- whole numbers -/
def Int.d (n : Int) : D := .lit (.int .i64 n)
abbrev RdI := RdL Int.d
theorem rd_int_len {w : World} {S : Nat → Prop} (n : Int) (c : List Value) (h : rd w S (Int.d n) c) : c.length = 1 := by
  simp only [Int.d, rd] at h; subst h; rfl
theorem RdL.nthI {P : Program} {T E bytes : Nat} {z : Value} {w : World} {S : Nat → Prop} {l : List Int} {a : Option Addr} {n cap k : Nat} (h : RdI w S l (.slice a n cap)) (hT : SliceOf P T E 1 bytes z) (hk : k < l.length) :
    ∃ x b o, Hid (l[k]? = some x) ∧ S b ∧ b < w.heap.size ∧ (∀ W, (Instr.indexAt T (.slice a n cap) (.int .i64 (k : Int))).run P W = .ok (.pointer (some ⟨b, o + k, none⟩)) W) ∧ w.cell? ⟨b, o + k, none⟩ = some (.int .i64 x) := by
  obtain ⟨x, b, o, cs, hx, hS, hb, hi, hr, hc⟩ := RdL.nth h hT rd_int_len hk
  simp only [Int.d, rd] at hr
  subst hr
  simp only [Nat.mul_one] at hi hc
  exact ⟨x, b, o, hx, hS, hb, hi, hc 0 _ rfl⟩

theorem Tm.d_one (t : Tm) : t.d.One := by obtain ⟨v, n, l⟩ := t; simp [Tm.d, D.One, Value.oneCell']
theorem Pr.d_one (p : Pr) : (Pr.d p).One := by simp [Pr.d, D.One, Value.oneCell', Tm.d_one]
theorem Lt.d_one (p : Lt) : p.d.One := by simp [Lt.d, D.One, Value.oneCell', Tm.d_one]
theorem Cl.d_one (c : Cl) : (Cl.d c).One := by simp [Cl.d, D.One]
theorem Int.d_one (n : Int) : (Int.d n).One := by simp [Int.d, D.One, Value.oneCell']
theorem RdL.src {α : Type} {f : α → D} {w : World} {S : Nat → Prop} {l : List α} {A : Option Addr} {n c m : Nat} (h : RdL f w S l (.slice A n c)) (hm : ∀ x c, rd w S (f x) c → c.length = m) (h1 : ∀ x, (f x).One) :
    ∃ news, SrcAt w A n m news ∧ (l.map f).length = n ∧ (∀ u ∈ news, u.oneCell' = true) ∧ rds w S (l.map f) news :=
  rd.src h (fun d hd c hc => by obtain ⟨x, _, rfl⟩ := List.mem_map.1 hd; exact hm x c hc) (fun d hd => by obtain ⟨x, _, rfl⟩ := List.mem_map.1 hd; exact h1 x)

end Go.Proofs.Ytmanhdacnkpclaa
