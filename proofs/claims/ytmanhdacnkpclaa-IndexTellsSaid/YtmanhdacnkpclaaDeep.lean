/- Deep data and how it lies in memory. 'rd w S d cs': the cells cs read, in world w, as the deep datum d; all blocks met on the way are in S. 'Own': a slice that the call itself grows. -/
import Derived.Below
import Derived.WalkKit
import Derived.Maps.AppendAt
import Derived.Lib.Hide
import Derived.Deep.Draws
namespace Go.Proofs.Ytmanhdacnkpclaa
set_option linter.unusedVariables false
set_option linter.unusedSimpArgs false
open Go.RowKit

theorem below_drewN {B : Nat} {a w : World} (h : Below B a w) (n : Nat) : Below B a (w.drewN n) := ⟨h.os, h.tape, h.output, h.size, h.block⟩

inductive D where
  | lit (v : Value)
  | agg (ds : List D)
  | arr (ds : List D)

mutual
def rd (w : World) (S : Nat → Prop) : D → List Value → Prop
  | .lit v, cs => cs = [v]
  | .agg ds, cs => rds w S ds cs
  | .arr ds, cs => ∃ a cap, cs = [.slice a ds.length cap] ∧ ds.length ≤ cap ∧ cap ≤ maxLen ∧
      (ds.length = 0 ∨ ∃ b o xs, a = some ⟨b, o, none⟩ ∧ S b ∧ b < w.heap.size ∧ rds w S ds xs ∧ ∀ j u, xs[j]? = some u → w.cell? ⟨b, o + j, none⟩ = some u)
def rds (w : World) (S : Nat → Prop) : List D → List Value → Prop
  | [], cs => cs = []
  | d :: ds, cs => ∃ c1 c2, cs = c1 ++ c2 ∧ rd w S d c1 ∧ rds w S ds c2
end

theorem D.ind {P : D → Prop} (hl : ∀ v, P (.lit v)) (ha : ∀ ds, (∀ d ∈ ds, P d) → P (.agg ds)) (hr : ∀ ds, (∀ d ∈ ds, P d) → P (.arr ds)) : ∀ d, P d
  | .lit v => hl v
  | .agg ds => ha ds fun d _ => D.ind hl ha hr d
  | .arr ds => hr ds fun d _ => D.ind hl ha hr d

theorem rds_of {w w' : World} {S S' : Nat → Prop} : ∀ (ds : List D), (∀ d ∈ ds, ∀ cs, rd w S d cs → rd w' S' d cs) → ∀ cs, rds w S ds cs → rds w' S' ds cs
  | [], _, _, hc => hc
  | d :: ds, h, _, ⟨c1, c2, e, h1, h2⟩ => ⟨c1, c2, e, h d (by simp) c1 h1, rds_of ds (fun d' hd => h d' (by simp [hd])) c2 h2⟩

/-- A reading is kept where all blocks of S read as they did, and S has not shrunk. -/
theorem rd.keep {w w' : World} {S S' : Nat → Prop} (hz : w.heap.size ≤ w'.heap.size) (hS : ∀ b, b < w.heap.size → S b → S' b) (hw : ∀ b, b < w.heap.size → S b → w'.heap[b]? = w.heap[b]?) : ∀ (d : D) (cs : List Value), rd w S d cs → rd w' S' d cs := by
  refine D.ind ?_ ?_ ?_
  · intro v cs h; exact h
  · intro ds ih cs h; exact rds_of ds ih cs h
  · intro ds ih cs h
    obtain ⟨a, cap, e, h1, h2, h3⟩ := h
    refine ⟨a, cap, e, h1, h2, ?_⟩
    rcases h3 with h3 | ⟨b, o, xs, e1, e2, eb, e3, e4⟩
    · exact .inl h3
    · refine .inr ⟨b, o, xs, e1, hS _ eb e2, Nat.lt_of_lt_of_le eb hz, rds_of ds ih xs e3, fun j u hj => ?_⟩
      rw [World.cell?_of_block (w := w) (hw _ eb e2)]
      exact e4 j u hj

theorem rds.keep {w w' : World} {S S' : Nat → Prop} (hz : w.heap.size ≤ w'.heap.size) (hS : ∀ b, b < w.heap.size → S b → S' b) (hw : ∀ b, b < w.heap.size → S b → w'.heap[b]? = w.heap[b]?) (ds : List D) (cs : List Value) (h : rds w S ds cs) : rds w' S' ds cs :=
  rds_of ds (fun d _ => rd.keep hz hS hw d) cs h

theorem rd.wide {w : World} {S S' : Nat → Prop} {d : D} {cs : List Value} (h : rd w S d cs) (hS : ∀ b, b < w.heap.size → S b → S' b) : rd w S' d cs := rd.keep (Nat.le_refl _) hS (fun _ _ _ => rfl) d cs h
theorem rds.wide {w : World} {S S' : Nat → Prop} {d : List D} {cs : List Value} (h : rds w S d cs) (hS : ∀ b, b < w.heap.size → S b → S' b) : rds w S' d cs := rds.keep (Nat.le_refl _) hS (fun _ _ _ => rfl) d cs h
theorem rd.below {w w' : World} {B : Nat} {S : Nat → Prop} {d : D} {cs : List Value} (h : rd w S d cs) (hb : Below B w w') (hB : w.heap.size ≤ B) : rd w' S d cs :=
  rd.keep hb.size (fun _ _ h => h) (fun b h _ => hb.block b (Nat.lt_of_lt_of_le h hB)) d cs h
theorem rds.below {w w' : World} {B : Nat} {S : Nat → Prop} {d : List D} {cs : List Value} (h : rds w S d cs) (hb : Below B w w') (hB : w.heap.size ≤ B) : rds w' S d cs :=
  rds.keep hb.size (fun _ _ h => h) (fun b h _ => hb.block b (Nat.lt_of_lt_of_le h hB)) d cs h

/-- the cells of element k, where each element has m cells -/
theorem rds.nth {w : World} {S : Nat → Prop} {m : Nat} : ∀ (ds : List D) (cs : List Value), rds w S ds cs → (∀ d ∈ ds, ∀ c, rd w S d c → c.length = m) →
    ∀ k (hk : k < ds.length), ∃ c, c.length = m ∧ rd w S ds[k] c ∧ ∀ j u, c[j]? = some u → cs[k * m + j]? = some u
  | [], _, _, _, k, hk => absurd hk (by simp)
  | d :: ds, _, ⟨c1, c2, e, h1, h2⟩, hm, 0, _ => by
    have h0 := hm d (by simp) c1 h1
    refine ⟨c1, h0, h1, fun j u hj => ?_⟩
    have : j < c1.length := by
      rcases Nat.lt_or_ge j c1.length with h | h
      · exact h
      · rw [List.getElem?_eq_none h] at hj; cases hj
    rw [e, Nat.zero_mul, Nat.zero_add, List.getElem?_append_left this]; exact hj
  | d :: ds, _, ⟨c1, c2, e, h1, h2⟩, hm, k + 1, hk => by
    have h0 := hm d (by simp) c1 h1
    obtain ⟨c, hc, hr, hj⟩ := rds.nth ds c2 h2 (fun d' hd => hm d' (by simp [hd])) k (by simpa using hk)
    refine ⟨c, hc, by simpa using hr, fun j u hu => ?_⟩
    rw [e, List.getElem?_append_right (by rw [h0, Nat.add_mul]; omega), ← hj j u hu, h0]
    congr 1
    rw [Nat.add_mul]; omega

theorem rds.append {w : World} {S : Nat → Prop} : ∀ {d1 d2 : List D} {c1 c2 : List Value}, rds w S d1 c1 → rds w S d2 c2 → rds w S (d1 ++ d2) (c1 ++ c2)
  | [], _, _, _, h1, h2 => by cases h1; exact h2
  | _ :: _, _, _, _, ⟨x1, x2, e, h1, h1'⟩, h2 => ⟨x1, x2 ++ _, by rw [e, List.append_assoc], h1, h1'.append h2⟩

theorem rds.one {w : World} {S : Nat → Prop} {d : D} {c : List Value} (h : rd w S d c) : rds w S [d] c := ⟨c, [], by simp, h, rfl⟩

/-- what a call makes, beside what it was handed -/
def Up (S : Nat → Prop) (B : Nat) : Nat → Prop := fun b => S b ∨ B ≤ b
theorem Up.l {S : Nat → Prop} {B b : Nat} (h : S b) : Up S B b := .inl h
theorem Up.r {S : Nat → Prop} {B b : Nat} (h : B ≤ b) : Up S B b := .inr h
theorem Up.mono {S S' : Nat → Prop} {B B' b : Nat} (h : Up S B b) (hS : S b → Up S' B' b) (hB : B' ≤ B) : Up S' B' b := h.elim hS fun h => .inr (Nat.le_trans hB h)

/-- the slice type T's elements are of type E, of m cells -/
structure SliceOf (P : Program) (T E m bytes : Nat) (z : Value) : Prop where
  und : P.underlying T = some (.slice E)
  info : (P.info? E).map (fun i => (i.zero, i.size, i.bytes)) = some (some z, m, bytes)
  zsize : z.cells.size = m
  pos : 0 < m

theorem SliceOf.index {P : Program} {T E m bytes : Nat} {z : Value} (h : SliceOf P T E m bytes z) {a : Option Addr} {b o n cap k : Nat} (ha : a = some ⟨b, o, none⟩) (hk : k < n) (W : World) :
    (Instr.indexAt T (.slice a n cap) (.int .i64 (k : Int))).run P W = .ok (.pointer (some ⟨b, o + k * m, none⟩)) W := by
  subst ha
  obtain ⟨i, hi, hz0, hz1, hz2⟩ := info_parts h.info
  have e : (⟨b, o, none⟩ : Addr).add (k * m) = ⟨b, o + k * m, none⟩ := by
    unfold Addr.add; split
    · rename_i h0; rw [h0]; rfl
    · rfl
  simp [Instr.indexAt, run_underlying h.und, asIntOf, sizeOf, typeInfo, hi, hz1, hk, e]

/-- A row that the call owns, from block B on, and what it holds: deep data, read in S but for the row's own block. -/
def Own (w : World) (B E m : Nat) (S : Nat → Prop) (v : Value) (ds : List D) : Prop :=
  ∃ xs, w.ownsRow B E m v ds.length xs ∧ rds w (fun b => S b ∧ some b ≠ v.ownBlock) ds xs ∧ ∀ u ∈ xs, u.oneCell' = true

theorem Own.nil (w : World) (B E m : Nat) (S : Nat → Prop) : Own w B E m S (.slice none 0 0) [] := ⟨[], World.ownsRow_nil _ _ _ _, rfl, by simp⟩

theorem Own.lt {w : World} {B E m : Nat} {S : Nat → Prop} {v : Value} {ds : List D} (h : Own w B E m S v ds) : ∀ k, v.ownBlock = some k → B ≤ k ∧ k < w.heap.size := by
  obtain ⟨xs, h, _⟩ := h; exact h.lt

/-- an owned row is kept where its block, and what it holds, reads as it did -/
theorem Own.keep {w w' : World} {B E m : Nat} {S S' : Nat → Prop} {v : Value} {ds : List D} (h : Own w B E m S v ds) (hb : Below w.heap.size w w') (hS : ∀ b, b < w.heap.size → S b → S' b) : Own w' B E m S' v ds := by
  obtain ⟨xs, h1, h2, h3⟩ := h
  exact ⟨xs, h1.kept (row := none) ⟨hb.os, hb.tape, hb.output, hb.size, fun k hk _ => hb.block k hk⟩ (by cases v.ownBlock <;> simp), rds.keep hb.size (fun b hb ⟨h, h'⟩ => ⟨hS b hb h, h'⟩) (fun b h _ => hb.block b h) _ _ h2, h3⟩

theorem Own.wide {w : World} {B B' E m : Nat} {S S' : Nat → Prop} {v : Value} {ds : List D} (h : Own w B E m S v ds) (hS : ∀ b, b < w.heap.size → S b → S' b) (hB : B' ≤ B) : Own w B' E m S' v ds := by
  obtain ⟨xs, h1, h2, h3⟩ := h
  refine ⟨xs, ⟨h1.1, ?_⟩, h2.wide (fun b hb ⟨h, h'⟩ => ⟨hS b hb h, h'⟩), h3⟩
  rcases h1.2 with h | ⟨g, cap, cur, e1, e2, e3⟩
  · exact .inl h
  · exact .inr ⟨g, cap, cur, e1, Nat.le_trans hB e2, e3⟩

/-- an owned row reads as the list of what it holds -/
theorem Own.rd {w : World} {B E m : Nat} {S : Nat → Prop} {v : Value} {ds : List D} (h : Own w B E m S v ds) : rd w (Up S B) (.arr ds) [v] := by
  obtain ⟨xs, h1, h2, h3⟩ := h
  rcases h1.2 with ⟨rfl, h0⟩ | ⟨g, cap, cur, rfl, hg, hh, hn, hm, hsz, ht⟩
  · exact ⟨none, 0, by rw [h0], by omega, by simp [maxLen], .inl h0⟩
  · refine ⟨_, cap, rfl, hn, hm, .inr ⟨g, 0, xs, rfl, .inr hg, (Array.getElem?_eq_some_iff.1 hh).1, h2.wide (fun b _ h => .inl h.1), fun j u hu => ?_⟩⟩
    have := h1.cells (g := g) rfl j u hu
    have e : (⟨g, 0, none⟩ : Addr).add j = ⟨g, 0 + j, none⟩ := by
      unfold Addr.add; split
      · rename_i h0; rw [h0]
      · rfl
    rw [e] at this; exact this

/-- the elements of a slice value, as cells in memory -/
def SrcAt (w : World) (A : Option Addr) (n m : Nat) (news : List Value) : Prop :=
  news.length = n * m ∧ (n = 0 ∨ ∃ b o, A = some ⟨b, o, none⟩ ∧ ∀ j u, news[j]? = some u → w.cell? ⟨b, o + j, none⟩ = some u)

theorem add_lit (b o j : Nat) : (⟨b, o, none⟩ : Addr).add j = ⟨b, o + j, none⟩ := by
  unfold Addr.add; split
  · rename_i h; rw [h]; rfl
  · rfl

theorem run_appG {P : Program} (w : World) {T ty E m bytes : Nat} {z : Value} (hT : SliceOf P T E m bytes z) {B : Nat} {S : Nat → Prop} {v : Value} {ds : List D}
    (hown : Own w B E m S v ds) {A : Option Addr} {n c : Nat} {news : List Value} {ns : List D} (hsrc : SrcAt w A n m news) (hn : ns.length = n) (h1 : ∀ u ∈ news, u.oneCell' = true)
    (hrd : rds w (fun b => S b ∧ some b ≠ v.ownBlock) ns news) (hB : B ≤ w.heap.size)
    (hbytes : (ds.length + n) * bytes ≤ 140737488355328) (h63 : ds.length + n ≤ 9223372036854775807) :
    ∃ v' w', (Builtin.append_ #[T, T] ty #[v, .slice A n c]).run P w = .ok v' w' ∧ Own w' B E m S v' (ds ++ ns) ∧ w.grownBy w' v.ownBlock ∧ Below B w w' ∧
      (∀ k, v'.ownBlock = some k → B ≤ k ∧ k < w'.heap.size ∧ (some k = v.ownBlock ∨ w.heap.size ≤ k)) := by
  obtain ⟨i, hi, hz0, hz1, hz2⟩ := info_parts hT.info
  obtain ⟨xs, hown1, hown2, hown3⟩ := hown
  subst hn
  have hrun : ∃ v' w', (Builtin.append_ #[T, T] ty #[v, .slice A ns.length c]).run P w = .ok v' w' ∧ w'.ownsRow B E m v' (ds.length + ns.length) (xs ++ news) ∧ w.grownBy w' v.ownBlock ∧
      (v'.ownBlock = v.ownBlock ∨ v'.ownBlock = some w.heap.size) := by
    cases A with
    | none =>
      have h0 : ns.length = 0 := by
        rcases hsrc.2 with h0 | ⟨b, o, h, _⟩
        · exact h0
        · cases h
      have hnews : news = [] := List.eq_nil_of_length_eq_zero (by rw [hsrc.1, h0, Nat.zero_mul])
      subst hnews
      rw [h0]
      refine ⟨v, w, ?_, by simpa using hown1, World.grownBy.refl w _, .inl rfl⟩
      rcases hown1.2 with ⟨rfl, e⟩ | ⟨g, cap, cur, rfl, _, _, hnc, _⟩
      · simp [Builtin.append_, run_underlying hT.und, sizeOf, typeInfo, hi, Builtin.lenOf, Builtin.firstCells]
      · simp [Builtin.append_, run_underlying hT.und, sizeOf, typeInfo, hi, Builtin.lenOf, Builtin.firstCells, hnc, storeCells]
    | some ad =>
      have hcells : ∀ j u, news[j]? = some u → w.cell? (ad.add j) = some u := by
        intro j u hu
        rcases hsrc.2 with h0 | ⟨b, o, h, hc⟩
        · have hnews : news = [] := List.eq_nil_of_length_eq_zero (by rw [hsrc.1, h0, Nat.zero_mul])
          subst hnews; simp at hu
        · injection h with h; subst h; rw [add_lit]; exact hc j u hu
      obtain ⟨v', w', h1, h2, h3, _, h5⟩ := run_append_own_at (P := P) w B T ty E i z m bytes hT.und hi hz0 hz1 hz2 hT.zsize hT.pos v ds.length xs hown1 ad ns.length c news hsrc.1 hcells h1 (by simpa [maxLen] using h63) hbytes hB
      exact ⟨v', w', h1, h2, h3, h5⟩
  obtain ⟨v', w', hr, h2, h3, h5⟩ := hrun
  refine ⟨v', w', hr, ?_, h3, ?_, ?_⟩
  · refine ⟨xs ++ news, by rw [List.length_append]; exact h2, ?_, ?_⟩
    · have hk : ∀ b, b < w.heap.size → (S b ∧ some b ≠ v.ownBlock) → (S b ∧ some b ≠ v'.ownBlock) := by
        rintro b hb ⟨h, h'⟩
        refine ⟨h, ?_⟩
        rcases h5 with h5 | h5
        · rw [h5]; exact h'
        · rw [h5]; simp; omega
      have := rds.append hown2 hrd
      exact rds.keep h3.size hk (fun b hb ⟨_, h'⟩ => h3.block b hb h') _ _ this
    · intro u hu
      rcases List.mem_append.1 hu with hu | hu
      · exact hown3 u hu
      · exact h1 u hu
  · exact (Below.refl B w).grown h3 hB (fun k hk => (hown1.lt k hk).1)
  · intro k hk
    have h6 := h2.lt k hk
    refine ⟨h6.1, h6.2, ?_⟩
    rcases h5 with h5 | h5
    · exact .inl (by rw [← h5, hk])
    · exact .inr (by rw [h5] at hk; simp at hk; omega)

theorem wp_appG {P : Program} {o : Oper} {a : Act} {K : Act → World → Prop} {Q : Exit → Act → World → Prop} (w : World) (s x : Operand) {T : TypeId}
    (ho : o.op = .call { callee := .builtin .append, args := #[s, x], argTypes := #[T, T] }) {E m bytes : Nat} {z : Value} (hT : SliceOf P T E m bytes z) {B : Nat} {S : Nat → Prop} {v : Value} {ds : List D}
    (hs : a.eval s = v) (hown : Own w B E m S v ds) {A : Option Addr} {n c : Nat} {news : List Value} {ns : List D} (hx : a.eval x = .slice A n c) (hsrc : SrcAt w A n m news) (hn : ns.length = n)
    (h1 : ∀ u ∈ news, u.oneCell' = true) (hrd : rds w (fun b => S b ∧ some b ≠ v.ownBlock) ns news) (hB : B ≤ w.heap.size)
    (hbytes : (ds.length + n) * bytes ≤ 140737488355328) (h63 : ds.length + n ≤ 9223372036854775807)
    (h : ∀ v' w', Own w' B E m S v' (ds ++ ns) → w.grownBy w' v.ownBlock → Below B w w' → (∀ k, v'.ownBlock = some k → B ≤ k ∧ k < w'.heap.size ∧ (some k = v.ownBlock ∨ w.heap.size ≤ k)) → K (a.put o.dst v') w') : o.wp P a w K Q := by
  obtain ⟨v', w', hr, h2, h3, h4, h5⟩ := run_appG w (ty := o.type) hT hown hsrc (c := c) hn h1 hrd hB hbytes h63
  unfold Oper.wp execOp
  simp only [ho, resolve, invoke, builtin, Sem.run_bind, Sem.run_pure, Result.andThen_ok, List.map_toArray, List.map_cons, List.map_nil, hs, hx, hr]
  exact h v' w' h2 h3 h4 h5

/-- append, the law of the walk, on deep data -/
theorem wpList_appG {P : Program} {ops : Array Oper} {rest : List Oper} {o : Oper} {a : Act} {Q : Exit → Act → World → Prop} (w : World) (hgd : o.guard = none) (s x : Operand) {T : TypeId}
    (ho : o.op = .call { callee := .builtin .append, args := #[s, x], argTypes := #[T, T] }) {E m bytes : Nat} {z : Value} (hT : SliceOf P T E m bytes z) {B : Nat} {S : Nat → Prop} {v : Value} {ds : List D}
    (hs : a.eval s = v) (hown : Own w B E m S v ds) {A : Option Addr} {n c : Nat} {news : List Value} {ns : List D} (hx : a.eval x = .slice A n c) (hsrc : SrcAt w A n m news) (hn : ns.length = n)
    (h1 : ∀ u ∈ news, u.oneCell' = true) (hrd : rds w (fun b => S b ∧ some b ≠ v.ownBlock) ns news) (hB : B ≤ w.heap.size)
    (hbytes : (ds.length + n) * bytes ≤ 140737488355328) (h63 : ds.length + n ≤ 9223372036854775807)
    (h : ∀ v' w', Own w' B E m S v' (ds ++ ns) → w.grownBy w' v.ownBlock → Below B w w' → (∀ k, v'.ownBlock = some k → B ≤ k ∧ k < w'.heap.size ∧ (some k = v.ownBlock ∨ w.heap.size ≤ k)) → wpList P ops Q rest (a.put o.dst v') w') :
    wpList P ops Q (o :: rest) a w :=
  wpList_plain hgd fun _ hK => wp_appG w s x ho hT hs hown hx hsrc hn h1 hrd hB hbytes h63 fun v' w' h2 h3 h4 h5 => hK _ _ (h v' w' h2 h3 h4 h5)

/-- the same, inside a region that draws its order -/
theorem step_appG {P : Program} {ops : Array Oper} {o : Oper} {a : Act} {K : Act → World → Prop} {Q : Exit → Act → World → Prop} {F : Prop} (w : World) (hgd : o.guard = none) (s x : Operand) {T : TypeId}
    (ho : o.op = .call { callee := .builtin .append, args := #[s, x], argTypes := #[T, T] }) {E m bytes : Nat} {z : Value} (hT : SliceOf P T E m bytes z) {B : Nat} {S : Nat → Prop} {v : Value} {ds : List D}
    (hs : a.eval s = v) (hown : Own w B E m S v ds) {A : Option Addr} {n c : Nat} {news : List Value} {ns : List D} (hx : a.eval x = .slice A n c) (hsrc : SrcAt w A n m news) (hn : ns.length = n)
    (h1 : ∀ u ∈ news, u.oneCell' = true) (hrd : rds w (fun b => S b ∧ some b ≠ v.ownBlock) ns news) (hB : B ≤ w.heap.size)
    (hbytes : (ds.length + n) * bytes ≤ 140737488355328) (h63 : ds.length + n ≤ 9223372036854775807)
    (h : ∀ v' w', Own w' B E m S v' (ds ++ ns) → w.grownBy w' v.ownBlock → Below B w w' → (∀ k, v'.ownBlock = some k → B ≤ k ∧ k < w'.heap.size ∧ (some k = v.ownBlock ∨ w.heap.size ≤ k)) → K (a.put o.dst v') w') :
    if Region.wanted o (yielded ops a.tmps) = true then Oper.wp P o a w K Q else F := by
  have hw : Region.wanted o (yielded ops a.tmps) = true := by simp [Region.wanted, hgd]
  rw [if_pos hw]
  exact wp_appG w s x ho hT hs hown hx hsrc hn h1 hrd hB hbytes h63 h

/-- every cell of such a datum is one cell -/
def D.One : D → Prop
  | .lit v => v.oneCell' = true
  | .agg ds => ∀ d ∈ ds, D.One d
  | .arr _ => True

theorem rds_one_of {w : World} {S : Nat → Prop} : ∀ (ds : List D), (∀ d ∈ ds, ∀ cs, rd w S d cs → ∀ u ∈ cs, u.oneCell' = true) → ∀ cs, rds w S ds cs → ∀ u ∈ cs, u.oneCell' = true
  | [], _, _, hc, u, hu => by cases hc; cases hu
  | d :: ds, h, _, ⟨c1, c2, e, h1, h2⟩, u, hu => by
    rw [e] at hu
    rcases List.mem_append.1 hu with hu | hu
    · exact h d (by simp) c1 h1 u hu
    · exact rds_one_of ds (fun d' hd => h d' (by simp [hd])) c2 h2 u hu

theorem rd.one {w : World} {S : Nat → Prop} : ∀ (d : D) , d.One → ∀ (cs : List Value), rd w S d cs → ∀ u ∈ cs, u.oneCell' = true := by
  refine D.ind ?_ ?_ ?_
  · intro v h cs hc u hu
    simp only [rd] at hc
    subst hc
    simp at hu; subst hu
    simpa [D.One] using h
  · intro ds ih h cs hc u hu
    simp only [D.One] at h
    exact rds_one_of ds (fun d hd => ih d hd (h d hd)) cs hc u hu
  · intro ds ih h cs hc u hu
    obtain ⟨a, cap, e, _⟩ := hc
    subst e
    simp at hu; subst hu; rfl

/-- the source of an append out of a reading -/
theorem rd.src {w : World} {S : Nat → Prop} {ds : List D} {A : Option Addr} {n c m : Nat} (h : rd w S (.arr ds) [.slice A n c]) (hm : ∀ d ∈ ds, ∀ c, rd w S d c → c.length = m) (h1 : ∀ d ∈ ds, d.One) :
    ∃ news, SrcAt w A n m news ∧ ds.length = n ∧ (∀ u ∈ news, u.oneCell' = true) ∧ rds w S ds news := by
  obtain ⟨a, cap, e, _, _, h3⟩ := h
  simp only [List.cons.injEq, Value.slice.injEq, and_true] at e
  obtain ⟨rfl, rfl, rfl⟩ := e
  have hlen : ∀ (ds : List D) (cs : List Value), (∀ d ∈ ds, ∀ c, rd w S d c → c.length = m) → rds w S ds cs → cs.length = ds.length * m := by
    intro ds
    induction ds with
    | nil => intro cs _ h; cases h; simp
    | cons d ds ih =>
      intro cs hm ⟨c1, c2, e, h1, h2⟩
      rw [e, List.length_append, hm d (by simp) c1 h1, ih c2 (fun d' hd => hm d' (by simp [hd])) h2, List.length_cons, Nat.add_mul]
      omega
  rcases h3 with h3 | ⟨b, o, xs, e1, e2, eb, e3, e4⟩
  · have : ds = [] := List.eq_nil_of_length_eq_zero h3
    subst this
    exact ⟨[], ⟨by simp, .inl rfl⟩, rfl, by simp, rfl⟩
  · refine ⟨xs, ⟨hlen _ _ hm e3, .inr ⟨b, o, e1, e4⟩⟩, rfl, ?_, e3⟩
    exact rds_one_of ds (fun d hd cs hc => rd.one d (h1 d hd) cs hc) xs e3

/-- a new block that holds the elements of a slice literal -/
theorem SrcAt.new {w : World} {n m : Nat} {cs : Array Value} {E : TypeId} (h : cs.size = n * m) : SrcAt (w.alloc (.cells cs E)) (some ⟨w.heap.size, 0, none⟩) n m cs.toList :=
  ⟨by simpa using h, .inr ⟨_, _, rfl, fun j u hu => by rw [Nat.zero_add, World.cell?_alloc_new]; simpa using hu⟩⟩

/-- the empty slice literal, '[]T{}' -/
theorem Own.lit0 {w : World} {B E m : Nat} {S : Nat → Prop} (hB : B ≤ w.heap.size) : Own (w.alloc (.cells #[] E)) B E m S (.slice (some ⟨w.heap.size, 0, none⟩) 0 0) [] :=
  ⟨[], ⟨by simp, .inr ⟨w.heap.size, 0, #[], rfl, hB, Go.heap_alloc_new w _, Nat.le_refl _, by simp [maxLen], by simp, by simp⟩⟩, rfl, by simp⟩

section
variable {w w' : World} {B E m : Nat} {S : Nat → Prop} {v : Value} {ds : List D}
theorem Own.same_ (h : Own w B E m S v ds) (hh : w'.heap = w.heap) : Own w' B E m S v ds := by
  obtain ⟨xs, h1, h2, h3⟩ := h
  refine ⟨xs, ?_, rds.keep (by rw [hh]; exact Nat.le_refl _) (fun _ _ h => h) (fun b _ _ => by rw [hh]) _ _ h2, h3⟩
  refine ⟨h1.1, ?_⟩
  rcases h1.2 with h | ⟨g, cap, cur, e1, e2, e3, e4⟩
  · exact .inl h
  · exact .inr ⟨g, cap, cur, e1, e2, by rw [hh]; exact e3, e4⟩
theorem Own.alloc (h : Own w B E m S v ds) (o : Obj) : Own (w.alloc o) B E m S v ds := h.keep ((Below.refl _ _).alloc (Nat.le_refl _) o) (fun _ _ h => h)
theorem SrcAt.same_ {A : Option Addr} {n : Nat} {news : List Value} (h : SrcAt w A n m news) (hh : w'.heap = w.heap) : SrcAt w' A n m news := by
  refine ⟨h.1, ?_⟩
  rcases h.2 with h0 | ⟨b, o, e, hc⟩
  · exact .inl h0
  · refine .inr ⟨b, o, e, fun j u hu => ?_⟩
    rw [World.cell?_of_block (w := w) (by rw [hh])]; exact hc j u hu
theorem SrcAt.below {A : Option Addr} {n : Nat} {news : List Value} (h : SrcAt w A n m news) (hb : Below w.heap.size w w') : SrcAt w' A n m news := by
  refine ⟨h.1, ?_⟩
  rcases h.2 with h0 | ⟨b, o, e, hc⟩
  · exact .inl h0
  · refine .inr ⟨b, o, e, fun j u hu => ?_⟩
    have h1 := hc j u hu
    rw [hb.cell (World.block_lt_of_cell? w _ h1)]; exact h1
theorem SrcAt.alloc {A : Option Addr} {n : Nat} {news : List Value} (h : SrcAt w A n m news) (o : Obj) : SrcAt (w.alloc o) A n m news := h.below ((Below.refl _ _).alloc (Nat.le_refl _) o)
theorem rds.same_ {cs : List Value} (h : rds w S ds cs) (hh : w'.heap = w.heap) : rds w' S ds cs := rds.keep (by rw [hh]; exact Nat.le_refl _) (fun _ _ h => h) (fun b _ _ => by rw [hh]) _ _ h
theorem rds.alloc {cs : List Value} (h : rds w S ds cs) (o : Obj) : rds (w.alloc o) S ds cs := h.below ((Below.refl _ _).alloc (Nat.le_refl _) o) (Nat.le_refl _)
end

/-- what a call hands back -/
def Ret (R : Value → World → Prop) (e : Ending) (w' : World) : Prop := ∃ v, e = .returned v ∧ R v w'

/-- integers as deep data: their cells -/
theorem rds_ints (w : World) (S : Nat → Prop) : ∀ l : List Int, rds w S (l.map fun n => D.lit (.int .i64 n)) (l.map (Value.int .i64))
  | [] => rfl
  | n :: l => ⟨[_], _, rfl, rfl, rds_ints w S l⟩

end Go.Proofs.Ytmanhdacnkpclaa
