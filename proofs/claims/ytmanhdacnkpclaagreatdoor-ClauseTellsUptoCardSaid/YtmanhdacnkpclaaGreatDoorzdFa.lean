/- Deep data and how it lies in memory. 'rd w S d cs': the cells cs read, in world w, as the deep datum d; all blocks met on the way are in S. 'Own': a slice that the call itself grows. -/
import Derived.Below
import Derived.WalkKit
import Derived.Maps.AppendAt
import Derived.Lib.Hide
import Derived.Deep.Draws
/- Deep data and how it lies in memory. 'rd w S d cs': the cells cs read, in world w, as the deep datum d; all blocks met on the way are in S. 'Own': a slice that the call itself grows. -/
namespace Go.Proofs.YtmanhdacnkpclaaGreatDoor
set_option linter.unusedVariables false
set_option linter.unusedSimpArgs false
open Go.RowKit

inductive D where
  | lit (v : Value)
  | agg (ds : List D)
  | arr (ds : List D)

mutual
def rd (w : World) (S : Nat → Prop) : D → List Value → Prop
  | .lit v, cs => cs = [v]
  | .agg ds, cs => rds w S ds cs
  | .arr ds, cs => ∃ a cap, cs = [.slice a ds.length cap] ∧ ds.length ≤ cap ∧ cap ≤ maxLen ∧
      (ds.length = 0 ∨ ∃ b o xs, a = some ⟨b, o, none⟩ ∧ S b ∧ b < w.heap.size ∧ rds w S ds xs ∧ ∀ j u, xs[j]? = some u → w.cell? ⟨b, o + j, none⟩ = some u)
def rds (w : World) (S : Nat → Prop) : List D → List Value → Prop
  | [], cs => cs = []
  | d :: ds, cs => ∃ c1 c2, cs = c1 ++ c2 ∧ rd w S d c1 ∧ rds w S ds c2
end

theorem D.ind {P : D → Prop} (hl : ∀ v, P (.lit v)) (ha : ∀ ds, (∀ d ∈ ds, P d) → P (.agg ds)) (hr : ∀ ds, (∀ d ∈ ds, P d) → P (.arr ds)) : ∀ d, P d
  | .lit v => hl v
  | .agg ds => ha ds fun d _ => D.ind hl ha hr d
  | .arr ds => hr ds fun d _ => D.ind hl ha hr d

theorem rds_of {w w' : World} {S S' : Nat → Prop} : ∀ (ds : List D), (∀ d ∈ ds, ∀ cs, rd w S d cs → rd w' S' d cs) → ∀ cs, rds w S ds cs → rds w' S' ds cs
  | [], _, _, hc => hc
  | d :: ds, h, _, ⟨c1, c2, e, h1, h2⟩ => ⟨c1, c2, e, h d (by simp) c1 h1, rds_of ds (fun d' hd => h d' (by simp [hd])) c2 h2⟩

/-- A reading is kept where all blocks of S read as they did, and S has not shrunk. -/
theorem rd.keep {w w' : World} {S S' : Nat → Prop} (hz : w.heap.size ≤ w'.heap.size) (hS : ∀ b, b < w.heap.size → S b → S' b) (hw : ∀ b, b < w.heap.size → S b → w'.heap[b]? = w.heap[b]?) : ∀ (d : D) (cs : List Value), rd w S d cs → rd w' S' d cs := by
  refine D.ind ?_ ?_ ?_
  · intro v cs h; exact h
  · intro ds ih cs h; exact rds_of ds ih cs h
  · intro ds ih cs h
    obtain ⟨a, cap, e, h1, h2, h3⟩ := h
    refine ⟨a, cap, e, h1, h2, ?_⟩
    rcases h3 with h3 | ⟨b, o, xs, e1, e2, eb, e3, e4⟩
    · exact .inl h3
    · refine .inr ⟨b, o, xs, e1, hS _ eb e2, Nat.lt_of_lt_of_le eb hz, rds_of ds ih xs e3, fun j u hj => ?_⟩
      rw [World.cell?_of_block (w := w) (hw _ eb e2)]
      exact e4 j u hj

theorem rds.keep {w w' : World} {S S' : Nat → Prop} (hz : w.heap.size ≤ w'.heap.size) (hS : ∀ b, b < w.heap.size → S b → S' b) (hw : ∀ b, b < w.heap.size → S b → w'.heap[b]? = w.heap[b]?) (ds : List D) (cs : List Value) (h : rds w S ds cs) : rds w' S' ds cs :=
  rds_of ds (fun d _ => rd.keep hz hS hw d) cs h

theorem rd.wide {w : World} {S S' : Nat → Prop} {d : D} {cs : List Value} (h : rd w S d cs) (hS : ∀ b, b < w.heap.size → S b → S' b) : rd w S' d cs := rd.keep (Nat.le_refl _) hS (fun _ _ _ => rfl) d cs h
theorem rds.wide {w : World} {S S' : Nat → Prop} {d : List D} {cs : List Value} (h : rds w S d cs) (hS : ∀ b, b < w.heap.size → S b → S' b) : rds w S' d cs := rds.keep (Nat.le_refl _) hS (fun _ _ _ => rfl) d cs h
theorem rd.below {w w' : World} {B : Nat} {S : Nat → Prop} {d : D} {cs : List Value} (h : rd w S d cs) (hb : Below B w w') (hB : w.heap.size ≤ B) : rd w' S d cs :=
  rd.keep hb.size (fun _ _ h => h) (fun b h _ => hb.block b (Nat.lt_of_lt_of_le h hB)) d cs h
/-- the cells of element k, where each element has m cells -/
theorem rds.nth {w : World} {S : Nat → Prop} {m : Nat} : ∀ (ds : List D) (cs : List Value), rds w S ds cs → (∀ d ∈ ds, ∀ c, rd w S d c → c.length = m) →
    ∀ k (hk : k < ds.length), ∃ c, c.length = m ∧ rd w S ds[k] c ∧ ∀ j u, c[j]? = some u → cs[k * m + j]? = some u
  | [], _, _, _, k, hk => absurd hk (by simp)
  | d :: ds, _, ⟨c1, c2, e, h1, h2⟩, hm, 0, _ => by
    have h0 := hm d (by simp) c1 h1
    refine ⟨c1, h0, h1, fun j u hj => ?_⟩
    have : j < c1.length := by
      rcases Nat.lt_or_ge j c1.length with h | h
      · exact h
      · rw [List.getElem?_eq_none h] at hj; cases hj
    rw [e, Nat.zero_mul, Nat.zero_add, List.getElem?_append_left this]; exact hj
  | d :: ds, _, ⟨c1, c2, e, h1, h2⟩, hm, k + 1, hk => by
    have h0 := hm d (by simp) c1 h1
    obtain ⟨c, hc, hr, hj⟩ := rds.nth ds c2 h2 (fun d' hd => hm d' (by simp [hd])) k (by simpa using hk)
    refine ⟨c, hc, by simpa using hr, fun j u hu => ?_⟩
    rw [e, List.getElem?_append_right (by rw [h0, Nat.add_mul]; omega), ← hj j u hu, h0]
    congr 1
    rw [Nat.add_mul]; omega

theorem rds.append {w : World} {S : Nat → Prop} : ∀ {d1 d2 : List D} {c1 c2 : List Value}, rds w S d1 c1 → rds w S d2 c2 → rds w S (d1 ++ d2) (c1 ++ c2)
  | [], _, _, _, h1, h2 => by cases h1; exact h2
  | _ :: _, _, _, _, ⟨x1, x2, e, h1, h1'⟩, h2 => ⟨x1, x2 ++ _, by rw [e, List.append_assoc], h1, h1'.append h2⟩

/-- what a call makes, beside what it was handed -/
def Up (S : Nat → Prop) (B : Nat) : Nat → Prop := fun b => S b ∨ B ≤ b
theorem Up.mono {S S' : Nat → Prop} {B B' b : Nat} (h : Up S B b) (hS : S b → Up S' B' b) (hB : B' ≤ B) : Up S' B' b := h.elim hS fun h => .inr (Nat.le_trans hB h)

/-- the slice type T's elements are of type E, of m cells -/
structure SliceOf (P : Program) (T E m bytes : Nat) (z : Value) : Prop where
  und : P.underlying T = some (.slice E)
  info : (P.info? E).map (fun i => (i.zero, i.size, i.bytes)) = some (some z, m, bytes)
  zsize : z.cells.size = m
  pos : 0 < m

theorem SliceOf.index {P : Program} {T E m bytes : Nat} {z : Value} (h : SliceOf P T E m bytes z) {a : Option Addr} {b o n cap k : Nat} (ha : a = some ⟨b, o, none⟩) (hk : k < n) (W : World) :
    (Instr.indexAt T (.slice a n cap) (.int .i64 (k : Int))).run P W = .ok (.pointer (some ⟨b, o + k * m, none⟩)) W := by
  subst ha
  obtain ⟨i, hi, hz0, hz1, hz2⟩ := info_parts h.info
  have e : (⟨b, o, none⟩ : Addr).add (k * m) = ⟨b, o + k * m, none⟩ := by
    unfold Addr.add; split
    · rename_i h0; rw [h0]; rfl
    · rfl
  simp [Instr.indexAt, run_underlying h.und, asIntOf, sizeOf, typeInfo, hi, hz1, hk, e]

/-- A row that the call owns, from block B on, and what it holds: deep data, read in S but for the row's own block. -/
def Own (w : World) (B E m : Nat) (S : Nat → Prop) (v : Value) (ds : List D) : Prop :=
  ∃ xs, w.ownsRow B E m v ds.length xs ∧ rds w (fun b => S b ∧ some b ≠ v.ownBlock) ds xs ∧ ∀ u ∈ xs, u.oneCell' = true

theorem Own.nil (w : World) (B E m : Nat) (S : Nat → Prop) : Own w B E m S (.slice none 0 0) [] := ⟨[], World.ownsRow_nil _ _ _ _, rfl, by simp⟩

theorem Own.lt {w : World} {B E m : Nat} {S : Nat → Prop} {v : Value} {ds : List D} (h : Own w B E m S v ds) : ∀ k, v.ownBlock = some k → B ≤ k ∧ k < w.heap.size := by
  obtain ⟨xs, h, _⟩ := h; exact h.lt

/-- an owned row is kept where its block, and what it holds, reads as it did -/
theorem Own.keep {w w' : World} {B E m : Nat} {S S' : Nat → Prop} {v : Value} {ds : List D} (h : Own w B E m S v ds) (hb : Below w.heap.size w w') (hS : ∀ b, b < w.heap.size → S b → S' b) : Own w' B E m S' v ds := by
  obtain ⟨xs, h1, h2, h3⟩ := h
  exact ⟨xs, h1.kept (row := none) ⟨hb.os, hb.tape, hb.output, hb.size, fun k hk _ => hb.block k hk⟩ (by cases v.ownBlock <;> simp), rds.keep hb.size (fun b hb ⟨h, h'⟩ => ⟨hS b hb h, h'⟩) (fun b h _ => hb.block b h) _ _ h2, h3⟩

theorem Own.wide {w : World} {B B' E m : Nat} {S S' : Nat → Prop} {v : Value} {ds : List D} (h : Own w B E m S v ds) (hS : ∀ b, b < w.heap.size → S b → S' b) (hB : B' ≤ B) : Own w B' E m S' v ds := by
  obtain ⟨xs, h1, h2, h3⟩ := h
  refine ⟨xs, ⟨h1.1, ?_⟩, h2.wide (fun b hb ⟨h, h'⟩ => ⟨hS b hb h, h'⟩), h3⟩
  rcases h1.2 with h | ⟨g, cap, cur, e1, e2, e3⟩
  · exact .inl h
  · exact .inr ⟨g, cap, cur, e1, Nat.le_trans hB e2, e3⟩

/-- an owned row reads as the list of what it holds -/
theorem Own.rd {w : World} {B E m : Nat} {S : Nat → Prop} {v : Value} {ds : List D} (h : Own w B E m S v ds) : rd w (Up S B) (.arr ds) [v] := by
  obtain ⟨xs, h1, h2, h3⟩ := h
  rcases h1.2 with ⟨rfl, h0⟩ | ⟨g, cap, cur, rfl, hg, hh, hn, hm, hsz, ht⟩
  · exact ⟨none, 0, by rw [h0], by omega, by simp [maxLen], .inl h0⟩
  · refine ⟨_, cap, rfl, hn, hm, .inr ⟨g, 0, xs, rfl, .inr hg, (Array.getElem?_eq_some_iff.1 hh).1, h2.wide (fun b _ h => .inl h.1), fun j u hu => ?_⟩⟩
    have := h1.cells (g := g) rfl j u hu
    have e : (⟨g, 0, none⟩ : Addr).add j = ⟨g, 0 + j, none⟩ := by
      unfold Addr.add; split
      · rename_i h0; rw [h0]
      · rfl
    rw [e] at this; exact this

/-- the elements of a slice value, as cells in memory -/
def SrcAt (w : World) (A : Option Addr) (n m : Nat) (news : List Value) : Prop :=
  news.length = n * m ∧ (n = 0 ∨ ∃ b o, A = some ⟨b, o, none⟩ ∧ ∀ j u, news[j]? = some u → w.cell? ⟨b, o + j, none⟩ = some u)

theorem add_lit (b o j : Nat) : (⟨b, o, none⟩ : Addr).add j = ⟨b, o + j, none⟩ := by
  unfold Addr.add; split
  · rename_i h; rw [h]; rfl
  · rfl

theorem run_appG {P : Program} (w : World) {T ty E m bytes : Nat} {z : Value} (hT : SliceOf P T E m bytes z) {B : Nat} {S : Nat → Prop} {v : Value} {ds : List D}
    (hown : Own w B E m S v ds) {A : Option Addr} {n c : Nat} {news : List Value} {ns : List D} (hsrc : SrcAt w A n m news) (hn : ns.length = n) (h1 : ∀ u ∈ news, u.oneCell' = true)
    (hrd : rds w (fun b => S b ∧ some b ≠ v.ownBlock) ns news) (hB : B ≤ w.heap.size)
    (hbytes : (ds.length + n) * bytes ≤ 140737488355328) (h63 : ds.length + n ≤ 9223372036854775807) :
    ∃ v' w', (Builtin.append_ #[T, T] ty #[v, .slice A n c]).run P w = .ok v' w' ∧ Own w' B E m S v' (ds ++ ns) ∧ w.grownBy w' v.ownBlock ∧ Below B w w' ∧
      (∀ k, v'.ownBlock = some k → B ≤ k ∧ k < w'.heap.size ∧ (some k = v.ownBlock ∨ w.heap.size ≤ k)) := by
  obtain ⟨i, hi, hz0, hz1, hz2⟩ := info_parts hT.info
  obtain ⟨xs, hown1, hown2, hown3⟩ := hown
  subst hn
  have hrun : ∃ v' w', (Builtin.append_ #[T, T] ty #[v, .slice A ns.length c]).run P w = .ok v' w' ∧ w'.ownsRow B E m v' (ds.length + ns.length) (xs ++ news) ∧ w.grownBy w' v.ownBlock ∧
      (v'.ownBlock = v.ownBlock ∨ v'.ownBlock = some w.heap.size) := by
    cases A with
    | none =>
      have h0 : ns.length = 0 := by
        rcases hsrc.2 with h0 | ⟨b, o, h, _⟩
        · exact h0
        · cases h
      have hnews : news = [] := List.eq_nil_of_length_eq_zero (by rw [hsrc.1, h0, Nat.zero_mul])
      subst hnews
      rw [h0]
      refine ⟨v, w, ?_, by simpa using hown1, World.grownBy.refl w _, .inl rfl⟩
      rcases hown1.2 with ⟨rfl, e⟩ | ⟨g, cap, cur, rfl, _, _, hnc, _⟩
      · simp [Builtin.append_, run_underlying hT.und, sizeOf, typeInfo, hi, Builtin.lenOf, Builtin.firstCells]
      · simp [Builtin.append_, run_underlying hT.und, sizeOf, typeInfo, hi, Builtin.lenOf, Builtin.firstCells, hnc, storeCells]
    | some ad =>
      have hcells : ∀ j u, news[j]? = some u → w.cell? (ad.add j) = some u := by
        intro j u hu
        rcases hsrc.2 with h0 | ⟨b, o, h, hc⟩
        · have hnews : news = [] := List.eq_nil_of_length_eq_zero (by rw [hsrc.1, h0, Nat.zero_mul])
          subst hnews; simp at hu
        · injection h with h; subst h; rw [add_lit]; exact hc j u hu
      obtain ⟨v', w', h1, h2, h3, _, h5⟩ := run_append_own_at (P := P) w B T ty E i z m bytes hT.und hi hz0 hz1 hz2 hT.zsize hT.pos v ds.length xs hown1 ad ns.length c news hsrc.1 hcells h1 (by simpa [maxLen] using h63) hbytes hB
      exact ⟨v', w', h1, h2, h3, h5⟩
  obtain ⟨v', w', hr, h2, h3, h5⟩ := hrun
  refine ⟨v', w', hr, ?_, h3, ?_, ?_⟩
  · refine ⟨xs ++ news, by rw [List.length_append]; exact h2, ?_, ?_⟩
    · have hk : ∀ b, b < w.heap.size → (S b ∧ some b ≠ v.ownBlock) → (S b ∧ some b ≠ v'.ownBlock) := by
        rintro b hb ⟨h, h'⟩
        refine ⟨h, ?_⟩
        rcases h5 with h5 | h5
        · rw [h5]; exact h'
        · rw [h5]; simp; omega
      have := rds.append hown2 hrd
      exact rds.keep h3.size hk (fun b hb ⟨_, h'⟩ => h3.block b hb h') _ _ this
    · intro u hu
      rcases List.mem_append.1 hu with hu | hu
      · exact hown3 u hu
      · exact h1 u hu
  · exact (Below.refl B w).grown h3 hB (fun k hk => (hown1.lt k hk).1)
  · intro k hk
    have h6 := h2.lt k hk
    refine ⟨h6.1, h6.2, ?_⟩
    rcases h5 with h5 | h5
    · exact .inl (by rw [← h5, hk])
    · exact .inr (by rw [h5] at hk; simp at hk; omega)

theorem wp_appG {P : Program} {o : Oper} {a : Act} {K : Act → World → Prop} {Q : Exit → Act → World → Prop} (w : World) (s x : Operand) {T : TypeId}
    (ho : o.op = .call { callee := .builtin .append, args := #[s, x], argTypes := #[T, T] }) {E m bytes : Nat} {z : Value} (hT : SliceOf P T E m bytes z) {B : Nat} {S : Nat → Prop} {v : Value} {ds : List D}
    (hs : a.eval s = v) (hown : Own w B E m S v ds) {A : Option Addr} {n c : Nat} {news : List Value} {ns : List D} (hx : a.eval x = .slice A n c) (hsrc : SrcAt w A n m news) (hn : ns.length = n)
    (h1 : ∀ u ∈ news, u.oneCell' = true) (hrd : rds w (fun b => S b ∧ some b ≠ v.ownBlock) ns news) (hB : B ≤ w.heap.size)
    (hbytes : (ds.length + n) * bytes ≤ 140737488355328) (h63 : ds.length + n ≤ 9223372036854775807)
    (h : ∀ v' w', Own w' B E m S v' (ds ++ ns) → w.grownBy w' v.ownBlock → Below B w w' → (∀ k, v'.ownBlock = some k → B ≤ k ∧ k < w'.heap.size ∧ (some k = v.ownBlock ∨ w.heap.size ≤ k)) → K (a.put o.dst v') w') : o.wp P a w K Q := by
  obtain ⟨v', w', hr, h2, h3, h4, h5⟩ := run_appG w (ty := o.type) hT hown hsrc (c := c) hn h1 hrd hB hbytes h63
  unfold Oper.wp execOp
  simp only [ho, resolve, invoke, builtin, Sem.run_bind, Sem.run_pure, Result.andThen_ok, List.map_toArray, List.map_cons, List.map_nil, hs, hx, hr]
  exact h v' w' h2 h3 h4 h5

/-- the same, inside a region that draws its order -/
theorem step_appG {P : Program} {ops : Array Oper} {o : Oper} {a : Act} {K : Act → World → Prop} {Q : Exit → Act → World → Prop} {F : Prop} (w : World) (hgd : o.guard = none) (s x : Operand) {T : TypeId}
    (ho : o.op = .call { callee := .builtin .append, args := #[s, x], argTypes := #[T, T] }) {E m bytes : Nat} {z : Value} (hT : SliceOf P T E m bytes z) {B : Nat} {S : Nat → Prop} {v : Value} {ds : List D}
    (hs : a.eval s = v) (hown : Own w B E m S v ds) {A : Option Addr} {n c : Nat} {news : List Value} {ns : List D} (hx : a.eval x = .slice A n c) (hsrc : SrcAt w A n m news) (hn : ns.length = n)
    (h1 : ∀ u ∈ news, u.oneCell' = true) (hrd : rds w (fun b => S b ∧ some b ≠ v.ownBlock) ns news) (hB : B ≤ w.heap.size)
    (hbytes : (ds.length + n) * bytes ≤ 140737488355328) (h63 : ds.length + n ≤ 9223372036854775807)
    (h : ∀ v' w', Own w' B E m S v' (ds ++ ns) → w.grownBy w' v.ownBlock → Below B w w' → (∀ k, v'.ownBlock = some k → B ≤ k ∧ k < w'.heap.size ∧ (some k = v.ownBlock ∨ w.heap.size ≤ k)) → K (a.put o.dst v') w') :
    if Region.wanted o (yielded ops a.tmps) = true then Oper.wp P o a w K Q else F := by
  have hw : Region.wanted o (yielded ops a.tmps) = true := by simp [Region.wanted, hgd]
  rw [if_pos hw]
  exact wp_appG w s x ho hT hs hown hx hsrc hn h1 hrd hB hbytes h63 h

/-- every cell of such a datum is one cell -/
def D.One : D → Prop
  | .lit v => v.oneCell' = true
  | .agg ds => ∀ d ∈ ds, D.One d
  | .arr _ => True

theorem rds_one_of {w : World} {S : Nat → Prop} : ∀ (ds : List D), (∀ d ∈ ds, ∀ cs, rd w S d cs → ∀ u ∈ cs, u.oneCell' = true) → ∀ cs, rds w S ds cs → ∀ u ∈ cs, u.oneCell' = true
  | [], _, _, hc, u, hu => by cases hc; cases hu
  | d :: ds, h, _, ⟨c1, c2, e, h1, h2⟩, u, hu => by
    rw [e] at hu
    rcases List.mem_append.1 hu with hu | hu
    · exact h d (by simp) c1 h1 u hu
    · exact rds_one_of ds (fun d' hd => h d' (by simp [hd])) c2 h2 u hu

theorem rd.one {w : World} {S : Nat → Prop} : ∀ (d : D) , d.One → ∀ (cs : List Value), rd w S d cs → ∀ u ∈ cs, u.oneCell' = true := by
  refine D.ind ?_ ?_ ?_
  · intro v h cs hc u hu
    simp only [rd] at hc
    subst hc
    simp at hu; subst hu
    simpa [D.One] using h
  · intro ds ih h cs hc u hu
    simp only [D.One] at h
    exact rds_one_of ds (fun d hd => ih d hd (h d hd)) cs hc u hu
  · intro ds ih h cs hc u hu
    obtain ⟨a, cap, e, _⟩ := hc
    subst e
    simp at hu; subst hu; rfl

/-- the source of an append out of a reading -/
theorem rd.src {w : World} {S : Nat → Prop} {ds : List D} {A : Option Addr} {n c m : Nat} (h : rd w S (.arr ds) [.slice A n c]) (hm : ∀ d ∈ ds, ∀ c, rd w S d c → c.length = m) (h1 : ∀ d ∈ ds, d.One) :
    ∃ news, SrcAt w A n m news ∧ ds.length = n ∧ (∀ u ∈ news, u.oneCell' = true) ∧ rds w S ds news := by
  obtain ⟨a, cap, e, _, _, h3⟩ := h
  simp only [List.cons.injEq, Value.slice.injEq, and_true] at e
  obtain ⟨rfl, rfl, rfl⟩ := e
  have hlen : ∀ (ds : List D) (cs : List Value), (∀ d ∈ ds, ∀ c, rd w S d c → c.length = m) → rds w S ds cs → cs.length = ds.length * m := by
    intro ds
    induction ds with
    | nil => intro cs _ h; cases h; simp
    | cons d ds ih =>
      intro cs hm ⟨c1, c2, e, h1, h2⟩
      rw [e, List.length_append, hm d (by simp) c1 h1, ih c2 (fun d' hd => hm d' (by simp [hd])) h2, List.length_cons, Nat.add_mul]
      omega
  rcases h3 with h3 | ⟨b, o, xs, e1, e2, eb, e3, e4⟩
  · have : ds = [] := List.eq_nil_of_length_eq_zero h3
    subst this
    exact ⟨[], ⟨by simp, .inl rfl⟩, rfl, by simp, rfl⟩
  · refine ⟨xs, ⟨hlen _ _ hm e3, .inr ⟨b, o, e1, e4⟩⟩, rfl, ?_, e3⟩
    exact rds_one_of ds (fun d hd cs hc => rd.one d (h1 d hd) cs hc) xs e3

/-- the empty slice literal, '[]T{}' -/
theorem Own.lit0 {w : World} {B E m : Nat} {S : Nat → Prop} (hB : B ≤ w.heap.size) : Own (w.alloc (.cells #[] E)) B E m S (.slice (some ⟨w.heap.size, 0, none⟩) 0 0) [] :=
  ⟨[], ⟨by simp, .inr ⟨w.heap.size, 0, #[], rfl, hB, Go.heap_alloc_new w _, Nat.le_refl _, by simp [maxLen], by simp, by simp⟩⟩, rfl, by simp⟩

section
variable {w w' : World} {B E m : Nat} {S : Nat → Prop} {v : Value} {ds : List D}
theorem Own.same_ (h : Own w B E m S v ds) (hh : w'.heap = w.heap) : Own w' B E m S v ds := by
  obtain ⟨xs, h1, h2, h3⟩ := h
  refine ⟨xs, ?_, rds.keep (by rw [hh]; exact Nat.le_refl _) (fun _ _ h => h) (fun b _ _ => by rw [hh]) _ _ h2, h3⟩
  refine ⟨h1.1, ?_⟩
  rcases h1.2 with h | ⟨g, cap, cur, e1, e2, e3, e4⟩
  · exact .inl h
  · exact .inr ⟨g, cap, cur, e1, e2, by rw [hh]; exact e3, e4⟩
theorem Own.alloc (h : Own w B E m S v ds) (o : Obj) : Own (w.alloc o) B E m S v ds := h.keep ((Below.refl _ _).alloc (Nat.le_refl _) o) (fun _ _ h => h)
theorem SrcAt.below {A : Option Addr} {n : Nat} {news : List Value} (h : SrcAt w A n m news) (hb : Below w.heap.size w w') : SrcAt w' A n m news := by
  refine ⟨h.1, ?_⟩
  rcases h.2 with h0 | ⟨b, o, e, hc⟩
  · exact .inl h0
  · refine .inr ⟨b, o, e, fun j u hu => ?_⟩
    have h1 := hc j u hu
    rw [hb.cell (World.block_lt_of_cell? w _ h1)]; exact h1
end

/-- what a call hands back -/
def Ret (R : Value → World → Prop) (e : Ending) (w' : World) : Prop := ∃ v, e = .returned v ∧ R v w'

end Go.Proofs.YtmanhdacnkpclaaGreatDoor

/- Terms, pairs, literals, clauses as plain data, and how they lie in memory. -/
namespace Go.Proofs.YtmanhdacnkpclaaGreatDoor
set_option linter.unusedVariables false
set_option linter.unusedSimpArgs false
open Go.RowKit

structure Tm where
  var : Bool
  n : Int
  args : List Tm

theorem Tm.ind {P : Tm → Prop} (h : ∀ v n l, (∀ a ∈ l, P a) → P ⟨v, n, l⟩) : ∀ t, P t
  | ⟨v, n, l⟩ => h v n l fun a _ => Tm.ind h a

mutual
def Tm.d : Tm → D
  | ⟨v, n, l⟩ => .agg [.lit (.bool v), .lit (.int .i64 n), .arr (Tm.ds l)]
def Tm.ds : List Tm → List D
  | [] => []
  | a :: l => Tm.d a :: Tm.ds l
end

theorem Tm.ds_eq : ∀ l, Tm.ds l = l.map Tm.d
  | [] => rfl
  | a :: l => by simp [Tm.ds, Tm.ds_eq l]

/-- a slice value that reads as a list, each element by f -/
def RdL {α : Type} (f : α → D) (w : World) (S : Nat → Prop) (l : List α) (v : Value) : Prop := rd w S (.arr (l.map f)) [v]

section
variable {α : Type} {f : α → D} {w w' : World} {S S' : Nat → Prop} {l : List α} {v : Value}
theorem RdL.form (h : RdL f w S l v) : ∃ a cap, v = .slice a l.length cap ∧ l.length ≤ cap ∧ cap ≤ 9223372036854775807 := by
  obtain ⟨a, cap, e, h1, h2, _⟩ := h
  rw [List.length_map] at e h1
  exact ⟨a, cap, by simpa using e, h1, by simpa [maxLen] using h2⟩
theorem RdL.keep (h : RdL f w S l v) (hz : w.heap.size ≤ w'.heap.size) (hS : ∀ b, b < w.heap.size → S b → S' b) (hw : ∀ b, b < w.heap.size → S b → w'.heap[b]? = w.heap[b]?) : RdL f w' S' l v := rd.keep hz hS hw _ _ h
theorem RdL.below {B : Nat} (h : RdL f w S l v) (hb : Below B w w') (hB : w.heap.size ≤ B) : RdL f w' S l v := rd.below h hb hB
theorem RdL.alloc (h : RdL f w S l v) (o : Obj) : RdL f (w.alloc o) S l v := h.keep (by simp) (fun _ _ h => h) (fun b hb _ => Below.heap_alloc w o b hb)
theorem RdL.same_ (h : RdL f w S l v) (hh : w'.heap = w.heap) : RdL f w' S l v := h.keep (by rw [hh]; exact Nat.le_refl _) (fun _ _ h => h) (fun b _ _ => by rw [hh])
theorem RdL.wide (h : RdL f w S l v) (hS : ∀ b, b < w.heap.size → S b → S' b) : RdL f w S' l v := rd.wide h hS
theorem RdL.nil (c : Nat) (hc : c ≤ 9223372036854775807) (a : Option Addr) : RdL f w S [] (.slice a 0 c) := ⟨a, c, rfl, Nat.zero_le _, by simpa [maxLen] using hc, .inl rfl⟩
theorem RdL.nth {P : Program} {T E m bytes : Nat} {z : Value} {a : Option Addr} {n cap k : Nat} (h : RdL f w S l (.slice a n cap)) (hT : SliceOf P T E m bytes z)
    (hm : ∀ x c, rd w S (f x) c → c.length = m) (hk : k < l.length) :
    ∃ x b o cs, Hid (l[k]? = some x) ∧ S b ∧ b < w.heap.size ∧ (∀ W, (Instr.indexAt T (.slice a n cap) (.int .i64 (k : Int))).run P W = .ok (.pointer (some ⟨b, o + k * m, none⟩)) W) ∧
      rd w S (f x) cs ∧ ∀ j u, cs[j]? = some u → w.cell? ⟨b, o + k * m + j, none⟩ = some u := by
  obtain ⟨a', cap', e, h1, h2, h3⟩ := h
  simp only [List.cons.injEq, Value.slice.injEq, and_true, List.length_map] at e h1 h3
  obtain ⟨rfl, rfl, rfl⟩ := e
  rcases h3 with h3 | ⟨b, o, xs, e1, e2, eb, e3, e4⟩
  · omega
  · obtain ⟨c, _, hr, hj⟩ := rds.nth _ xs e3 (fun d hd c hc => by
      obtain ⟨x, _, rfl⟩ := List.mem_map.1 hd
      exact hm x c hc) k (by simpa using hk)
    refine ⟨l[k], b, o, c, List.getElem?_eq_getElem hk, e2, eb, fun W => hT.index e1 hk W, by simpa using hr, fun j u hu => ?_⟩
    rw [Nat.add_assoc]; exact e4 _ u (hj j u hu)
end

abbrev RdTs := RdL Tm.d
/-- value v reads as the term t -/
def RdT (w : World) (S : Nat → Prop) (t : Tm) (v : Value) : Prop :=
  ∃ a c, v = .agg #[.bool t.var, .int .i64 t.n, .slice a t.args.length c] ∧ RdTs w S t.args (.slice a t.args.length c)

theorem rd_tm {w : World} {S : Nat → Prop} {t : Tm} {cs : List Value} : rd w S t.d cs ↔ ∃ a c, cs = [.bool t.var, .int .i64 t.n, .slice a t.args.length c] ∧ RdTs w S t.args (.slice a t.args.length c) := by
  obtain ⟨b, n, l⟩ := t
  constructor
  · rintro ⟨c1, c2, rfl, h1, c3, c4, rfl, h2, c5, c6, rfl, h3, h4⟩
    rw [Tm.ds_eq] at h3
    have h3' := h3
    obtain ⟨a, cap, rfl, _⟩ := h3'
    simp only [rd, rds, List.length_map] at h1 h2 h3 h4 ⊢
    subst h1 h2 h4
    exact ⟨_, _, rfl, by simpa [RdL, rd] using h3⟩
  · rintro ⟨a, c, rfl, h⟩
    refine ⟨[_], [_, _], rfl, rfl, [_], [_], rfl, rfl, [_], [], rfl, ?_, rfl⟩
    rw [Tm.ds_eq]; exact h
theorem rd_tm_len {w : World} {S : Nat → Prop} (t : Tm) (c : List Value) (h : Go.Proofs.YtmanhdacnkpclaaGreatDoor.rd w S t.d c) : c.length = 3 := by
  obtain ⟨_, _, rfl, _⟩ := rd_tm.1 h; rfl
section
variable {w w' : World} {S S' : Nat → Prop} {t : Tm} {v : Value}
theorem RdT.keep (h : RdT w S t v) (hz : w.heap.size ≤ w'.heap.size) (hS : ∀ b, b < w.heap.size → S b → S' b) (hw : ∀ b, b < w.heap.size → S b → w'.heap[b]? = w.heap[b]?) : RdT w' S' t v := by
  obtain ⟨a, c, rfl, h⟩ := h; exact ⟨a, c, rfl, h.keep hz hS hw⟩
theorem RdT.below {B : Nat} (h : RdT w S t v) (hb : Below B w w') (hB : w.heap.size ≤ B) : RdT w' S t v := by obtain ⟨a, c, rfl, h⟩ := h; exact ⟨a, c, rfl, h.below hb hB⟩
theorem RdT.alloc (h : RdT w S t v) (o : Obj) : RdT (w.alloc o) S t v := h.keep (by simp) (fun _ _ h => h) (fun b hb _ => Below.heap_alloc w o b hb)
theorem RdT.same_ (h : RdT w S t v) (hh : w'.heap = w.heap) : RdT w' S t v := h.keep (by rw [hh]; exact Nat.le_refl _) (fun _ _ h => h) (fun b _ _ => by rw [hh])
theorem RdT.wide (h : RdT w S t v) (hS : ∀ b, b < w.heap.size → S b → S' b) : RdT w S' t v := by obtain ⟨a, c, rfl, h⟩ := h; exact ⟨a, c, rfl, h.wide hS⟩
end
/-- element k of a slice of terms -/
theorem RdL.nthT {P : Program} {T E bytes : Nat} {z : Value} {w : World} {S : Nat → Prop} {l : List Tm} {a : Option Addr} {n cap k : Nat} (h : RdTs w S l (.slice a n cap)) (hT : SliceOf P T E 3 bytes z) (hk : k < l.length) :
    ∃ x b o a' c', Hid (l[k]? = some x) ∧ S b ∧ b < w.heap.size ∧ (∀ W, (Instr.indexAt T (.slice a n cap) (.int .i64 (k : Int))).run P W = .ok (.pointer (some ⟨b, o + k * 3, none⟩)) W) ∧
      w.cell? ⟨b, o + k * 3, none⟩ = some (.bool x.var) ∧ w.cell? ⟨b, o + k * 3 + 1, none⟩ = some (.int .i64 x.n) ∧ w.cell? ⟨b, o + k * 3 + 2, none⟩ = some (.slice a' x.args.length c') ∧
      RdTs w S x.args (.slice a' x.args.length c') := by
  obtain ⟨x, b, o, cs, hx, hS, hb, hi, hr, hc⟩ := RdL.nth h hT rd_tm_len hk
  obtain ⟨a', c', rfl, h2⟩ := rd_tm.1 hr
  exact ⟨x, b, o, a', c', hx, hS, hb, hi, hc 0 _ rfl, hc 1 _ rfl, hc 2 _ rfl, h2⟩

/-- a pair: a variable, and what it is bound to -/
abbrev Pr := Int × Tm
def Pr.d (p : Pr) : D := .agg [.lit (.int .i64 p.1), p.2.d]
/-- a literal -/
structure Lt where
  neg : Bool
  left : Tm
  right : Tm
def Lt.d (p : Lt) : D := .agg [.lit (.bool p.neg), p.left.d, p.right.d]
abbrev Cl := List Lt
def Cl.d (c : Cl) : D := .arr (c.map Lt.d)
/-- whole numbers -/
def Int.d (n : Int) : D := .lit (.int .i64 n)
abbrev RdI := RdL Int.d
theorem rd_int_len {w : World} {S : Nat → Prop} (n : Int) (c : List Value) (h : rd w S (Int.d n) c) : c.length = 1 := by
  simp only [Int.d, rd] at h; subst h; rfl
theorem RdL.nthI {P : Program} {T E bytes : Nat} {z : Value} {w : World} {S : Nat → Prop} {l : List Int} {a : Option Addr} {n cap k : Nat} (h : RdI w S l (.slice a n cap)) (hT : SliceOf P T E 1 bytes z) (hk : k < l.length) :
    ∃ x b o, Hid (l[k]? = some x) ∧ S b ∧ b < w.heap.size ∧ (∀ W, (Instr.indexAt T (.slice a n cap) (.int .i64 (k : Int))).run P W = .ok (.pointer (some ⟨b, o + k, none⟩)) W) ∧ w.cell? ⟨b, o + k, none⟩ = some (.int .i64 x) := by
  obtain ⟨x, b, o, cs, hx, hS, hb, hi, hr, hc⟩ := RdL.nth h hT rd_int_len hk
  simp only [Int.d, rd] at hr
  subst hr
  simp only [Nat.mul_one] at hi hc
  exact ⟨x, b, o, hx, hS, hb, hi, hc 0 _ rfl⟩

theorem Int.d_one (n : Int) : (Int.d n).One := by simp [Int.d, D.One, Value.oneCell']
theorem RdL.src {α : Type} {f : α → D} {w : World} {S : Nat → Prop} {l : List α} {A : Option Addr} {n c m : Nat} (h : RdL f w S l (.slice A n c)) (hm : ∀ x c, rd w S (f x) c → c.length = m) (h1 : ∀ x, (f x).One) :
    ∃ news, SrcAt w A n m news ∧ (l.map f).length = n ∧ (∀ u ∈ news, u.oneCell' = true) ∧ rds w S (l.map f) news :=
  rd.src h (fun d hd c hc => by obtain ⟨x, _, rfl⟩ := List.mem_map.1 hd; exact hm x c hc) (fun d hd => by obtain ⟨x, _, rfl⟩ := List.mem_map.1 hd; exact h1 x)

end Go.Proofs.YtmanhdacnkpclaaGreatDoor

/- More on readings. -/
namespace Go.Proofs.YtmanhdacnkpclaaGreatDoor
set_option linter.unusedVariables false
set_option linter.unusedSimpArgs false
open Go.RowKit

theorem rds_int_any {w w' : World} {S S' : Nat → Prop} : ∀ {l : List Int} {cs : List Value}, rds w S (l.map Int.d) cs → rds w' S' (l.map Int.d) cs
  | [], _, h => h
  | _ :: _, _, ⟨c1, c2, e, h1, h2⟩ => ⟨c1, c2, e, h1, rds_int_any h2⟩

theorem rds_int_one (w : World) (S : Nat → Prop) (n : Int) : rds w S ([n].map Int.d) [.int .i64 n] := ⟨[_], [], rfl, rfl, rfl⟩

theorem cell_keep {W w1 : World} {B b o : Nat} {x : Value} (hb : Below B W w1) (hlt : b < B) (h : W.cell? ⟨b, o, none⟩ = some x) : w1.cell? ⟨b, o, none⟩ = some x :=
  (hb.cell (p := ⟨b, o, none⟩) hlt).trans h
theorem SrcAt.grown {w w' : World} {m n b o : Nat} {row : Option Nat} {news : List Value} (h : SrcAt w (some ⟨b, o, none⟩) n m news) (hg : w.grownBy w' row) (hne : some b ≠ row) : SrcAt w' (some ⟨b, o, none⟩) n m news := by
  refine ⟨h.1, ?_⟩
  rcases h.2 with h0 | ⟨b', o', e, hc⟩
  · exact .inl h0
  · refine .inr ⟨b', o', e, fun j u hu => hg.cell (hc j u hu) ?_⟩
    injection e with e; injection e with e1 e2; subst e1; exact hne
/-- a block, looked up -/
def blk (w : World) (g : Nat) : Option Obj := w.heap[g]?
theorem blk_alloc (w : World) (o : Obj) (g : Nat) : blk (w.alloc o) g = if g = w.heap.size then some o else blk w g := by
  show (w.heap.push o)[g]? = _
  rw [Array.getElem?_push]; rfl
theorem blk_drew (w : World) (g : Nat) : blk w.drew g = blk w g := rfl
theorem Own.blk {w : World} {B E m g : Nat} {S : Nat → Prop} (h : blk w g = some (.cells #[] E (0, 0))) (hB : B ≤ g) : Own w B E m S (.slice (some ⟨g, 0, none⟩) 0 0) [] :=
  ⟨[], ⟨by simp, .inr ⟨g, 0, #[], rfl, hB, h, Nat.le_refl _, by simp [maxLen], by simp, by simp⟩⟩, rfl, by simp⟩
theorem SrcAt.blk {w : World} {E m g n : Nat} {cs : List Value} (h : blk w g = some (.cells cs.toArray E (0, 0))) (hl : cs.length = n * m) : SrcAt w (some ⟨g, 0, none⟩) n m cs :=
  ⟨hl, .inr ⟨g, 0, rfl, fun j u hu => by rw [cell_of_row w g (0 + j) _ _ _ h, Nat.zero_add]; simpa using hu⟩⟩

theorem blk_below {w w' : World} {B g : Nat} {o : Obj} (h : blk w g = some o) (hb : Below B w w') (hg : g < B) : blk w' g = some o := (hb.block g hg).trans h
theorem blk_lt {w : World} {g : Nat} {o : Obj} (h : blk w g = some o) : g < w.heap.size := (Array.getElem?_eq_some_iff.1 h).1
theorem blk3 {w : World} {g : Nat} {a b c : Value} {E : TypeId} {fr : Nat × Nat} (h : blk w g = some (.cells #[a, b, c] E fr)) : w.cell? ⟨g, 0, none⟩ = some a ∧ w.cell? ⟨g, 1, none⟩ = some b ∧ w.cell? ⟨g, 2, none⟩ = some c :=
  ⟨cell_of_row w g 0 _ _ _ h, cell_of_row w g 1 _ _ _ h, cell_of_row w g 2 _ _ _ h⟩
theorem bc {w w' : World} {B : Nat} (hb : Below B w w') : ∀ b o, b < B → w'.cell? ⟨b, o, none⟩ = w.cell? ⟨b, o, none⟩ := fun b o h => hb.cell (p := ⟨b, o, none⟩) h

theorem RdT.mk' {w : World} {S : Nat → Prop} {U : Tm} {v : Bool} {n : Int} {l : List Tm} {a : Option Addr} {c : Nat} (hU : U = ⟨v, n, l⟩) (h : RdTs w S l (.slice a l.length c)) : RdT w S U (.agg #[.bool v, .int .i64 n, .slice a l.length c]) := by
  subst hU; exact ⟨a, c, rfl, h⟩

end Go.Proofs.YtmanhdacnkpclaaGreatDoor

/- What the functions compute, on plain data: terms and bindings. No program in sight. -/
namespace Go.Proofs.YtmanhdacnkpclaaGreatDoor
set_option linter.unusedVariables false
set_option linter.unusedSimpArgs false

mutual
def Tm.size : Tm → Nat
  | ⟨_, _, l⟩ => 1 + Tm.sizes l
def Tm.sizes : List Tm → Nat
  | [] => 0
  | a :: l => Tm.size a + Tm.sizes l
end

theorem Tm.sizes_eq : ∀ l, Tm.sizes l = (l.map Tm.size).sum
  | [] => rfl
  | a :: l => by simp [Tm.sizes, Tm.sizes_eq l]

theorem sizes_take_succ (l : List Tm) (k : Nat) (x : Tm) (h : l[k]? = some x) : Tm.sizes (l.take (k + 1)) = Tm.sizes (l.take k) + x.size := by
  obtain ⟨hk, rfl⟩ := List.getElem?_eq_some_iff.1 h
  rw [List.take_succ_eq_append_getElem hk, Tm.sizes_eq, Tm.sizes_eq, List.map_append, List.sum_append]; simp
theorem sizes_take_le (l : List Tm) (k : Nat) : Tm.sizes (l.take k) ≤ Tm.sizes l := by
  induction l generalizing k with
  | nil => simp [Tm.sizes]
  | cons a l ih => cases k <;> simp [Tm.sizes]; exact ih _

/-- a step of a loop over a list -/
theorem take_succ_of {α : Type} {l : List α} {k : Nat} {x : α} (h : l[k]? = some x) : l.take (k + 1) = l.take k ++ [x] := by
  obtain ⟨hk, rfl⟩ := List.getElem?_eq_some_iff.1 h
  exact List.take_succ_eq_append_getElem hk
theorem mem_of_get {α : Type} {l : List α} {k : Nat} {x : α} (h : l[k]? = some x) : x ∈ l := List.mem_of_getElem? h

mutual
def Tm.same : Tm → Tm → Bool
  | ⟨v, n, l⟩, ⟨v', n', l'⟩ => v == v' && n == n' && Tm.sames l l'
def Tm.sames : List Tm → List Tm → Bool
  | [], [] => true
  | a :: l, b :: l' => Tm.same a b && Tm.sames l l'
  | [], _ :: _ => false
  | _ :: _, [] => false
end
mutual
theorem Tm.same_iff : ∀ a b, Tm.same a b = true ↔ a = b
  | ⟨v, n, l⟩, ⟨v', n', l'⟩ => by
    have := Tm.sames_iff l l'
    simp [Tm.same, this, and_assoc]
theorem Tm.sames_iff : ∀ l l', Tm.sames l l' = true ↔ l = l'
  | [], [] => by simp [Tm.sames]
  | a :: l, b :: l' => by
    have h1 := Tm.same_iff a b
    have h2 := Tm.sames_iff l l'
    simp [Tm.sames, h1, h2]
  | [], _ :: _ => by simp [Tm.sames]
  | _ :: _, [] => by simp [Tm.sames]
end
instance : DecidableEq Tm := fun a b => decidable_of_iff _ (Tm.same_iff a b)
theorem Tm.same_refl (a : Tm) : Tm.same a a = true := (Tm.same_iff a a).2 rfl
theorem Tm.sames_len {l l' : List Tm} (h : l.length ≠ l'.length) : Tm.sames l l' = false := by
  cases hs : Tm.sames l l' with
  | false => rfl
  | true => exact absurd (congrArg List.length ((Tm.sames_iff l l').1 hs)) h
/-- a walk over two lists of one length: what is decided at k -/
theorem Tm.sames_no {l l' : List Tm} {k : Nat} {x y : Tm} (hx : l[k]? = some x) (hy : l'[k]? = some y) (h : Tm.same x y = false) : Tm.sames l l' = false := by
  cases hs : Tm.sames l l' with
  | false => rfl
  | true =>
    have := (Tm.sames_iff l l').1 hs
    subst this
    rw [hx] at hy; injection hy with hy; subst hy
    rw [Tm.same_refl] at h; cases h
theorem Tm.sames_yes {l l' : List Tm} (hl : l.length = l'.length) (h : l.take l.length = l'.take l.length) : Tm.sames l l' = true := by
  rw [Tm.sames_iff]
  rw [List.take_length, hl, List.take_length] at h
  exact h

/-- WrongSig -/
def wrongSig (s : List Int) : Int := if s.length = 0 ∨ 6 < s.length then 5 else if s.any (fun n => decide (n < 0 ∨ 2 < n)) then 3 else 0
mutual
/-- what is wrong with a term, but for how much it is; 'deep' less 1 terms are around it -/
def walk (s : List Int) : Tm → Int → Int
  | ⟨v, n, l⟩, d => if 12 < d then 4 else if v then (if n < 0 ∨ 4 < n then 3 else if l.length = 0 then 0 else 5)
      else if n < 0 ∨ (s.length : Int) ≤ n then 7 else if (l.length : Int) = s.getD n.toNat 0 then walks s l (d + 1) else 5
def walks (s : List Int) : List Tm → Int → Int
  | [], _ => 0
  | a :: l, d => if walk s a d = 0 then walks s l d else walk s a d
end
/-- Wrong: the size as Go's int reckons it -/
def wrong (s : List Int) (t : Tm) : Int := if walk s t 1 = 0 then (if 12 < Go.RowKit.wrap64 t.size then 4 else 0) else walk s t 1

theorem walks_no {s : List Int} {d : Int} : ∀ {l : List Tm} {k : Nat} {x : Tm}, walks s (l.take k) d = 0 → l[k]? = some x → walk s x d ≠ 0 → walks s l d = walk s x d
  | [], _, _, _, h, _ => by simp at h
  | a :: l, 0, x, _, h, hx => by simp at h; subst h; simp [walks, hx]
  | a :: l, k + 1, x, h0, h, hx => by
    simp only [List.take_succ_cons, walks] at h0
    simp only [List.getElem?_cons_succ] at h
    split at h0
    · rename_i ha; simp only [walks, ha, if_true]; exact walks_no h0 h hx
    · rename_i ha; exact absurd h0 ha
theorem walks_succ {s : List Int} {d : Int} : ∀ {l : List Tm} {k : Nat} {x : Tm}, walks s (l.take k) d = 0 → l[k]? = some x → walk s x d = 0 → walks s (l.take (k + 1)) d = 0
  | [], _, _, _, h, _ => by simp at h
  | a :: l, 0, x, _, h, hx => by simp at h; subst h; simp [walks, hx]
  | a :: l, k + 1, x, h0, h, hx => by
    simp only [List.take_succ_cons, walks] at h0 ⊢
    simp only [List.getElem?_cons_succ] at h
    split at h0
    · rename_i ha; simp only [ha, if_true]; exact walks_succ h0 h hx
    · rename_i ha; exact absurd h0 ha

/-- what a variable is bound to -/
def find (s : List Pr) (v : Int) : Option Tm := (s.find? (fun p => p.1 == v)).map (·.2)

mutual
def apply (s : List Pr) : Tm → Tm
  | ⟨true, n, l⟩ => (find s n).getD ⟨true, n, l⟩
  | ⟨false, n, l⟩ => ⟨false, n, applys s l⟩
def applys (s : List Pr) : List Tm → List Tm
  | [] => []
  | a :: l => apply s a :: applys s l
end
end Go.Proofs.YtmanhdacnkpclaaGreatDoor

/- What the functions compute, on plain data: variables, the order. -/
namespace Go.Proofs.YtmanhdacnkpclaaGreatDoor
set_option linter.unusedVariables false
set_option linter.unusedSimpArgs false

mutual
/-- variables, behind others -/
def vars (l : List Int) : Tm → List Int
  | ⟨true, n, _⟩ => if n ∈ l then l else l ++ [n]
  | ⟨false, _, as_⟩ => varss l as_
def varss (l : List Int) : List Tm → List Int
  | [] => l
  | a :: r => varss (vars l a) r
end
theorem varss_snoc : ∀ (l : List Int) (ts : List Tm) (t : Tm), varss l (ts ++ [t]) = vars (varss l ts) t
  | _, [], _ => by simp [varss]
  | l, a :: r, t => by simp [varss, varss_snoc (vars l a) r t]

mutual
theorem vars_len (l : List Int) : ∀ t : Tm, (vars l t).length ≤ l.length + t.size
  | ⟨true, n, as_⟩ => by simp only [vars, Tm.size]; split <;> simp <;> omega
  | ⟨false, n, as_⟩ => by have := varss_len l as_; simp only [vars, Tm.size]; omega
theorem varss_len (l : List Int) : ∀ ts : List Tm, (varss l ts).length ≤ l.length + Tm.sizes ts
  | [] => by simp [varss]
  | a :: r => by have := vars_len l a; have := varss_len (vars l a) r; simp only [varss, Tm.sizes]; omega
end
mutual
/-- how often a variable is in a term -/
def times (v : Int) : Tm → Nat
  | ⟨b, n, l⟩ => (if b && n == v then 1 else 0) + timess v l
def timess (v : Int) : List Tm → Nat
  | [] => 0
  | a :: l => times v a + timess v l
end
theorem timess_snoc (v : Int) : ∀ (l : List Tm) (t : Tm), timess v (l ++ [t]) = timess v l + times v t
  | [], t => by simp [timess]
  | a :: r, t => by simp [timess, timess_snoc v r t]; omega
theorem timess_take_le (v : Int) (l : List Tm) (k : Nat) : timess v (l.take k) ≤ timess v l := by
  induction l generalizing k with
  | nil => simp [timess]
  | cons a l ih => cases k <;> simp [timess]; exact ih _
mutual
theorem times_le_size (v : Int) : ∀ t : Tm, times v t ≤ t.size
  | ⟨b, n, l⟩ => by
    have := timess_le_sizes v l
    simp only [times, Tm.size]
    split <;> omega
theorem timess_le_sizes (v : Int) : ∀ l : List Tm, timess v l ≤ Tm.sizes l
  | [] => by simp [timess, Tm.sizes]
  | a :: l => by
    have := times_le_size v a
    have := timess_le_sizes v l
    simp only [timess, Tm.sizes]; omega
end

mutual
/-- above -/
def above : Tm → Tm → Bool
  | ⟨va, na, la⟩, b =>
    if va then false
    else if (vars [] b).any (fun v => decide (times v ⟨va, na, la⟩ < times v b)) then false
    else if (⟨va, na, la⟩ : Tm).size = b.size then
      (if b.var then false else if na < b.n then false else if b.n < na then true else aboves la b.args)
    else decide (b.size < (⟨va, na, la⟩ : Tm).size)
def aboves : List Tm → List Tm → Bool
  | a :: la, b :: lb => if a.same b then aboves la lb else above a b
  | [], _ => false
  | _ :: _, [] => false
end
theorem aboves_none : ∀ {la lb : List Tm} {k : Nat}, la.take k = lb.take k → (la.length ≤ k ∨ lb.length ≤ k) → aboves la lb = false
  | [], _, _, _, _ => by simp [aboves]
  | _ :: _, [], _, _, _ => by simp [aboves]
  | a :: la, b :: lb, 0, _, h => by simp at h
  | a :: la, b :: lb, k + 1, e, h => by
    simp only [List.take_succ_cons, List.cons.injEq] at e
    obtain ⟨rfl, e⟩ := e
    simp only [aboves, Tm.same_refl, if_true]
    exact aboves_none e (by simpa using h)
theorem aboves_at : ∀ {la lb : List Tm} {k : Nat} {x y : Tm}, la.take k = lb.take k → la[k]? = some x → lb[k]? = some y → x.same y = false → aboves la lb = above x y
  | [], _, _, _, _, _, h, _, _ => by simp at h
  | _ :: _, [], _, _, _, _, _, h, _ => by simp at h
  | a :: la, b :: lb, 0, x, y, _, h, h', hxy => by simp at h h'; subst h h'; simp [aboves, hxy]
  | a :: la, b :: lb, k + 1, x, y, e, h, h', hxy => by
    simp only [List.take_succ_cons, List.cons.injEq] at e
    obtain ⟨rfl, e⟩ := e
    simp only [aboves, Tm.same_refl, if_true]
    exact aboves_at e (by simpa using h) (by simpa using h') hxy

/-- how two terms are to each other -/
def compare (a b : Tm) : Int := if a.same b then 2 else if above a b then 3 else if above b a then 1 else 0

end Go.Proofs.YtmanhdacnkpclaaGreatDoor

/- Terms that are as chapter 2 has them: variables without arguments, numbered from 0 on. -/
namespace Go.Proofs.YtmanhdacnkpclaaGreatDoor
set_option linter.unusedVariables false
set_option linter.unusedSimpArgs false

mutual
def Tm.okv : Tm → Bool
  | ⟨true, n, l⟩ => l.isEmpty && decide (0 ≤ n) && decide (n ≤ 1000000)
  | ⟨false, _, l⟩ => Tm.okvs l
def Tm.okvs : List Tm → Bool
  | [] => true
  | a :: l => Tm.okv a && Tm.okvs l
end
theorem Tm.okvs_iff : ∀ l, Tm.okvs l = true ↔ ∀ t ∈ l, t.okv = true
  | [] => by simp [Tm.okvs]
  | a :: l => by simp [Tm.okvs, Tm.okvs_iff l]
mutual
theorem vars_mem_old (x : Int) : ∀ (t : Tm) (l : List Int), x ∈ l → x ∈ vars l t
  | ⟨true, n, r⟩, l, h => by simp only [vars]; split; exact h; simp [h]
  | ⟨false, n, r⟩, l, h => by simp only [vars]; exact varss_mem_old x r l h
theorem varss_mem_old (x : Int) : ∀ (r : List Tm) (l : List Int), x ∈ l → x ∈ varss l r
  | [], l, h => h
  | a :: r, l, h => by simp only [varss]; exact varss_mem_old x r _ (vars_mem_old x a l h)
end
mutual
theorem times_mem (x : Int) : ∀ (t : Tm) (l : List Int), t.okv = true → times x t ≠ 0 → x ∈ vars l t ∧ 0 ≤ x ∧ x ≤ 1000000
  | ⟨true, n, r⟩, l, h, h' => by
    simp only [Tm.okv, Bool.and_eq_true, List.isEmpty_iff, decide_eq_true_eq] at h
    obtain ⟨⟨rfl, h1⟩, h2⟩ := h
    simp only [times, timess] at h'
    have hn : n = x := by
      rcases Decidable.em (n = x) with h | h
      · exact h
      · simp [h] at h'
    subst hn
    refine ⟨?_, h1, h2⟩
    simp only [vars]; split
    · assumption
    · simp
  | ⟨false, n, r⟩, l, h, h' => by
    simp only [Tm.okv] at h
    simp only [times, Bool.false_and, Bool.false_eq_true, if_false, Nat.zero_add] at h'
    simp only [vars]
    exact timess_mem x r l h h'
theorem timess_mem (x : Int) : ∀ (r : List Tm) (l : List Int), Tm.okvs r = true → timess x r ≠ 0 → x ∈ varss l r ∧ 0 ≤ x ∧ x ≤ 1000000
  | [], _, _, h' => by simp [timess] at h'
  | a :: r, l, h, h' => by
    simp only [Tm.okvs, Bool.and_eq_true] at h
    simp only [timess] at h'
    simp only [varss]
    rcases Decidable.em (times x a = 0) with h0 | h0
    · exact timess_mem x r _ h.2 (by omega)
    · obtain ⟨h1, h2⟩ := times_mem x a l h.1 h0
      exact ⟨varss_mem_old x r _ h1, h2⟩
end

/-- the test of 'above' on variables, said of all numbers -/
theorem any_times {T U : Tm} (hU : U.okv = true) : (vars [] U).any (fun v => decide (times v T < times v U)) = true ↔ ∃ x, times x T < times x U := by
  rw [List.any_eq_true]
  constructor
  · rintro ⟨x, _, h⟩; exact ⟨x, by simpa using h⟩
  · rintro ⟨x, h⟩; exact ⟨x, (times_mem x U [] hU (by omega)).1, by simpa using h⟩

end Go.Proofs.YtmanhdacnkpclaaGreatDoor
