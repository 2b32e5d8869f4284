/- More on readings. -/
import Derived.Test.YtmanhdacnkpclaaTm
namespace Go.Proofs.Ytmanhdacnkpclaa
set_option linter.unusedVariables false
set_option linter.unusedSimpArgs false
open Go.RowKit

theorem rds_int_any {w w' : World} {S S' : Nat → Prop} : ∀ {l : List Int} {cs : List Value}, rds w S (l.map Int.d) cs → rds w' S' (l.map Int.d) cs
  | [], _, h => h
  | _ :: _, _, ⟨c1, c2, e, h1, h2⟩ => ⟨c1, c2, e, h1, rds_int_any h2⟩

theorem rds_int_one (w : World) (S : Nat → Prop) (n : Int) : rds w S ([n].map Int.d) [.int .i64 n] := ⟨[_], [], rfl, rfl, rfl⟩

theorem cell_keep {W w1 : World} {B b o : Nat} {x : Value} (hb : Below B W w1) (hlt : b < B) (h : W.cell? ⟨b, o, none⟩ = some x) : w1.cell? ⟨b, o, none⟩ = some x :=
  (hb.cell (p := ⟨b, o, none⟩) hlt).trans h
theorem Own.lit {w : World} {B E m g : Nat} {S : Nat → Prop} (hg : g = w.heap.size) (hB : B ≤ w.heap.size) : Own (w.alloc (.cells #[] E)) B E m S (.slice (some ⟨g, 0, none⟩) 0 0) [] := by
  subst hg; exact Own.lit0 hB
theorem SrcAt.of {w : World} {m g : Nat} {cs : List Value} {E : TypeId} (hg : g = w.heap.size) (h : cs.length = m) : SrcAt (w.alloc (.cells cs.toArray E)) (some ⟨g, 0, none⟩) 1 m cs := by
  subst hg
  have := SrcAt.new (w := w) (n := 1) (m := m) (cs := cs.toArray) (E := E) (by simpa using h)
  simpa using this
theorem SrcAt.grown {w w' : World} {m n b o : Nat} {row : Option Nat} {news : List Value} (h : SrcAt w (some ⟨b, o, none⟩) n m news) (hg : w.grownBy w' row) (hne : some b ≠ row) : SrcAt w' (some ⟨b, o, none⟩) n m news := by
  refine ⟨h.1, ?_⟩
  rcases h.2 with h0 | ⟨b', o', e, hc⟩
  · exact .inl h0
  · refine .inr ⟨b', o', e, fun j u hu => hg.cell (hc j u hu) ?_⟩
    injection e with e; injection e with e1 e2; subst e1; exact hne
theorem SrcAt.one {w : World} {m : Nat} {cs : List Value} {E : TypeId} (h : cs.length = m) : SrcAt (w.alloc (.cells cs.toArray E)) (some ⟨w.heap.size, 0, none⟩) 1 m cs := by
  have := SrcAt.new (w := w) (n := 1) (m := m) (cs := cs.toArray) (E := E) (by simpa using h)
  simpa using this

/-- a block, looked up -/
def blk (w : World) (g : Nat) : Option Obj := w.heap[g]?
theorem blk_alloc (w : World) (o : Obj) (g : Nat) : blk (w.alloc o) g = if g = w.heap.size then some o else blk w g := by
  show (w.heap.push o)[g]? = _
  rw [Array.getElem?_push]; rfl
theorem blk_drew (w : World) (g : Nat) : blk w.drew g = blk w g := rfl
theorem Own.blk {w : World} {B E m g : Nat} {S : Nat → Prop} (h : blk w g = some (.cells #[] E (0, 0))) (hB : B ≤ g) : Own w B E m S (.slice (some ⟨g, 0, none⟩) 0 0) [] :=
  ⟨[], ⟨by simp, .inr ⟨g, 0, #[], rfl, hB, h, Nat.le_refl _, by simp [maxLen], by simp, by simp⟩⟩, rfl, by simp⟩
theorem SrcAt.blk {w : World} {E m g n : Nat} {cs : List Value} (h : blk w g = some (.cells cs.toArray E (0, 0))) (hl : cs.length = n * m) : SrcAt w (some ⟨g, 0, none⟩) n m cs :=
  ⟨hl, .inr ⟨g, 0, rfl, fun j u hu => by rw [cell_of_row w g (0 + j) _ _ _ h, Nat.zero_add]; simpa using hu⟩⟩

theorem blk_below {w w' : World} {B g : Nat} {o : Obj} (h : blk w g = some o) (hb : Below B w w') (hg : g < B) : blk w' g = some o := (hb.block g hg).trans h
theorem blk_lt {w : World} {g : Nat} {o : Obj} (h : blk w g = some o) : g < w.heap.size := (Array.getElem?_eq_some_iff.1 h).1
theorem blk1 {w : World} {g : Nat} {a : Value} {E : TypeId} {fr : Nat × Nat} (h : blk w g = some (.cells #[a] E fr)) : w.cell? ⟨g, 0, none⟩ = some a := cell_of_row w g 0 _ _ _ h
theorem blk2 {w : World} {g : Nat} {a b : Value} {E : TypeId} {fr : Nat × Nat} (h : blk w g = some (.cells #[a, b] E fr)) : w.cell? ⟨g, 0, none⟩ = some a ∧ w.cell? ⟨g, 1, none⟩ = some b :=
  ⟨cell_of_row w g 0 _ _ _ h, cell_of_row w g 1 _ _ _ h⟩
theorem blk3 {w : World} {g : Nat} {a b c : Value} {E : TypeId} {fr : Nat × Nat} (h : blk w g = some (.cells #[a, b, c] E fr)) : w.cell? ⟨g, 0, none⟩ = some a ∧ w.cell? ⟨g, 1, none⟩ = some b ∧ w.cell? ⟨g, 2, none⟩ = some c :=
  ⟨cell_of_row w g 0 _ _ _ h, cell_of_row w g 1 _ _ _ h, cell_of_row w g 2 _ _ _ h⟩
theorem bc {w w' : World} {B : Nat} (hb : Below B w w') : ∀ b o, b < B → w'.cell? ⟨b, o, none⟩ = w.cell? ⟨b, o, none⟩ := fun b o h => hb.cell (p := ⟨b, o, none⟩) h

theorem RdT.mk' {w : World} {S : Nat → Prop} {U : Tm} {v : Bool} {n : Int} {l : List Tm} {a : Option Addr} {c : Nat} (hU : U = ⟨v, n, l⟩) (h : RdTs w S l (.slice a l.length c)) : RdT w S U (.agg #[.bool v, .int .i64 n, .slice a l.length c]) := by
  subst hU; exact ⟨a, c, rfl, h⟩

/-- a slice literal, out of its block -/
theorem RdL.ofBlk {α : Type} {f : α → D} {w : World} {S : Nat → Prop} {l : List α} {g n : Nat} {cs : Array Value} {E : TypeId} {fr : Nat × Nat} (h : blk w g = some (.cells cs E fr)) (hr : rds w S (l.map f) cs.toList) (hg : S g) (hn : n = l.length) (hm : n ≤ maxLen) :
    RdL f w S l (.slice (some ⟨g, 0, none⟩) n n) := by
  subst hn
  refine ⟨_, _, by rw [List.length_map], by simp, hm, .inr ⟨g, 0, cs.toList, rfl, hg, blk_lt h, hr, fun j u hu => ?_⟩⟩
  rw [Nat.zero_add, cell_of_row w g j _ _ _ h]; simpa using hu
theorem rds_tms {w : World} {S : Nat → Prop} {t : Tm} {a : Option Addr} {c : Nat} {l : List Tm} {cs : List Value} (h : RdTs w S t.args (.slice a t.args.length c)) (hr : rds w S (l.map Tm.d) cs) :
    rds w S ((t :: l).map Tm.d) (.bool t.var :: .int .i64 t.n :: .slice a t.args.length c :: cs) := ⟨[_, _, _], cs, rfl, rd_tm.2 ⟨a, c, rfl, h⟩, hr⟩

end Go.Proofs.Ytmanhdacnkpclaa
