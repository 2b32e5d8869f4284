/- Worlds with new blocks. -/
import Derived.Test.YtmanhdacnkpclaaDeep2
namespace Go.Proofs.Ytmanhdacnkpclaa
open Go.RowKit
theorem bw1 (w : World) (A : Obj) : Below w.heap.size w (w.alloc A) := (Below.refl _ _).alloc (Nat.le_refl _) _
theorem bw2 (w : World) (A B : Obj) : Below w.heap.size w ((w.alloc A).alloc B) := (bw1 w A).alloc (by simp) _
theorem bw3 (w : World) (A B C : Obj) : Below w.heap.size w (((w.alloc A).alloc B).alloc C) := (bw2 w A B).alloc (by simp; omega) _
theorem bw4 (w : World) (A B C D : Obj) : Below w.heap.size w ((((w.alloc A).alloc B).alloc C).alloc D) := (bw3 w A B C).alloc (by simp; omega) _
theorem blk_a0 (w : World) (A : Obj) : blk (w.alloc A) w.heap.size = some A := by simp [blk_alloc]
theorem blk_old {w : World} {g : Nat} {o : Obj} (h : blk w g = some o) (A : Obj) : blk (w.alloc A) g = some o := by
  rw [blk_alloc, if_neg (Nat.ne_of_lt (blk_lt h))]; exact h
/-- two boxes and a slice literal, behind a draw and a call -/
theorem boxes3 {w w1 : World} {A B C : Obj} (hb : Below (((w.alloc A).alloc B).alloc C).drew.heap.size (((w.alloc A).alloc B).alloc C).drew w1) :
    blk w1 w.heap.size = some A ∧ blk w1 (w.heap.size + 1) = some B ∧ Below w.heap.size w w1 ∧ w.heap.size < w1.heap.size ∧ w.heap.size + 1 < w1.heap.size := by
  have hz := hb.size
  simp only [World.size_drew, World.size_alloc] at hz
  have h0 : blk (((w.alloc A).alloc B).alloc C).drew w.heap.size = some A := blk_old (blk_old (blk_a0 w A) B) C
  have h1 : blk (((w.alloc A).alloc B).alloc C).drew (w.heap.size + 1) = some B := by
    have := blk_a0 (w.alloc A) B
    rw [World.size_alloc] at this
    exact blk_old this C
  exact ⟨blk_below h0 hb (blk_lt h0), blk_below h1 hb (blk_lt h1), (bw3 w A B C).drew.trans (hb.mono (bw3 w A B C).size), by omega, by omega⟩
theorem boxes2 {w w1 : World} {A B : Obj} (hb : Below ((w.alloc A).alloc B).heap.size ((w.alloc A).alloc B) w1) :
    blk w1 w.heap.size = some A ∧ blk w1 (w.heap.size + 1) = some B ∧ Below w.heap.size w w1 ∧ w.heap.size < w1.heap.size ∧ w.heap.size + 1 < w1.heap.size := by
  have hz := hb.size
  simp only [World.size_alloc] at hz
  have h0 : blk ((w.alloc A).alloc B) w.heap.size = some A := blk_old (blk_a0 w A) B
  have h1 : blk ((w.alloc A).alloc B) (w.heap.size + 1) = some B := by
    have := blk_a0 (w.alloc A) B
    rw [World.size_alloc] at this; exact this
  exact ⟨blk_below h0 hb (blk_lt h0), blk_below h1 hb (blk_lt h1), (bw2 w A B).trans (hb.mono (bw2 w A B).size), by omega, by omega⟩
theorem blk_two {w : World} {A B C : Obj} : blk (((w.alloc A).alloc B).alloc C).drew (w.heap.size + 1 + 1) = some C := by
  have := blk_a0 ((w.alloc A).alloc B) C
  rw [World.size_alloc, World.size_alloc] at this; exact this

end Go.Proofs.Ytmanhdacnkpclaa
