/- Names: each constant has its value. For every world. -/
import Derived.Test.YtmanhdacnkpclaaRow
import Derived.Test.YtmanhdacnkpclaaReg
import Derived.Deep.QuietTactic
import Derived.LoopTactic
import Derived.WalkKit
import Derived.ProofKit
namespace Go.Proofs.Ytmanhdacnkpclaa
open Go.ChangeShapes Go.WideShapes Go.ChangeAt Go.RowKit

def nums12 : Array Value := #[.int .i64 0, .int .i64 1, .int .i64 2, .int .i64 3, .int .i64 4, .int .i64 5, .int .i64 6, .int .i64 7, .int .i64 8, .int .i64 9, .int .i64 10, .int .i64 11]
def nums20 : Array Value := #[.int .i64 6, .int .i64 2, .int .i64 5, .int .i64 12, .int .i64 4, .int .i64 0, .int .i64 1, .int .i64 2, .int .i64 3, .int .i64 1, .int .i64 2, .int .i64 3, .int .i64 4, .int .i64 5, .int .i64 8, .int .i64 120, .int .i64 0, .int .i64 1, .int .i64 2, .int .i64 8]
theorem nums12_at : ∀ k : Nat, k < 12 → nums12[k]? = some (.int .i64 (k : Int))
  | 0, _ => rfl
  | 1, _ => rfl
  | 2, _ => rfl
  | 3, _ => rfl
  | 4, _ => rfl
  | 5, _ => rfl
  | 6, _ => rfl
  | 7, _ => rfl
  | 8, _ => rfl
  | 9, _ => rfl
  | 10, _ => rfl
  | 11, _ => rfl
  | k + 12, h => absurd h (by omega)
theorem nums20_at : ∀ k : Nat, k < 20 → ∃ n : Int, nums20[k]? = some (.int .i64 n)
  | 0, _ => ⟨_, rfl⟩
  | 1, _ => ⟨_, rfl⟩
  | 2, _ => ⟨_, rfl⟩
  | 3, _ => ⟨_, rfl⟩
  | 4, _ => ⟨_, rfl⟩
  | 5, _ => ⟨_, rfl⟩
  | 6, _ => ⟨_, rfl⟩
  | 7, _ => ⟨_, rfl⟩
  | 8, _ => ⟨_, rfl⟩
  | 9, _ => ⟨_, rfl⟩
  | 10, _ => ⟨_, rfl⟩
  | 11, _ => ⟨_, rfl⟩
  | 12, _ => ⟨_, rfl⟩
  | 13, _ => ⟨_, rfl⟩
  | 14, _ => ⟨_, rfl⟩
  | 15, _ => ⟨_, rfl⟩
  | 16, _ => ⟨_, rfl⟩
  | 17, _ => ⟨_, rfl⟩
  | 18, _ => ⟨_, rfl⟩
  | 19, _ => ⟨_, rfl⟩
  | k + 20, h => absurd h (by omega)

/-- a block's cell, by its number -/
theorem blk_cell {w : World} {g : Nat} {c : Array Value} {T : Nat} (h : blk w g = some (.cells c T)) {k : Nat} {x : Value} (hk : c[k]? = some x) : w.cell? ⟨g, k, none⟩ = some x :=
  (cell_of_row w g k _ _ _ h).trans hk

set_option maxHeartbeats 800000 in
theorem names_walk (w : World) : Calls Try.prog 11 #[] w fun e w' => e = .returned (.bool true) ∧ Below w.heap.size w w' := by
  go_enter Try.func11, Try.ntmps11
  go_wp2_with fail
  go_loopw [10, 2, 3] (fun i j n wr => ∃ k : Nat, k ≤ 12 ∧ i = .int .i64 k ∧ Below w.heap.size w wr ∧ blk wr w.heap.size = some (.cells nums12 49)) (fun i _ _ _ => 12 - (intOf i).toNat)
  case atStart => exact ⟨0, by omega, rfl, bw1 _ _, blk_a0 _ _⟩
  case round =>
    obtain ⟨k, hk, rfl, hb, hc⟩ := hrel
    by_cases hk' : k < 12
    · have hx := blk_cell hc (nums12_at k hk')
      have HC := Lib.hid hc; clear hc
      go_wp2_with fail
      go_roundw
      case rel => exact ⟨k + 1, by omega, by go_num, hb, HC.out⟩
      case measure => simp [intOf]; omega
    · have HC := Lib.hid hc; clear hc
      go_wp2_with fail
      have hz := hb.size
      go_loopw [23, 6] (fun i j wz => ∃ k : Nat, k ≤ 20 ∧ i = .int .i64 k ∧ Below w.heap.size w wz ∧ blk wz wr.heap.size = some (.cells nums20 3) ∧ blk wz (wr.heap.size + 1) = some (.cells nums20 3)) (fun i _ _ => 20 - (intOf i).toNat)
      case atStart => exact ⟨0, by omega, rfl, (hb.alloc hz _).alloc (by simp; omega) _, blk_old (blk_a0 wr _) _, by have := blk_a0 (wr.alloc (.cells nums20 3)) (.cells nums20 3); rw [World.size_alloc] at this; exact this⟩
      case round =>
        obtain ⟨k, hk, rfl, hb, hc, hc'⟩ := hrel
        by_cases hk' : k < 20
        · obtain ⟨n, hn⟩ := nums20_at k hk'
          have hx := blk_cell hc hn
          have hx' := blk_cell hc' hn
          have HC := Lib.hid (And.intro hc hc'); clear hc hc'
          go_wp2_with fail
          go_quiet (fail)
          go_wp2_with fail
          go_roundw
          case rel => exact ⟨k + 1, by omega, by go_num, below_drewN hb _, HC.out.1, HC.out.2⟩
          case measure => simp [intOf]; omega
        · have HC := Lib.hid (And.intro hc hc'); clear hc hc'
          go_wp2_with fail
          go_ret
          exact ⟨rfl, hb⟩
end Go.Proofs.Ytmanhdacnkpclaa
