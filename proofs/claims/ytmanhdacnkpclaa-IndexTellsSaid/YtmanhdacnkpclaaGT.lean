/- This program's types, for the walks over abstract states; plain data as cells; the elder contracts in the new words. -/
import Derived.Test.YtmanhdacnkpclaaG9
import Derived.Test.YtmanhdacnkpclaaRows
namespace Go.Proofs.Ytmanhdacnkpclaa
set_option linter.unusedVariables false
set_option linter.unusedSimpArgs false
open Go.RowKit

theorem mixed : Try.prog.follows .mixedOrders = true := by kernel_rfl

/-- fields: struct, field, offset -/
def foT : List (Nat × Nat × Nat) := [(26, 0, 0), (26, 1, 1), (26, 2, 2), (42, 0, 0), (42, 1, 1)
  , (59, 0, 0), (59, 1, 1), (59, 2, 4)
  , (66, 0, 0), (66, 1, 1)
  , (101, 0, 0), (101, 1, 1), (101, 2, 2)
  , (96, 0, 0), (96, 1, 1), (96, 2, 2), (96, 3, 3), (96, 4, 4), (96, 5, 5)
  , (137, 0, 0)
  , (124, 0, 0), (124, 1, 1)
  , (129, 0, 0), (129, 1, 1)
  , (170, 0, 0), (170, 1, 1), (170, 2, 2)
  ]
def look3 : List (Nat × Nat × Nat) → Nat → Nat → Option Nat
  | [], _, _ => none
  | (a, b, c) :: l, x, y => bif Nat.beq a x && Nat.beq b y then some c else look3 l x y
theorem foT_ok : (foT.all fun x => decide (fieldOff Try.prog x.1 x.2.1 = some x.2.2)) = true := by kernel_rfl
theorem look3_mem : ∀ {l : List (Nat × Nat × Nat)} {x y c : Nat}, look3 l x y = some c → (x, y, c) ∈ l
  | [], _, _, _, h => by simp [look3] at h
  | (a, b, c') :: l, x, y, c, h => by
    simp only [look3] at h
    cases e : (Nat.beq a x && Nat.beq b y)
    · rw [e] at h; exact List.mem_cons_of_mem _ (look3_mem h)
    · rw [e] at h
      simp only [Bool.and_eq_true] at e
      have e1 := Nat.eq_of_beq_eq_true e.1
      have e2 := Nat.eq_of_beq_eq_true e.2
      simp only [cond_true, Option.some.injEq] at h
      subst e1 e2 h; exact List.mem_cons_self ..
theorem fo_of {S f off : Nat} (h : look3 foT S f = some off) : fieldOff Try.prog S f = some off := by
  have := List.all_eq_true.1 foT_ok _ (look3_mem h)
  simpa using this
/-- types: is it a row of cells, of how many -/
def rwT : List (Nat × Bool × Nat) := [(3, false, 1), (4, false, 1), (26, true, 3), (42, true, 4), (24, false, 1), (22, false, 1), (23, false, 1), (36, false, 1), (9, false, 1), (5, false, 1), (49, false, 1)
  , (37, false, 1)
  , (46, true, 3)
  , (111, true, 6)
  , (59, true, 7), (48, false, 1)
  , (79, false, 1)
  , (94, false, 1)
  , (66, true, 2)
  , (101, true, 3)
  , (96, true, 6)
  , (137, true, 6)
  , (124, true, 2)
  , (129, true, 2)
  , (170, true, 3)
  ]
def look2 {α : Type} : List (Nat × α) → Nat → Option α
  | [], _ => none
  | (a, c) :: l, x => bif Nat.beq a x then some c else look2 l x
theorem look2_mem {α : Type} : ∀ {l : List (Nat × α)} {x : Nat} {c : α}, look2 l x = some c → (x, c) ∈ l
  | [], _, _, h => by simp [look2] at h
  | (a, c') :: l, x, c, h => by
    simp only [look2] at h
    cases e : Nat.beq a x
    · rw [e] at h; exact List.mem_cons_of_mem _ (look2_mem h)
    · rw [e] at h
      have e1 := Nat.eq_of_beq_eq_true e
      simp only [cond_true, Option.some.injEq] at h
      subst e1 h; exact List.mem_cons_self ..
theorem rwT_ok : (rwT.all fun x => decide (rowT Try.prog x.1 = some (x.2.1, x.2.2))) = true := by kernel_rfl
theorem rw_of {T m : Nat} {r : Bool} (h : look2 rwT T = some (r, m)) : rowT Try.prog T = some (r, m) := by
  have := List.all_eq_true.1 rwT_ok _ (look2_mem h)
  simpa using this
theorem slInt : SliceOf Try.prog 22 3 1 8 (.int .i64 0) := ⟨by kernel_rfl, by kernel_rfl, rfl, by decide⟩
theorem slSig : SliceOf Try.prog 23 3 1 8 (.int .i64 0) := ⟨by kernel_rfl, by kernel_rfl, rfl, by decide⟩
theorem slTerm : SliceOf Try.prog 24 26 3 40 (.agg #[.bool false, .int .i64 0, .slice none 0 0]) := ⟨by kernel_rfl, by kernel_rfl, rfl, by decide⟩
theorem slSub : SliceOf Try.prog 36 42 4 48 (.agg #[.int .i64 0, .bool false, .int .i64 0, .slice none 0 0]) := ⟨by kernel_rfl, by kernel_rfl, rfl, by decide⟩
theorem slIntss : SliceOf Try.prog 37 22 1 24 (.slice none 0 0) := ⟨by kernel_rfl, by kernel_rfl, rfl, by decide⟩
theorem slClause : SliceOf Try.prog 48 59 7 88 (.agg #[.bool false, .bool false, .int .i64 0, .slice none 0 0, .bool false, .int .i64 0, .slice none 0 0]) := ⟨by kernel_rfl, by kernel_rfl, rfl, by decide⟩
theorem slClauses : SliceOf Try.prog 79 48 1 24 (.slice none 0 0) := ⟨by kernel_rfl, by kernel_rfl, rfl, by decide⟩
theorem slSteps : SliceOf Try.prog 94 101 3 56 (.agg #[.int .i64 0, .slice none 0 0, .slice none 0 0]) := ⟨by kernel_rfl, by kernel_rfl, rfl, by decide⟩
theorem slSubs : SliceOf Try.prog 117 36 1 24 (.slice none 0 0) := ⟨by kernel_rfl, by kernel_rfl, rfl, by decide⟩
theorem slTwos : SliceOf Try.prog 112 111 6 80 (.agg #[.bool false, .int .i64 0, .slice none 0 0, .bool false, .int .i64 0, .slice none 0 0]) := ⟨by kernel_rfl, by kernel_rfl, rfl, by decide⟩
theorem slStrs : SliceOf Try.prog 148 9 1 16 (.string ⟨#[]⟩) := ⟨by kernel_rfl, by kernel_rfl, rfl, by decide⟩
theorem zo0 : zeroOf Try.prog 3 = some [.int .i64 0] := by kernel_rfl
theorem zo1 : zeroOf Try.prog 4 = some [.bool false] := by kernel_rfl
theorem zo2 : zeroOf Try.prog 9 = some [.string ⟨#[]⟩] := by kernel_rfl
theorem zo3 : zeroOf Try.prog 5 = some [.int .u8 0] := by kernel_rfl
theorem zo4 : zeroOf Try.prog 49 = some [.int .i64 0] := by kernel_rfl
theorem zo5 : zeroOf Try.prog 26 = some [.bool false, .int .i64 0, .slice none 0 0] := by kernel_rfl
theorem zo6 : zeroOf Try.prog 42 = some [.int .i64 0, .bool false, .int .i64 0, .slice none 0 0] := by kernel_rfl
theorem zo7 : zeroOf Try.prog 22 = some [.slice none 0 0] := by kernel_rfl
theorem zo8 : zeroOf Try.prog 23 = some [.slice none 0 0] := by kernel_rfl
theorem zo9 : zeroOf Try.prog 24 = some [.slice none 0 0] := by kernel_rfl
theorem zo10 : zeroOf Try.prog 36 = some [.slice none 0 0] := by kernel_rfl
theorem zo11 : zeroOf Try.prog 37 = some [.slice none 0 0] := by kernel_rfl
theorem zo12 : zeroOf Try.prog 59 = some [.bool false, .bool false, .int .i64 0, .slice none 0 0, .bool false, .int .i64 0, .slice none 0 0] := by kernel_rfl
theorem zo13 : zeroOf Try.prog 48 = some [.slice none 0 0] := by kernel_rfl
theorem zo14 : zeroOf Try.prog 79 = some [.slice none 0 0] := by kernel_rfl
theorem zo15 : zeroOf Try.prog 66 = some [.int .i64 0, .slice none 0 0] := by kernel_rfl
theorem zo16 : zeroOf Try.prog 101 = some [.int .i64 0, .slice none 0 0, .slice none 0 0] := by kernel_rfl
theorem zo17 : zeroOf Try.prog 96 = some [.slice none 0 0, .slice none 0 0, .slice none 0 0, .slice none 0 0, .int .i64 0, .bool false] := by kernel_rfl
theorem zo18 : zeroOf Try.prog 124 = some [.slice none 0 0, .bool false] := by kernel_rfl
theorem zo19 : zeroOf Try.prog 129 = some [.slice none 0 0, .bool false] := by kernel_rfl
theorem zo20 : zeroOf Try.prog 170 = some [.slice none 0 0, .string ⟨#[]⟩, .int .i64 0] := by kernel_rfl
theorem zo21 : zeroOf Try.prog 137 = some [.slice none 0 0, .slice none 0 0, .slice none 0 0, .slice none 0 0, .int .i64 0, .bool false] := by kernel_rfl
theorem zo22 : zeroOf Try.prog 111 = some [.bool false, .int .i64 0, .slice none 0 0, .bool false, .int .i64 0, .slice none 0 0] := by kernel_rfl
theorem zo23 : zeroOf Try.prog 46 = some [.int .i64 0, .int .i64 0, .int .i64 0] := by kernel_rfl
theorem fp0 : fieldPl Try.prog 26 = some [(0, 1), (1, 1), (2, 1)] := by kernel_rfl
theorem fp1 : fieldPl Try.prog 42 = some [(0, 1), (1, 3)] := by kernel_rfl
theorem fp2 : fieldPl Try.prog 59 = some [(0, 1), (1, 3), (4, 3)] := by kernel_rfl
theorem fp3 : fieldPl Try.prog 66 = some [(0, 1), (1, 1)] := by kernel_rfl
theorem fp4 : fieldPl Try.prog 101 = some [(0, 1), (1, 1), (2, 1)] := by kernel_rfl
theorem fp5 : fieldPl Try.prog 96 = some [(0, 1), (1, 1), (2, 1), (3, 1), (4, 1), (5, 1)] := by kernel_rfl
theorem fp6 : fieldPl Try.prog 124 = some [(0, 1), (1, 1)] := by kernel_rfl
theorem fp7 : fieldPl Try.prog 129 = some [(0, 1), (1, 1)] := by kernel_rfl
theorem fp8 : fieldPl Try.prog 170 = some [(0, 1), (1, 1), (2, 1)] := by kernel_rfl
theorem fp9 : fieldPl Try.prog 137 = some [(0, 6)] := by kernel_rfl
theorem bin_eqlB {a b r : Bool} (h : (a == b) = r) : Bin Try.prog .eql 4 (.bool a) (.bool b) (.bool r) := .mk fun s1 s2 w => by subst h; kernel_rfl
theorem bin_neqB {a b r : Bool} (h : (a != b) = r) : Bin Try.prog .neq 4 (.bool a) (.bool b) (.bool r) := .mk fun s1 s2 w => by subst h; kernel_rfl
end Go.Proofs.Ytmanhdacnkpclaa
