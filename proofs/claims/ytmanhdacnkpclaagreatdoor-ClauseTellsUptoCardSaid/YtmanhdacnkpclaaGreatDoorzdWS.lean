/- Texts cut at bars and signs, plainly: as the library has it, and as we do. -/
import Derived.Test.YtmanhdacnkpclaaGreatDoorzdPc
import Derived.Lib.Split
import Derived.Lib.SplitLaws
namespace Go.Proofs.YtmanhdacnkpclaaGreatDoor
set_option linter.all false

abbrev barL : List UInt8 := [32, 124, 32]
theorem split_miss {s : List UInt8} (h : Lib.index s barL = -1) : Lib.split s barL = [s] := by
  unfold Lib.split
  rw [Lib.count_miss h]; rfl
theorem split_hit {s : List UInt8} {i : Nat} (h : Lib.index s barL = i) : Lib.split s barL = s.take i :: Lib.split (s.drop (i + 3)) barL := by
  unfold Lib.split
  rw [Lib.count_hit (by simp) h, Nat.add_comm]
  have e : (Lib.index s barL).toNat = i := by omega
  have hne : ¬ (Lib.index s barL == -1) = true := by intro e; have := beq_iff_eq.1 e; omega
  show (if Lib.index s barL == -1 then [s] else s.take ((Lib.index s barL).toNat + 0) :: Lib.splitK barL 0 (Lib.count (s.drop (i + barL.length)) barL) (s.drop ((Lib.index s barL).toNat + barL.length))) = _
  rw [if_neg hne, e]
  rfl
theorem occ_at {t : List UInt8} {fr i : Nat} (hf : fr ≤ i) (h3 : i + 3 ≤ t.length) : Lib.occAt (t.drop fr) barL (i - fr) = ((t.drop i).take 3 == barL) := by
  rw [Lib.occAt_iff_take _ _ _ (by rw [List.length_drop]; simp; omega), List.drop_drop, Nat.add_sub_cancel' hf]
  rfl
theorem splitGo_lib (t : List UInt8) : ∀ (f i fr : Nat) (parts : List (List UInt8)), t.length + 1 ≤ f + i → fr ≤ i → i ≤ t.length → (∀ j, fr ≤ j → j < i → Lib.occAt (t.drop fr) barL (j - fr) = false) →
    splitGo t f i fr parts = parts ++ Lib.split (t.drop fr) barL
  | 0, i, fr, parts, h1, h2, h3, _ => by omega
  | f + 1, i, fr, parts, h1, h2, h3, hno => by
    unfold splitGo
    by_cases hl : i + 3 ≤ t.length
    · rw [if_pos hl]
      by_cases hw : (t.drop i).take 3 = [32, 124, 32]
      · rw [if_pos hw, splitGo_lib t f (i + 3) (i + 3) _ (by omega) (Nat.le_refl _) hl (fun j a b => by omega)]
        have hix : Lib.index (t.drop fr) barL = ((i - fr : Nat) : Int) := Lib.index_first (by rw [List.length_drop]; omega) (by rw [occ_at h2 hl, hw]; rfl) fun j hj => by
          have := hno (fr + j) (by omega) (by omega)
          rwa [Nat.add_sub_cancel_left] at this
        rw [split_hit hix, List.drop_drop, List.append_assoc]
        have e : fr + (i - fr + 3) = i + 3 := by omega
        rw [e]
        rfl
      · rw [if_neg hw, splitGo_lib t f (i + 1) fr parts (by omega) (by omega) (by omega) fun j a b => ?_]
        by_cases hj : j < i
        · exact hno j a hj
        · have : j = i := by omega
          subst this
          rw [occ_at h2 hl]
          simpa using hw
    · rw [if_neg hl, split_miss (Lib.index_none fun j hj => ?_)]
      rw [List.length_drop] at hj
      by_cases hji : j < i - fr
      · have := hno (fr + j) (by omega) (by omega)
        rwa [Nat.add_sub_cancel_left] at this
      · rw [← Bool.not_eq_true]
        intro ho
        rcases Lib.occAt_room ho with h | h
        · rw [List.length_drop] at h
          simp at h
          omega
        · simp at h
/-- the library's parts are ours -/
theorem splitB_lib (t : List UInt8) : Lib.split t barL = splitB t := by
  unfold splitB
  rw [splitGo_lib t _ 0 0 [] (by omega) (Nat.le_refl _) (Nat.zero_le _) fun j a b => by omega]
  simp
/-- what ends in a mark -/
theorem neg_lib (l : List UInt8) : Lib.hasSuffix l [33] = negEnd l := by
  unfold Lib.hasSuffix negEnd
  rcases List.eq_nil_or_concat l with rfl | ⟨r, c, rfl⟩
  · rfl
  · rw [List.concat_eq_append, List.getLast?_concat]
    simp only [List.isSuffixOf, List.reverse_append, List.reverse_cons, List.reverse_nil, List.nil_append, List.singleton_append, List.isPrefixOf, Bool.and_true]
    rw [Bool.eq_iff_iff, decide_eq_true_iff, beq_iff_eq]
    exact ⟨fun e => by rw [← e]; rfl, fun e => (UInt8.toNat_inj.1 (by rw [e]; rfl)).symm⟩
theorem trim_lib (l : List UInt8) : Lib.trimSuffix l [33] = if negEnd l then l.take (l.length - 1) else l := by
  unfold Lib.trimSuffix
  rw [neg_lib]
  rfl
end Go.Proofs.YtmanhdacnkpclaaGreatDoor
