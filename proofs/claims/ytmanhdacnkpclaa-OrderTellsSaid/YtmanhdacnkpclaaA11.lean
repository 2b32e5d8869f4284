/- Contracts: Compare of the program; what right terms are. -/
import Derived.Test.YtmanhdacnkpclaaA10
namespace Go.Proofs.Ytmanhdacnkpclaa
open Go.RowKit

set_option maxHeartbeats 400000 in
theorem pcompare_any (t u : Tm) (w : World) (S : Nat → Prop) (v v' : Value) (hv : RdT w S t v) (hv' : RdT w S u v') (hsz : t.size ≤ 1099511627776) (hsz' : u.size ≤ 1099511627776) (hok : t.okv = true) (hok' : u.okv = true) :
    Calls Try.prog 17 #[v, v'] w fun e w' => e = .returned (.int .i64 (compare t u)) ∧ Below w.heap.size w w' := by
  obtain ⟨a, c, rfl, hs⟩ := hv
  obtain ⟨a', c', rfl, hs'⟩ := hv'
  have HV := Lib.hid (RdT.of_args hs)
  have HV' := Lib.hid (RdT.of_args hs')
  clear hs hs'
  have HOK := Lib.hid hok; clear hok
  have HOK' := Lib.hid hok'; clear hok'
  go_enter Try.func17, Try.ntmps17
  go_wp2_with fail
  refine (psame_any t u _ S _ _ ((HV.out.alloc _).alloc _) ((HV'.out.alloc _).alloc _)).mono ?_
  rintro e w1 ⟨rfl, hb1⟩
  have hb2 : Below w.heap.size w w1 := (((Below.refl _ _).alloc (Nat.le_refl _) _).alloc (by simp) _).trans (hb1.mono (by simp; omega))
  have B0 : blk w1 w.heap.size = some (.cells #[.bool t.var, .int .i64 t.n, .slice a t.args.length c] 26) := blk_below (by simp [blk_alloc]) hb1 (by simp; omega)
  have B1 : blk w1 (w.heap.size + 1) = some (.cells #[.bool u.var, .int .i64 u.n, .slice a' u.args.length c'] 26) := blk_below (by simp [blk_alloc]) hb1 (by simp)
  clear hb1
  obtain ⟨p0, p1, p2⟩ := blk3 B0
  obtain ⟨q0, q1, q2⟩ := blk3 B1
  cases h1 : t.same u
  rotate_left
  · go_wp2_with fail
    go_ret
    exact ⟨by simp [compare, h1], hb2⟩
  have H1 := Lib.hid h1; clear h1
  go_wp2_with fail
  refine (pabove_any t u _ S _ _ (HV.out.below hb2 (Nat.le_refl _)) (HV'.out.below hb2 (Nat.le_refl _)) hsz hsz' HOK.out HOK'.out).mono ?_
  rintro e w2 ⟨rfl, hb3⟩
  have hb4 : Below w.heap.size w w2 := hb2.trans (hb3.mono hb2.size)
  clear p0 p1 p2 q0 q1 q2
  obtain ⟨p0, p1, p2⟩ := blk3 (blk_below B0 hb3 (blk_lt B0))
  obtain ⟨q0, q1, q2⟩ := blk3 (blk_below B1 hb3 (blk_lt B1))
  cases h2 : above t u
  rotate_left
  · go_wp2_with fail
    go_ret
    exact ⟨by simp [compare, H1.out, h2], hb4⟩
  have H2 := Lib.hid h2; clear h2
  go_wp2_with fail
  refine (pabove_any u t _ S _ _ (HV'.out.below hb4 (Nat.le_refl _)) (HV.out.below hb4 (Nat.le_refl _)) hsz' hsz HOK'.out HOK.out).mono ?_
  rintro e w3 ⟨rfl, hb5⟩
  have hb6 : Below w.heap.size w w3 := hb4.trans (hb5.mono hb4.size)
  clear p0 p1 p2 q0 q1 q2
  cases h3 : above u t
  · go_wp2_with fail
    go_ret
    exact ⟨by simp [compare, H1.out, H2.out, h3], hb6⟩
  · go_wp2_with fail
    go_ret
    exact ⟨by simp [compare, H1.out, H2.out, h3], hb6⟩


mutual
theorem okv_of_walk (s : List Int) : ∀ (t : Tm) (d : Int), walk s t d = 0 → t.okv = true
  | ⟨true, n, l⟩, d, h => by
    simp only [walk] at h
    split at h
    · cases h
    · simp only [if_true] at h
      split at h
      · cases h
      · rename_i h1
        split at h
        · rename_i h2
          have : l = [] := List.eq_nil_of_length_eq_zero h2
          subst this
          simp [Tm.okv]; omega
        · cases h
  | ⟨false, n, l⟩, d, h => by
    simp only [walk] at h
    split at h
    · cases h
    · simp only [Bool.false_eq_true, if_false] at h
      split at h
      · cases h
      · split at h
        · simp only [Tm.okv]; exact okvs_of_walks s l _ h
        · cases h
theorem okvs_of_walks (s : List Int) : ∀ (l : List Tm) (d : Int), walks s l d = 0 → Tm.okvs l = true
  | [], _, _ => rfl
  | a :: l, d, h => by
    simp only [walks] at h
    split at h
    · rename_i h1; simp only [Tm.okvs, okv_of_walk s a d h1, okvs_of_walks s l d h, Bool.and_self]
    · rename_i h1; exact absurd h h1
end

/-- no more than 2 to the power of n nodes where none has more than 2 arguments and there are at most n levels -/
def pow2 (n : Nat) : Nat := 2 ^ n
mutual
theorem size_of_walk (s : List Int) (hs : wrongSig s = 0) : ∀ (t : Tm) (d : Int) (k : Nat), walk s t d = 0 → 13 ≤ d + k → t.size + 1 ≤ 2 ^ k
  | ⟨v, n, l⟩, d, k, h, hk => by
    have hd : d ≤ 12 := by
      rcases Decidable.em (12 < d) with h1 | h1
      · simp [walk, h1] at h
      · omega
    obtain ⟨k, rfl⟩ : ∃ m, k = m + 1 := ⟨k - 1, by omega⟩
    simp only [walk, if_neg (show ¬ 12 < d by omega)] at h
    have hl : l.length ≤ 2 ∧ (walks s l (d + 1) = 0 ∨ l = []) := by
      cases v
      · simp only [Bool.false_eq_true, if_false] at h
        split at h
        · cases h
        · split at h
          · rename_i h1 h2
            refine ⟨?_, .inl h⟩
            have hn : n.toNat < s.length := by omega
            have h3 : s.getD n.toNat 0 = s[n.toNat] := by simp [List.getD, List.getElem?_eq_getElem hn]
            have h4 : ¬ (s[n.toNat] < 0 ∨ 2 < s[n.toNat]) := by
              unfold wrongSig at hs
              split at hs
              · cases hs
              · split at hs
                · cases hs
                · rename_i h5
                  simp only [Bool.not_eq_true] at h5
                  have := any_take h5 n.toNat _ (List.getElem?_eq_getElem hn)
                  simpa using this
            rw [h3] at h2
            omega
          · cases h
      · simp only [if_true] at h
        split at h
        · cases h
        · split at h
          · rename_i h2
            have : l = [] := List.eq_nil_of_length_eq_zero h2
            subst this
            exact ⟨by simp, .inr rfl⟩
          · cases h
    have hp : 1 ≤ 2 ^ k := Nat.one_le_two_pow
    have h2k : 2 ^ (k + 1) = 2 ^ k + 2 ^ k := by rw [Nat.pow_succ]; omega
    simp only [Tm.size]
    rcases hl.2 with h1 | rfl
    · have := sizes_of_walks s hs l (d + 1) k h1 (by omega)
      have h3 : l.length * 2 ^ k ≤ 2 * 2 ^ k := Nat.mul_le_mul_right _ hl.1
      rcases Nat.eq_zero_or_pos l.length with h0 | h0
      · have : l = [] := List.eq_nil_of_length_eq_zero h0
        subst this
        simp [Tm.sizes]; omega
      · rcases (show l.length = 1 ∨ l.length = 2 by omega) with h4 | h4 <;> rw [h4] at this <;> omega
    · simp [Tm.sizes]; omega
theorem sizes_of_walks (s : List Int) (hs : wrongSig s = 0) : ∀ (l : List Tm) (d : Int) (k : Nat), walks s l d = 0 → 13 ≤ d + k → Tm.sizes l + l.length ≤ l.length * 2 ^ k
  | [], _, _, _, _ => by simp [Tm.sizes]
  | a :: l, d, k, h, hk => by
    simp only [walks] at h
    split at h
    · rename_i h1
      have e1 := size_of_walk s hs a d k h1 hk
      have e2 := sizes_of_walks s hs l d k h hk
      simp only [Tm.sizes, List.length_cons, Nat.add_mul]
      omega
    · rename_i h1; exact absurd h h1
end

/-- a right term: small, and as chapter 2 has them -/
theorem right_tm {s : List Int} {t : Tm} (hs : wrongSig s = 0) (h : wrong s t = 0) : t.size ≤ 12 ∧ t.okv = true ∧ walk s t 1 = 0 := by
  unfold wrong at h
  split at h
  · rename_i h1
    have h2 := size_of_walk s hs t 1 12 h1 (by omega)
    have h3 : wrap64 (t.size : Int) = t.size := IntWalk.wrap64_in _ ⟨by omega, by omega⟩
    split at h
    · cases h
    · rename_i h4
      rw [h3] at h4
      exact ⟨by omega, okv_of_walk s t 1 h1, h1⟩
  · rename_i h1; exact absurd h h1

end Go.Proofs.Ytmanhdacnkpclaa
