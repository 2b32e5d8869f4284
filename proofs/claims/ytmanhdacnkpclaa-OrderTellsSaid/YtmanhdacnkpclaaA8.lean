/- Contracts: Compare, right. -/
import Derived.Test.YtmanhdacnkpclaaA7
namespace Go.Proofs.Ytmanhdacnkpclaa
open Go.RowKit

theorem RdT.of_args {w : World} {S : Nat → Prop} {t : Tm} {a : Option Addr} {c : Nat} (h : RdTs w S t.args (.slice a t.args.length c)) : RdT w S t (.agg #[.bool t.var, .int .i64 t.n, .slice a t.args.length c]) := ⟨a, c, rfl, h⟩

def CompareC (f : Nat) : Prop := ∀ (t u : Tm) (w : World) (S : Nat → Prop) (v v' : Value), RdT w S t v → RdT w S u v' → t.size ≤ 1099511627776 → u.size ≤ 1099511627776 →
  Calls Try.prog f #[v, v'] w fun e w' => e = .returned (.int .i64 (compare t u)) ∧ Below w.heap.size w w'

set_option maxHeartbeats 400000 in
theorem rcompare_any : CompareC 18 := by
  intro t u w S v v' hv hv' hsz hsz'
  obtain ⟨a, c, rfl, hs⟩ := hv
  obtain ⟨a', c', rfl, hs'⟩ := hv'
  have HV := Lib.hid (RdT.of_args hs)
  have HV' := Lib.hid (RdT.of_args hs')
  clear hs hs'
  go_enter Try.func18, Try.ntmps18
  go_wp2_with fail
  refine (rsame_any t u _ S _ _ ((HV.out.alloc _).alloc _) ((HV'.out.alloc _).alloc _)).mono ?_
  rintro e w1 ⟨rfl, hb1⟩
  have hb2 : Below w.heap.size w w1 := (((Below.refl _ _).alloc (Nat.le_refl _) _).alloc (by simp) _).trans (hb1.mono (by simp; omega))
  have B0 : blk w1 w.heap.size = some (.cells #[.bool t.var, .int .i64 t.n, .slice a t.args.length c] 26) := blk_below (by simp [blk_alloc]) hb1 (by simp; omega)
  have B1 : blk w1 (w.heap.size + 1) = some (.cells #[.bool u.var, .int .i64 u.n, .slice a' u.args.length c'] 26) := blk_below (by simp [blk_alloc]) hb1 (by simp)
  clear hb1
  obtain ⟨p0, p1, p2⟩ := blk3 B0
  obtain ⟨q0, q1, q2⟩ := blk3 B1
  cases h1 : t.same u
  rotate_left
  · go_wp2_with fail
    go_ret
    exact ⟨by simp [compare, h1], hb2⟩
  have H1 := Lib.hid h1; clear h1
  go_wp2_with fail
  refine (rabove_any t u _ S _ _ (HV.out.below hb2 (Nat.le_refl _)) (HV'.out.below hb2 (Nat.le_refl _)) hsz hsz').mono ?_
  rintro e w2 ⟨rfl, hb3⟩
  have hb4 : Below w.heap.size w w2 := hb2.trans (hb3.mono hb2.size)
  clear p0 p1 p2 q0 q1 q2
  obtain ⟨p0, p1, p2⟩ := blk3 (blk_below B0 hb3 (blk_lt B0))
  obtain ⟨q0, q1, q2⟩ := blk3 (blk_below B1 hb3 (blk_lt B1))
  cases h2 : above t u
  rotate_left
  · go_wp2_with fail
    go_ret
    exact ⟨by simp [compare, H1.out, h2], hb4⟩
  have H2 := Lib.hid h2; clear h2
  go_wp2_with fail
  refine (rabove_any u t _ S _ _ (HV'.out.below hb4 (Nat.le_refl _)) (HV.out.below hb4 (Nat.le_refl _)) hsz' hsz).mono ?_
  rintro e w3 ⟨rfl, hb5⟩
  have hb6 : Below w.heap.size w w3 := hb4.trans (hb5.mono hb4.size)
  clear p0 p1 p2 q0 q1 q2
  cases h3 : above u t
  · go_wp2_with fail
    go_ret
    exact ⟨by simp [compare, H1.out, H2.out, h3], hb6⟩
  · go_wp2_with fail
    go_ret
    exact ⟨by simp [compare, H1.out, H2.out, h3], hb6⟩

set_option maxHeartbeats 1000000 in
theorem rright_any (s : List Int) (l : List Tm) (w : World) (S : Nat → Prop) (v v' : Value) (hs : RdI w S s v) (hl : RdTs w S l v') :
    Calls Try.prog 16 #[v, v'] w fun e w' => e = .returned (.bool (rightB s l)) ∧ Below w.heap.size w w' := by
  obtain ⟨sa, sc, rfl, hsl, hsm⟩ := hs.form
  obtain ⟨a, c, rfl, hll, hlm⟩ := hl.form
  have HS := Lib.hid hs; clear hs
  have HL := Lib.hid hl; clear hl
  go_enter Try.func16, Try.ntmps16
  go_wp2_with fail
  refine (rwrongSig_any s _ S _ HS.out).mono ?_
  rintro e w' ⟨rfl, rfl⟩
  obtain ⟨B, hB⟩ : ∃ B, B = decide (wrongSig s = 0) := ⟨_, rfl⟩
  have hB' : (wrongSig s == 0) = B := by rw [hB, Bool.eq_iff_iff]; simp
  have HB := Lib.hid hB; clear hB
  go_wp2_with fail
  go_loopw [5, 13] (fun r i wr => ∃ k : Nat, k ≤ l.length ∧ i = .int .i64 k ∧ r = .bool (B && (l.take k).all (fun t => decide (wrong s t = 0))) ∧ Below w.heap.size w wr)
    (fun _ i _ => l.length - (intOf i).toNat)
  case atStart => exact ⟨0, Nat.zero_le _, rfl, by simp, Below.refl _ _⟩
  case round =>
    obtain ⟨k, hk, rfl, rfl, hbel⟩ := hrel
    have hbs := hbel.size
    obtain ⟨R, hR⟩ : ∃ R, R = (B && (l.take k).all (fun t => decide (wrong s t = 0))) := ⟨_, rfl⟩
    have HR := Lib.hid hR
    rw [← hR]; clear hR
    by_cases hkl : k < l.length
    · obtain ⟨x, b, o, a', c', hx, hSb, hbw, hix, c0, c1, c2, hxs⟩ := (HL.out.below hbel (Nat.le_refl _)).nthT slTerm hkl
      have HX := Lib.hid hxs; clear hxs
      have hsucc : Hid ((l.take (k + 1)).all (fun t => decide (wrong s t = 0)) = ((l.take k).all (fun t => decide (wrong s t = 0)) && decide (wrong s x = 0))) := by
        rw [take_succ_of hx.out]; simp [Hid]
      cases R
      · go_wp2_with fail
        go_roundw
        case rel => exact ⟨k + 1, by omega, by go_num, by rw [hsucc.out, ← Bool.and_assoc, ← HR.out]; rfl, hbel.alloc hbs _⟩
        case measure => simp [intOf]; omega
      · go_wp2_with fail
        refine (rwrong_any s x _ S _ _ ((HS.out.below hbel (Nat.le_refl _)).alloc _) (RdT.alloc ⟨a', c', rfl, HX.out⟩ _)).mono ?_
        rintro e w1 ⟨rfl, hb1⟩
        have hb2 : Below w.heap.size w w1 := (hbel.alloc hbs _).trans (hb1.mono (by simp; omega))
        have hwx : (wrong s x == 0) = decide (wrong s x = 0) := by rw [Bool.eq_iff_iff]; simp
        go_wp2_with fail
        go_roundw
        case rel => exact ⟨k + 1, by omega, by go_num, by rw [hsucc.out, ← Bool.and_assoc, ← HR.out]; simp, hb2⟩
        case measure => simp [intOf]; omega
    · go_wp2_with fail
      go_ret
      have : k = l.length := by omega
      subst this
      have := HR.out
      rw [List.take_length] at this
      exact ⟨by rw [rightB, ← HB.out, ← this]; rfl, hbel⟩
set_option maxHeartbeats 1000000 in
theorem bright_any (s : List Int) (l : List Tm) (w : World) (S : Nat → Prop) (v v' : Value) (hs : RdI w S s v) (hl : RdTs w S l v') :
    Calls Try.prog 53 #[v, v'] w fun e w' => e = .returned (.bool (rightB s l)) ∧ Below w.heap.size w w' := by
  obtain ⟨sa, sc, rfl, hsl, hsm⟩ := hs.form
  obtain ⟨a, c, rfl, hll, hlm⟩ := hl.form
  have HS := Lib.hid hs; clear hs
  have HL := Lib.hid hl; clear hl
  go_enter Try.func53, Try.ntmps53
  go_wp2_with fail
  refine (rwrongSig_any s _ S _ HS.out).mono ?_
  rintro e w' ⟨rfl, rfl⟩
  obtain ⟨B, hB⟩ : ∃ B, B = decide (wrongSig s = 0) := ⟨_, rfl⟩
  have hB' : (wrongSig s == 0) = B := by rw [hB, Bool.eq_iff_iff]; simp
  have HB := Lib.hid hB; clear hB
  go_wp2_with fail
  go_loopw [5, 13] (fun r i wr => ∃ k : Nat, k ≤ l.length ∧ i = .int .i64 k ∧ r = .bool (B && (l.take k).all (fun t => decide (wrong s t = 0))) ∧ Below w.heap.size w wr)
    (fun _ i _ => l.length - (intOf i).toNat)
  case atStart => exact ⟨0, Nat.zero_le _, rfl, by simp, Below.refl _ _⟩
  case round =>
    obtain ⟨k, hk, rfl, rfl, hbel⟩ := hrel
    have hbs := hbel.size
    obtain ⟨R, hR⟩ : ∃ R, R = (B && (l.take k).all (fun t => decide (wrong s t = 0))) := ⟨_, rfl⟩
    have HR := Lib.hid hR
    rw [← hR]; clear hR
    by_cases hkl : k < l.length
    · obtain ⟨x, b, o, a', c', hx, hSb, hbw, hix, c0, c1, c2, hxs⟩ := (HL.out.below hbel (Nat.le_refl _)).nthT slTerm hkl
      have HX := Lib.hid hxs; clear hxs
      have hsucc : Hid ((l.take (k + 1)).all (fun t => decide (wrong s t = 0)) = ((l.take k).all (fun t => decide (wrong s t = 0)) && decide (wrong s x = 0))) := by
        rw [take_succ_of hx.out]; simp [Hid]
      cases R
      · go_wp2_with fail
        go_roundw
        case rel => exact ⟨k + 1, by omega, by go_num, by rw [hsucc.out, ← Bool.and_assoc, ← HR.out]; rfl, hbel.alloc hbs _⟩
        case measure => simp [intOf]; omega
      · go_wp2_with fail
        refine (rwrong_any s x _ S _ _ ((HS.out.below hbel (Nat.le_refl _)).alloc _) (RdT.alloc ⟨a', c', rfl, HX.out⟩ _)).mono ?_
        rintro e w1 ⟨rfl, hb1⟩
        have hb2 : Below w.heap.size w w1 := (hbel.alloc hbs _).trans (hb1.mono (by simp; omega))
        have hwx : (wrong s x == 0) = decide (wrong s x = 0) := by rw [Bool.eq_iff_iff]; simp
        go_wp2_with fail
        go_roundw
        case rel => exact ⟨k + 1, by omega, by go_num, by rw [hsucc.out, ← Bool.and_assoc, ← HR.out]; simp, hb2⟩
        case measure => simp [intOf]; omega
    · go_wp2_with fail
      go_ret
      have : k = l.length := by omega
      subst this
      have := HR.out
      rw [List.take_length] at this
      exact ⟨by rw [rightB, ← HB.out, ← this]; rfl, hbel⟩
end Go.Proofs.Ytmanhdacnkpclaa
