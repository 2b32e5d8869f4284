/- Contracts: walk, Wrong. -/
import Derived.Test.YtmanhdacnkpclaaA3
namespace Go.Proofs.Ytmanhdacnkpclaa
open Go.RowKit

def WalkC (f : Nat) (t : Tm) : Prop := ∀ (s : List Int) (d : Int) (w : World) (S : Nat → Prop) (v v' : Value), RdI w S s v → RdT w S t v' → 0 ≤ d → d ≤ 1000 →
  Calls Try.prog f #[v, v', .int .i64 d] w fun e w' => e = .returned (.int .i64 (walk s t d)) ∧ Below w.heap.size w w'

set_option maxHeartbeats 2000000 in
theorem rwalk_any : ∀ t, WalkC 86 t := by
  refine Tm.ind ?_
  intro vr n l ih s d w S v v' hv hv' hd0 hd1
  obtain ⟨a, c, rfl, hs⟩ := hv'
  obtain ⟨sa, sc, rfl, hsl, hsm⟩ := hv.form
  simp only at hs ⊢
  obtain ⟨_, _, he, hl, hm⟩ := hs.form
  clear he
  have IH := Lib.hid ih; clear ih
  have HV := Lib.hid hs; clear hs
  have HS := Lib.hid hv; clear hv
  by_cases h12 : 12 < d
  · have hfin : Hid (walk s ⟨vr, n, l⟩ d = 4) := by simp [walk, h12, Hid]
    go_enter Try.func86, Try.ntmps86
    go_wp2_with fail
    go_ret
    rw [hfin.out]
    exact ⟨rfl, (Below.refl _ _).alloc (Nat.le_refl _) _⟩
  cases vr
  case true =>
    by_cases hn0 : n < 0
    · have hfin : Hid (walk s ⟨true, n, l⟩ d = 3) := by simp [walk, h12, hn0, Hid]
      go_enter Try.func86, Try.ntmps86
      go_wp2_with fail
      go_ret
      rw [hfin.out]
      exact ⟨rfl, (Below.refl _ _).alloc (Nat.le_refl _) _⟩
    by_cases hn4 : 4 < n
    · have hfin : Hid (walk s ⟨true, n, l⟩ d = 3) := by simp [walk, h12, hn4, Hid]
      go_enter Try.func86, Try.ntmps86
      go_wp2_with fail
      go_ret
      rw [hfin.out]
      exact ⟨rfl, (Below.refl _ _).alloc (Nat.le_refl _) _⟩
    by_cases hl0 : l.length = 0
    · have hfin : Hid (walk s ⟨true, n, l⟩ d = 0) := by simp [walk, h12, hn0, hn4, hl0, Hid]
      have hl0' : ¬ (0 < l.length) := by omega
      clear hl0
      go_enter Try.func86, Try.ntmps86
      go_wp2_with fail
      go_ret
      rw [hfin.out]
      exact ⟨rfl, (Below.refl _ _).alloc (Nat.le_refl _) _⟩
    · have hfin : Hid (walk s ⟨true, n, l⟩ d = 5) := by simp [walk, h12, hn0, hn4, hl0, Hid]
      have hl0' : 0 < l.length := by omega
      clear hl0
      go_enter Try.func86, Try.ntmps86
      go_wp2_with fail
      go_ret
      rw [hfin.out]
      exact ⟨rfl, (Below.refl _ _).alloc (Nat.le_refl _) _⟩
  by_cases hn0 : n < 0
  · have hfin : Hid (walk s ⟨false, n, l⟩ d = 7) := by simp [walk, h12, hn0, Hid]
    go_enter Try.func86, Try.ntmps86
    go_wp2_with fail
    go_ret
    rw [hfin.out]
    exact ⟨rfl, (Below.refl _ _).alloc (Nat.le_refl _) _⟩
  by_cases hns : (s.length : Int) ≤ n
  · have hfin : Hid (walk s ⟨false, n, l⟩ d = 7) := by simp [walk, h12, hns, Hid]
    go_enter Try.func86, Try.ntmps86
    go_wp2_with fail
    go_ret
    rw [hfin.out]
    exact ⟨rfl, (Below.refl _ _).alloc (Nat.le_refl _) _⟩
  obtain ⟨m, rfl⟩ := Int.eq_ofNat_of_zero_le (a := n) (by omega)
  have hms : m < s.length := by omega
  obtain ⟨y, b, o, hy, hSb, hbw, hiy, p0⟩ := HS.out.nthI slSig hms
  have hget : Hid (s.getD m 0 = y) := by
    have := hy.out
    simp [List.getD, this, Hid]
  rcases Decidable.em ((l.length : Int) = y) with hly | hly
  rotate_left
  · have hfin : Hid (walk s ⟨false, m, l⟩ d = 5) := by
      have := hget.out
      simp only [walk, if_neg h12, if_neg (show ¬ (false = true) by simp), if_neg (show ¬ ((m : Int) < 0 ∨ (s.length : Int) ≤ m) by omega), Int.toNat_natCast, this, if_neg hly, Hid]
    have hly' : ((l.length : Int) != y) = true := by rw [bne_iff_ne]; exact hly
    clear hly
    go_enter Try.func86, Try.ntmps86
    go_wp2_with fail
    go_quiet (fail)
    go_wp2_with fail
    go_ret
    rw [hfin.out]
    exact ⟨rfl, (below_drewN ((Below.refl _ _).alloc (Nat.le_refl _) _) _)⟩
  have hfin : Hid (walk s ⟨false, m, l⟩ d = walks s l (d + 1)) := by
    have := hget.out
    simp only [walk, if_neg h12, if_neg (show ¬ (false = true) by simp), if_neg (show ¬ ((m : Int) < 0 ∨ (s.length : Int) ≤ m) by omega), Int.toNat_natCast, this, if_pos hly, Hid]
  have hly' : ((l.length : Int) != y) = false := by rw [bne_eq_false_iff_eq]; exact hly
  clear hly
  go_enter Try.func86, Try.ntmps86
  go_wp2_with fail
  go_quiet (fail)
  go_wp2_with fail
  go_loopw [48] (fun i wr => ∃ k : Nat, k ≤ l.length ∧ i = .int .i64 k ∧ walks s (l.take k) (d + 1) = 0 ∧ Below w.heap.size w wr)
    (fun i _ => l.length - (intOf i).toNat)
  case atStart => exact ⟨0, Nat.zero_le _, rfl, rfl, (below_drewN ((Below.refl _ _).alloc (Nat.le_refl _) _) _)⟩
  case round =>
    obtain ⟨k, hk, rfl, hw0, hbel⟩ := hrel
    have HW0 := Lib.hid hw0; clear hw0
    have hbs := hbel.size
    by_cases hkl : k < l.length
    · obtain ⟨x, b', o', a1, c1, hx, hSb', hbw', hix, q0, q1, q2, hxs⟩ := (HV.out.below hbel (Nat.le_refl _)).nthT slTerm hkl
      have HX := Lib.hid hxs; clear hxs
      go_wp2_with fail
      refine (IH.out x (mem_of_get hx.out) s (d + 1) _ S _ _ (((HS.out.below hbel (Nat.le_refl _))).alloc _) (RdT.alloc ⟨a1, c1, rfl, HX.out⟩ _) (by omega) (by omega)).mono ?_
      rintro e w1 ⟨rfl, hb1⟩
      have hb2 : Below w.heap.size w w1 := (hbel.alloc hbs _).trans (hb1.mono (by simp; omega))
      clear hb1
      rcases Decidable.em (walk s x (d + 1) = 0) with hw | hw
      · have hw' : (walk s x (d + 1) != 0) = false := by rw [bne_eq_false_iff_eq]; exact hw
        have HW := Lib.hid hw; clear hw
        go_wp2_with fail
        go_roundw
        case rel => exact ⟨k + 1, by omega, by go_num, walks_succ HW0.out hx.out HW.out, hb2⟩
        case measure => simp [intOf]; omega
      · have hw' : (walk s x (d + 1) != 0) = true := by rw [bne_iff_ne]; exact hw
        have HW := Lib.hid hw; clear hw
        go_wp2_with fail
        go_ret
        exact ⟨by rw [hfin.out, walks_no HW0.out hx.out HW.out]; rfl, hb2⟩
    · go_wp2_with fail
      go_ret
      have : k = l.length := by omega
      subst this
      have := HW0.out
      rw [List.take_length] at this
      rw [hfin.out, this]
      exact ⟨rfl, hbel⟩
set_option maxHeartbeats 2000000 in
theorem pform_any : ∀ t, WalkC 163 t := by
  refine Tm.ind ?_
  intro vr n l ih s d w S v v' hv hv' hd0 hd1
  obtain ⟨a, c, rfl, hs⟩ := hv'
  obtain ⟨sa, sc, rfl, hsl, hsm⟩ := hv.form
  simp only at hs ⊢
  obtain ⟨_, _, he, hl, hm⟩ := hs.form
  clear he
  have IH := Lib.hid ih; clear ih
  have HV := Lib.hid hs; clear hs
  have HS := Lib.hid hv; clear hv
  by_cases h12 : 12 < d
  · have hfin : Hid (walk s ⟨vr, n, l⟩ d = 4) := by simp [walk, h12, Hid]
    go_enter Try.func163, Try.ntmps163
    go_wp2_with fail
    go_ret
    rw [hfin.out]
    exact ⟨rfl, (Below.refl _ _).alloc (Nat.le_refl _) _⟩
  cases vr
  case true =>
    by_cases hn0 : n < 0
    · have hfin : Hid (walk s ⟨true, n, l⟩ d = 3) := by simp [walk, h12, hn0, Hid]
      go_enter Try.func163, Try.ntmps163
      go_wp2_with fail
      go_ret
      rw [hfin.out]
      exact ⟨rfl, (Below.refl _ _).alloc (Nat.le_refl _) _⟩
    by_cases hn4 : 4 < n
    · have hfin : Hid (walk s ⟨true, n, l⟩ d = 3) := by simp [walk, h12, hn4, Hid]
      go_enter Try.func163, Try.ntmps163
      go_wp2_with fail
      go_ret
      rw [hfin.out]
      exact ⟨rfl, (Below.refl _ _).alloc (Nat.le_refl _) _⟩
    by_cases hl0 : l.length = 0
    · have hfin : Hid (walk s ⟨true, n, l⟩ d = 0) := by simp [walk, h12, hn0, hn4, hl0, Hid]
      have hl0' : ¬ (0 < l.length) := by omega
      clear hl0
      go_enter Try.func163, Try.ntmps163
      go_wp2_with fail
      go_ret
      rw [hfin.out]
      exact ⟨rfl, (Below.refl _ _).alloc (Nat.le_refl _) _⟩
    · have hfin : Hid (walk s ⟨true, n, l⟩ d = 5) := by simp [walk, h12, hn0, hn4, hl0, Hid]
      have hl0' : 0 < l.length := by omega
      clear hl0
      go_enter Try.func163, Try.ntmps163
      go_wp2_with fail
      go_ret
      rw [hfin.out]
      exact ⟨rfl, (Below.refl _ _).alloc (Nat.le_refl _) _⟩
  by_cases hn0 : n < 0
  · have hfin : Hid (walk s ⟨false, n, l⟩ d = 7) := by simp [walk, h12, hn0, Hid]
    go_enter Try.func163, Try.ntmps163
    go_wp2_with fail
    go_ret
    rw [hfin.out]
    exact ⟨rfl, (Below.refl _ _).alloc (Nat.le_refl _) _⟩
  by_cases hns : (s.length : Int) ≤ n
  · have hfin : Hid (walk s ⟨false, n, l⟩ d = 7) := by simp [walk, h12, hns, Hid]
    go_enter Try.func163, Try.ntmps163
    go_wp2_with fail
    go_ret
    rw [hfin.out]
    exact ⟨rfl, (Below.refl _ _).alloc (Nat.le_refl _) _⟩
  obtain ⟨m, rfl⟩ := Int.eq_ofNat_of_zero_le (a := n) (by omega)
  have hms : m < s.length := by omega
  obtain ⟨y, b, o, hy, hSb, hbw, hiy, p0⟩ := HS.out.nthI slSig hms
  have hget : Hid (s.getD m 0 = y) := by
    have := hy.out
    simp [List.getD, this, Hid]
  rcases Decidable.em ((l.length : Int) = y) with hly | hly
  rotate_left
  · have hfin : Hid (walk s ⟨false, m, l⟩ d = 5) := by
      have := hget.out
      simp only [walk, if_neg h12, if_neg (show ¬ (false = true) by simp), if_neg (show ¬ ((m : Int) < 0 ∨ (s.length : Int) ≤ m) by omega), Int.toNat_natCast, this, if_neg hly, Hid]
    have hly' : ((l.length : Int) != y) = true := by rw [bne_iff_ne]; exact hly
    clear hly
    go_enter Try.func163, Try.ntmps163
    go_wp2_with fail
    go_quiet (fail)
    go_wp2_with fail
    go_ret
    rw [hfin.out]
    exact ⟨rfl, (below_drewN ((Below.refl _ _).alloc (Nat.le_refl _) _) _)⟩
  have hfin : Hid (walk s ⟨false, m, l⟩ d = walks s l (d + 1)) := by
    have := hget.out
    simp only [walk, if_neg h12, if_neg (show ¬ (false = true) by simp), if_neg (show ¬ ((m : Int) < 0 ∨ (s.length : Int) ≤ m) by omega), Int.toNat_natCast, this, if_pos hly, Hid]
  have hly' : ((l.length : Int) != y) = false := by rw [bne_eq_false_iff_eq]; exact hly
  clear hly
  go_enter Try.func163, Try.ntmps163
  go_wp2_with fail
  go_quiet (fail)
  go_wp2_with fail
  go_loopw [62] (fun i wr => ∃ k : Nat, k ≤ l.length ∧ i = .int .i64 k ∧ walks s (l.take k) (d + 1) = 0 ∧ Below w.heap.size w wr)
    (fun i _ => l.length - (intOf i).toNat)
  case atStart => exact ⟨0, Nat.zero_le _, rfl, rfl, (below_drewN ((Below.refl _ _).alloc (Nat.le_refl _) _) _)⟩
  case round =>
    obtain ⟨k, hk, rfl, hw0, hbel⟩ := hrel
    have HW0 := Lib.hid hw0; clear hw0
    have hbs := hbel.size
    by_cases hkl : k < l.length
    · obtain ⟨x, b', o', a1, c1, hx, hSb', hbw', hix, q0, q1, q2, hxs⟩ := (HV.out.below hbel (Nat.le_refl _)).nthT slTerm hkl
      have HX := Lib.hid hxs; clear hxs
      go_wp2_with fail
      refine (IH.out x (mem_of_get hx.out) s (d + 1) _ S _ _ (((HS.out.below hbel (Nat.le_refl _))).alloc _) (RdT.alloc ⟨a1, c1, rfl, HX.out⟩ _) (by omega) (by omega)).mono ?_
      rintro e w1 ⟨rfl, hb1⟩
      have hb2 : Below w.heap.size w w1 := (hbel.alloc hbs _).trans (hb1.mono (by simp; omega))
      clear hb1
      rcases Decidable.em (walk s x (d + 1) = 0) with hw | hw
      · have hw' : (walk s x (d + 1) != 0) = false := by rw [bne_eq_false_iff_eq]; exact hw
        have HW := Lib.hid hw; clear hw
        go_wp2_with fail
        go_roundw
        case rel => exact ⟨k + 1, by omega, by go_num, walks_succ HW0.out hx.out HW.out, hb2⟩
        case measure => simp [intOf]; omega
      · have hw' : (walk s x (d + 1) != 0) = true := by rw [bne_iff_ne]; exact hw
        have HW := Lib.hid hw; clear hw
        go_wp2_with fail
        go_ret
        exact ⟨by rw [hfin.out, walks_no HW0.out hx.out HW.out]; rfl, hb2⟩
    · go_wp2_with fail
      go_ret
      have : k = l.length := by omega
      subst this
      have := HW0.out
      rw [List.take_length] at this
      rw [hfin.out, this]
      exact ⟨rfl, hbel⟩

def WrongC (f : Nat) : Prop := ∀ (s : List Int) (t : Tm) (w : World) (S : Nat → Prop) (v v' : Value), RdI w S s v → RdT w S t v' →
  Calls Try.prog f #[v, v'] w fun e w' => e = .returned (.int .i64 (wrong s t)) ∧ Below w.heap.size w w'

set_option maxHeartbeats 1000000 in
theorem rwrong_any : WrongC 27 := by
  intro s t w S v v' hs ht
  obtain ⟨a, c, rfl, hts⟩ := ht
  obtain ⟨sa, sc, rfl, hsl, hsm⟩ := hs.form
  have HS := Lib.hid hs; clear hs
  have HV := Lib.hid hts; clear hts
  go_enter Try.func27, Try.ntmps27
  go_wp2_with fail
  refine (rwalk_any t s 1 _ S _ _ (HS.out.alloc _) (RdT.alloc ⟨a, c, rfl, HV.out⟩ _) (by omega) (by omega)).mono ?_
  rintro e w1 ⟨rfl, hb1⟩
  have hb2 : Below w.heap.size w w1 := ((Below.refl _ _).alloc (Nat.le_refl _) _).trans (hb1.mono (by simp))
  have q0 := (hb1.cell (p := ⟨w.heap.size, 0, none⟩) (by simp)).trans (World.cell?_alloc_new _ _ _ _)
  have q1 := (hb1.cell (p := ⟨w.heap.size, 1, none⟩) (by simp)).trans (World.cell?_alloc_new _ _ _ _)
  have q2 := (hb1.cell (p := ⟨w.heap.size, 2, none⟩) (by simp)).trans (World.cell?_alloc_new _ _ _ _)
  simp at q0 q1 q2
  clear hb1
  rcases Decidable.em (walk s t 1 = 0) with hw | hw
  rotate_left
  · have hw' : (walk s t 1 != 0) = true := by rw [bne_iff_ne]; exact hw
    have HW := Lib.hid hw; clear hw
    go_wp2_with fail
    go_ret
    exact ⟨by simp [wrong, HW.out], hb2⟩
  have hw' : (walk s t 1 != 0) = false := by rw [bne_eq_false_iff_eq]; exact hw
  have HW := Lib.hid hw; clear hw
  go_wp2_with fail
  refine (rsizeW_any t _ S _ ⟨a, c, rfl, HV.out.below hb2 (Nat.le_refl _)⟩).mono ?_
  rintro e w2 ⟨rfl, hb3⟩
  have hb4 : Below w.heap.size w w2 := hb2.trans (hb3.mono hb2.size)
  clear hb3
  obtain ⟨C, hC⟩ : ∃ C, C = wrap64 (t.size : Int) := ⟨_, rfl⟩
  have HC := Lib.hid hC
  rw [← hC]; clear hC
  by_cases h12 : 12 < C
  · go_wp2_with fail
    go_ret
    exact ⟨by have := HC.out; subst this; simp [wrong, HW.out, h12], hb4⟩
  · go_wp2_with fail
    go_ret
    exact ⟨by have := HC.out; subst this; simp only [wrong, HW.out, if_true, if_neg (show ¬ (12 < wrap64 (t.size : Int)) by omega)]; rfl, hb4⟩
set_option maxHeartbeats 1000000 in
theorem pwrong_any : WrongC 151 := by
  intro s t w S v v' hs ht
  obtain ⟨a, c, rfl, hts⟩ := ht
  obtain ⟨sa, sc, rfl, hsl, hsm⟩ := hs.form
  have HS := Lib.hid hs; clear hs
  have HV := Lib.hid hts; clear hts
  go_enter Try.func151, Try.ntmps151
  go_wp2_with fail
  refine (pform_any t s 1 _ S _ _ (HS.out.alloc _) (RdT.alloc ⟨a, c, rfl, HV.out⟩ _) (by omega) (by omega)).mono ?_
  rintro e w1 ⟨rfl, hb1⟩
  have hb2 : Below w.heap.size w w1 := ((Below.refl _ _).alloc (Nat.le_refl _) _).trans (hb1.mono (by simp))
  have q0 := (hb1.cell (p := ⟨w.heap.size, 0, none⟩) (by simp)).trans (World.cell?_alloc_new _ _ _ _)
  have q1 := (hb1.cell (p := ⟨w.heap.size, 1, none⟩) (by simp)).trans (World.cell?_alloc_new _ _ _ _)
  have q2 := (hb1.cell (p := ⟨w.heap.size, 2, none⟩) (by simp)).trans (World.cell?_alloc_new _ _ _ _)
  simp at q0 q1 q2
  clear hb1
  rcases Decidable.em (walk s t 1 = 0) with hw | hw
  rotate_left
  · have hw' : (walk s t 1 != 0) = true := by rw [bne_iff_ne]; exact hw
    have HW := Lib.hid hw; clear hw
    go_wp2_with fail
    go_ret
    exact ⟨by simp [wrong, HW.out], hb2⟩
  have hw' : (walk s t 1 != 0) = false := by rw [bne_eq_false_iff_eq]; exact hw
  have HW := Lib.hid hw; clear hw
  go_wp2_with fail
  refine (psizeW_any t _ S _ ⟨a, c, rfl, HV.out.below hb2 (Nat.le_refl _)⟩).mono ?_
  rintro e w2 ⟨rfl, hb3⟩
  have hb4 : Below w.heap.size w w2 := hb2.trans (hb3.mono hb2.size)
  clear hb3
  obtain ⟨C, hC⟩ : ∃ C, C = wrap64 (t.size : Int) := ⟨_, rfl⟩
  have HC := Lib.hid hC
  rw [← hC]; clear hC
  by_cases h12 : 12 < C
  · go_wp2_with fail
    go_ret
    exact ⟨by have := HC.out; subst this; simp [wrong, HW.out, h12], hb4⟩
  · go_wp2_with fail
    go_ret
    exact ⟨by have := HC.out; subst this; simp only [wrong, HW.out, if_true, if_neg (show ¬ (12 < wrap64 (t.size : Int)) by omega)]; rfl, hb4⟩

end Go.Proofs.Ytmanhdacnkpclaa
