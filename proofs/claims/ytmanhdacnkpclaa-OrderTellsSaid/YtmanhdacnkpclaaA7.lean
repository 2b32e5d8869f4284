/- Contracts: Above, Compare of the reference. -/
import Derived.Test.YtmanhdacnkpclaaA6
namespace Go.Proofs.Ytmanhdacnkpclaa
open Go.RowKit

theorem above_var {n : Int} {l : List Tm} {b : Tm} : above ⟨true, n, l⟩ b = false := by simp [above]

def AboveC (f : Nat) (t : Tm) : Prop := ∀ (u : Tm) (w : World) (S : Nat → Prop) (v v' : Value), RdT w S t v → RdT w S u v' → t.size ≤ 1099511627776 → u.size ≤ 1099511627776 →
  Calls Try.prog f #[v, v'] w fun e w' => e = .returned (.bool (above t u)) ∧ Below w.heap.size w w'

set_option maxHeartbeats 800000 in
set_option maxRecDepth 100000 in
theorem rabove_any : ∀ t, AboveC 84 t := by
  refine Tm.ind ?_
  intro vr n l ih u w S v v' hv hv' hsz hsz'
  obtain ⟨vr', n', l'⟩ := u
  obtain ⟨a, c, rfl, hs⟩ := hv
  obtain ⟨a', c', rfl, hs'⟩ := hv'
  simp only at hs hs' ⊢
  obtain ⟨_, _, he, hl, hm⟩ := hs.form
  clear he
  obtain ⟨_, _, he, hl', hm'⟩ := hs'.form
  clear he
  have IH := Lib.hid ih; clear ih
  have HV := Lib.hid hs; clear hs
  have HV' := Lib.hid hs'; clear hs'
  cases vr
  case true =>
    go_enter Try.func84, Try.ntmps84
    go_wp2_with fail
    go_ret
    rw [above_var]
    exact ⟨rfl, ((Below.refl _ _).alloc (Nat.le_refl _) _).alloc (by simp) _⟩
  obtain ⟨T, hT⟩ : ∃ T : Tm, T = ⟨false, n, l⟩ := ⟨_, rfl⟩
  obtain ⟨U, hU⟩ : ∃ U : Tm, U = ⟨vr', n', l'⟩ := ⟨_, rfl⟩
  rw [← hT] at hsz
  rw [← hU] at hsz'
  have HVa := Lib.hid (RdT.mk' hT HV.out)
  have HVb := Lib.hid (RdT.mk' hU HV'.out)
  have HT := Lib.hid hT; clear hT
  have HU := Lib.hid hU; clear hU
  go_enter Try.func84, Try.ntmps84
  go_wp2_with fail
  refine (rvars_any U [] _ S _ _ (RdL.nil 0 (by omega) none) ((HVb.out.alloc _).alloc _) (by simp; omega)).mono ?_
  rintro e w1 ⟨uv, rfl, hu, hb1⟩
  obtain ⟨ua, uc, rfl, hul, hum⟩ := hu.form
  have HUV := Lib.hid hu; clear hu
  have hb2 : Below w.heap.size w w1 := (((Below.refl _ _).alloc (Nat.le_refl _) _).alloc (by simp) _).trans (hb1.mono (by simp; omega))
  have B0 : blk w1 w.heap.size = some (.cells #[.bool false, .int .i64 n, .slice a l.length c] 26) := blk_below (by simp [blk_alloc]) hb1 (by simp; omega)
  have B1 : blk w1 (w.heap.size + 1) = some (.cells #[.bool vr', .int .i64 n', .slice a' l'.length c'] 26) := blk_below (by simp [blk_alloc]) hb1 (by simp)
  clear hb1
  go_wp2_with fail
  go_loopw [13] (fun i wr => ∃ k : Nat, k ≤ (vars [] U).length ∧ i = .int .i64 k ∧ (∀ j x, j < k → (vars [] U)[j]? = some x → ¬ times x T < times x U) ∧ Below w1.heap.size w1 wr)
    (fun i _ => (vars [] U).length - (intOf i).toNat)
  case atStart => exact ⟨0, Nat.zero_le _, rfl, fun j x hj => absurd hj (by omega), Below.refl _ _⟩
  case round =>
    obtain ⟨k, hk, rfl, hno, hbel⟩ := hrel
    have HNO := Lib.hid hno; clear hno
    have hbs := hbel.size
    have hws := hb2.size
    have hl0 : w.heap.size < w1.heap.size := blk_lt B0
    have hl1 : w.heap.size + 1 < w1.heap.size := blk_lt B1
    have hl0' : w.heap.size < wr.heap.size := by omega
    have hl1' : w.heap.size + 1 < wr.heap.size := by omega
    obtain ⟨a0, a1, a2⟩ := blk3 (blk_below B0 hbel hl0)
    obtain ⟨b0, b1, b2⟩ := blk3 (blk_below B1 hbel hl1)
    have hbw : Below w.heap.size w wr := hb2.trans (hbel.mono (by omega))
    by_cases hkl : k < (vars [] U).length
    · obtain ⟨x, b, o, hx, hSb, hbw', hix, p0⟩ := (HUV.out.below hbel (Nat.le_refl _)).nthI slInt hkl
      go_wp2_with fail
      go_region_held3 (fun w' => w'.cell? ⟨w.heap.size, 0, none⟩ = some (.bool false) ∧ w'.cell? ⟨w.heap.size, 1, none⟩ = some (.int .i64 n) ∧ w'.cell? ⟨w.heap.size, 2, none⟩ = some (.slice a l.length c) ∧
          w'.cell? ⟨w.heap.size + 1, 0, none⟩ = some (.bool vr') ∧ w'.cell? ⟨w.heap.size + 1, 1, none⟩ = some (.int .i64 n') ∧ w'.cell? ⟨w.heap.size + 1, 2, none⟩ = some (.slice a' l'.length c')) (go_keep)
        (first | (go_at_call 131; refine Calls.mono (rtimes_any U x _ S _ ?_ (by omega)) ?_; exact RdT.same_ (HVb.out.below hbw (Nat.le_refl _)) (by rfl); rintro e w2 ⟨rfl, hb3⟩; have bc1 : ∀ b o, b < wr.heap.size → w2.cell? ⟨b, o, none⟩ = wr.cell? ⟨b, o, none⟩ := fun b o h => bc hb3 b o h; have hbw2 : Below w.heap.size w w2 := hbw.drew.trans (hb3.mono hbw.size)) | (go_at_call 131; refine Calls.mono (rtimes_any T x _ S _ ?_ (by omega)) ?_; exact HVa.out.below hbw2 (Nat.le_refl _); rintro e w3 ⟨rfl, hb4⟩; have bc2 : ∀ b o, b < w2.heap.size → w3.cell? ⟨b, o, none⟩ = w2.cell? ⟨b, o, none⟩ := fun b o h => bc hb4 b o h; have hz3 : w.heap.size < w2.heap.size := Nat.lt_of_lt_of_le hl0' hb3.size; have hz4 : w.heap.size + 1 < w2.heap.size := Nat.lt_of_lt_of_le hl1' hb3.size))
      have hbw3 : Below w.heap.size w w3 := hbw2.trans (hb4.mono hbw2.size)
      have hbel3 : Below w1.heap.size w1 w3 := (hbel.drew.trans (hb3.mono hbs)).trans (hb4.mono (Nat.le_trans hbs hb3.size))
      by_cases hxy : times x T < times x U
      · have hfin : Hid (above T U = false) := by
          have : (vars [] U).any (fun v => decide (times v T < times v U)) = true := List.any_eq_true.2 ⟨x, mem_of_get hx.out, by simpa using hxy⟩
          have e := HT.out
          rw [e] at this ⊢
          simp [above, this, Hid]
        go_wp2_with fail
        go_ret
        rw [← HT.out, ← HU.out, hfin.out]
        exact ⟨rfl, hbw3⟩
      · go_wp2_with fail
        go_roundw
        case rel =>
          refine ⟨k + 1, by omega, by go_num, fun j y hj hy => ?_, hbel3⟩
          rcases Nat.lt_or_ge j k with h | h
          · exact HNO.out j y h hy
          · have : j = k := by omega
            subst this
            have := hx.out
            rw [this] at hy
            injection hy with hy
            rw [← hy]; omega
        case measure => simp [intOf]; omega
    · have hno' : Hid ((vars [] U).any (fun v => decide (times v T < times v U)) = false) := by
        show _ = _
        rw [List.any_eq_false]
        intro x hx
        obtain ⟨j, hj, rfl⟩ := List.getElem_of_mem hx
        have := HNO.out j _ (by omega) (List.getElem?_eq_getElem hj)
        simpa using this
      rcases Decidable.em (T.size = U.size) with hzz | hzz
      rotate_left
      · have hzz' : ((T.size : Int) != (U.size : Int)) = true := by rw [bne_iff_ne]; omega
        have hfin : Hid (above T U = decide (U.size < T.size)) := by
          have e := HT.out
          have h1 := hno'.out
          rw [e] at h1 hzz ⊢
          simp [above, h1, hzz, Hid]
        clear hzz
        go_wp2_with fail
        go_region_held3 (fun w' => w'.cell? ⟨w.heap.size, 0, none⟩ = some (.bool false) ∧ w'.cell? ⟨w.heap.size, 1, none⟩ = some (.int .i64 n) ∧ w'.cell? ⟨w.heap.size, 2, none⟩ = some (.slice a l.length c) ∧
                  w'.cell? ⟨w.heap.size + 1, 0, none⟩ = some (.bool vr') ∧ w'.cell? ⟨w.heap.size + 1, 1, none⟩ = some (.int .i64 n') ∧ w'.cell? ⟨w.heap.size + 1, 2, none⟩ = some (.slice a' l'.length c')) (go_keep)
          (first | (go_at_call 87; refine Calls.mono (rsize_any T _ S _ ?_ (by omega)) ?_; exact RdT.same_ (HVa.out.below hbw (Nat.le_refl _)) (by rfl); rintro e w2 ⟨rfl, hb3⟩; have bc1 : ∀ b o, b < wr.heap.size → w2.cell? ⟨b, o, none⟩ = wr.cell? ⟨b, o, none⟩ := fun b o h => bc hb3 b o h; have hbww2 : Below w.heap.size w w2 := hbw.drew.trans (hb3.mono hbw.size); have hz0w2 : w.heap.size < w2.heap.size := Nat.lt_of_lt_of_le hl0' hb3.size; have hz1w2 : w.heap.size + 1 < w2.heap.size := Nat.lt_of_lt_of_le hl1' hb3.size) | (go_at_call 87; refine Calls.mono (rsize_any U _ S _ ?_ (by omega)) ?_; exact HVb.out.below hbww2 (Nat.le_refl _); rintro e w3 ⟨rfl, hb4⟩; have bc2 : ∀ b o, b < w2.heap.size → w3.cell? ⟨b, o, none⟩ = w2.cell? ⟨b, o, none⟩ := fun b o h => bc hb4 b o h; have hbww3 : Below w.heap.size w w3 := hbww2.trans (hb4.mono hbww2.size); have hz0w3 : w.heap.size < w3.heap.size := Nat.lt_of_lt_of_le hz0w2 hb4.size; have hz1w3 : w.heap.size + 1 < w3.heap.size := Nat.lt_of_lt_of_le hz1w2 hb4.size))
        go_wp2_with fail
        go_region_held3 (fun w' => w'.cell? ⟨w.heap.size, 0, none⟩ = some (.bool false) ∧ w'.cell? ⟨w.heap.size, 1, none⟩ = some (.int .i64 n) ∧ w'.cell? ⟨w.heap.size, 2, none⟩ = some (.slice a l.length c) ∧
                  w'.cell? ⟨w.heap.size + 1, 0, none⟩ = some (.bool vr') ∧ w'.cell? ⟨w.heap.size + 1, 1, none⟩ = some (.int .i64 n') ∧ w'.cell? ⟨w.heap.size + 1, 2, none⟩ = some (.slice a' l'.length c')) (go_keep)
          (first | (go_at_call 87; refine Calls.mono (rsize_any T _ S _ ?_ (by omega)) ?_; exact RdT.same_ (HVa.out.below hbww3 (Nat.le_refl _)) (by rfl); rintro e w4 ⟨rfl, hb5⟩; have bc1 : ∀ b o, b < w3.heap.size → w4.cell? ⟨b, o, none⟩ = w3.cell? ⟨b, o, none⟩ := fun b o h => bc hb5 b o h; have hbww4 : Below w.heap.size w w4 := hbww3.drew.trans (hb5.mono hbww3.size); have hz0w4 : w.heap.size < w4.heap.size := Nat.lt_of_lt_of_le hz0w3 hb5.size; have hz1w4 : w.heap.size + 1 < w4.heap.size := Nat.lt_of_lt_of_le hz1w3 hb5.size) | (go_at_call 87; refine Calls.mono (rsize_any U _ S _ ?_ (by omega)) ?_; exact HVb.out.below hbww4 (Nat.le_refl _); rintro e w5 ⟨rfl, hb6⟩; have bc2 : ∀ b o, b < w4.heap.size → w5.cell? ⟨b, o, none⟩ = w4.cell? ⟨b, o, none⟩ := fun b o h => bc hb6 b o h; have hbww5 : Below w.heap.size w w5 := hbww4.trans (hb6.mono hbww4.size); have hz0w5 : w.heap.size < w5.heap.size := Nat.lt_of_lt_of_le hz0w4 hb6.size; have hz1w5 : w.heap.size + 1 < w5.heap.size := Nat.lt_of_lt_of_le hz1w4 hb6.size))
        go_wp2_with fail
        go_ret
        rw [← HT.out, ← HU.out, hfin.out]
        refine ⟨?_, hbww5⟩
        simp
      have hzz' : ((T.size : Int) != (U.size : Int)) = false := by rw [bne_eq_false_iff_eq]; omega
      have hfin0 : Hid (above T U = if vr' then false else if n < n' then false else if n' < n then true else aboves l l') := by
        have e := HT.out
        have e' := HU.out
        have h1 := hno'.out
        rw [e, e'] at h1 hzz
        rw [e, e']
        simp [above, h1, hzz, Hid]
      have HZZ := Lib.hid hzz; clear hzz
      have hfin : Hid (above ⟨false, n, l⟩ ⟨vr', n', l'⟩ = if vr' then false else if n < n' then false else if n' < n then true else aboves l l') := by
        have := hfin0.out
        rw [HT.out, HU.out] at this
        exact this
      clear hfin0
      cases vr'
      case true =>
        have hfin1 : Hid (above ⟨false, n, l⟩ ⟨true, n', l'⟩ = false) := by rw [hfin.out]; simp [Hid]
        go_wp2_with fail
        go_region_held3 (fun w' => w'.cell? ⟨w.heap.size, 0, none⟩ = some (.bool false) ∧ w'.cell? ⟨w.heap.size, 1, none⟩ = some (.int .i64 n) ∧ w'.cell? ⟨w.heap.size, 2, none⟩ = some (.slice a l.length c) ∧
                  w'.cell? ⟨w.heap.size + 1, 0, none⟩ = some (.bool true) ∧ w'.cell? ⟨w.heap.size + 1, 1, none⟩ = some (.int .i64 n') ∧ w'.cell? ⟨w.heap.size + 1, 2, none⟩ = some (.slice a' l'.length c')) (go_keep)
          (first | (go_at_call 87; refine Calls.mono (rsize_any T _ S _ ?_ (by omega)) ?_; exact RdT.same_ (HVa.out.below hbw (Nat.le_refl _)) (by rfl); rintro e w2 ⟨rfl, hb3⟩; have bc1 : ∀ b o, b < wr.heap.size → w2.cell? ⟨b, o, none⟩ = wr.cell? ⟨b, o, none⟩ := fun b o h => bc hb3 b o h; have hbww2 : Below w.heap.size w w2 := hbw.drew.trans (hb3.mono hbw.size); have hz0w2 : w.heap.size < w2.heap.size := Nat.lt_of_lt_of_le hl0' hb3.size; have hz1w2 : w.heap.size + 1 < w2.heap.size := Nat.lt_of_lt_of_le hl1' hb3.size) | (go_at_call 87; refine Calls.mono (rsize_any U _ S _ ?_ (by omega)) ?_; exact HVb.out.below hbww2 (Nat.le_refl _); rintro e w3 ⟨rfl, hb4⟩; have bc2 : ∀ b o, b < w2.heap.size → w3.cell? ⟨b, o, none⟩ = w2.cell? ⟨b, o, none⟩ := fun b o h => bc hb4 b o h; have hbww3 : Below w.heap.size w w3 := hbww2.trans (hb4.mono hbww2.size); have hz0w3 : w.heap.size < w3.heap.size := Nat.lt_of_lt_of_le hz0w2 hb4.size; have hz1w3 : w.heap.size + 1 < w3.heap.size := Nat.lt_of_lt_of_le hz1w2 hb4.size))
        go_wp2_with fail
        go_ret
        rw [hfin1.out]
        exact ⟨rfl, hbww3⟩
      by_cases hn1 : n < n'
      · have hfin1 : Hid (above ⟨false, n, l⟩ ⟨false, n', l'⟩ = false) := by rw [hfin.out]; simp [hn1, Hid]
        go_wp2_with fail
        go_region_held3 (fun w' => w'.cell? ⟨w.heap.size, 0, none⟩ = some (.bool false) ∧ w'.cell? ⟨w.heap.size, 1, none⟩ = some (.int .i64 n) ∧ w'.cell? ⟨w.heap.size, 2, none⟩ = some (.slice a l.length c) ∧
                  w'.cell? ⟨w.heap.size + 1, 0, none⟩ = some (.bool false) ∧ w'.cell? ⟨w.heap.size + 1, 1, none⟩ = some (.int .i64 n') ∧ w'.cell? ⟨w.heap.size + 1, 2, none⟩ = some (.slice a' l'.length c')) (go_keep)
          (first | (go_at_call 87; refine Calls.mono (rsize_any T _ S _ ?_ (by omega)) ?_; exact RdT.same_ (HVa.out.below hbw (Nat.le_refl _)) (by rfl); rintro e w2 ⟨rfl, hb3⟩; have bc1 : ∀ b o, b < wr.heap.size → w2.cell? ⟨b, o, none⟩ = wr.cell? ⟨b, o, none⟩ := fun b o h => bc hb3 b o h; have hbww2 : Below w.heap.size w w2 := hbw.drew.trans (hb3.mono hbw.size); have hz0w2 : w.heap.size < w2.heap.size := Nat.lt_of_lt_of_le hl0' hb3.size; have hz1w2 : w.heap.size + 1 < w2.heap.size := Nat.lt_of_lt_of_le hl1' hb3.size) | (go_at_call 87; refine Calls.mono (rsize_any U _ S _ ?_ (by omega)) ?_; exact HVb.out.below hbww2 (Nat.le_refl _); rintro e w3 ⟨rfl, hb4⟩; have bc2 : ∀ b o, b < w2.heap.size → w3.cell? ⟨b, o, none⟩ = w2.cell? ⟨b, o, none⟩ := fun b o h => bc hb4 b o h; have hbww3 : Below w.heap.size w w3 := hbww2.trans (hb4.mono hbww2.size); have hz0w3 : w.heap.size < w3.heap.size := Nat.lt_of_lt_of_le hz0w2 hb4.size; have hz1w3 : w.heap.size + 1 < w3.heap.size := Nat.lt_of_lt_of_le hz1w2 hb4.size))
        go_wp2_with fail
        go_ret
        rw [hfin1.out]
        exact ⟨rfl, hbww3⟩
      by_cases hn2 : n' < n
      · have hfin1 : Hid (above ⟨false, n, l⟩ ⟨false, n', l'⟩ = true) := by rw [hfin.out]; simp [hn1, hn2, Hid]
        go_wp2_with fail
        go_region_held3 (fun w' => w'.cell? ⟨w.heap.size, 0, none⟩ = some (.bool false) ∧ w'.cell? ⟨w.heap.size, 1, none⟩ = some (.int .i64 n) ∧ w'.cell? ⟨w.heap.size, 2, none⟩ = some (.slice a l.length c) ∧
                  w'.cell? ⟨w.heap.size + 1, 0, none⟩ = some (.bool false) ∧ w'.cell? ⟨w.heap.size + 1, 1, none⟩ = some (.int .i64 n') ∧ w'.cell? ⟨w.heap.size + 1, 2, none⟩ = some (.slice a' l'.length c')) (go_keep)
          (first | (go_at_call 87; refine Calls.mono (rsize_any T _ S _ ?_ (by omega)) ?_; exact RdT.same_ (HVa.out.below hbw (Nat.le_refl _)) (by rfl); rintro e w2 ⟨rfl, hb3⟩; have bc1 : ∀ b o, b < wr.heap.size → w2.cell? ⟨b, o, none⟩ = wr.cell? ⟨b, o, none⟩ := fun b o h => bc hb3 b o h; have hbww2 : Below w.heap.size w w2 := hbw.drew.trans (hb3.mono hbw.size); have hz0w2 : w.heap.size < w2.heap.size := Nat.lt_of_lt_of_le hl0' hb3.size; have hz1w2 : w.heap.size + 1 < w2.heap.size := Nat.lt_of_lt_of_le hl1' hb3.size) | (go_at_call 87; refine Calls.mono (rsize_any U _ S _ ?_ (by omega)) ?_; exact HVb.out.below hbww2 (Nat.le_refl _); rintro e w3 ⟨rfl, hb4⟩; have bc2 : ∀ b o, b < w2.heap.size → w3.cell? ⟨b, o, none⟩ = w2.cell? ⟨b, o, none⟩ := fun b o h => bc hb4 b o h; have hbww3 : Below w.heap.size w w3 := hbww2.trans (hb4.mono hbww2.size); have hz0w3 : w.heap.size < w3.heap.size := Nat.lt_of_lt_of_le hz0w2 hb4.size; have hz1w3 : w.heap.size + 1 < w3.heap.size := Nat.lt_of_lt_of_le hz1w2 hb4.size))
        go_wp2_with fail
        go_ret
        rw [hfin1.out]
        exact ⟨rfl, hbww3⟩
      have hfin1 : Hid (above ⟨false, n, l⟩ ⟨false, n', l'⟩ = aboves l l') := by rw [hfin.out]; simp [hn1, hn2, Hid]
      go_wp2_with fail
      go_region_held3 (fun w' => w'.cell? ⟨w.heap.size, 0, none⟩ = some (.bool false) ∧ w'.cell? ⟨w.heap.size, 1, none⟩ = some (.int .i64 n) ∧ w'.cell? ⟨w.heap.size, 2, none⟩ = some (.slice a l.length c) ∧
                w'.cell? ⟨w.heap.size + 1, 0, none⟩ = some (.bool false) ∧ w'.cell? ⟨w.heap.size + 1, 1, none⟩ = some (.int .i64 n') ∧ w'.cell? ⟨w.heap.size + 1, 2, none⟩ = some (.slice a' l'.length c')) (go_keep)
        (first | (go_at_call 87; refine Calls.mono (rsize_any T _ S _ ?_ (by omega)) ?_; exact RdT.same_ (HVa.out.below hbw (Nat.le_refl _)) (by rfl); rintro e w2 ⟨rfl, hb3⟩; have bc1 : ∀ b o, b < wr.heap.size → w2.cell? ⟨b, o, none⟩ = wr.cell? ⟨b, o, none⟩ := fun b o h => bc hb3 b o h; have hbww2 : Below w.heap.size w w2 := hbw.drew.trans (hb3.mono hbw.size); have hz0w2 : w.heap.size < w2.heap.size := Nat.lt_of_lt_of_le hl0' hb3.size; have hz1w2 : w.heap.size + 1 < w2.heap.size := Nat.lt_of_lt_of_le hl1' hb3.size) | (go_at_call 87; refine Calls.mono (rsize_any U _ S _ ?_ (by omega)) ?_; exact HVb.out.below hbww2 (Nat.le_refl _); rintro e w3 ⟨rfl, hb4⟩; have bc2 : ∀ b o, b < w2.heap.size → w3.cell? ⟨b, o, none⟩ = w2.cell? ⟨b, o, none⟩ := fun b o h => bc hb4 b o h; have hbww3 : Below w.heap.size w w3 := hbww2.trans (hb4.mono hbww2.size); have hz0w3 : w.heap.size < w3.heap.size := Nat.lt_of_lt_of_le hz0w2 hb4.size; have hz1w3 : w.heap.size + 1 < w3.heap.size := Nat.lt_of_lt_of_le hz1w2 hb4.size))
      have hbel3 : Below w1.heap.size w1 w3 := (hbel.drew.trans (hb3.mono hbs)).trans (hb4.mono (Nat.le_trans hbs hb3.size))
      go_wp2_with fail
      obtain ⟨wo, rfl⟩ : ∃ wo : World, wo = wr := ⟨_, rfl⟩
      go_loopw [7] (fun i wq => ∃ k : Nat, k ≤ l.length ∧ k ≤ l'.length ∧ i = .int .i64 k ∧ l.take k = l'.take k ∧ Below w1.heap.size w1 wq)
        (fun i _ => l.length - (intOf i).toNat)
      case atStart => exact ⟨0, Nat.zero_le _, Nat.zero_le _, rfl, rfl, hbel3⟩
      case round =>
        obtain ⟨k, hk, hk', rfl, htk, hbel'⟩ := hrel
        obtain ⟨wq, rfl⟩ : ∃ wq : World, wq = wr := ⟨_, rfl⟩
        have HTK := Lib.hid htk; clear htk
        have hbs' := hbel'.size
        have hl2 : w.heap.size < wq.heap.size := by omega
        have hl3 : w.heap.size + 1 < wq.heap.size := by omega
        obtain ⟨a0', a1', a2'⟩ := blk3 (blk_below B0 hbel' hl0)
        obtain ⟨b0', b1', b2'⟩ := blk3 (blk_below B1 hbel' hl1)
        have hbq : Below w.heap.size w wq := hb2.trans (hbel'.mono (by omega))
        by_cases hkl : k < l.length
        · by_cases hkl' : k < l'.length
          · obtain ⟨x, b, o, p1, pc1, hx, hSb, hbx, hix, c0, c1, c2, hxs⟩ := (HV.out.below hbq (Nat.le_refl _)).nthT slTerm hkl
            obtain ⟨y, b', o', q1, qc1, hy, hSb', hby, hiy, d0, d1, d2, hys⟩ := (HV'.out.below hbq (Nat.le_refl _)).nthT slTerm hkl'
            have HX := Lib.hid hxs; clear hxs
            have HY := Lib.hid hys; clear hys
            have hxsz : x.size ≤ 1099511627776 := by
              have h1 := sizes_take_succ l k x hx.out
              have h2 := sizes_take_le l (k + 1)
              have h3 : T.size = 1 + Tm.sizes l := by rw [HT.out]; rfl
              omega
            have hysz : y.size ≤ 1099511627776 := by
              have h1 := sizes_take_succ l' k y hy.out
              have h2 := sizes_take_le l' (k + 1)
              have h3 : U.size = 1 + Tm.sizes l' := by rw [HU.out]; rfl
              omega
            cases hxy : x.same y
            · have hfin2 : Hid (aboves l l' = above x y) := aboves_at HTK.out hx.out hy.out hxy
              go_wp2_with fail
              go_region_held3 (fun w' => w'.cell? ⟨w.heap.size, 2, none⟩ = some (.slice a l.length c) ∧ w'.cell? ⟨w.heap.size + 1, 2, none⟩ = some (.slice a' l'.length c') ∧
                  w'.cell? ⟨b, o + k * 3, none⟩ = some (.bool x.var) ∧ w'.cell? ⟨b, o + k * 3 + 1, none⟩ = some (.int .i64 x.n) ∧ w'.cell? ⟨b, o + k * 3 + 2, none⟩ = some (.slice p1 x.args.length pc1) ∧
                  w'.cell? ⟨b', o' + k * 3, none⟩ = some (.bool y.var) ∧ w'.cell? ⟨b', o' + k * 3 + 1, none⟩ = some (.int .i64 y.n) ∧ w'.cell? ⟨b', o' + k * 3 + 2, none⟩ = some (.slice q1 y.args.length qc1)) (go_keep)
                ((go_at_call 20; refine Calls.mono (rsame_any x y _ S _ _ (RdT.same_ ⟨p1, pc1, rfl, HX.out⟩ (by rfl)) (RdT.same_ ⟨q1, qc1, rfl, HY.out⟩ (by rfl))) ?_; rintro e w6 ⟨rfl, hb7⟩; have bc1 : ∀ b o, b < wq.heap.size → w6.cell? ⟨b, o, none⟩ = wq.cell? ⟨b, o, none⟩ := fun b o h => bc hb7 b o h; have hbww6 : Below w1.heap.size w1 w6 := hbel'.drew.trans (hb7.mono hbel'.size)))
              have hz6 : wq.heap.size ≤ w6.heap.size := hb7.size
              have e0 := (bc1 _ _ hl2).trans a2'
              have e1 := (bc1 _ _ hl3).trans b2'
              have f0 := (bc1 _ _ hbx).trans c0
              have f1 := (bc1 _ _ hbx).trans c1
              have f2 := (bc1 _ _ hbx).trans c2
              have g0 := (bc1 _ _ hby).trans d0
              have g1 := (bc1 _ _ hby).trans d1
              have g2 := (bc1 _ _ hby).trans d2
              have hbx6 : b < w6.heap.size := by omega
              have hby6 : b' < w6.heap.size := by omega
              have hl26 : w.heap.size < w6.heap.size := by omega
              have hl36 : w.heap.size + 1 < w6.heap.size := by omega
              have HX6 := Lib.hid ((RdL.same_ (w' := wq.drew) HX.out rfl).below hb7 (Nat.le_refl _))
              have HY6 := Lib.hid ((RdL.same_ (w' := wq.drew) HY.out rfl).below hb7 (Nat.le_refl _))
              clear c0 c1 c2 d0 d1 d2 a0' a1' a2' b0' b1' b2' bc1
              go_wp2_with fail
              go_region_held3 (fun w' => w'.cell? ⟨w.heap.size, 2, none⟩ = some (.slice a l.length c) ∧ w'.cell? ⟨w.heap.size + 1, 2, none⟩ = some (.slice a' l'.length c') ∧
                  w'.cell? ⟨b, o + k * 3, none⟩ = some (.bool x.var) ∧ w'.cell? ⟨b, o + k * 3 + 1, none⟩ = some (.int .i64 x.n) ∧ w'.cell? ⟨b, o + k * 3 + 2, none⟩ = some (.slice p1 x.args.length pc1) ∧
                  w'.cell? ⟨b', o' + k * 3, none⟩ = some (.bool y.var) ∧ w'.cell? ⟨b', o' + k * 3 + 1, none⟩ = some (.int .i64 y.n) ∧ w'.cell? ⟨b', o' + k * 3 + 2, none⟩ = some (.slice q1 y.args.length qc1)) (go_keep)
                ((go_at_call 84; refine Calls.mono (IH.out x (mem_of_get hx.out) y _ S _ _ (RdT.same_ ⟨p1, pc1, rfl, HX6.out⟩ (by rfl)) (RdT.same_ ⟨q1, qc1, rfl, HY6.out⟩ (by rfl)) hxsz hysz) ?_; rintro e w7 ⟨rfl, hb8⟩; have bc1 : ∀ b o, b < w6.heap.size → w7.cell? ⟨b, o, none⟩ = w6.cell? ⟨b, o, none⟩ := fun b o h => bc hb8 b o h; have hbww7 : Below w1.heap.size w1 w7 := hbww6.drew.trans (hb8.mono hbww6.size)))
              go_wp2_with fail
              go_ret
              rw [hfin1.out, hfin2.out]
              exact ⟨rfl, hb2.trans (hbww7.mono (by omega))⟩
            · go_wp2_with fail
              go_region_held3 (fun w' => w'.cell? ⟨w.heap.size, 2, none⟩ = some (.slice a l.length c) ∧ w'.cell? ⟨w.heap.size + 1, 2, none⟩ = some (.slice a' l'.length c') ∧
                  w'.cell? ⟨b, o + k * 3, none⟩ = some (.bool x.var) ∧ w'.cell? ⟨b, o + k * 3 + 1, none⟩ = some (.int .i64 x.n) ∧ w'.cell? ⟨b, o + k * 3 + 2, none⟩ = some (.slice p1 x.args.length pc1) ∧
                  w'.cell? ⟨b', o' + k * 3, none⟩ = some (.bool y.var) ∧ w'.cell? ⟨b', o' + k * 3 + 1, none⟩ = some (.int .i64 y.n) ∧ w'.cell? ⟨b', o' + k * 3 + 2, none⟩ = some (.slice q1 y.args.length qc1)) (go_keep)
                ((go_at_call 20; refine Calls.mono (rsame_any x y _ S _ _ (RdT.same_ ⟨p1, pc1, rfl, HX.out⟩ (by rfl)) (RdT.same_ ⟨q1, qc1, rfl, HY.out⟩ (by rfl))) ?_; rintro e w6 ⟨rfl, hb7⟩; have bc1 : ∀ b o, b < wq.heap.size → w6.cell? ⟨b, o, none⟩ = wq.cell? ⟨b, o, none⟩ := fun b o h => bc hb7 b o h; have hbww6 : Below w1.heap.size w1 w6 := hbel'.drew.trans (hb7.mono hbel'.size)))
              go_wp2_with fail
              go_roundw
              case rel => exact ⟨k + 1, by omega, by omega, by go_num, by rw [take_succ_of hx.out, take_succ_of hy.out, HTK.out, (Tm.same_iff x y).1 hxy], hbww6⟩
              case measure => simp [intOf]; omega
          · go_wp2_with fail
            go_ret
            rw [hfin1.out, aboves_none HTK.out (.inr (by omega))]
            exact ⟨rfl, hbq⟩
        · go_wp2_with fail
          go_ret
          rw [hfin1.out, aboves_none HTK.out (.inl (by omega))]
          exact ⟨rfl, hbq⟩
end Go.Proofs.Ytmanhdacnkpclaa
