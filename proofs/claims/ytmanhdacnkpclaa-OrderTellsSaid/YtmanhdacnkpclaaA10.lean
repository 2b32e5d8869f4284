/- Contracts: above, Compare of the program. -/
import Derived.Test.YtmanhdacnkpclaaA9
import Derived.Test.YtmanhdacnkpclaaPure3
namespace Go.Proofs.Ytmanhdacnkpclaa
open Go.RowKit Go.Maps

theorem CM.new {w : World} {r : Nat} (h : r = w.heap.size) : CM (w.alloc (.map #[] 0)) r 0 (fun _ => 0) := by subst h; exact CM.made w

def PAboveC (t : Tm) : Prop := ∀ (u : Tm) (w : World) (S : Nat → Prop) (v v' : Value), RdT w S t v → RdT w S u v' → t.size ≤ 1099511627776 → u.size ≤ 1099511627776 → t.okv = true → u.okv = true →
  Calls Try.prog 83 #[v, v'] w fun e w' => e = .returned (.bool (above t u)) ∧ Below w.heap.size w w'

set_option maxHeartbeats 800000 in
set_option maxRecDepth 100000 in
theorem pabove_any : ∀ t, PAboveC t := by
  refine Tm.ind ?_
  intro vr n l ih u w S v v' hv hv' hsz hsz' hok hok'
  obtain ⟨vr', n', l'⟩ := u
  obtain ⟨a, c, rfl, hs⟩ := hv
  obtain ⟨a', c', rfl, hs'⟩ := hv'
  simp only at hs hs' ⊢
  obtain ⟨_, _, he, hl, hm⟩ := hs.form
  clear he
  obtain ⟨_, _, he, hl', hm'⟩ := hs'.form
  clear he
  have IH := Lib.hid ih; clear ih
  have HV := Lib.hid hs; clear hs
  have HV' := Lib.hid hs'; clear hs'
  cases vr
  case true =>
    go_enter Try.func83, Try.ntmps83
    go_wp2_with fail
    go_ret
    rw [above_var]
    exact ⟨rfl, ((Below.refl _ _).alloc (Nat.le_refl _) _).alloc (by simp) _⟩
  obtain ⟨T, hT⟩ : ∃ T : Tm, T = ⟨false, n, l⟩ := ⟨_, rfl⟩
  obtain ⟨U, hU⟩ : ∃ U : Tm, U = ⟨vr', n', l'⟩ := ⟨_, rfl⟩
  rw [← hT] at hsz hok
  rw [← hU] at hsz' hok'
  have HOK := Lib.hid hok; clear hok
  have HOK' := Lib.hid hok'; clear hok'
  have HVa := Lib.hid (RdT.mk' hT HV.out)
  have HVb := Lib.hid (RdT.mk' hU HV'.out)
  have HT := Lib.hid hT; clear hT
  have HU := Lib.hid hU; clear hU
  have hmm := @run_makeMap Try.prog
  go_enter Try.func83, Try.ntmps83
  go_wp2_with fail
  refine Calls.mono (count_any T 1 (fun _ => 0) _ 0 _ (fun b => S b ∧ b < w.heap.size) _ ?_ ?_ ?_ (.inl rfl) (by omega) (fun x => by omega) (fun x hx => ?_)) ?_
  · exact (((HVa.out.wide (S' := fun b => S b ∧ b < w.heap.size) (fun b hb h => ⟨h, hb⟩)).alloc _).alloc _).alloc _
  · rintro ⟨_, h⟩; omega
  · exact CM.new (by simp)
  · rcases Decidable.em (times x T = 0) with h | h
    · exact h
    · exact absurd (WalkArith.wf_i64 (by have := times_mem x T [] HOK.out h; omega)) hx
  rintro e w1 ⟨rfl, hcm, hg1⟩
  have g1 : w.grownBy w1 (some (w.heap.size + 1 + 1)) := grown_trans (grown_alloc (grown_alloc (World.grownBy_alloc w _ _) _) _) hg1
  have b1 : Below w.heap.size w w1 := ⟨g1.os, g1.tape, g1.output, g1.size, fun k hk => g1.block k hk (by intro e; injection e with e; omega)⟩
  have hr1 := hcm.lt
  have B0 : blk w1 w.heap.size = some (.cells #[.bool false, .int .i64 n, .slice a l.length c] 26) := (hg1.block _ (by simp; omega) (by intro e; injection e with e; omega)).trans (by show blk _ _ = _; simp [blk_alloc]; omega)
  have B1 : blk w1 (w.heap.size + 1) = some (.cells #[.bool vr', .int .i64 n', .slice a' l'.length c'] 26) := (hg1.block _ (by simp) (by intro e; injection e with e; omega)).trans (by show blk _ _ = _; simp [blk_alloc])
  have HC := Lib.hid hcm; clear hcm hg1 g1
  obtain ⟨p0, p1, p2⟩ := blk3 B0
  obtain ⟨q0, q1, q2⟩ := blk3 B1
  go_wp2_with fail
  refine Calls.mono (count_any U (-1) _ _ _ _ (fun b => S b ∧ b < w.heap.size) _ ?_ ?_ HC.out (.inr rfl) (by omega) (fun x => ?_) (fun x hx => ?_)) ?_
  · exact (HVb.out.wide (S' := fun b => S b ∧ b < w.heap.size) (fun b hb h => ⟨h, hb⟩)).below b1 (Nat.le_refl _)
  · rintro ⟨_, h⟩; omega
  · have h1 := times_le_size x T
    simp; omega
  · rcases Decidable.em (times x U = 0) with h | h
    · exact h
    · exact absurd (WalkArith.wf_i64 (by have := times_mem x U [] HOK'.out h; omega)) hx
  rintro e w2 ⟨rfl, hcm2, hg2⟩
  have b2 : Below w.heap.size w w2 := b1.trans ⟨hg2.os, hg2.tape, hg2.output, hg2.size, fun k hk => hg2.block k (by omega) (by intro e; injection e with e; omega)⟩
  have C0 : blk w2 w.heap.size = some (.cells #[.bool false, .int .i64 n, .slice a l.length c] 26) := (hg2.block _ (blk_lt B0) (by intro e; injection e with e; omega)).trans B0
  have C1 : blk w2 (w.heap.size + 1) = some (.cells #[.bool vr', .int .i64 n', .slice a' l'.length c'] 26) := (hg2.block _ (blk_lt B1) (by intro e; injection e with e; omega)).trans B1
  clear p0 p1 p2 q0 q1 q2 B0 B1 b1 hg2
  have hr2 := hcm2.lt
  obtain ⟨D, hown, hDm, hat⟩ := hcm2.mono (m := T.size + U.size) (by omega)
  have HD := Lib.hid hDm; clear hDm
  have HAT : Hid (∀ x : Int, (Lit.int .i64 x).wf = true → D.atKey (.int .i64 x) (.lit (.int .i64 0)) = .lit (.int .i64 ((times x T : Int) - times x U))) := fun x hx => by
    rw [hat x hx]; congr 2; simp; omega
  clear hat
  go_wp2_with (first | (at_range; refine wpList_range_own _ rfl _ 31 rfl 3 3 lawInt Try.underlying31 _ (w.heap.size + 1 + 1) _ D rfl hown ?_; intro w3 hrg3 hg3 hs3))
  go_frame
  have b3 : Below w.heap.size w w3 := b2.trans ⟨hg3.os, hg3.tape, hg3.output, hg3.size, fun k hk => hg3.block k (by omega) (by simp)⟩
  have D0 : blk w3 w.heap.size = some (.cells #[.bool false, .int .i64 n, .slice a l.length c] 26) := (hg3.block _ (blk_lt C0) (by simp)).trans C0
  have D1 : blk w3 (w.heap.size + 1) = some (.cells #[.bool vr', .int .i64 n', .slice a' l'.length c'] 26) := (hg3.block _ (blk_lt C1) (by simp)).trans C1
  have hl0 := blk_lt C0
  have hl1 := blk_lt C1
  clear C0 C1 hg3
  go_loopw [7] (fun _ wr => ∃ (left : Lit → Bool) (cnt : Nat), wr.ranges Try.prog 3 (plainElem Try.prog 3) (w.heap.size + 1 + 1) w2.heap.size (T.size + U.size) D left cnt ∧
      (∀ x : Int, (Lit.int .i64 x).wf = true → has D (.int .i64 x) = true → left (.int .i64 x) = false → (times x U : Int) ≤ times x T) ∧ w3.grownBy wr (some w2.heap.size))
    (fun _ wr => wr.rangeLeft (w.heap.size + 1 + 1) w2.heap.size)
  case atStart => exact ⟨Maps.has D, Maps.size D, hrg3, fun x _ h h' => (by rw [h] at h'; cases h'), World.grownBy.refl _ _⟩
  case round =>
    obtain ⟨left, cnt, hrg, hok, hgw⟩ := hrel
    have HOKL := Lib.hid hok; clear hok
    have hbr : Below w.heap.size w wr := b3.trans ⟨hgw.os, hgw.tape, hgw.output, hgw.size, fun k hk => hgw.block k (by omega) (by intro e; injection e with e; omega)⟩
    have E0 : blk wr w.heap.size = some (.cells #[.bool false, .int .i64 n, .slice a l.length c] 26) := (hgw.block _ (blk_lt D0) (by intro e; injection e with e; omega)).trans D0
    have E1 : blk wr (w.heap.size + 1) = some (.cells #[.bool vr', .int .i64 n', .slice a' l'.length c'] 26) := (hgw.block _ (blk_lt D1) (by intro e; injection e with e; omega)).trans D1
    go_wp2_with (first | (at_next; refine wpList_next_ranges_ii _ rfl _ rfl 3 3 .i64 .i64 lawInt Try.underlying3 Try.underlying3 (w.heap.size + 1 + 1) w2.heap.size _ _ _ _ rfl hrg ?_ ?_))
    · intro _ hl0'
      have hno : Hid ((vars [] U).any (fun v => decide (times v T < times v U)) = false) := by
        show _ = _
        rw [Bool.eq_false_iff, ne_eq, any_times HOK'.out]
        rintro ⟨x, hx⟩
        have hw := WalkArith.wf_i64 (n := x) (by have := times_mem x U [] HOK'.out (by omega); omega)
        rcases Bool.eq_false_or_eq_true (has D (.int .i64 x)) with h | h
        · have := HOKL.out x hw h (hl0' _); omega
        · have h2 := HAT.out x hw
          rw [atKey_of_not_has h] at h2
          simp at h2; omega
      clear hl0'
      obtain ⟨a0, a1, a2⟩ := blk3 E0
      obtain ⟨b0, b1, b2⟩ := blk3 E1
      have hl0' := blk_lt E0
      have hl1' := blk_lt E1
      rcases Decidable.em (T.size = U.size) with hzz | hzz
      rotate_left
      · have hzz' : ((T.size : Int) != (U.size : Int)) = true := by rw [bne_iff_ne]; omega
        have hfin : Hid (above T U = decide (U.size < T.size)) := by
          have e := HT.out
          have h1 := hno.out
          rw [e] at h1 hzz ⊢
          simp [above, h1, hzz, Hid]
        clear hzz
        go_wp2_with fail
        go_region_held3 (fun w' => w'.cell? ⟨w.heap.size, 0, none⟩ = some (.bool false) ∧ w'.cell? ⟨w.heap.size, 1, none⟩ = some (.int .i64 n) ∧ w'.cell? ⟨w.heap.size, 2, none⟩ = some (.slice a l.length c) ∧
                  w'.cell? ⟨w.heap.size + 1, 0, none⟩ = some (.bool vr') ∧ w'.cell? ⟨w.heap.size + 1, 1, none⟩ = some (.int .i64 n') ∧ w'.cell? ⟨w.heap.size + 1, 2, none⟩ = some (.slice a' l'.length c')) (go_keep)
          (first | (go_at_call 130; refine Calls.mono (psize_any T _ S _ ?_ (by omega)) ?_; exact RdT.same_ (HVa.out.below hbr (Nat.le_refl _)) (by rfl); rintro e w5 ⟨rfl, hb5⟩; have bc1 : ∀ b o, b < wr.heap.size → w5.cell? ⟨b, o, none⟩ = wr.cell? ⟨b, o, none⟩ := fun b o h => bc hb5 b o h; have hbww5 : Below w.heap.size w w5 := hbr.drew.trans (hb5.mono hbr.size); have hz0w5 : w.heap.size < w5.heap.size := Nat.lt_of_lt_of_le hl0' hb5.size; have hz1w5 : w.heap.size + 1 < w5.heap.size := Nat.lt_of_lt_of_le hl1' hb5.size) | (go_at_call 130; refine Calls.mono (psize_any U _ S _ ?_ (by omega)) ?_; exact HVb.out.below hbww5 (Nat.le_refl _); rintro e w6 ⟨rfl, hb6⟩; have bc2 : ∀ b o, b < w5.heap.size → w6.cell? ⟨b, o, none⟩ = w5.cell? ⟨b, o, none⟩ := fun b o h => bc hb6 b o h; have hbww6 : Below w.heap.size w w6 := hbww5.trans (hb6.mono hbww5.size); have hz0w6 : w.heap.size < w6.heap.size := Nat.lt_of_lt_of_le hz0w5 hb6.size; have hz1w6 : w.heap.size + 1 < w6.heap.size := Nat.lt_of_lt_of_le hz1w5 hb6.size))
        go_wp2_with fail
        go_ret
        rw [← HT.out, ← HU.out, hfin.out]
        refine ⟨?_, hbww6⟩
        simp
      have hzz' : ((T.size : Int) != (U.size : Int)) = false := by rw [bne_eq_false_iff_eq]; omega
      have hfin0 : Hid (above T U = if vr' then false else if n < n' then false else if n' < n then true else aboves l l') := by
        have e := HT.out
        have e' := HU.out
        have h1 := hno.out
        rw [e, e'] at h1 hzz
        rw [e, e']
        simp [above, h1, hzz, Hid]
      have HZZ := Lib.hid hzz; clear hzz
      have hfin : Hid (above ⟨false, n, l⟩ ⟨vr', n', l'⟩ = if vr' then false else if n < n' then false else if n' < n then true else aboves l l') := by
        have := hfin0.out
        rw [HT.out, HU.out] at this
        exact this
      clear hfin0
      cases vr'
      case true =>
        have hfin1 : Hid (above ⟨false, n, l⟩ ⟨true, n', l'⟩ = false) := by rw [hfin.out]; simp [Hid]
        go_wp2_with fail
        go_region_held3 (fun w' => w'.cell? ⟨w.heap.size, 0, none⟩ = some (.bool false) ∧ w'.cell? ⟨w.heap.size, 1, none⟩ = some (.int .i64 n) ∧ w'.cell? ⟨w.heap.size, 2, none⟩ = some (.slice a l.length c) ∧
                  w'.cell? ⟨w.heap.size + 1, 0, none⟩ = some (.bool true) ∧ w'.cell? ⟨w.heap.size + 1, 1, none⟩ = some (.int .i64 n') ∧ w'.cell? ⟨w.heap.size + 1, 2, none⟩ = some (.slice a' l'.length c')) (go_keep)
          (first | (go_at_call 130; refine Calls.mono (psize_any T _ S _ ?_ (by omega)) ?_; exact RdT.same_ (HVa.out.below hbr (Nat.le_refl _)) (by rfl); rintro e w5 ⟨rfl, hb5⟩; have bc1 : ∀ b o, b < wr.heap.size → w5.cell? ⟨b, o, none⟩ = wr.cell? ⟨b, o, none⟩ := fun b o h => bc hb5 b o h; have hbww5 : Below w.heap.size w w5 := hbr.drew.trans (hb5.mono hbr.size); have hz0w5 : w.heap.size < w5.heap.size := Nat.lt_of_lt_of_le hl0' hb5.size; have hz1w5 : w.heap.size + 1 < w5.heap.size := Nat.lt_of_lt_of_le hl1' hb5.size) | (go_at_call 130; refine Calls.mono (psize_any U _ S _ ?_ (by omega)) ?_; exact HVb.out.below hbww5 (Nat.le_refl _); rintro e w6 ⟨rfl, hb6⟩; have bc2 : ∀ b o, b < w5.heap.size → w6.cell? ⟨b, o, none⟩ = w5.cell? ⟨b, o, none⟩ := fun b o h => bc hb6 b o h; have hbww6 : Below w.heap.size w w6 := hbww5.trans (hb6.mono hbww5.size); have hz0w6 : w.heap.size < w6.heap.size := Nat.lt_of_lt_of_le hz0w5 hb6.size; have hz1w6 : w.heap.size + 1 < w6.heap.size := Nat.lt_of_lt_of_le hz1w5 hb6.size))
        go_wp2_with fail
        go_ret
        rw [hfin1.out]
        exact ⟨rfl, hbww6⟩
      rcases Decidable.em (n = n') with hnn | hnn
      rotate_left
      · have hnn' : ((n : Int) != n') = true := by rw [bne_iff_ne]; exact hnn
        have hfin1 : Hid (above ⟨false, n, l⟩ ⟨false, n', l'⟩ = decide (n' < n)) := by
          rw [hfin.out]
          by_cases h1 : n < n'
          · simp [h1, Hid]; omega
          · have h2 : n' < n := by omega
            simp [h1, h2, Hid]
        clear hnn
        go_wp2_with fail
        go_region_held3 (fun w' => w'.cell? ⟨w.heap.size, 0, none⟩ = some (.bool false) ∧ w'.cell? ⟨w.heap.size, 1, none⟩ = some (.int .i64 n) ∧ w'.cell? ⟨w.heap.size, 2, none⟩ = some (.slice a l.length c) ∧
                  w'.cell? ⟨w.heap.size + 1, 0, none⟩ = some (.bool false) ∧ w'.cell? ⟨w.heap.size + 1, 1, none⟩ = some (.int .i64 n') ∧ w'.cell? ⟨w.heap.size + 1, 2, none⟩ = some (.slice a' l'.length c')) (go_keep)
          (first | (go_at_call 130; refine Calls.mono (psize_any T _ S _ ?_ (by omega)) ?_; exact RdT.same_ (HVa.out.below hbr (Nat.le_refl _)) (by rfl); rintro e w5 ⟨rfl, hb5⟩; have bc1 : ∀ b o, b < wr.heap.size → w5.cell? ⟨b, o, none⟩ = wr.cell? ⟨b, o, none⟩ := fun b o h => bc hb5 b o h; have hbww5 : Below w.heap.size w w5 := hbr.drew.trans (hb5.mono hbr.size); have hz0w5 : w.heap.size < w5.heap.size := Nat.lt_of_lt_of_le hl0' hb5.size; have hz1w5 : w.heap.size + 1 < w5.heap.size := Nat.lt_of_lt_of_le hl1' hb5.size) | (go_at_call 130; refine Calls.mono (psize_any U _ S _ ?_ (by omega)) ?_; exact HVb.out.below hbww5 (Nat.le_refl _); rintro e w6 ⟨rfl, hb6⟩; have bc2 : ∀ b o, b < w5.heap.size → w6.cell? ⟨b, o, none⟩ = w5.cell? ⟨b, o, none⟩ := fun b o h => bc hb6 b o h; have hbww6 : Below w.heap.size w w6 := hbww5.trans (hb6.mono hbww5.size); have hz0w6 : w.heap.size < w6.heap.size := Nat.lt_of_lt_of_le hz0w5 hb6.size; have hz1w6 : w.heap.size + 1 < w6.heap.size := Nat.lt_of_lt_of_le hz1w5 hb6.size))
        go_wp2_with fail
        go_ret
        rw [hfin1.out]
        exact ⟨rfl, hbww6⟩
      have hnn' : ((n : Int) != n') = false := by rw [bne_eq_false_iff_eq]; exact hnn
      have hfin1 : Hid (above ⟨false, n, l⟩ ⟨false, n', l'⟩ = aboves l l') := by rw [hfin.out]; simp [hnn, Hid]
      clear hnn
      by_cases hll : l.length ≤ l'.length
      all_goals go_wp2_with fail
      all_goals go_region_held3 (fun w' => w'.cell? ⟨w.heap.size, 0, none⟩ = some (.bool false) ∧ w'.cell? ⟨w.heap.size, 1, none⟩ = some (.int .i64 n) ∧ w'.cell? ⟨w.heap.size, 2, none⟩ = some (.slice a l.length c) ∧
                w'.cell? ⟨w.heap.size + 1, 0, none⟩ = some (.bool false) ∧ w'.cell? ⟨w.heap.size + 1, 1, none⟩ = some (.int .i64 n') ∧ w'.cell? ⟨w.heap.size + 1, 2, none⟩ = some (.slice a' l'.length c')) (go_keep)
        (first | (go_at_call 130; refine Calls.mono (psize_any T _ S _ ?_ (by omega)) ?_; exact RdT.same_ (HVa.out.below hbr (Nat.le_refl _)) (by rfl); rintro e w5 ⟨rfl, hb5⟩; have bc1 : ∀ b o, b < wr.heap.size → w5.cell? ⟨b, o, none⟩ = wr.cell? ⟨b, o, none⟩ := fun b o h => bc hb5 b o h; have hbww5 : Below w.heap.size w w5 := hbr.drew.trans (hb5.mono hbr.size); have hz0w5 : w.heap.size < w5.heap.size := Nat.lt_of_lt_of_le hl0' hb5.size; have hz1w5 : w.heap.size + 1 < w5.heap.size := Nat.lt_of_lt_of_le hl1' hb5.size) | (go_at_call 130; refine Calls.mono (psize_any U _ S _ ?_ (by omega)) ?_; exact HVb.out.below hbww5 (Nat.le_refl _); rintro e w6 ⟨rfl, hb6⟩; have bc2 : ∀ b o, b < w5.heap.size → w6.cell? ⟨b, o, none⟩ = w5.cell? ⟨b, o, none⟩ := fun b o h => bc hb6 b o h; have hbww6 : Below w.heap.size w w6 := hbww5.trans (hb6.mono hbww5.size); have hz0w6 : w.heap.size < w6.heap.size := Nat.lt_of_lt_of_le hz0w5 hb6.size; have hz1w6 : w.heap.size + 1 < w6.heap.size := Nat.lt_of_lt_of_le hz1w5 hb6.size))
      all_goals go_wp2_with fail
      all_goals
        obtain ⟨wo, rfl⟩ : ∃ wo : World, wo = wr := ⟨_, rfl⟩
        go_loopw [60] (fun i wq => ∃ k : Nat, k ≤ l.length ∧ k ≤ l'.length ∧ i = .int .i64 k ∧ l.take k = l'.take k ∧ Below wo.heap.size wo wq)
          (fun i _ => l.length - (intOf i).toNat)
        case atStart => exact ⟨0, Nat.zero_le _, Nat.zero_le _, rfl, rfl, (Below.refl _ _).drew.trans (hb5.trans (hb6.mono hb5.size))⟩
        case round =>
          obtain ⟨k, hk, hk', rfl, htk, hbel'⟩ := hrel
          obtain ⟨wq, rfl⟩ : ∃ wq : World, wq = wr := ⟨_, rfl⟩
          have HTK := Lib.hid htk; clear htk
          have hbs' := hbel'.size
          have hl2 : w.heap.size < wq.heap.size := by omega
          have hl3 : w.heap.size + 1 < wq.heap.size := by omega
          obtain ⟨a0', a1', a2'⟩ := blk3 (blk_below E0 hbel' hl0')
          obtain ⟨b0', b1', b2'⟩ := blk3 (blk_below E1 hbel' hl1')
          have hbq : Below w.heap.size w wq := hbr.trans (hbel'.mono hbr.size)
          by_cases hkk : k < l.length ∧ k < l'.length
          · have hkl := hkk.1
            have hkl' := hkk.2
            obtain ⟨x, b, o, p1, pc1, hx, hSb, hbx, hix, c0, c1, c2, hxs⟩ := (HV.out.below hbq (Nat.le_refl _)).nthT slTerm hkl
            obtain ⟨y, b', o', q1, qc1, hy, hSb', hby, hiy, d0, d1, d2, hys⟩ := (HV'.out.below hbq (Nat.le_refl _)).nthT slTerm hkl'
            have HX := Lib.hid hxs; clear hxs
            have HY := Lib.hid hys; clear hys
            have hxsz : x.size ≤ 1099511627776 := by
              have h1 := sizes_take_succ l k x hx.out
              have h2 := sizes_take_le l (k + 1)
              have h3 : T.size = 1 + Tm.sizes l := by rw [HT.out]; rfl
              omega
            have hysz : y.size ≤ 1099511627776 := by
              have h1 := sizes_take_succ l' k y hy.out
              have h2 := sizes_take_le l' (k + 1)
              have h3 : U.size = 1 + Tm.sizes l' := by rw [HU.out]; rfl
              omega
            have hxok : x.okv = true := by
              have h1 := HOK.out
              rw [HT.out] at h1
              exact (Tm.okvs_iff l).1 h1 x (mem_of_get hx.out)
            have hyok : y.okv = true := by
              have h1 := HOK'.out
              rw [HU.out] at h1
              exact (Tm.okvs_iff l').1 h1 y (mem_of_get hy.out)
            cases hxy : x.same y
            · have hfin2 : Hid (aboves l l' = above x y) := aboves_at HTK.out hx.out hy.out hxy
              go_wp2_with fail
              go_region_held3 (fun w' => w'.cell? ⟨w.heap.size, 2, none⟩ = some (.slice a l.length c) ∧ w'.cell? ⟨w.heap.size + 1, 2, none⟩ = some (.slice a' l'.length c') ∧
                  w'.cell? ⟨b, o + k * 3, none⟩ = some (.bool x.var) ∧ w'.cell? ⟨b, o + k * 3 + 1, none⟩ = some (.int .i64 x.n) ∧ w'.cell? ⟨b, o + k * 3 + 2, none⟩ = some (.slice p1 x.args.length pc1) ∧
                  w'.cell? ⟨b', o' + k * 3, none⟩ = some (.bool y.var) ∧ w'.cell? ⟨b', o' + k * 3 + 1, none⟩ = some (.int .i64 y.n) ∧ w'.cell? ⟨b', o' + k * 3 + 2, none⟩ = some (.slice q1 y.args.length qc1)) (go_keep)
                ((go_at_call 82; refine Calls.mono (psame_any x y _ S _ _ (RdT.same_ ⟨p1, pc1, rfl, HX.out⟩ (by rfl)) (RdT.same_ ⟨q1, qc1, rfl, HY.out⟩ (by rfl))) ?_; rintro e w8 ⟨rfl, hb9⟩; have bc1 : ∀ b o, b < wq.heap.size → w8.cell? ⟨b, o, none⟩ = wq.cell? ⟨b, o, none⟩ := fun b o h => bc hb9 b o h; have hbww8 : Below wo.heap.size wo w8 := hbel'.drew.trans (hb9.mono hbel'.size)))
              have hz6 : wq.heap.size ≤ w8.heap.size := hb9.size
              have e0 := (bc1 _ _ hl2).trans a2'
              have e1 := (bc1 _ _ hl3).trans b2'
              have f0 := (bc1 _ _ hbx).trans c0
              have f1 := (bc1 _ _ hbx).trans c1
              have f2 := (bc1 _ _ hbx).trans c2
              have g0 := (bc1 _ _ hby).trans d0
              have g1 := (bc1 _ _ hby).trans d1
              have g2 := (bc1 _ _ hby).trans d2
              have hbx6 : b < w8.heap.size := by omega
              have hby6 : b' < w8.heap.size := by omega
              have hl26 : w.heap.size < w8.heap.size := by omega
              have hl36 : w.heap.size + 1 < w8.heap.size := by omega
              have HX6 := Lib.hid ((RdL.same_ (w' := wq.drew) HX.out rfl).below hb9 (Nat.le_refl _))
              have HY6 := Lib.hid ((RdL.same_ (w' := wq.drew) HY.out rfl).below hb9 (Nat.le_refl _))
              clear c0 c1 c2 d0 d1 d2 a0' a1' a2' b0' b1' b2' bc1
              go_wp2_with fail
              go_region_held3 (fun w' => w'.cell? ⟨w.heap.size, 2, none⟩ = some (.slice a l.length c) ∧ w'.cell? ⟨w.heap.size + 1, 2, none⟩ = some (.slice a' l'.length c') ∧
                  w'.cell? ⟨b, o + k * 3, none⟩ = some (.bool x.var) ∧ w'.cell? ⟨b, o + k * 3 + 1, none⟩ = some (.int .i64 x.n) ∧ w'.cell? ⟨b, o + k * 3 + 2, none⟩ = some (.slice p1 x.args.length pc1) ∧
                  w'.cell? ⟨b', o' + k * 3, none⟩ = some (.bool y.var) ∧ w'.cell? ⟨b', o' + k * 3 + 1, none⟩ = some (.int .i64 y.n) ∧ w'.cell? ⟨b', o' + k * 3 + 2, none⟩ = some (.slice q1 y.args.length qc1)) (go_keep)
                ((go_at_call 83; refine Calls.mono (IH.out x (mem_of_get hx.out) y _ S _ _ (RdT.same_ ⟨p1, pc1, rfl, HX6.out⟩ (by rfl)) (RdT.same_ ⟨q1, qc1, rfl, HY6.out⟩ (by rfl)) hxsz hysz hxok hyok) ?_; rintro e w9 ⟨rfl, hb10⟩; have bc1 : ∀ b o, b < w8.heap.size → w9.cell? ⟨b, o, none⟩ = w8.cell? ⟨b, o, none⟩ := fun b o h => bc hb10 b o h; have hbww9 : Below wo.heap.size wo w9 := hbww8.drew.trans (hb10.mono hbww8.size)))
              go_wp2_with fail
              go_ret
              rw [hfin1.out, hfin2.out]
              exact ⟨rfl, hbr.trans (hbww9.mono hbr.size)⟩
            · go_wp2_with fail
              go_region_held3 (fun w' => w'.cell? ⟨w.heap.size, 2, none⟩ = some (.slice a l.length c) ∧ w'.cell? ⟨w.heap.size + 1, 2, none⟩ = some (.slice a' l'.length c') ∧
                  w'.cell? ⟨b, o + k * 3, none⟩ = some (.bool x.var) ∧ w'.cell? ⟨b, o + k * 3 + 1, none⟩ = some (.int .i64 x.n) ∧ w'.cell? ⟨b, o + k * 3 + 2, none⟩ = some (.slice p1 x.args.length pc1) ∧
                  w'.cell? ⟨b', o' + k * 3, none⟩ = some (.bool y.var) ∧ w'.cell? ⟨b', o' + k * 3 + 1, none⟩ = some (.int .i64 y.n) ∧ w'.cell? ⟨b', o' + k * 3 + 2, none⟩ = some (.slice q1 y.args.length qc1)) (go_keep)
                ((go_at_call 82; refine Calls.mono (psame_any x y _ S _ _ (RdT.same_ ⟨p1, pc1, rfl, HX.out⟩ (by rfl)) (RdT.same_ ⟨q1, qc1, rfl, HY.out⟩ (by rfl))) ?_; rintro e w8 ⟨rfl, hb9⟩; have bc1 : ∀ b o, b < wq.heap.size → w8.cell? ⟨b, o, none⟩ = wq.cell? ⟨b, o, none⟩ := fun b o h => bc hb9 b o h; have hbww8 : Below wo.heap.size wo w8 := hbel'.drew.trans (hb9.mono hbel'.size)))
              go_wp2_with fail
              go_roundw
              case rel => exact ⟨k + 1, by omega, by omega, by go_num, by rw [take_succ_of hx.out, take_succ_of hy.out, HTK.out, (Tm.same_iff x y).1 hxy], hbww8⟩
              case measure => simp [intOf]; omega
          · go_wp2_with fail
            go_ret
            rw [hfin1.out, aboves_none HTK.out (by omega)]
            exact ⟨rfl, hbq⟩
    · intro x cv w4 cnt1 hwx hwc hlx hatx hrg1 hlt hg1 hs1 hen
      have hcv : cv = (times x T : Int) - times x U := by
        have h1 := HAT.out x hwx
        rw [hatx] at h1
        simpa using h1
      have HCV := Lib.hid hcv; clear hcv
      have hgw1 : w3.grownBy w4 (some w2.heap.size) := grown_trans hgw hg1
      by_cases hc0 : cv < 0
      · go_wp2_with fail
        go_ret
        have hfin : Hid (above T U = false) := by
          have h1 := (any_times (T := T) HOK'.out).2 ⟨x, by have := HCV.out; omega⟩
          have e := HT.out
          rw [e] at h1 ⊢
          simp [above, h1, Hid]
        rw [← HT.out, ← HU.out, hfin.out]
        exact ⟨rfl, b3.trans ⟨hgw1.os, hgw1.tape, hgw1.output, hgw1.size, fun k hk => hgw1.block k (by omega) (by intro e; injection e with e; omega)⟩⟩
      · go_wp2_with fail
        go_roundw
        case rel =>
          refine ⟨_, cnt1, hrg1, fun y hy h h' => ?_, hgw1⟩
          simp only [Bool.and_eq_false_iff, Bool.not_eq_false'] at h'
          rcases h' with h' | h'
          · exact HOKL.out y hy h h'
          · have : y = x := by simpa [Lit.sameKey] using h'
            subst this
            have := HCV.out; omega
        case measure => rw [hrg1.left_eq, hrg.left_eq]; exact hlt
end Go.Proofs.Ytmanhdacnkpclaa
