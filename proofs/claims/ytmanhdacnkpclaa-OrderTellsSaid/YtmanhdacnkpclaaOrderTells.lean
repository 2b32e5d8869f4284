/- OrderTells: Compare tells how any two right terms are to each other. For every input. -/
import Derived.Test.YtmanhdacnkpclaaA11
import Derived.Test.YtmanhdacnkpclaaRow
import Derived.Test.YtmanhdacnkpclaaDeep3
import Derived.Test.YtmanhdacnkpclaaReg
namespace Go.Proofs.Ytmanhdacnkpclaa
open Go.ChangeShapes Go.WideShapes Go.ChangeAt Go.RowKit

theorem right_two {s : List Int} {a b : Tm} (h : rightB s [a, b] = true) : wrongSig s = 0 ∧ wrong s a = 0 ∧ wrong s b = 0 := by
  simpa [rightB] using h

/-- the law's test: 'right' of a literal of two terms -/
theorem right2_any (s : List Int) (t u : Tm) (W : World) (S : Nat → Prop) (v : Value) (g : Nat) (a a' : Option Addr) (c c' : Nat) (hs : RdI W S s v) (ha : RdTs W S t.args (.slice a t.args.length c)) (hb : RdTs W S u.args (.slice a' u.args.length c'))
    (h : blk W g = some (.cells #[.bool t.var, .int .i64 t.n, .slice a t.args.length c, .bool u.var, .int .i64 u.n, .slice a' u.args.length c'] 26)) :
    Calls Try.prog 16 #[v, .slice (some ⟨g, 0, none⟩) 2 2] W fun e w' => e = .returned (.bool (rightB s [t, u])) ∧ Below W.heap.size W w' := by
  refine rright_any s [t, u] W (fun b => S b ∨ b = g) _ _ (hs.wide fun _ _ h => .inl h) ?_
  exact RdL.ofBlk h (rds_tms (ha.wide fun _ _ h => .inl h) (rds_tms (hb.wide fun _ _ h => .inl h) rfl)) (.inr rfl) rfl (by simp [maxLen])

set_option maxHeartbeats 800000 in
set_option maxRecDepth 100000 in
theorem orderTells_walk (s : List Int) (t u : Tm) (w : World) (S : Nat → Prop) (v0 v1 v2 : Value) (h0 : RdI w S s v0) (h1 : RdT w S t v1) (h2 : RdT w S u v2) :
    Calls Try.prog 3 #[v0, v1, v2] w fun e w' => e = .returned (.bool true) ∧ Below w.heap.size w w' := by
  obtain ⟨sa, sc, rfl, hsl, hsm⟩ := h0.form
  obtain ⟨a, c, rfl, hs⟩ := h1
  obtain ⟨a', c', rfl, hs'⟩ := h2
  have HS := Lib.hid h0; clear h0
  have HAs := Lib.hid hs
  have HBs := Lib.hid hs'
  have HA := Lib.hid (RdT.of_args hs); clear hs
  have HB := Lib.hid (RdT.of_args hs'); clear hs'
  cases hR : rightB s [t, u]
  · go_enter Try.func3, Try.ntmps3
    go_wp2_with fail
    refine wp_region_held_drew (S := fun w' => w'.cell? ⟨w.heap.size, 0, none⟩ = some (.bool t.var) ∧ w'.cell? ⟨w.heap.size, 1, none⟩ = some (.int .i64 t.n) ∧ w'.cell? ⟨w.heap.size, 2, none⟩ = some (.slice a t.args.length c) ∧
        w'.cell? ⟨w.heap.size + 1, 0, none⟩ = some (.bool u.var) ∧ w'.cell? ⟨w.heap.size + 1, 1, none⟩ = some (.int .i64 u.n) ∧ w'.cell? ⟨w.heap.size + 1, 2, none⟩ = some (.slice a' u.args.length c')) (by kernel_rfl) (by go_keep) (fun hHeld => ?_)
    (refine wpAnyH_val (i := 0) (d := some 7) (v := ?_) rfl rfl (by rfl) (by kernel_rfl) (by kernel_rfl) (by kernel_rfl) (fun _ _ _ h => h) ?_ (by assumption) ?_; rotate_left; focus ((intro w hSw; (try dsimp only at hSw); go_simp); (first | done | with_reducible rfl))); (try simp only [Act.put, List.setIfInBounds_toArray, List.set_cons_zero, List.set_cons_succ])
    (refine wpAnyH_val (i := 1) (d := some 8) (v := ?_) rfl rfl (by rfl) (by kernel_rfl) (by kernel_rfl) (by kernel_rfl) (fun _ _ _ h => h) ?_ (by assumption) ?_; rotate_left; focus ((intro w hSw; (try dsimp only at hSw); go_simp); (first | done | with_reducible rfl))); (try simp only [Act.put, List.setIfInBounds_toArray, List.set_cons_zero, List.set_cons_succ])
    (refine wpAnyH_val (i := 2) (d := some 9) (v := ?_) rfl rfl (by rfl) (by kernel_rfl) (by kernel_rfl) (by kernel_rfl) (fun _ _ _ h => h) ?_ (by assumption) ?_; rotate_left; focus ((intro w hSw; (try dsimp only at hSw); go_simp); (first | done | with_reducible rfl))); (try simp only [Act.put, List.setIfInBounds_toArray, List.set_cons_zero, List.set_cons_succ])
    (refine wpAnyH_ready (rs := [3]) (by kernel_rfl) (by simp) ?_; refine AllReadyH.cons rfl (fun K hK => ?_) AllReadyH.nil; (try simp only [List.getElem_toArray, List.getElem_cons_zero, List.getElem_cons_succ])); go_simp; (refine hK.out _ _ ?_ (fun hHeld => ?_); focus ((try dsimp only); go_keep)); clear hK K; (try simp only [Act.put, List.setIfInBounds_toArray, List.set_cons_zero, List.set_cons_succ])
    (refine wpAnyH_ready (rs := [4]) (by kernel_rfl) (by simp) ?_; refine AllReadyH.cons rfl (fun K hK => ?_) AllReadyH.nil; (try simp only [List.getElem_toArray, List.getElem_cons_zero, List.getElem_cons_succ]))
    go_simp
    go_at_call 16
    refine Calls.mono (right2_any s t u _ S _ _ a a' c c' ?_ ?_ ?_ ?_) ?_
    · exact HS.out.below (bw3 w _ _ _).drew (Nat.le_refl _)
    · exact HAs.out.below (bw3 w _ _ _).drew (Nat.le_refl _)
    · exact HBs.out.below (bw3 w _ _ _).drew (Nat.le_refl _)
    · exact blk_two
    rintro e w1 ⟨he, hb1⟩
    rw [hR] at he
    subst he
    obtain ⟨X0, X1, hbw1, hz0', hz1'⟩ := boxes3 hb1
    obtain ⟨C0, C1, C2⟩ := blk3 X0
    obtain ⟨C3, C4, C5⟩ := blk3 X1
    go_wp2_with fail
    (refine hK.out _ _ ?_ (fun hHeld => ?_); focus ((try dsimp only); go_keep)); clear hK K; (try simp only [Act.put, List.setIfInBounds_toArray, List.set_cons_zero, List.set_cons_succ])
    (refine wpAnyH_val (i := 5) (d := some 12) (v := ?_) rfl rfl (by rfl) (by kernel_rfl) (by kernel_rfl) (by kernel_rfl) (fun _ _ _ h => h) ?_ (by assumption) ?_; rotate_left; focus ((intro w hSw; (try dsimp only at hSw); go_simp); (first | done | with_reducible rfl))); (try simp only [Act.put, List.setIfInBounds_toArray, List.set_cons_zero, List.set_cons_succ])
    (refine wpAnyH_val (i := 6) (d := some 13) (v := ?_) rfl rfl (by rfl) (by kernel_rfl) (by kernel_rfl) (by kernel_rfl) (fun _ _ _ h => h) ?_ (by assumption) ?_; rotate_left; focus ((intro w hSw; (try dsimp only at hSw); go_simp); (first | done | with_reducible rfl))); (try simp only [Act.put, List.setIfInBounds_toArray, List.set_cons_zero, List.set_cons_succ])
    (refine wpAnyH_skip (i := 7) (d := some 14) rfl rfl (by rfl) (by kernel_rfl) (by kernel_rfl) (by kernel_rfl) (fun _ _ _ h => h) (by assumption) ?_); (try simp only [Act.put, List.setIfInBounds_toArray, List.set_cons_zero, List.set_cons_succ])
    (refine wpAnyH_skip (i := 8) (d := some 15) rfl rfl (by rfl) (by kernel_rfl) (by kernel_rfl) (by kernel_rfl) (fun _ _ _ h => h) (by assumption) ?_); (try simp only [Act.put, List.setIfInBounds_toArray, List.set_cons_zero, List.set_cons_succ])
    (refine wpAnyH_skip (i := 10) (d := some 17) rfl rfl (by rfl) (by kernel_rfl) (by kernel_rfl) (by kernel_rfl) (fun _ _ _ h => h) (by assumption) ?_); (try simp only [Act.put, List.setIfInBounds_toArray, List.set_cons_zero, List.set_cons_succ])
    (refine wpAnyH_skip (i := 11) (d := some 18) rfl rfl (by rfl) (by kernel_rfl) (by kernel_rfl) (by kernel_rfl) (fun _ _ _ h => h) (by assumption) ?_); (try simp only [Act.put, List.setIfInBounds_toArray, List.set_cons_zero, List.set_cons_succ])
    (refine wpAnyH_skip (i := 9) (d := some 16) rfl rfl (by rfl) (by kernel_rfl) (by kernel_rfl) (by kernel_rfl) (fun _ _ _ h => h) (by assumption) ?_); (try simp only [Act.put, List.setIfInBounds_toArray, List.set_cons_zero, List.set_cons_succ])
    (refine wpAnyH_skip (i := 12) (d := some 19) rfl rfl (by rfl) (by kernel_rfl) (by kernel_rfl) (by kernel_rfl) (fun _ _ _ h => h) (by assumption) ?_); (try simp only [Act.put, List.setIfInBounds_toArray, List.set_cons_zero, List.set_cons_succ])
    (refine wpAnyH_skip (i := 13) (d := some 20) rfl rfl (by rfl) (by kernel_rfl) (by kernel_rfl) (by kernel_rfl) (fun _ _ _ h => h) (by assumption) ?_); (try simp only [Act.put, List.setIfInBounds_toArray, List.set_cons_zero, List.set_cons_succ])
    (refine wpAnyH_val (i := 14) (d := some 21) (v := ?_) rfl rfl (by rfl) (by kernel_rfl) (by kernel_rfl) (by kernel_rfl) (fun _ _ _ h => h) ?_ (by assumption) ?_; rotate_left; focus ((intro w hSw; (try dsimp only at hSw); go_simp); (first | done | with_reducible rfl))); (try simp only [Act.put, List.setIfInBounds_toArray, List.set_cons_zero, List.set_cons_succ])
    (refine wpAnyH_val (i := 15) (d := some 6) (v := ?_) rfl rfl (by rfl) (by kernel_rfl) (by kernel_rfl) (by kernel_rfl) (fun _ _ _ h => h) ?_ (by assumption) ?_; rotate_left; focus ((intro w hSw; (try dsimp only at hSw); go_simp); (first | done | with_reducible rfl))); (try simp only [Act.put, List.setIfInBounds_toArray, List.set_cons_zero, List.set_cons_succ])
    (refine wpAnyH_done (by kernel_rfl) ?_ _)
    go_wp2_with fail
    go_ret
    exact ⟨rfl, hbw1⟩
  · obtain ⟨hsw, htw, huw⟩ := right_two hR
    obtain ⟨ht1, ht2, _⟩ := right_tm hsw htw
    obtain ⟨hu1, hu2, _⟩ := right_tm hsw huw
    have HF := Lib.hid (And.intro (And.intro ht1 ht2) (And.intro hu1 hu2))
    clear hsw htw huw ht1 ht2 hu1 hu2
    go_enter Try.func3, Try.ntmps3
    go_wp2_with fail
    go_region_held3 (fun w' => w'.cell? ⟨w.heap.size, 0, none⟩ = some (.bool t.var) ∧ w'.cell? ⟨w.heap.size, 1, none⟩ = some (.int .i64 t.n) ∧ w'.cell? ⟨w.heap.size, 2, none⟩ = some (.slice a t.args.length c) ∧
        w'.cell? ⟨w.heap.size + 1, 0, none⟩ = some (.bool u.var) ∧ w'.cell? ⟨w.heap.size + 1, 1, none⟩ = some (.int .i64 u.n) ∧ w'.cell? ⟨w.heap.size + 1, 2, none⟩ = some (.slice a' u.args.length c')) (go_keep)
      (first
       | (go_at_call 16; refine Calls.mono (right2_any s t u _ S _ _ a a' c c' ?_ ?_ ?_ ?_) ?_; (exact HS.out.below (bw3 w _ _ _).drew (Nat.le_refl _)); (exact HAs.out.below (bw3 w _ _ _).drew (Nat.le_refl _)); (exact HBs.out.below (bw3 w _ _ _).drew (Nat.le_refl _)); (exact blk_two); rintro e w1 ⟨he, hb1⟩; rw [hR] at he; subst he; obtain ⟨X0, X1, hbw1, hz0', hz1'⟩ := boxes3 hb1; obtain ⟨C0, C1, C2⟩ := blk3 X0; obtain ⟨C3, C4, C5⟩ := blk3 X1)
       | (go_at_call 17; refine Calls.mono (pcompare_any t u _ S _ _ ?_ ?_ ?_ ?_ ?_ ?_) ?_; (exact HA.out.below hbw1 (Nat.le_refl _)); (exact HB.out.below hbw1 (Nat.le_refl _)); (exact Nat.le_trans HF.out.1.1 (by decide)); (exact Nat.le_trans HF.out.2.1 (by decide)); (exact HF.out.1.2); (exact HF.out.2.2); rintro e w2 ⟨rfl, hb2⟩; have hbw2 := hbw1.trans (hb2.mono hbw1.size); have Y0 := blk_below X0 hb2 (blk_lt X0); have Y1 := blk_below X1 hb2 (blk_lt X1); obtain ⟨P0, P1, P2⟩ := blk3 Y0; obtain ⟨P3, P4, P5⟩ := blk3 Y1; have hz2 := blk_lt Y0; have hz2' := blk_lt Y1)
       | (go_at_call 18; refine Calls.mono (rcompare_any t u _ S _ _ ?_ ?_ ?_ ?_) ?_; (exact HA.out.below hbw2 (Nat.le_refl _)); (exact HB.out.below hbw2 (Nat.le_refl _)); (exact Nat.le_trans HF.out.1.1 (by decide)); (exact Nat.le_trans HF.out.2.1 (by decide)); rintro e w3 ⟨rfl, hb3⟩; have hbw3 := hbw2.trans (hb3.mono hbw2.size); have Z0 := blk_below Y0 hb3 (blk_lt Y0); have Z1 := blk_below Y1 hb3 (blk_lt Y1); obtain ⟨Q0, Q1, Q2⟩ := blk3 Z0; obtain ⟨Q3, Q4, Q5⟩ := blk3 Z1; have hz3 := blk_lt Z0; have hz3' := blk_lt Z1))
    go_wp2_with fail
    go_ret
    exact ⟨by simp, hbw3⟩
end Go.Proofs.Ytmanhdacnkpclaa
