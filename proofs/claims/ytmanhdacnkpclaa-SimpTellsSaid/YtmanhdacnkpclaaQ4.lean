/- What functions do: Down, Rewrite of the document's answer. -/
import Derived.Test.YtmanhdacnkpclaaQ1
import Derived.Test.YtmanhdacnkpclaaN2
namespace Go.Proofs.Ytmanhdacnkpclaa
set_option linter.all false
open Go.RowKit

set_option maxRecDepth 100000 in
theorem rturn (l : Lt) (b : Bool) : FnD Try.prog 102 [ltA l, bA b] (.one (ltA (turnL b l))) := by
  obtain ⟨ng, xl, xr⟩ := l
  refine Fn.of Try.func102 rfl Try.ntmps102 rfl (Nat.le_of_ble_eq_true rfl) ?_
  cases b
  · (refine wlk ?_)
    (first | (refine finR (.cellN rfl rfl (rw_of rfl) rfl rfl .nil) rfl rfl ?_) | (refine finN (.cellN rfl rfl (rw_of rfl) rfl rfl .nil) rfl rfl ?_))
    rfl
  · (refine wlk ?_)
    (first | (refine finR (.cellN rfl rfl (rw_of rfl) rfl rfl .nil) rfl rfl ?_) | (refine finN (.cellN rfl rfl (rw_of rfl) rfl rfl .nil) rfl rfl ?_))
    rfl
theorem match_more {p t : Tm} {s : List Pr} (h : moreR [] p t = (s, true)) : matchR p t = (s, true) := by unfold matchR; rw [h]
theorem match_no {p t : Tm} {s : List Pr} (h : moreR [] p t = (s, false)) : matchR p t = ([], false) := by unfold matchR; rw [h]
theorem downS_size' {S : List Int} {us : List (List Lt)} (hu : UsSz S us) {t t' : Tm} (ht : t.ar S = true) (h : downS us t = some t') : t'.ar S = true ∧ t'.size ≤ t.size := by
  obtain ⟨h1, h2, _⟩ := downS_some hu.ok ht h
  exact ⟨h1, (above_size (Tm.ar_okv _ h1) h2).1⟩
set_option maxHeartbeats 40000000 in
set_option maxRecDepth 100000 in
theorem rDownF {S : List Int} {us : List (List Lt)} (hu : UsSz S us) : ∀ (f : Nat) (t r : Tm), t.ar S = true → t.size ≤ 12 → downF us f t = some r → FnD Try.prog 67 [tA t, lA Cl.d us] (.one (tA r))
  | 0, t, r, _, _, hd => by simp [downF] at hd
  | f + 1, t, r, ht, hz, hd => by
    have ih := rDownF hu f
    refine Fn.of Try.func67 rfl Try.ntmps67 rfl (Nat.le_of_ble_eq_true rfl) ?_
    have hpl := rplaces t (by omega)
    have hkp := places_len t
    have hdS : downS us t = downP us t (places t) := rfl
    refine dwp_len (t := 1) (ds := us.map Cl.d) rfl fun hbl => ?_
    rw [List.length_map] at hbl
    (refine wlk ?_)
    (refine SqA.b1 (op_call none rfl rfl rfl (by kernel_rfl) (FnD.use (hpl)) rfl rfl rfl rfl rfl rfl) rfl rfl ?_)
    (refine wlk ?_)
    refine dwp_loop (fun k : Nat => [(.t 1, some (.one (lA Cl.d us))), (.t 2, some (.one (.c (.ptr 2 0)))), (.b 2, some (.box (tA t).cells)), (.t 4, some (.one (.c (.ptr 4 0)))), (.b 4, some (.box [.val (.bool false), .val (.int .i64 0), .val (.slice none 0 0)])),
        (.t 17, some (.one (lA Is.d (places t)))), (.t 18, some (.one (iA (places t).length))), (.t 19, some (.one (iA k)))])
      (fun k => k ≤ (places t).length ∧ ∀ j p, j < k → (places t)[j]? = some p → down1 us (at_ t p).1 = none) (fun k => (places t).length - k) 0 ⟨by omega, fun j x h => absurd h (by omega)⟩ fgs ?_
    rintro k ⟨hk, hno⟩
    by_cases hkl : k < (places t).length
    rotate_left
    · have : k = (places t).length := by omega
      subst this
      have hds : downS us t = none := downP_none.2 fun p hp => any_upto hno p hp
      have hr : t = r := by simpa [downF, hds] using hd
      subst hr
      (refine wlk ?_)
      (first | (refine finR (.cellN rfl rfl (rw_of rfl) rfl rfl .nil) rfl rfl ?_) | (refine finN (.cellN rfl rfl (rw_of rfl) rfl rfl .nil) rfl rfl ?_))
      rfl
    obtain ⟨p, hx⟩ := get_of_lt hkl
    have hp := List.mem_of_getElem? hx
    have hat := at_ar (S := S) p t ht hp
    have haz := at_size p t hp
    have hpd := places_deep t p hp
    have g1 := rat p t (by omega)
    have hak := Tm.ar_okv _ hat
    have hput : ∀ q, down1 us (at_ t p).1 = some q → ∃ t', t' = put t p q ∧ t'.ar S = true ∧ t'.size ≤ 12 ∧ downF us f t' = some r := fun q hq => by
      have hds : downS us t = some (put t p q) := downP_hit hno hx hq
      obtain ⟨h1, h2⟩ := downS_size' hu ht hds
      exact ⟨_, rfl, h1, by omega, by simpa [downF, hds] using hd⟩
    generalize hga : (at_ t p).1 = a at *
    (refine wlk ?_)
    (refine SqA.b1 (op_call none rfl rfl rfl (by kernel_rfl) (FnD.use (g1)) rfl rfl rfl rfl rfl rfl) rfl rfl ?_)
    (refine wlk ?_)
    refine dwp_loop (fun i : Nat => [(.t 1, some (.one (lA Cl.d us))), (.t 2, some (.one (.c (.ptr 2 0)))), (.b 2, some (.box (tA t).cells)), (.t 4, some (.one (.c (.ptr 4 0)))), (.b 4, some (.box [.val (.bool false), .val (.int .i64 0), .val (.slice none 0 0)])),
        (.t 6, some (.one (lA Int.d p))), (.t 7, some (.one (.c (.ptr 7 0)))), (.b 7, some (.box (tA a).cells)), (.t 17, some (.one (lA Is.d (places t)))), (.t 18, some (.one (iA (places t).length))), (.t 19, some (.one (iA k))),
        (.t 29, some (.one (lA Cl.d us))), (.t 30, some (.one (iA us.length))), (.t 31, some (.one (iA i)))])
      (fun i => i ≤ us.length ∧ ∀ j x, j < i → us[j]? = some x → firstS (try1 a) (wayOf x) = none) (fun i => us.length - i) 0 ⟨by omega, fun j x h => absurd h (by omega)⟩ fgs ?_
    rintro i ⟨hi, hni⟩
    by_cases hil : i < us.length
    rotate_left
    · have : i = us.length := by omega
      subst this
      have hr : down1 us a = none := firstS_none.2 fun x hx => any_upto hni x hx
      (refine wlk ?_)
      exact ⟨k + 1, ⟨by omega, upto_succ hno hx (by rw [hga]; exact hr)⟩, fgs, by omega⟩
    obtain ⟨u, hux⟩ := get_of_lt hil
    obtain ⟨⟨ng, xl, xr⟩, rfl, hng, hwf, hsz⟩ := hu.one (List.mem_of_getElem? hux)
    dsimp only at hng hwf hsz
    subst hng
    have h0 : [(⟨false, xl, xr⟩ : Lt)][0]? = some ⟨false, xl, xr⟩ := rfl
    have hwo : wayOf [(⟨false, xl, xr⟩ : Lt)] = [(xl, xr), (xr, xl)] := rfl
    (refine wlk ?_)
    refine dwp_loop (fun j : Nat => [(.t 1, some (.one (lA Cl.d us))), (.t 2, some (.one (.c (.ptr 2 0)))), (.b 2, some (.box (tA t).cells)), (.t 4, some (.one (.c (.ptr 4 0)))), (.b 4, some (.box [.val (.bool false), .val (.int .i64 0), .val (.slice none 0 0)])),
        (.t 6, some (.one (lA Int.d p))), (.t 7, some (.one (.c (.ptr 7 0)))), (.b 7, some (.box (tA a).cells)), (.t 10, some (.one (lA Lt.d [(⟨false, xl, xr⟩ : Lt)]))), (.t 17, some (.one (lA Is.d (places t)))), (.t 18, some (.one (iA (places t).length))), (.t 19, some (.one (iA k))),
        (.t 29, some (.one (lA Cl.d us))), (.t 30, some (.one (iA us.length))), (.t 31, some (.one (iA i))), (.t 35, some (.one (iA j)))])
      (fun j => j ≤ 2 ∧ ∀ i w, i < j → [((xl, xr) : Tm × Tm), (xr, xl)][i]? = some w → try1 a w = none) (fun j => 2 - j) 0 ⟨by omega, fun j x h => absurd h (by omega)⟩ fgs ?_
    rintro j ⟨hj, hnj⟩
    by_cases hj2 : j < 2
    rotate_left
    · have : j = 2 := by omega
      subst this
      have hwn : firstS (try1 a) (wayOf [(⟨false, xl, xr⟩ : Lt)]) = none := by
        rw [hwo]; exact firstS_none.2 fun w hw => any_upto (l := [((xl, xr) : Tm × Tm), (xr, xl)]) hnj w hw
      (refine wlk ?_)
      exact ⟨i + 1, ⟨by omega, upto_succ hni hux hwn⟩, fgs, by omega⟩
    obtain ⟨wa, wb, bb, hw, hbj, htn, ha, hb, haz2, hbz⟩ : ∃ (wa wb : Tm) (bb : Bool), [((xl, xr) : Tm × Tm), (xr, xl)][j]? = some (wa, wb) ∧ decide ((j : Int) = 1) = bb ∧ turnL bb ⟨false, xl, xr⟩ = ⟨false, wa, wb⟩ ∧ wa.wf S = true ∧ wb.wf S = true ∧ wa.size ≤ 12 ∧ wb.size ≤ 12 := by
      rcases (show j = 0 ∨ j = 1 by omega) with rfl | rfl
      · exact ⟨xl, xr, false, rfl, rfl, rfl, hwf.1, hwf.2, hsz.1, hsz.2⟩
      · exact ⟨xr, xl, true, rfl, rfl, rfl, hwf.2, hwf.1, hsz.2, hsz.1⟩
    have g2 := rturn ⟨false, xl, xr⟩ bb
    rw [htn] at g2
    have g3 := FnD.nil (rmore wa a [] (by simp; omega)) 0 rfl
    have g4 := FnD.nil (rvars wa [] (by simp; omega)) 0 rfl
    have hvl := vars_len [] wa
    have g5 := rvars wb (vars [] wa) (by simp at hvl; omega)
    have hvn := vars_new (Tm.wf_okv wb hb) (vars [] wa)
    have hbj2 : ((j : Int) = 1) ↔ bb = true := by rw [← hbj, decide_eq_true_eq]
    cases hm : moreR [] wa a with
    | mk s ok =>
      rw [hm] at g3
      cases ok
      · have htry : try1 a (wa, wb) = none := try1_of_no (w := (wa, wb)) (match_no hm)
        cases bb
        · have hj0 : ¬ ((j : Int) = 1) := by simpa using hbj2
          (refine wlk ?_)
          (refine SqA.b1 (op_call none rfl rfl rfl (by kernel_rfl) (FnD.use (g2)) rfl rfl rfl rfl rfl rfl) rfl rfl ?_)
          (refine wlk ?_)
          (refine SqA.b1 (op_call none rfl rfl rfl (by kernel_rfl) (FnD.use (g3)) rfl rfl rfl rfl rfl rfl) rfl rfl ?_)
          (refine wlk ?_)
          exact ⟨j + 1, ⟨by omega, upto_succ hnj hw htry⟩, fgs, by omega⟩
        · have hj0 : ((j : Int) = 1) := by simpa using hbj2
          (refine wlk ?_)
          (refine SqA.b1 (op_call none rfl rfl rfl (by kernel_rfl) (FnD.use (g2)) rfl rfl rfl rfl rfl rfl) rfl rfl ?_)
          (refine wlk ?_)
          (refine SqA.b1 (op_call none rfl rfl rfl (by kernel_rfl) (FnD.use (g3)) rfl rfl rfl rfl rfl rfl) rfl rfl ?_)
          (refine wlk ?_)
          exact ⟨j + 1, ⟨by omega, upto_succ hnj hw htry⟩, fgs, by omega⟩
      · have hmm := match_more hm
        have hsa : subAr S s := by have := matchR_ar (p := wa) hat; rw [hmm] at this; exact this
        have hss : ∀ q ∈ s, q.2.size ≤ 12 := by have := matchR_size (M := 12) (p := wa) (t := a) (by omega); rw [hmm] at this; exact this
        have hrz := app_small hss (Tm.wf_okv wb hb) hbz
        have hra : (app s wb).ar S = true := app_ar hsa wb (Tm.wf_ar wb hb)
        have hsl : s.length ≤ 12 := by have := moreR_len wa [] a; rw [hm] at this; simp at this; omega
        have g6 := ap s (by omega) wb (by omega)
        have g7 := rabove a (app s wb) (by omega) (by omega)
        have htry := try1_of_match (w := (wa, wb)) hmm
        dsimp only at htry
        cases hany : ((vars [] wb).any fun v => !(vars [] wa).contains v)
        rotate_left
        · rw [hany] at hvn htry
          rw [if_pos rfl] at htry
          have hgt := of_decide_eq_true hvn
          cases bb
          · have hj0 : ¬ ((j : Int) = 1) := by simpa using hbj2
            (refine wlk ?_)
            (refine SqA.b1 (op_call none rfl rfl rfl (by kernel_rfl) (FnD.use (g2)) rfl rfl rfl rfl rfl rfl) rfl rfl ?_)
            (refine wlk ?_)
            (refine SqA.b1 (op_call none rfl rfl rfl (by kernel_rfl) (FnD.use (g3)) rfl rfl rfl rfl rfl rfl) rfl rfl ?_)
            (refine wlk ?_)
            (refine SqA.b1 (op_call none rfl rfl rfl (by kernel_rfl) (FnD.use (g4)) rfl rfl rfl rfl rfl rfl) rfl rfl ?_)
            (refine wlk ?_)
            (refine SqA.b1 (op_call none rfl rfl rfl (by kernel_rfl) (FnD.use (g5)) rfl rfl rfl rfl rfl rfl) rfl rfl ?_)
            (refine wlk ?_)
            (refine SqA.b1 (op_call none rfl rfl rfl (by kernel_rfl) (FnD.use (g4)) rfl rfl rfl rfl rfl rfl) rfl rfl ?_)
            (refine wlk ?_)
            exact ⟨j + 1, ⟨by omega, upto_succ hnj hw htry⟩, fgs, by omega⟩
          · have hj0 : ((j : Int) = 1) := by simpa using hbj2
            (refine wlk ?_)
            (refine SqA.b1 (op_call none rfl rfl rfl (by kernel_rfl) (FnD.use (g2)) rfl rfl rfl rfl rfl rfl) rfl rfl ?_)
            (refine wlk ?_)
            (refine SqA.b1 (op_call none rfl rfl rfl (by kernel_rfl) (FnD.use (g3)) rfl rfl rfl rfl rfl rfl) rfl rfl ?_)
            (refine wlk ?_)
            (refine SqA.b1 (op_call none rfl rfl rfl (by kernel_rfl) (FnD.use (g4)) rfl rfl rfl rfl rfl rfl) rfl rfl ?_)
            (refine wlk ?_)
            (refine SqA.b1 (op_call none rfl rfl rfl (by kernel_rfl) (FnD.use (g5)) rfl rfl rfl rfl rfl rfl) rfl rfl ?_)
            (refine wlk ?_)
            (refine SqA.b1 (op_call none rfl rfl rfl (by kernel_rfl) (FnD.use (g4)) rfl rfl rfl rfl rfl rfl) rfl rfl ?_)
            (refine wlk ?_)
            exact ⟨j + 1, ⟨by omega, upto_succ hnj hw htry⟩, fgs, by omega⟩
        rw [hany] at hvn htry
        rw [if_neg (by simp)] at htry
        have hgt := of_decide_eq_false hvn
        cases hab : above a (app s wb)
        · rw [hab] at g7 htry
          rw [if_neg (by simp)] at htry
          cases bb
          · have hj0 : ¬ ((j : Int) = 1) := by simpa using hbj2
            (refine wlk ?_)
            (refine SqA.b1 (op_call none rfl rfl rfl (by kernel_rfl) (FnD.use (g2)) rfl rfl rfl rfl rfl rfl) rfl rfl ?_)
            (refine wlk ?_)
            (refine SqA.b1 (op_call none rfl rfl rfl (by kernel_rfl) (FnD.use (g3)) rfl rfl rfl rfl rfl rfl) rfl rfl ?_)
            (refine wlk ?_)
            (refine SqA.b1 (op_call none rfl rfl rfl (by kernel_rfl) (FnD.use (g4)) rfl rfl rfl rfl rfl rfl) rfl rfl ?_)
            (refine wlk ?_)
            (refine SqA.b1 (op_call none rfl rfl rfl (by kernel_rfl) (FnD.use (g5)) rfl rfl rfl rfl rfl rfl) rfl rfl ?_)
            (refine wlk ?_)
            (refine SqA.b1 (op_call none rfl rfl rfl (by kernel_rfl) (FnD.use (g4)) rfl rfl rfl rfl rfl rfl) rfl rfl ?_)
            (refine wlk ?_)
            (refine SqA.b1 (op_call none rfl rfl rfl (by kernel_rfl) (FnD.use (g6)) rfl rfl rfl rfl rfl rfl) rfl rfl ?_)
            (refine wlk ?_)
            (refine SqA.b1 (op_call none rfl rfl rfl (by kernel_rfl) (FnD.use (g7)) rfl rfl rfl rfl rfl rfl) rfl rfl ?_)
            (refine wlk ?_)
            exact ⟨j + 1, ⟨by omega, upto_succ hnj hw htry⟩, fgs, by omega⟩
          · have hj0 : ((j : Int) = 1) := by simpa using hbj2
            (refine wlk ?_)
            (refine SqA.b1 (op_call none rfl rfl rfl (by kernel_rfl) (FnD.use (g2)) rfl rfl rfl rfl rfl rfl) rfl rfl ?_)
            (refine wlk ?_)
            (refine SqA.b1 (op_call none rfl rfl rfl (by kernel_rfl) (FnD.use (g3)) rfl rfl rfl rfl rfl rfl) rfl rfl ?_)
            (refine wlk ?_)
            (refine SqA.b1 (op_call none rfl rfl rfl (by kernel_rfl) (FnD.use (g4)) rfl rfl rfl rfl rfl rfl) rfl rfl ?_)
            (refine wlk ?_)
            (refine SqA.b1 (op_call none rfl rfl rfl (by kernel_rfl) (FnD.use (g5)) rfl rfl rfl rfl rfl rfl) rfl rfl ?_)
            (refine wlk ?_)
            (refine SqA.b1 (op_call none rfl rfl rfl (by kernel_rfl) (FnD.use (g4)) rfl rfl rfl rfl rfl rfl) rfl rfl ?_)
            (refine wlk ?_)
            (refine SqA.b1 (op_call none rfl rfl rfl (by kernel_rfl) (FnD.use (g6)) rfl rfl rfl rfl rfl rfl) rfl rfl ?_)
            (refine wlk ?_)
            (refine SqA.b1 (op_call none rfl rfl rfl (by kernel_rfl) (FnD.use (g7)) rfl rfl rfl rfl rfl rfl) rfl rfl ?_)
            (refine wlk ?_)
            exact ⟨j + 1, ⟨by omega, upto_succ hnj hw htry⟩, fgs, by omega⟩
        · rw [hab] at g7 htry
          rw [if_pos rfl] at htry
          have hd1 := down1_step hni hux (firstS_hit (f := try1 a) hnj hw htry)
          obtain ⟨t', ht', h1, h2, h3⟩ := hput _ hd1
          have g8 := rput (app s wb) p t (by omega)
          rw [← ht'] at g8
          have g9 := ih t' r h1 h2 h3
          cases bb
          · have hj0 : ¬ ((j : Int) = 1) := by simpa using hbj2
            (refine wlk ?_)
            (refine SqA.b1 (op_call none rfl rfl rfl (by kernel_rfl) (FnD.use (g2)) rfl rfl rfl rfl rfl rfl) rfl rfl ?_)
            (refine wlk ?_)
            (refine SqA.b1 (op_call none rfl rfl rfl (by kernel_rfl) (FnD.use (g3)) rfl rfl rfl rfl rfl rfl) rfl rfl ?_)
            (refine wlk ?_)
            (refine SqA.b1 (op_call none rfl rfl rfl (by kernel_rfl) (FnD.use (g4)) rfl rfl rfl rfl rfl rfl) rfl rfl ?_)
            (refine wlk ?_)
            (refine SqA.b1 (op_call none rfl rfl rfl (by kernel_rfl) (FnD.use (g5)) rfl rfl rfl rfl rfl rfl) rfl rfl ?_)
            (refine wlk ?_)
            (refine SqA.b1 (op_call none rfl rfl rfl (by kernel_rfl) (FnD.use (g4)) rfl rfl rfl rfl rfl rfl) rfl rfl ?_)
            (refine wlk ?_)
            (refine SqA.b1 (op_call none rfl rfl rfl (by kernel_rfl) (FnD.use (g6)) rfl rfl rfl rfl rfl rfl) rfl rfl ?_)
            (refine wlk ?_)
            (refine SqA.b1 (op_call none rfl rfl rfl (by kernel_rfl) (FnD.use (g7)) rfl rfl rfl rfl rfl rfl) rfl rfl ?_)
            (refine wlk ?_)
            (refine SqA.b1 (op_call none rfl rfl rfl (by kernel_rfl) (FnD.use (g8)) rfl rfl rfl rfl rfl rfl) rfl rfl ?_)
            (refine wlk ?_)
            (refine SqA.b1 (op_call none rfl rfl rfl (by kernel_rfl) (FnD.use (g9)) rfl rfl rfl rfl rfl rfl) rfl rfl ?_)
            (refine wlk ?_)
            (first | (refine finR (.cellN rfl rfl (rw_of rfl) rfl rfl .nil) rfl rfl ?_) | (refine finN (.cellN rfl rfl (rw_of rfl) rfl rfl .nil) rfl rfl ?_))
            rfl
          · have hj0 : ((j : Int) = 1) := by simpa using hbj2
            (refine wlk ?_)
            (refine SqA.b1 (op_call none rfl rfl rfl (by kernel_rfl) (FnD.use (g2)) rfl rfl rfl rfl rfl rfl) rfl rfl ?_)
            (refine wlk ?_)
            (refine SqA.b1 (op_call none rfl rfl rfl (by kernel_rfl) (FnD.use (g3)) rfl rfl rfl rfl rfl rfl) rfl rfl ?_)
            (refine wlk ?_)
            (refine SqA.b1 (op_call none rfl rfl rfl (by kernel_rfl) (FnD.use (g4)) rfl rfl rfl rfl rfl rfl) rfl rfl ?_)
            (refine wlk ?_)
            (refine SqA.b1 (op_call none rfl rfl rfl (by kernel_rfl) (FnD.use (g5)) rfl rfl rfl rfl rfl rfl) rfl rfl ?_)
            (refine wlk ?_)
            (refine SqA.b1 (op_call none rfl rfl rfl (by kernel_rfl) (FnD.use (g4)) rfl rfl rfl rfl rfl rfl) rfl rfl ?_)
            (refine wlk ?_)
            (refine SqA.b1 (op_call none rfl rfl rfl (by kernel_rfl) (FnD.use (g6)) rfl rfl rfl rfl rfl rfl) rfl rfl ?_)
            (refine wlk ?_)
            (refine SqA.b1 (op_call none rfl rfl rfl (by kernel_rfl) (FnD.use (g7)) rfl rfl rfl rfl rfl rfl) rfl rfl ?_)
            (refine wlk ?_)
            (refine SqA.b1 (op_call none rfl rfl rfl (by kernel_rfl) (FnD.use (g8)) rfl rfl rfl rfl rfl rfl) rfl rfl ?_)
            (refine wlk ?_)
            (refine SqA.b1 (op_call none rfl rfl rfl (by kernel_rfl) (FnD.use (g9)) rfl rfl rfl rfl rfl rfl) rfl rfl ?_)
            (refine wlk ?_)
            (first | (refine finR (.cellN rfl rfl (rw_of rfl) rfl rfl .nil) rfl rfl ?_) | (refine finN (.cellN rfl rfl (rw_of rfl) rfl rfl .nil) rfl rfl ?_))
            rfl
theorem rDown {S : List Int} {us : List (List Lt)} (hu : UsSz S us) (t : Tm) (ht : t.ar S = true) (hz : t.size ≤ 12) : FnD Try.prog 67 [tA t, lA Cl.d us] (.one (tA (dn us t))) := by
  obtain ⟨f0, hf0⟩ := (dn_downs hu.ok ht).steps
  exact rDownF hu f0 t _ ht hz hf0
set_option maxRecDepth 100000 in
theorem rRewrite1 {S : List Int} {us : List (List Lt)} (hu : UsSz S us) (t : Tm) (ht : t.ar S = true) (hz : t.size ≤ 12) : FnD Try.prog 107 [tA t, .c (.fp [.arr (us.map Cl.d)])] (.one (tA (dn us t))) := by
  refine Fn.of Try.func107 rfl Try.ntmps107 rfl (Nat.le_of_ble_eq_true rfl) ?_
  (refine wlk ?_)
  (refine SqA.b1 (op_call none rfl rfl rfl (by kernel_rfl) (FnD.use (rDown hu t ht hz)) rfl rfl rfl rfl rfl rfl) rfl rfl ?_)
  (refine wlk ?_)
  (first | (refine finR (.cellN rfl rfl (rw_of rfl) rfl rfl .nil) rfl rfl ?_) | (refine finN (.cellN rfl rfl (rw_of rfl) rfl rfl .nil) rfl rfl ?_))
  rfl
theorem dn_small' {S : List Int} {us : List (List Lt)} (hu : UsSz S us) {c : List Lt} (hc : COk S c) : clSz (each (dn us) c) := fun l hl => by
  simp only [each, List.mem_map] at hl
  obtain ⟨x, hx, rfl⟩ := hl
  have h1 := (dn_wf hu.ok (hc.wf x hx).1).2
  have h2 := (dn_wf hu.ok (hc.wf x hx).2).2
  have := hc.size x hx
  dsimp only
  omega
set_option maxRecDepth 100000 in
theorem rRewrite {S : List Int} {us : List (List Lt)} (hu : UsSz S us) (c : List Lt) (hc : COk S c) : FnD Try.prog 69 [lA Lt.d c, lA Cl.d us] (.tup [lA Lt.d (rewr us c).1, iA (rewr us c).2]) := by
  have hw := dn_cl hu.ok hc.wf
  have hn := rnorm (each (dn us) c) hw.okv hw.few (dn_small' hu hc) (by rw [each_len]; have := hc.len; omega)
  have hcl := hc.len
  have he := rEach1 107 [.arr (us.map Cl.d)] (dn us) (by kernel_rfl) c (by omega) fun x hx => by
    have h1 := hc.wf x hx
    have h2 := hc.size x hx
    exact ⟨rRewrite1 hu x.left (Tm.wf_ar _ h1.1) h2.1, rRewrite1 hu x.right (Tm.wf_ar _ h1.2) h2.2⟩
  refine Fn.of Try.func69 rfl Try.ntmps69 rfl (Nat.le_of_ble_eq_true rfl) ?_
  ((with_reducible refine id_dwp ?_); (with_reducible refine dwp_seq ?_); (with_reducible refine id_dwp ?_); (with_reducible refine id_reg ?_); (refine dwp_reg rfl ?_); (repeat ((with_reducible refine id_sq ?_); (first | ((with_reducible refine id_bin (b := .add) ?_); first | (refine SqA.b1 (op_bin rfl rfl rfl rfl (by first | exact bin_add rfl (by omega) | exact bin_catS (by first | assumption | rfl) (by (try simp only [List.length_append, List.length_cons, List.length_nil, List.length_drop, List.length_take]); omega) | exact bin_addw | exact bin_addK (by first | assumption | rfl))) rfl rfl ?_) | (refine SqA.noG1 rfl rfl ?_)) | ((with_reducible refine id_bin (b := .sub) ?_); first | (refine SqA.b1 (op_bin rfl rfl rfl rfl (by first | exact bin_sub rfl (by omega) | exact bin_subK (by first | assumption | rfl))) rfl rfl ?_) | (refine SqA.noG1 rfl rfl ?_)) | ((with_reducible refine id_bin (t := 9) ?_); first | (refine SqA.b1 (op_bin rfl rfl rfl rfl (by first | exact bin_eqS (by first | assumption | rfl) | exact bin_neS (by first | exact congrArg Bool.not (by assumption) | rfl))) rfl rfl ?_) | (refine SqA.a1 TB rfl rfl rfl ?_) | (refine SqA.noG1 rfl rfl ?_)) | ((with_reducible refine id_bin (b := .mul) ?_); first | (refine SqA.b1 (op_bin rfl rfl rfl rfl (by exact bin_mul rfl (by omega))) rfl rfl ?_) | (refine SqA.noG1 rfl rfl ?_)) | ((with_reducible refine id_bin (b := .quo) ?_); first | (refine SqA.b1 (op_bin rfl rfl rfl rfl (bin_quo (by omega) (by omega) (by omega) (by first | assumption | rfl))) rfl rfl ?_) | (refine SqA.noG1 rfl rfl ?_)) | ((with_reducible refine id_bin (b := .rem) ?_); first | (refine SqA.b1 (op_bin rfl rfl rfl rfl (bin_rem (by omega) (by omega) (by first | assumption | rfl))) rfl rfl ?_) | (refine SqA.noG1 rfl rfl ?_)) | ((with_reducible refine id_bin (t := 4) ?_); first | (refine SqA.b1 (op_bin rfl rfl rfl rfl (by first | exact bin_eqlB (by assumption) | exact bin_neqB (by assumption))) rfl rfl ?_) | (refine SqA.a1 TB rfl rfl rfl ?_) | (refine SqA.noG1 rfl rfl ?_)) | ((with_reducible refine id_bin ?_); first | (refine SqA.b1 (op_cmp rfl rfl rfl rfl rfl (by first | exact cmpT (by simp only [cmpP]; assumption) | exact cmpF (by simp only [cmpP]; assumption) | exact cmpT (by simp only [cmpP]; first | done | omega) | exact cmpF (by simp only [cmpP]; first | done | omega) | exact cmpD)) rfl rfl ?_) | (refine SqA.a1 TB rfl rfl rfl ?_) | (refine SqA.b1 (op_neq3 rfl rfl rfl rfl (by first | assumption | rfl)) rfl rfl ?_) | (refine SqA.b1 (op_eql3 rfl rfl rfl rfl (by first | assumption | rfl)) rfl rfl ?_) | (refine SqA.noG1 rfl rfl ?_)) | ((with_reducible refine id_callb (b := .len) ?_); first | (refine SqA.b1 (op_lenT (T := TB) rfl rfl rfl rfl) rfl rfl ?_) | (refine SqA.b1 (op_lenOT (T := TB) rfl rfl rfl rfl) rfl rfl ?_) | (refine SqA.b1 (op_lenNT (T := TB) rfl rfl rfl rfl) rfl rfl ?_) | (refine SqA.b1 (op_lenStr rfl rfl rfl) rfl rfl ?_) | (refine SqA.b1 (op_lenSlT (T := TB) rfl rfl rfl rfl) rfl rfl ?_) | (refine SqA.noG1 rfl rfl ?_)) | ((with_reducible refine id_callb (b := .append) ?_); first | (refine SqA.b2 (op_appT (T := TB) rfl rfl rfl rfl rfl (by first | assumption | rfl) (by (try simp only [List.length_map, List.length_append, List.length_cons, List.length_nil, List.length_take]); omega) (by decide)) rfl rfl ?_) | (refine SqA.b1 (op_app0T (T := TB) rfl rfl rfl rfl rfl (by (try simp only [List.length_map, List.length_append, List.length_cons, List.length_nil, List.length_take]); omega) (by decide)) rfl rfl ?_) | (refine SqA.b1 (op_appFullT (T := TB) rfl rfl rfl rfl rfl (by first | assumption | rfl) (by (try simp only [List.length_map, List.length_append, List.length_cons, List.length_nil, List.length_take]); omega) (by decide) (Nat.succ_pos _)) rfl rfl ?_) | (refine SqA.noG1 rfl rfl ?_)) | ((with_reducible refine id_callb (b := .min) ?_); first | (refine SqA.b1 (op_min rfl rfl rfl rfl (by first | exact if_pos (by omega) | exact if_neg (by omega) | rfl)) rfl rfl ?_) | (refine SqA.noG1 rfl rfl ?_)) | ((with_reducible refine id_callb (b := .max) ?_); first | (refine SqA.b1 (op_max rfl rfl rfl rfl (by first | exact if_pos (by omega) | exact if_neg (by omega) | rfl)) rfl rfl ?_) | (refine SqA.noG1 rfl rfl ?_)) | ((with_reducible refine id_idx ?_); first | (refine SqA.b1 (op_idxT (T := TB) rfl rfl rfl rfl rfl (by assumption) (by first | rfl | omega)) rfl rfl ?_) | (refine SqA.b1 (op_idx3 rfl rfl rfl rfl (by first | rfl | omega) (by omega)) rfl rfl ?_) | (refine SqA.b1 (op_idxSlT (T := TB) rfl rfl rfl rfl rfl (by first | rfl | omega) (by omega) rfl) rfl rfl ?_) | (refine SqA.b1 (op_idx2 rfl rfl rfl rfl (k := 0) rfl (by omega)) rfl rfl ?_) | (refine SqA.b1 (op_idx2 rfl rfl rfl rfl (k := 1) rfl (by omega)) rfl rfl ?_) | (refine SqA.noG1 rfl rfl ?_)) | ((with_reducible refine id_index ?_); first | (refine SqA.b1 (op_index3 rfl rfl rfl rfl (by first | rfl | omega) (by omega) (by first | assumption | rfl) rfl) rfl rfl ?_) | (refine SqA.b1 (op_idxS rfl rfl rfl rfl (by assumption) (by first | rfl | omega)) rfl rfl ?_) | (refine SqA.noG1 rfl rfl ?_)) | ((with_reducible refine id_slice ?_); first | (refine SqA.b1 (op_sliceLoT (T := TB) rfl rfl rfl rfl rfl (by first | decide | omega) (by first | decide | (simp only [List.length_cons, Int.toNat_one]; omega) | omega)) rfl rfl ?_) | (refine SqA.b1 (op_slice3T (T := TB) rfl rfl rfl rfl rfl rfl rfl (by (try simp only [List.length_cons, List.length_nil, List.length_drop, List.length_take, List.length_append]); omega)) rfl rfl ?_) | (refine SqA.b1 (op_slS1 rfl rfl rfl rfl (by first | rfl | omega) (by (try simp only [List.length_cons, List.length_nil, List.length_drop, List.length_take, List.length_append]); omega) (by first | assumption | rfl)) rfl rfl ?_) | (refine SqA.b1 (op_slS2 rfl rfl rfl rfl rfl (by first | rfl | omega) (by first | rfl | omega) (by (try simp only [List.length_cons, List.length_nil, List.length_drop, List.length_take, List.length_append]); omega) (by (try simp only [List.length_cons, List.length_nil, List.length_drop, List.length_take, List.length_append]); omega) (by first | assumption | rfl)) rfl rfl ?_) | (refine SqA.b1 (op_slS0 rfl rfl rfl rfl (by first | rfl | omega) (by (try simp only [List.length_cons, List.length_nil, List.length_drop, List.length_take, List.length_append]); omega) (by first | assumption | rfl)) rfl rfl ?_) | (refine SqA.noG1 rfl rfl ?_)) | ((with_reducible refine id_load ?_); first | (refine SqA.a1 TB rfl rfl rfl ?_) | (refine SqA.a2 TB rfl rfl rfl ?_) | (refine SqA.b1 (op_loadK rfl rfl (rw_of rfl) rfl rfl rfl rfl) rfl rfl ?_) | (refine SqA.b1 (op_load1B rfl rfl (rw_of rfl) rfl rfl (by assumption) rfl rfl) rfl rfl ?_) | (refine SqA.b1 (op_load1I rfl rfl (rw_of rfl) rfl rfl rfl) rfl rfl ?_) | (refine SqA.b1 (op_loadNI rfl rfl (rw_of rfl) rfl rfl rfl rfl rfl) rfl rfl ?_) | (refine SqA.b1 (op_loadP rfl rfl (rw_of rfl) rfl rfl) rfl rfl ?_) | (refine SqA.noG1 rfl rfl ?_)) | ((with_reducible refine id_store ?_); first | (refine SqA.a1 TB rfl rfl rfl ?_) | (refine SqA.a2 TB rfl rfl rfl ?_) | (refine SqA.b1 (op_storeV rfl rfl rfl rfl (rw_of rfl) rfl rfl rfl (by (try simp only [List.length_map, List.length_replicate, List.length_set]); omega) (by first | assumption | rfl) rfl) rfl rfl ?_) | (refine SqA.noG0 rfl rfl ?_)) | ((with_reducible refine id_box ?_); first | (refine SqA.a2 TB rfl rfl rfl ?_) | (refine SqA.noG1 rfl rfl ?_)) | ((with_reducible refine id_alloc ?_); first | (refine SqA.a2 TB rfl rfl rfl ?_) | (refine SqA.b2 (op_alloc3 rfl rfl rfl rfl) rfl rfl ?_) | (refine SqA.noG1 rfl rfl ?_)) | ((with_reducible refine id_build ?_); first | (refine SqA.a1 TB rfl rfl rfl ?_) | (refine SqA.b1 (op_b3 rfl rfl rfl) rfl rfl ?_) | (refine SqA.b1 (op_b2 rfl rfl rfl) rfl rfl ?_) | (refine SqA.noG1 rfl rfl ?_)) | ((with_reducible refine id_move ?_); first | (refine SqA.a1 TB rfl rfl rfl ?_) | (refine SqA.a2 TB rfl rfl rfl ?_) | (refine SqA.noG1 rfl rfl ?_) | (refine SqA.b1 (op_moveK rfl (Or.inl rfl) rfl) rfl rfl ?_)) | ((with_reducible refine id_assign ?_); first | (refine SqA.a1 TB rfl rfl rfl ?_) | (refine SqA.a2 TB rfl rfl rfl ?_) | (refine SqA.noG1 rfl rfl ?_) | (refine SqA.b1 (op_moveK rfl (Or.inr rfl) rfl) rfl rfl ?_)) | ((with_reducible refine id_un ?_); first | (refine SqA.a1 TB rfl rfl rfl ?_) | (refine SqA.noG1 rfl rfl ?_)) | ((with_reducible refine id_fld ?_); first | (refine SqA.a1 TB rfl rfl rfl ?_) | (refine SqA.b1 (op_fldI rfl rfl (fo_of rfl) rfl rfl rfl) rfl rfl ?_) | (refine SqA.noG1 rfl rfl ?_)) | ((with_reducible refine id_extract ?_); first | (refine SqA.a1 TB rfl rfl rfl ?_) | (refine SqA.noG1 rfl rfl ?_)) | ((with_reducible refine id_pick ?_); first | (refine SqA.a1 TB rfl rfl rfl ?_) | (refine SqA.noG1 rfl rfl ?_)) | ((with_reducible refine id_bs ?_); first | (refine SqA.a1 TB rfl rfl rfl ?_) | (refine SqA.noG1 rfl rfl ?_)) | ((with_reducible refine id_call ?_); first | (refine SqA.noG1 rfl rfl ?_)) | ((with_reducible refine id_conv ?_); first | (refine SqA.b1 (op_convU rfl rfl rfl (by omega)) rfl rfl ?_) | (refine SqA.b1 (op_conv8 rfl rfl rfl (by first | assumption | rfl)) rfl rfl ?_) | (refine SqA.b1 (op_s8 rfl rfl rfl) rfl rfl ?_) | (refine SqA.b1 (op_conv32 rfl rfl rfl (by first | assumption | rfl)) rfl rfl ?_) | (refine SqA.b1 (op_s32 rfl rfl rfl (by first | assumption | rfl)) rfl rfl ?_) | (refine SqA.noG1 rfl rfl ?_)) | ((with_reducible refine id_nilc ?_); first | (refine SqA.b1 (op_nilB rfl rfl rfl) rfl rfl ?_) | (refine SqA.b1 (op_nilF rfl rfl rfl) rfl rfl ?_) | (refine SqA.noG1 rfl rfl ?_)) | ((with_reducible refine id_field ?_); first | (refine SqA.b1 (op_fldV rfl rfl ftT0 (rw_of rfl) rfl rfl rfl) rfl rfl ?_) | (refine SqA.b1 (op_fldV rfl rfl ftT1 (rw_of rfl) rfl rfl rfl) rfl rfl ?_) | (refine SqA.b1 (op_fldV rfl rfl ftT2 (rw_of rfl) rfl rfl rfl) rfl rfl ?_) | (refine SqA.noG1 rfl rfl ?_)) | ((with_reducible refine id_mksl ?_); first | (refine SqA.b2 (op_mkInts rfl rfl rfl rfl (by omega) rfl rfl) rfl rfl ?_) | (refine SqA.noG1 rfl rfl ?_)) | ((with_reducible refine id_mkmap ?_); first | (refine SqA.goG (op_mfII (by assumption) rfl rfl rfl rfl rfl) rfl rfl ?_) | (refine SqA.goG (op_mfBS rfl rfl rfl rfl rfl) rfl rfl ?_) | (refine SqA.b2 (op_mkII rfl rfl) rfl rfl ?_) | (refine SqA.b2 (op_mkIB rfl rfl) rfl rfl ?_) | (refine SqA.b2 (op_mkBS rfl rfl) rfl rfl ?_) | (refine SqA.noG1 rfl rfl ?_)) | ((with_reducible refine id_look ?_); first | (refine SqA.b1 (op_lookII rfl rfl rfl rfl rfl rfl rfl (by first | assumption | rfl)) rfl rfl ?_) | (refine SqA.b1 (op_lookIB rfl rfl rfl rfl rfl rfl rfl (by first | assumption | rfl)) rfl rfl ?_) | (refine SqA.b1 (op_lookBS rfl rfl rfl rfl rfl rfl rfl (by first | assumption | rfl)) rfl rfl ?_) | (refine SqA.b1 (op_lfII rfl rfl rfl rfl rfl rfl rfl rfl rfl rfl) rfl rfl ?_) | (refine SqA.b1 (op_lfBS rfl rfl rfl rfl rfl rfl rfl rfl rfl rfl) rfl rfl ?_) | (refine SqA.b1 (op_lnII rfl rfl rfl rfl rfl rfl (by omega) rfl) rfl rfl ?_) | (refine SqA.noG1 rfl rfl ?_)) | ((with_reducible refine id_upd ?_); first | (refine SqA.b1 (op_putII rfl (Or.inl rfl) rfl rfl rfl rfl rfl rfl (by first | assumption | rfl)) rfl rfl ?_) | (refine SqA.b1 (op_putIB rfl (Or.inl rfl) rfl rfl rfl rfl rfl rfl (by first | assumption | rfl)) rfl rfl ?_) | (refine SqA.b1 (op_putBS rfl (Or.inl rfl) rfl rfl rfl rfl rfl rfl (by first | assumption | rfl)) rfl rfl ?_) | (refine SqA.b1 (op_pfII rfl (Or.inl rfl) rfl rfl rfl rfl rfl rfl rfl rfl) rfl rfl ?_) | (refine SqA.b1 (op_pfBS rfl (Or.inl rfl) rfl rfl rfl rfl rfl rfl rfl rfl) rfl rfl ?_) | (refine SqA.noG0 rfl rfl ?_)) | ((with_reducible refine id_ins ?_); first | (refine SqA.b1 (op_putII rfl (Or.inr rfl) rfl rfl rfl rfl rfl rfl (by first | assumption | rfl)) rfl rfl ?_) | (refine SqA.b1 (op_putIB rfl (Or.inr rfl) rfl rfl rfl rfl rfl rfl (by first | assumption | rfl)) rfl rfl ?_) | (refine SqA.b1 (op_putBS rfl (Or.inr rfl) rfl rfl rfl rfl rfl rfl (by first | assumption | rfl)) rfl rfl ?_) | (refine SqA.b1 (op_pfII rfl (Or.inr rfl) rfl rfl rfl rfl rfl rfl rfl rfl) rfl rfl ?_) | (refine SqA.b1 (op_pfBS rfl (Or.inr rfl) rfl rfl rfl rfl rfl rfl rfl rfl) rfl rfl ?_) | (refine SqA.noG0 rfl rfl ?_))))); (with_reducible refine SqA.nilN ?_); (with_reducible refine thenD_n ?_))
  refine dwp_wk (Wk.frzF (t := 3) (j := 3) (fs := [.arr (us.map Cl.d)]) rfl rfl rfl rfl rfl) ?_
  (refine wlk ?_)
  (refine SqA.b1 (op_mkFn rfl rfl rfl) rfl rfl ?_)
  (refine wlk ?_)
  (refine SqA.b1 (op_call none rfl rfl rfl (by kernel_rfl) (FnD.use (he)) rfl rfl rfl rfl rfl rfl) rfl rfl ?_)
  (refine wlk ?_)
  (refine SqA.b1 (op_call none rfl rfl rfl (by kernel_rfl) (FnD.use (hn)) rfl rfl rfl rfl rfl rfl) rfl rfl ?_)
  (refine wlk ?_)
  (first | (refine finR (.tmp rfl (.tmp rfl .nil)) rfl rfl ?_) | (refine finN (.tmp rfl (.tmp rfl .nil)) rfl rfl ?_))
  rfl
end Go.Proofs.Ytmanhdacnkpclaa
