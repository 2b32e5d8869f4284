/- What functions do: a clause as it is kept, by the program. -/
import Derived.Test.YtmanhdacnkpclaaGreatDoorzdNn
namespace Go.Proofs.YtmanhdacnkpclaaGreatDoor
set_option linter.all false
open Go.RowKit

set_option maxHeartbeats 40000000 in
set_option maxRecDepth 100000 in
theorem pnorm (c : List Lt) (hk : clOkv c) (hf : clFew c) (hz : clSz c) (hl : c.length ≤ 1000) : FnD Tryz.prog 12 [lA Lt.d c] (.tup [lA Lt.d (norm c).1, iA (norm c).2]) := by
  refine Fn.of Tryz.func12 rfl Tryz.ntmps12 rfl (Nat.le_of_ble_eq_true rfl) ?_
  (refine wlk ?_)
  refine dwp_loop (fun p : Nat × List Lt => [(.t 4, some (.one (.c (.own 44 7 (p.2.map Lt.d))))), (.t 17, some (.one (lA Lt.d c))), (.t 18, some (.one (iA c.length))), (.t 19, some (.one (iA p.1)))])
    (fun p => p.1 ≤ c.length ∧ orients (c.take p.1) = some p.2) (fun p => c.length - p.1) (0, []) ⟨by simp only; omega, rfl⟩ ((Wk.nilOwn (d := 4) (E := 44) (m := 7) rfl).trans fgs) ?_
  rintro ⟨k, o⟩ ⟨hkk, ho⟩
  dsimp only at hkk ho ⊢
  by_cases hkl : k < c.length
  · obtain ⟨⟨ng, xl, xr⟩, hx⟩ := get_of_lt hkl
    have hm := List.mem_of_getElem? hx
    have hkx := hk _ hm
    have hzx := hz _ hm
    dsimp only at hkx hzx
    have hol := orients_len ho
    rw [List.length_take] at hol
    have hsm := psame xl xr
    have hcm := pcompare xl xr (by omega) (by omega) hkx.1 hkx.2
    have hless := compare_less hkx.1 hkx.2
    cases hs : xl.same xr
    · rw [hs] at hsm
      have hmo := orients_more ho hx hs
      by_cases ha : above xr xl = true
      · have h1 := hless.2 ha
        have hor : orient1 ⟨ng, xl, xr⟩ = ⟨ng, xr, xl⟩ := if_pos ha
        rw [hor] at hmo
        have hrl : (o ++ [(⟨ng, xr, xl⟩ : Lt)]).length ≤ 1001 := by simp; omega
        have hr1 : o ++ [(⟨ng, xr, xl⟩ : Lt)] = o ++ [⟨ng, xr, xl⟩] := rfl
        (refine wlk ?_)
        (refine SqA.b1 (op_call none rfl rfl rfl (by kernel_rfl) (FnD.use (hsm)) rfl rfl rfl rfl rfl rfl) rfl rfl ?_)
        (refine wlk ?_)
        (refine SqA.b1 (op_call none rfl rfl rfl (by kernel_rfl) (FnD.use (hcm)) rfl rfl rfl rfl rfl rfl) rfl rfl ?_)
        (refine wlk ?_)
        (refine SqA.b1 (op_bsT (T := TB) (f := Lt.d) [(⟨ng, xr, xl⟩ : Lt)] rfl rfl rfl rfl rfl rfl rfl rfl rfl rfl rfl) rfl rfl ?_)
        (refine wlk ?_)
        exact ⟨(k + 1, o ++ [⟨ng, xr, xl⟩]), ⟨by simp only; omega, hmo⟩, fgs, by simp only; omega⟩
      · have h1 : ¬ compare xl xr = 1 := fun h => ha (hless.1 h)
        have hor : orient1 ⟨ng, xl, xr⟩ = ⟨ng, xl, xr⟩ := if_neg ha
        rw [hor] at hmo
        have hrl : (o ++ [(⟨ng, xl, xr⟩ : Lt)]).length ≤ 1001 := by simp; omega
        have hr1 : o ++ [(⟨ng, xl, xr⟩ : Lt)] = o ++ [⟨ng, xl, xr⟩] := rfl
        (refine wlk ?_)
        (refine SqA.b1 (op_call none rfl rfl rfl (by kernel_rfl) (FnD.use (hsm)) rfl rfl rfl rfl rfl rfl) rfl rfl ?_)
        (refine wlk ?_)
        (refine SqA.b1 (op_call none rfl rfl rfl (by kernel_rfl) (FnD.use (hcm)) rfl rfl rfl rfl rfl rfl) rfl rfl ?_)
        (refine wlk ?_)
        (refine SqA.b1 (op_bsT (T := TB) (f := Lt.d) [(⟨ng, xl, xr⟩ : Lt)] rfl rfl rfl rfl rfl rfl rfl rfl rfl rfl rfl) rfl rfl ?_)
        (refine wlk ?_)
        exact ⟨(k + 1, o ++ [⟨ng, xl, xr⟩]), ⟨by simp only; omega, hmo⟩, fgs, by simp only; omega⟩
    · rw [hs] at hsm
      cases ng
      · (refine wlk ?_)
        (refine SqA.b1 (op_call none rfl rfl rfl (by kernel_rfl) (FnD.use (hsm)) rfl rfl rfl rfl rfl rfl) rfl rfl ?_)
        (refine wlk ?_)
        refine fin_wk (fun n => Wk.nilArr (d := 2) rfl) ?_
        (first | (refine finR (.tmp rfl (.tmp rfl .nil)) rfl rfl ?_) | (refine finN (.tmp rfl (.tmp rfl .nil)) rfl rfl ?_))
        exact Xn (c := []) (e := 6) (norm_n1 (orients_none_at ho hx hs rfl)).symm
      · (refine wlk ?_)
        (refine SqA.b1 (op_call none rfl rfl rfl (by kernel_rfl) (FnD.use (hsm)) rfl rfl rfl rfl rfl rfl) rfl rfl ?_)
        (refine wlk ?_)
        exact ⟨(k + 1, o), ⟨by simp only; omega, orients_skip ho hx hs rfl⟩, fgs, by simp only; omega⟩
  have : k = c.length := by omega
  subst this
  rw [List.take_length] at ho
  have hol := orients_len ho
  have hko := orients_okv ho hk
  have hfo := orients_few ho hf
  have hzo := orients_sz ho hz
  have hvs := pclVars o hko hfo hzo
  have hv10 := clVars_ten hfo
  have hzq := numb_sz hko hzo
  have hap := papplyC (numb (clVars [] o)) o (by omega) hzo
  have hn2 := norm_n2 ho
  have hn3 := @norm_n3 c o
  have hql : (each (app (numb (clVars [] o))) o).length = o.length := each_len
  generalize each (app (numb (clVars [] o))) o = q at *
  generalize clVars [] o = vs at *
  refine dwp_wk (Wk.freezeAt (d := 4) rfl) ?_
  (refine wlk ?_)
  (refine SqA.b1 (op_call none rfl rfl rfl (by kernel_rfl) (FnD.use (hvs)) rfl rfl rfl rfl rfl rfl) rfl rfl ?_)
  (refine wlk ?_)
  refine dwp_loop (fun k : Nat => [(.t 4, some (.one (lA Lt.d o))), (.t 8, some (.one (.c (.own 38 4 ((numb (vs.take k)).map Pr.d))))), (.t 53, some (.one (lA Int.d vs))), (.t 54, some (.one (iA vs.length))), (.t 55, some (.one (iA k)))])
    (fun k => k ≤ vs.length) (fun k => vs.length - k) 0 (by omega) ((Wk.nilOwn (d := 8) (E := 38) (m := 4) rfl).trans fgs) ?_
  intro k hk'
  by_cases hkl : k < vs.length
  · obtain ⟨v, hx⟩ := get_of_lt hkl
    have hsn := numb_snoc hx
    have hnl : (numb (vs.take (k + 1))).length ≤ 10 := by rw [numb_len, List.length_take]; omega
    (refine wlk ?_)
    (refine SqA.b2 (Op1.reN (t := 64) rfl (op_bsT (T := TB) (f := Pr.d) [((v, ⟨true, (k : Int), []⟩) : Pr)] rfl rfl rfl rfl rfl rfl rfl rfl rfl rfl rfl)) rfl rfl ?_)
    (refine wlk ?_)
    exact ⟨k + 1, by omega, fgs, by omega⟩
  have : k = vs.length := by omega
  subst this
  rw [List.take_length]
  refine dwp_wk (Wk.freezeAt (d := 8) rfl) ?_
  have hnl := numb_len vs
  generalize numb vs = sb at *
  (refine wlk ?_)
  (refine SqA.b1 (op_call none rfl rfl rfl (by kernel_rfl) (FnD.use (hap)) rfl rfl rfl rfl rfl rfl) rfl rfl ?_)
  (refine wlk ?_)
  refine dwp_loop (fun p : Nat × List Lt => [(.t 8, some (.one (lA Pr.d sb))), (.t 11, some (.one (.c (.own 44 7 (p.2.map Lt.d))))), (.t 70, some (.one (lA Lt.d q))), (.t 71, some (.one (iA q.length))), (.t 72, some (.one (iA p.1)))])
    (fun p => p.1 ≤ q.length ∧ dedup [] (q.take p.1) = some p.2) (fun p => q.length - p.1) (0, []) ⟨by simp only; omega, rfl⟩ ((Wk.nilOwn (d := 11) (E := 44) (m := 7) rfl).trans fgs) ?_
  rintro ⟨k, once⟩ ⟨hkk, ho3⟩
  dsimp only at hkk ho3 ⊢
  by_cases hkl : k < q.length
  · obtain ⟨⟨ng, xl, xr⟩, hx⟩ := get_of_lt hkl
    have hol3 := dedup_len ho3
    rw [List.length_take] at hol3
    simp only [List.length_nil] at hol3
    have hS := hasS_eq once ⟨ng, xl, xr⟩
    have hN := hasN_eq once ⟨ng, xl, xr⟩
    have g1 := phas once ⟨ng, xl, xr⟩
    have g2 := phas once ⟨ng, xr, xl⟩
    have g3 := phas once ⟨!ng, xl, xr⟩
    have g4 := phas once ⟨!ng, xr, xl⟩
    dsimp only at hS hN
    refine dwp_isO (t := 11) rfl fun v => ?_
    generalize (once.any fun x => x.same ⟨ng, xl, xr⟩) = b1 at *
    generalize (once.any fun x => x.same ⟨ng, xr, xl⟩) = b2 at *
    generalize (once.any fun x => x.same ⟨!ng, xl, xr⟩) = b3 at *
    generalize (once.any fun x => x.same ⟨!ng, xr, xl⟩) = b4 at *
    cases b1
    rotate_left
    · (refine wlk ?_)
      (refine SqA.b1 (op_callL (fun t => t = .own (.t 11) 0 0) rfl rfl rfl (by kernel_rfl) g1 (LendL.cons (lend_val (t := 11) rfl rfl rfl) (LendL.cons (lend_same rfl rfl rfl) .nil)) rfl rfl) rfl rfl ?_)
      (refine wlk ?_)
      exact ⟨(k + 1, once), ⟨by simp only; omega, dedup_skip ho3 hx (by simpa using hS)⟩, (Wk.ofK (t := 11) rfl).trans fgs, by simp only; omega⟩
    cases b2
    rotate_left
    · (refine wlk ?_)
      (refine SqA.b1 (op_callL (fun t => t = .own (.t 11) 0 0) rfl rfl rfl (by kernel_rfl) g1 (LendL.cons (lend_val (t := 11) rfl rfl rfl) (LendL.cons (lend_same rfl rfl rfl) .nil)) rfl rfl) rfl rfl ?_)
      (refine wlk ?_)
      (refine SqA.b1 (op_callL (fun t => t = .own (.t 11) 0 0) rfl rfl rfl (by kernel_rfl) g2 (LendL.cons (lend_val (t := 11) rfl rfl rfl) (LendL.cons (lend_same rfl rfl rfl) .nil)) rfl rfl) rfl rfl ?_)
      (refine wlk ?_)
      exact ⟨(k + 1, once), ⟨by simp only; omega, dedup_skip ho3 hx (by simpa using hS)⟩, (Wk.ofK (t := 11) rfl).trans fgs, by simp only; omega⟩
    have hS0 : hasS once ⟨ng, xl, xr⟩ = false := by simpa using hS
    cases b3
    rotate_left
    · (refine wlk ?_)
      (refine SqA.b1 (op_callL (fun t => t = .own (.t 11) 0 0) rfl rfl rfl (by kernel_rfl) g1 (LendL.cons (lend_val (t := 11) rfl rfl rfl) (LendL.cons (lend_same rfl rfl rfl) .nil)) rfl rfl) rfl rfl ?_)
      (refine wlk ?_)
      (refine SqA.b1 (op_callL (fun t => t = .own (.t 11) 0 0) rfl rfl rfl (by kernel_rfl) g2 (LendL.cons (lend_val (t := 11) rfl rfl rfl) (LendL.cons (lend_same rfl rfl rfl) .nil)) rfl rfl) rfl rfl ?_)
      (refine wlk ?_)
      (refine SqA.b1 (op_callL (fun t => t = .own (.t 11) 0 0) rfl rfl rfl (by kernel_rfl) g3 (LendL.cons (lend_val (t := 11) rfl rfl rfl) (LendL.cons (lend_same rfl rfl rfl) .nil)) rfl rfl) rfl rfl ?_)
      (refine wlk ?_)
      refine fin_wk (fun n => Wk.nilArr (d := 2) rfl) ?_
      (first | (refine finR (.tmp rfl (.tmp rfl .nil)) rfl rfl ?_) | (refine finN (.tmp rfl (.tmp rfl .nil)) rfl rfl ?_))
      exact Xn (c := []) (e := 6) (hn2 (dedup_none_at ho3 hx hS0 (by simpa using hN))).symm
    cases b4
    rotate_left
    · (refine wlk ?_)
      (refine SqA.b1 (op_callL (fun t => t = .own (.t 11) 0 0) rfl rfl rfl (by kernel_rfl) g1 (LendL.cons (lend_val (t := 11) rfl rfl rfl) (LendL.cons (lend_same rfl rfl rfl) .nil)) rfl rfl) rfl rfl ?_)
      (refine wlk ?_)
      (refine SqA.b1 (op_callL (fun t => t = .own (.t 11) 0 0) rfl rfl rfl (by kernel_rfl) g2 (LendL.cons (lend_val (t := 11) rfl rfl rfl) (LendL.cons (lend_same rfl rfl rfl) .nil)) rfl rfl) rfl rfl ?_)
      (refine wlk ?_)
      (refine SqA.b1 (op_callL (fun t => t = .own (.t 11) 0 0) rfl rfl rfl (by kernel_rfl) g3 (LendL.cons (lend_val (t := 11) rfl rfl rfl) (LendL.cons (lend_same rfl rfl rfl) .nil)) rfl rfl) rfl rfl ?_)
      (refine wlk ?_)
      (refine SqA.b1 (op_callL (fun t => t = .own (.t 11) 0 0) rfl rfl rfl (by kernel_rfl) g4 (LendL.cons (lend_val (t := 11) rfl rfl rfl) (LendL.cons (lend_same rfl rfl rfl) .nil)) rfl rfl) rfl rfl ?_)
      (refine wlk ?_)
      refine fin_wk (fun n => Wk.nilArr (d := 2) rfl) ?_
      (first | (refine finR (.tmp rfl (.tmp rfl .nil)) rfl rfl ?_) | (refine finN (.tmp rfl (.tmp rfl .nil)) rfl rfl ?_))
      exact Xn (c := []) (e := 6) (hn2 (dedup_none_at ho3 hx hS0 (by simpa using hN))).symm
    have hN0 : hasN once ⟨ng, xl, xr⟩ = false := by simpa using hN
    have hmo := dedup_more ho3 hx hS0 hN0
    have hr1 : once ++ [(⟨!(!ng), xl, xr⟩ : Lt)] = once ++ [⟨ng, xl, xr⟩] := by simp
    have hrl : (once ++ [(⟨ng, xl, xr⟩ : Lt)]).length ≤ 1001 := by simp; omega
    (refine wlk ?_)
    (refine SqA.b1 (op_callL (fun t => t = .own (.t 11) 0 0) rfl rfl rfl (by kernel_rfl) g1 (LendL.cons (lend_val (t := 11) rfl rfl rfl) (LendL.cons (lend_same rfl rfl rfl) .nil)) rfl rfl) rfl rfl ?_)
    (refine wlk ?_)
    (refine SqA.b1 (op_callL (fun t => t = .own (.t 11) 0 0) rfl rfl rfl (by kernel_rfl) g2 (LendL.cons (lend_val (t := 11) rfl rfl rfl) (LendL.cons (lend_same rfl rfl rfl) .nil)) rfl rfl) rfl rfl ?_)
    (refine wlk ?_)
    (refine SqA.b1 (op_callL (fun t => t = .own (.t 11) 0 0) rfl rfl rfl (by kernel_rfl) g3 (LendL.cons (lend_val (t := 11) rfl rfl rfl) (LendL.cons (lend_same rfl rfl rfl) .nil)) rfl rfl) rfl rfl ?_)
    (refine wlk ?_)
    (refine SqA.b1 (op_callL (fun t => t = .own (.t 11) 0 0) rfl rfl rfl (by kernel_rfl) g4 (LendL.cons (lend_val (t := 11) rfl rfl rfl) (LendL.cons (lend_same rfl rfl rfl) .nil)) rfl rfl) rfl rfl ?_)
    (refine wlE ?_)
    refine dwp_wk (Wk.ofK (t := 11) rfl) ?_
    (refine wlk ?_)
    (refine SqA.b1 (op_bsT (T := TB) (f := Lt.d) [(⟨!(!ng), xl, xr⟩ : Lt)] rfl rfl rfl rfl rfl rfl rfl rfl rfl rfl rfl) rfl rfl ?_)
    (refine wlk ?_)
    exact ⟨(k + 1, once ++ [⟨ng, xl, xr⟩]), ⟨by simp only; omega, hmo⟩, fgs, by simp only; omega⟩
  have : k = q.length := by omega
  subst this
  rw [List.take_length] at ho3
  have hmem := dedup_mem ho3
  have hdl := dedup_len ho3
  simp only [List.length_nil] at hdl
  have hdz : clSz once := fun l hl => by
    rcases hmem l hl with h | h
    · cases h
    · exact hzq l h
  have hn4 := hn3 ho ho3
  refine dwp_wk (Wk.freezeAt (d := 11) rfl) ?_
  by_cases h4 : 4 < once.length
  · (refine wlk ?_)
    refine fin_wk (fun n => Wk.nilArr (d := 2) rfl) ?_
    (first | (refine finR (.tmp rfl (.tmp rfl .nil)) rfl rfl ?_) | (refine finN (.tmp rfl (.tmp rfl .nil)) rfl rfl ?_))
    exact Xn (c := []) (e := 4) (by rw [hn4, if_pos (.inl h4)])
  by_cases h5 : 5 < vs.length
  · (refine wlk ?_)
    refine fin_wk (fun n => Wk.nilArr (d := 2) rfl) ?_
    (first | (refine finR (.tmp rfl (.tmp rfl .nil)) rfl rfl ?_) | (refine finN (.tmp rfl (.tmp rfl .nil)) rfl rfl ?_))
    exact Xn (c := []) (e := 4) (by rw [hn4, if_pos (.inr (.inl h5))])
  (refine wlk ?_)
  refine dwp_loop (fun k : Nat => [(.t 11, some (.one (lA Lt.d once))), (.t 124, some (.one (lA Lt.d once))), (.t 125, some (.one (iA once.length))), (.t 126, some (.one (iA k)))])
    (fun k => k ≤ once.length ∧ ∀ (j : Nat) (x : Lt), j < k → once[j]? = some x → x.left.size ≤ 12 ∧ x.right.size ≤ 12) (fun k => once.length - k) 0 ⟨by omega, fun j x h => absurd h (by omega)⟩ fgs ?_
  rintro k ⟨hkk, hno⟩
  by_cases hkl : k < once.length
  · obtain ⟨⟨ng, xl, xr⟩, hx⟩ := get_of_lt hkl
    have hzx := hdz _ (List.mem_of_getElem? hx)
    dsimp only at hzx
    have g1 := psize xl
    have g2 := psize xr
    rw [w64 (by omega)] at g1 g2
    by_cases h1 : 12 < xl.size
    · (refine wlk ?_)
      (refine SqA.b1 (op_call none rfl rfl rfl (by kernel_rfl) (FnD.use (g1)) rfl rfl rfl rfl rfl rfl) rfl rfl ?_)
      (refine wlk ?_)
      refine fin_wk (fun n => Wk.nilArr (d := 2) rfl) ?_
      (first | (refine finR (.tmp rfl (.tmp rfl .nil)) rfl rfl ?_) | (refine finN (.tmp rfl (.tmp rfl .nil)) rfl rfl ?_))
      exact Xn (c := []) (e := 4) (by rw [hn4, if_pos (.inr (.inr (bigCl_at hx (.inl h1))))])
    by_cases h2 : 12 < xr.size
    · (refine wlk ?_)
      (refine SqA.b1 (op_call none rfl rfl rfl (by kernel_rfl) (FnD.use (g1)) rfl rfl rfl rfl rfl rfl) rfl rfl ?_)
      (refine wlk ?_)
      (refine SqA.b1 (op_call none rfl rfl rfl (by kernel_rfl) (FnD.use (g2)) rfl rfl rfl rfl rfl rfl) rfl rfl ?_)
      (refine wlk ?_)
      refine fin_wk (fun n => Wk.nilArr (d := 2) rfl) ?_
      (first | (refine finR (.tmp rfl (.tmp rfl .nil)) rfl rfl ?_) | (refine finN (.tmp rfl (.tmp rfl .nil)) rfl rfl ?_))
      exact Xn (c := []) (e := 4) (by rw [hn4, if_pos (.inr (.inr (bigCl_at hx (.inr h2))))])
    (refine wlk ?_)
    (refine SqA.b1 (op_call none rfl rfl rfl (by kernel_rfl) (FnD.use (g1)) rfl rfl rfl rfl rfl rfl) rfl rfl ?_)
    (refine wlk ?_)
    (refine SqA.b1 (op_call none rfl rfl rfl (by kernel_rfl) (FnD.use (g2)) rfl rfl rfl rfl rfl rfl) rfl rfl ?_)
    (refine wlk ?_)
    exact ⟨k + 1, ⟨by omega, upto_succ hno hx ⟨by simp only; omega, by simp only; omega⟩⟩, fgs, by omega⟩
  have : k = once.length := by omega
  subst this
  (refine wlk ?_)
  (first | (refine finR (.tmp rfl (.tmp rfl .nil)) rfl rfl ?_) | (refine finN (.tmp rfl (.tmp rfl .nil)) rfl rfl ?_))
  exact Xn (c := once) (e := 0) (by rw [hn4, if_neg (fun h => h.elim h4 fun h => h.elim h5 (bigCl_yes hno))])
end Go.Proofs.YtmanhdacnkpclaaGreatDoor
