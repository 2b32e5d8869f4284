/- What functions do: the log's Check. -/
import Derived.Test.YtmanhdacnkpclaaGreatzt17
import Derived.Test.YtmanhdacnkpclaaGreatzt15
import Derived.Test.YtmanhdacnkpclaaGreatzt06
import Derived.Test.YtmanhdacnkpclaaGreatzt07
import Derived.Test.YtmanhdacnkpclaaGreatzt09
import Derived.Test.YtmanhdacnkpclaaGreatzt10
import Derived.Test.YtmanhdacnkpclaaGreatzt16
import Derived.Test.YtmanhdacnkpclaaGreatzt13
import Derived.Test.YtmanhdacnkpclaaGreatzt02
import Derived.Lib.Split
import Derived.Lib.SplitLaws
import Derived.Test.YtmanhdacnkpclaaGreatzt08
namespace Go.Proofs.YtmanhdacnkpclaaGreat
set_option linter.all false
set_option maxRecDepth 1000000
set_option maxHeartbeats 32000000
open Go.RowKit
theorem firstWrong_at {S : List Int} : ∀ {l : List (List Lt)} {k : Nat} {c : List Lt}, (∀ j y, j < k → l[j]? = some y → wrongCl S y = 0) → l[k]? = some c → wrongCl S c ≠ 0 → firstWrong S l = wrongCl S c
  | [], k, c, _, h, _ => by simp at h
  | x :: l, 0, c, _, h, h0 => by
    simp at h; subst h
    simp only [firstWrong, if_neg h0]
  | x :: l, k + 1, c, hno, h, h0 => by
    have h1 := hno 0 x (by omega) rfl
    simp only [firstWrong, h1, if_true]
    exact firstWrong_at (k := k) (fun j y hj hy => hno (j + 1) y (by omega) (by simpa using hy)) (by simpa using h) h0
theorem firstWrong_no {S : List Int} {l : List (List Lt)} (h : ∀ j y, j < l.length → l[j]? = some y → wrongCl S y = 0) : firstWrong S l = 0 := firstWrong_all.2 fun c hc => by
  obtain ⟨j, hj⟩ := List.getElem?_of_mem hc
  exact h j c (List.getElem?_eq_some_iff.1 hj).1 hj
theorem checkGo_cons {S : List Int} {inn : List (List Lt)} {steps : List Sp} {k : Nat} {x : Sp} {r : List Sp} : checkGo S inn steps k (x :: r) = if x.rule < 1 ∨ 5 < x.rule then (1, (k : Int))
    else if wrongCl S x.cl = 0 then (if (comes inn steps k x).any (fun c => clSame c x.cl) then checkGo S inn steps (k + 1) r else (10, (k : Int)))
    else (wrongCl S x.cl, (k : Int)) := by rw [checkGo]
theorem stAt_cok {S : List Int} (hs : wrongSig S = 0) {steps : List Sp} {k : Nat} (hk : k ≤ steps.length) (h : ∀ j y, j < k → steps[j]? = some y → wrongCl S y.cl = 0) : ∀ f : Int, 0 ≤ f → f < k → COk S (stAt steps f).cl := fun f f0 f1 => by
  exact cok_of hs (h f.toNat _ (by omega) (stAt_of f0 (by omega)))
theorem pcheck1 (c : List Lt) (x : Sp) : FnD Tryz.prog 32 [lA Lt.d c, .c (.fp (spG x))] (.one (bA (clSame c x.cl))) := by
  refine Fn.of Tryz.func32 rfl Tryz.ntmps32 rfl (Nat.le_of_ble_eq_true rfl) ?_
  have g := psameClause c x.cl
  (refine wlk ?_)
  (refine wlC g ?_)
  (refine wlk ?_)
  (refine wfT ?_)
  rfl
theorem scheck {S : List Int} {inn : List (List Lt)} {steps : List Sp} (hl : ∀ x ∈ steps, x.frm.length ≤ 1000000000) :
    FnD Tryz.prog 9 [lA Int.d S, lA Cl.d inn, lA Sp.d steps] (.tup [iA (check S inn steps).1, iA (check S inn steps).2]) := by
  refine Fn.of Tryz.func9 rfl Tryz.ntmps9 rfl (Nat.le_of_ble_eq_true rfl) ?_
  have c0 := pwrongSig S
  by_cases hs : wrongSig S = 0
  rotate_left
  · have e : check S inn steps = (wrongSig S, -1) := if_neg hs
    rw [e]
    (refine wlk ?_)
    (refine wlC c0 ?_)
    (refine wlk ?_)
    (refine wfTT ?_)
    rfl
  by_cases h8 : 8 < inn.length
  · have e : check S inn steps = (5, -1) := by unfold check; rw [if_pos hs, if_pos (.inl h8)]
    rw [e]
    (refine wlk ?_)
    (refine wlC c0 ?_)
    (refine wlk ?_)
    (refine wfTT ?_)
    rfl
  by_cases h120 : 120 < steps.length
  · have e : check S inn steps = (5, -1) := by unfold check; rw [if_pos hs, if_pos (.inr h120)]
    rw [e]
    (refine wlk ?_)
    (refine wlC c0 ?_)
    (refine wlk ?_)
    (refine wfTT ?_)
    rfl
  have e : check S inn steps = if firstWrong S inn = 0 then checkGo S inn steps 0 steps else (firstWrong S inn, -1) := by unfold check; rw [if_pos hs, if_neg (by omega)]
  rw [e]
  clear e
  (refine wlk ?_)
  (refine wlC c0 ?_)
  (refine wlk ?_)
  clear c0
  refine dwp_loop (fun k : Nat => [(.t 0, some (.one (lA Int.d S))), (.t 1, some (.one (lA Cl.d inn))), (.t 2, some (.one (lA Sp.d steps))), (.t 31, some (.one (lA Cl.d inn))), (.t 32, some (.one (iA inn.length))), (.t 33, some (.one (iA k)))])
    (fun k => k ≤ inn.length ∧ ∀ j y, j < k → inn[j]? = some y → wrongCl S y = 0) (fun k => inn.length - k) 0 ⟨by omega, fun j y h => absurd h (by omega)⟩ fgs ?_
  rintro k ⟨hk, hno⟩
  by_cases hkl : k < inn.length
  · obtain ⟨c, hc⟩ := get_of_lt hkl
    have c2 := pwrongCl S c
    by_cases hw : wrongCl S c = 0
    · (refine wlk ?_)
      (refine wlC c2 ?_)
      (refine wlk ?_)
      exact ⟨k + 1, ⟨by omega, upto_succ hno hc hw⟩, fgs, by omega⟩
    · have hfw := firstWrong_at hno hc hw
      rw [hfw, if_neg hw]
      (refine wlk ?_)
      (refine wlC c2 ?_)
      (refine wlk ?_)
      (refine wfTT ?_)
      rfl
  have hki : k = inn.length := by omega
  subst hki
  rw [if_pos (firstWrong_no hno)]
  have hcin : ∀ c ∈ inn, COk S c := fun c hc => by
    obtain ⟨j, hj⟩ := List.getElem?_of_mem hc
    exact cok_of hs (hno j c (List.getElem?_eq_some_iff.1 hj).1 hj)
  clear hno hk hkl
  (refine wlk ?_)
  refine dwp_loop (fun k : Nat => [(.t 0, some (.one (lA Int.d S))), (.t 12, some (.one (.c (.ptr 47 0)))), (.b 47, some (.box (ckBox inn steps))), (.t 48, some (.one (lA Sp.d steps))), (.t 49, some (.one (iA steps.length))), (.t 50, some (.one (iA k)))])
    (fun k => k ≤ steps.length ∧ checkGo S inn steps 0 steps = checkGo S inn steps k (steps.drop k) ∧ ∀ j y, j < k → steps[j]? = some y → wrongCl S y.cl = 0) (fun k => steps.length - k) 0 ⟨by omega, rfl, fun j y h => absurd h (by omega)⟩ fgs ?_
  rintro k ⟨hk, he, hno⟩
  by_cases hkl : k < steps.length
  rotate_left
  · have hki : k = steps.length := by omega
    subst hki
    rw [List.drop_length] at he
    have e0 : checkGo S inn steps steps.length [] = (0, -1) := by rw [checkGo]
    rw [he, e0]
    (refine wlk ?_)
    (refine wfTT ?_)
    rfl
  obtain ⟨x, hx⟩ := get_of_lt hkl
  rw [drop_of hx, checkGo_cons] at he
  have hlx := hl x (List.mem_of_getElem? hx)
  have hst := stAt_cok hs hk hno
  by_cases hr1 : x.rule < 1
  · rw [if_pos (.inl hr1)] at he
    rw [he]
    (refine wlk ?_)
    (refine wfTT ?_)
    rfl
  by_cases hr5 : 5 < x.rule
  · rw [if_pos (.inr hr5)] at he
    rw [he]
    (refine wlk ?_)
    (refine wfTT ?_)
    rfl
  rw [if_neg (by omega)] at he
  have c2 := pwrongCl S x.cl
  by_cases hw : wrongCl S x.cl = 0
  rotate_left
  · rw [if_neg hw] at he
    rw [he]
    (refine wlk ?_)
    (refine wlC c2 ?_)
    (refine wlk ?_)
    (refine wfTT ?_)
    rfl
  rw [if_pos hw] at he
  have hg := pcomes (S := S) (inn := inn) (steps := steps) (at_ := k) (x := x) hcin hst hx ⟨by omega, by omega⟩ hlx
  have hany := comesP_any (inn := inn) (steps := steps) (at_ := k) (x := x) (fun c => clSame c x.cl)
  rw [← hany] at he
  clear hany
  generalize comesP inn steps k x = m at hg he
  obtain ⟨l, ok⟩ := m
  dsimp only at hg he
  have hcf := contFC 32 (spG x) (fun c => clSame c x.cl) (by kernel_rfl) l (fun c _ => pcheck1 c x)
  cases ok
  · rw [if_neg (by simp)] at he
    rw [he]
    (refine wlk ?_)
    (refine wlC c2 ?_)
    (refine wlk ?_)
    (refine SqA.b2 (op_call (some (47)) rfl rfl rfl (by kernel_rfl) (FnB.use (hg)) rfl rfl rfl rfl rfl rfl) rfl rfl ?_)
    (refine wlk ?_)
    (refine SqA.noG1 rfl rfl ?_)
    (refine wlk ?_)
    (refine wfTT ?_)
    rfl
  rw [Bool.true_and] at he
  (refine wlk ?_)
  (refine wlC c2 ?_)
  (refine wlk ?_)
  (refine SqA.b2 (op_call (some (47)) rfl rfl rfl (by kernel_rfl) (FnB.use (hg)) rfl rfl rfl rfl rfl rfl) rfl rfl ?_)
  (refine wlE ?_)
  refine dwp_wk (Wk.frzF (t := 14) (j := 14) (fs := spG x) rfl rfl rfl rfl rfl) ?_
  cases hb : l.any fun c => clSame c x.cl
  · rw [hb] at hcf he
    rw [if_neg (by simp)] at he
    rw [he]
    (refine wlk ?_)
    (refine SqA.b1 (op_mkFn rfl rfl rfl) rfl rfl ?_)
    (refine wlk ?_)
    (refine wlC hcf ?_)
    (refine wlk ?_)
    (refine wfTT ?_)
    rfl
  · rw [hb] at hcf he
    rw [if_pos rfl] at he
    (refine wlk ?_)
    (refine SqA.b1 (op_mkFn rfl rfl rfl) rfl rfl ?_)
    (refine wlk ?_)
    (refine wlC hcf ?_)
    (refine wlk ?_)
    exact ⟨k + 1, ⟨by omega, he, upto_succ hno hx hw⟩, fgs, by omega⟩
theorem normR {S : List Int} {c : List Lt} (h : COk S c) : FnD Tryz.prog 45 [lA Lt.d c] (.tup [lA Lt.d (norm c).1, iA (norm c).2]) := by
  have hl4 := h.len
  have hgd : ∀ x ∈ c, (x.left.okv = true ∧ few x.left) ∧ (x.right.okv = true ∧ few x.right) := fun x hx => by
    obtain ⟨i, hi⟩ := List.getElem?_of_mem hx
    have ho := h.cg.old hi
    exact ⟨⟨ho.1.1.okv, ho.1.1.few⟩, ho.2.1.okv, ho.2.1.few⟩
  exact rnorm c (fun x hx => ⟨(hgd x hx).1.1, (hgd x hx).2.1⟩) (fun x hx => ⟨(hgd x hx).1.2, (hgd x hx).2.2⟩) (fun x hx => by have := h.size x hx; omega) (by omega)
theorem rcomes {S : List Int} {inn : List (List Lt)} {steps : List Sp} {x : Sp} (hin : ∀ c ∈ inn, COk S c) (hst : ∀ f : Int, 0 ≤ f → f < steps.length → COk S (stAt steps f).cl) (hr : 1 ≤ x.rule ∧ x.rule ≤ 5) (hl : x.frm.length ≤ 1000000000) :
    FnD Tryz.prog 36 [lA Cl.d inn, lA Sp.d steps, spA x] (.one (lA Cl.d (comes inn steps steps.length x))) := by
  refine Fn.of Tryz.func36 rfl Tryz.ntmps36 rfl (Nat.le_of_ble_eq_true rfl) ?_
  obtain ⟨r, frm, cl⟩ := x
  dsimp only at hr hl ⊢
  (refine wlN ?_)
  (refine wlE ?_)
  (try (with_reducible refine dwp_seq ?_))
  refine dwp_mid2 (fun _ : Unit => [(.t 0, some (.one (lA Cl.d inn))), (.t 1, some (.one (lA Sp.d steps))), (.t 5, some (.one (.c (.ptr 5 0)))), (.b 5, some (.box (spA ⟨r, frm, cl⟩).cells))])
    (fun _ => ¬ badFrm r frm) ?_ ?_
  · by_cases hbad : badFrm r frm
    · have e : comes inn steps steps.length ⟨r, frm, cl⟩ = [] := if_pos hbad
      rw [e]
      by_cases hb0 : frm.length = 0
      · (refine wlk ?_)
        refine fin_wk (fun n => Wk.nilArr (d := 6) rfl) ?_
        (refine wfT ?_)
        rfl
      by_cases h4 : r = 4
      · have h2 : frm.length ≠ 2 := by omega
        (refine wlk ?_)
        refine fin_wk (fun n => Wk.nilArr (d := 6) rfl) ?_
        (refine wfT ?_)
        rfl
      · have h3 : r < 4 := by omega
        have h1 : frm.length ≠ 1 := by omega
        (refine wlk ?_)
        refine fin_wk (fun n => Wk.nilArr (d := 6) rfl) ?_
        (refine wfT ?_)
        rfl
    · have hb0 : frm.length ≠ 0 := by omega
      by_cases h4 : r = 4
      · have h2 : frm.length = 2 := by omega
        (refine wlk ?_)
        exact ⟨(), hbad, fgs⟩
      by_cases h3 : r < 4
      · have h1 : frm.length = 1 := by omega
        (refine wlk ?_)
        exact ⟨(), hbad, fgs⟩
      · (refine wlk ?_)
        exact ⟨(), hbad, fgs⟩
  rintro _ hbad
  by_cases h1 : r = 1
  · subst h1
    obtain ⟨f, rfl⟩ := list1 (l := frm) (by omega)
    have g0 : [f][0]? = some f := rfl
    have e0 : comes inn steps steps.length ⟨1, [f], cl⟩ = if f < 0 ∨ (inn.length : Int) ≤ f then [] else match norm (inn.getD f.toNat []) with | (n, e) => if e = 0 then [n] else [] := by
      unfold comes
      rw [if_neg hbad, if_pos rfl]
      rfl
    rw [e0]
    by_cases hf0 : f < 0
    · rw [if_pos (.inl hf0)]
      (refine wlk ?_)
      refine fin_wk (fun n => Wk.nilArr (d := 6) rfl) ?_
      (refine wfT ?_)
      rfl
    by_cases hfl : (inn.length : Int) ≤ f
    · rw [if_pos (.inr hfl)]
      (refine wlk ?_)
      refine fin_wk (fun n => Wk.nilArr (d := 6) rfl) ?_
      (refine wfT ?_)
      rfl
    rw [if_neg (by omega)]
    obtain ⟨i, rfl⟩ := Int.eq_ofNat_of_zero_le (show 0 ≤ f by omega)
    obtain ⟨c, hc⟩ := get_of_lt (s := inn) (k := i) (by omega)
    have c3 := normR (hin c (List.mem_of_getElem? hc))
    have hgd : inn.getD ((i : Int)).toNat [] = c := by rw [Int.toNat_natCast, List.getD_eq_getElem?_getD, hc]; rfl
    rw [hgd]
    generalize norm c = nr at *
    obtain ⟨d, e⟩ := nr
    dsimp only at c3 ⊢
    by_cases he : e = 0
    · rw [if_pos he]
      (refine wlk ?_)
      (refine wlC c3 ?_)
      (refine wlk ?_)
      (refine SqA.b1 (op_bsT (T := TB) (f := Cl.d) [d] rfl rfl rfl rfl rfl rfl rfl rfl rfl rfl rfl) rfl rfl ?_)
      (refine wlk ?_)
      (refine wfT ?_)
      rfl
    · rw [if_neg he]
      (refine wlk ?_)
      (refine wlC c3 ?_)
      (refine wlk ?_)
      refine fin_wk (fun n => Wk.nilArr (d := 6) rfl) ?_
      (refine wfT ?_)
      rfl
  (refine wlk ?_)
  refine dwp_loop (fun k : Nat => [(.t 1, some (.one (lA Sp.d steps))), (.t 5, some (.one (.c (.ptr 5 0)))), (.b 5, some (.box (spA ⟨r, frm, cl⟩).cells)),
      (.t 9, some (.one (.c (.own 39 1 (((frm.take k).map fun f => (stAt steps f).cl).map Cl.d))))), (.t 74, some (.one (lA Int.d frm))), (.t 75, some (.one (iA frm.length))), (.t 76, some (.one (iA k)))])
    (fun k => k ≤ frm.length ∧ (∀ f ∈ frm.take k, 0 ≤ f ∧ f < steps.length) ∧ (r = 5 → ∀ f ∈ (frm.take k).tail, unit (stAt steps f).cl = true)) (fun k => frm.length - k) 0 ⟨by omega, by simp, fun _ => by simp⟩ ((Wk.nilOwn (d := 9) (E := 39) (m := 1) rfl).trans fgs) ?_
  rintro k ⟨hk, hok, hun⟩
  by_cases hkl : k < frm.length
  · obtain ⟨f, hf⟩ := get_of_lt hkl
    have hfm := List.mem_of_getElem? hf
    have eno : ¬ (0 ≤ f ∧ f < steps.length) → comes inn steps steps.length ⟨r, frm, cl⟩ = [] := fun h => by
      unfold comes
      rw [if_neg hbad, if_neg h1, if_pos (fromOk_no hfm h)]
    by_cases hf0 : f < 0
    · rw [eno (by omega)]
      (refine wlk ?_)
      refine fin_wk (fun n => Wk.nilArr (d := 6) rfl) ?_
      (refine wfT ?_)
      rfl
    by_cases hfl : (steps.length : Int) ≤ f
    · rw [eno (by omega)]
      (refine wlk ?_)
      refine fin_wk (fun n => Wk.nilArr (d := 6) rfl) ?_
      (refine wfT ?_)
      rfl
    clear eno
    obtain ⟨i, rfl⟩ := Int.eq_ofNat_of_zero_le (show 0 ≤ f by omega)
    have hk2 : ((frm.take k).map fun f => (stAt steps f).cl) ++ [(stAt steps (i : Int)).cl] = (frm.take (k + 1)).map fun f => (stAt steps f).cl := by rw [take_succ_of hf, List.map_append]; rfl
    have hk3 : ∀ f ∈ frm.take (k + 1), 0 ≤ f ∧ f < (steps.length : Int) := fun g hg => by
      rw [take_succ_of hf] at hg
      rcases List.mem_append.1 hg with hg | hg
      · exact hok g hg
      · simp only [List.mem_singleton] at hg; subst hg; omega
    have hk4 : k = 0 ∨ r ≠ 5 ∨ unit (stAt steps (i : Int)).cl = true → (r = 5 → ∀ f ∈ (frm.take (k + 1)).tail, unit (stAt steps f).cl = true) := fun h h5 g hg => by
      rw [take_succ_of hf] at hg
      cases k with
      | zero => simp at hg
      | succ k =>
        have hne : frm.take (k + 1) ≠ [] := fun e => by
          have := congrArg List.length e
          rw [List.length_take, List.length_nil] at this
          omega
        rw [List.tail_append_of_ne_nil hne] at hg
        rcases List.mem_append.1 hg with hg | hg
        · exact hun h5 g hg
        · simp only [List.mem_singleton] at hg; subst hg
          rcases h with h | h | h
          · omega
          · exact absurd h5 h
          · exact h
    have his : steps[i]? = some (stAt steps (i : Int)) := by
      have := stAt_of (l := steps) (k := (i : Int)) (by omega) (by omega)
      simpa using this
    by_cases h5 : r = 5
    · by_cases hk0 : 0 < k
      · have c1 := runit (stAt steps (i : Int)).cl
        cases hub : unit (stAt steps (i : Int)).cl
        · have e2 : comes inn steps steps.length ⟨r, frm, cl⟩ = [] := by
            unfold comes
            rw [if_neg hbad, if_neg h1]
            split
            · rfl
            · dsimp only
              rw [if_neg (by omega), if_neg (by omega), if_neg (by omega), if_neg]
              intro ha
              have hm : (stAt steps (i : Int)).cl ∈ (frm.map fun f => (stAt steps f).cl).tail := by
                obtain ⟨j, rfl⟩ : ∃ j, k = j + 1 := ⟨k - 1, by omega⟩
                cases frm with
                | nil => simp at hf
                | cons a frm =>
                  simp only [List.getElem?_cons_succ] at hf
                  exact List.mem_map.2 ⟨_, List.mem_of_getElem? hf, rfl⟩
              have := List.all_eq_true.1 ha _ hm
              rw [hub] at this; cases this
          rw [e2]
          rw [hub] at c1
          (refine wlk ?_)
          (refine wlC c1 ?_)
          (refine wlk ?_)
          refine fin_wk (fun n => Wk.nilArr (d := 6) rfl) ?_
          (refine wfT ?_)
          rfl
        · rw [hub] at c1
          (refine wlk ?_)
          (refine wlC c1 ?_)
          (refine wlk ?_)
          (refine SqA.b1 (op_bsT (T := TB) (f := Cl.d) [(stAt steps (i : Int)).cl] rfl rfl rfl rfl rfl rfl rfl rfl rfl rfl rfl) rfl rfl ?_)
          (refine wlk ?_)
          exact ⟨k + 1, ⟨by omega, hk3, hk4 (.inr (.inr hub))⟩, fgs, by omega⟩
      · (refine wlk ?_)
        (refine SqA.b1 (op_bsT (T := TB) (f := Cl.d) [(stAt steps (i : Int)).cl] rfl rfl rfl rfl rfl rfl rfl rfl rfl rfl rfl) rfl rfl ?_)
        (refine wlk ?_)
        exact ⟨k + 1, ⟨by omega, hk3, hk4 (.inl (by omega))⟩, fgs, by omega⟩
    · (refine wlk ?_)
      (refine SqA.b1 (op_bsT (T := TB) (f := Cl.d) [(stAt steps (i : Int)).cl] rfl rfl rfl rfl rfl rfl rfl rfl rfl rfl rfl) rfl rfl ?_)
      (refine wlk ?_)
      exact ⟨k + 1, ⟨by omega, hk3, hk4 (.inr (.inl h5))⟩, fgs, by omega⟩
  have hkf : k = frm.length := by omega
  subst hkf
  rw [List.take_length] at hok hun ⊢
  refine dwp_wk (Wk.freezeAt (d := 9) rfl) ?_
  have e0 : comes inn steps steps.length ⟨r, frm, cl⟩ = (if (comesL ⟨r, frm, cl⟩ (frm.map fun f => (stAt steps f).cl)).2 = true then (comesL ⟨r, frm, cl⟩ (frm.map fun f => (stAt steps f).cl)).1 else []) := by
    rw [comesL_fst]
    unfold comes
    rw [if_neg hbad, if_neg h1, if_neg (by rw [fromOk_of hok]; simp)]
  rw [e0]
  have hco : ∀ c ∈ frm.map fun f => (stAt steps f).cl, COk S c := fun c hc => by
    obtain ⟨f, hf, rfl⟩ := List.mem_map.1 hc
    exact hst f (hok f hf).1 (hok f hf).2
  have hLl : (frm.map fun f => (stAt steps f).cl).length = frm.length := List.length_map ..
  have hLu : r = 5 → (frm.map fun f => (stAt steps f).cl).tail.all unit = true := fun h5 => List.all_eq_true.2 fun u hu => by
    rw [← List.map_tail] at hu
    obtain ⟨f, hf, rfl⟩ := List.mem_map.1 hu
    exact hun h5 f hf
  generalize (frm.map fun f => (stAt steps f).cl) = L at hco hLl hLu ⊢
  clear e0 hst hin hok hun
  by_cases h2 : r = 2
  · subst h2
    obtain ⟨c0, rfl⟩ := list1 (l := L) (by omega)
    have g0 : [c0][0]? = some c0 := rfl
    have e1 : comesL ⟨2, frm, cl⟩ [c0] = ((resolve c0).1, true) := by unfold comesL; rw [if_pos rfl]; rfl
    rw [e1, if_pos rfl]
    have k1 := rresolve (hco c0 (by simp)).cg
    generalize resolve c0 = m at *
    (refine wlk ?_)
    (refine wlC k1 ?_)
    (refine wlk ?_)
    (refine wfT ?_)
    rfl
  by_cases h3 : r = 3
  · subst h3
    obtain ⟨c0, rfl⟩ := list1 (l := L) (by omega)
    have g0 : [c0][0]? = some c0 := rfl
    have e1 : comesL ⟨3, frm, cl⟩ [c0] = ((factor c0).1, true) := by unfold comesL; rw [if_neg (by simp), if_pos rfl]; rfl
    rw [e1, if_pos rfl]
    have k1 := rfactor (hco c0 (by simp)).cg
    generalize factor c0 = m at *
    (refine wlk ?_)
    (refine wlC k1 ?_)
    (refine wlk ?_)
    (refine wfT ?_)
    rfl
  by_cases h4 : r = 4
  · subst h4
    obtain ⟨c0, c1, rfl⟩ := list2 (l := L) (by omega)
    have g0 : [c0, c1][0]? = some c0 := rfl
    have g1 : [c0, c1][1]? = some c1 := rfl
    have e1 : comesL ⟨4, frm, cl⟩ [c0, c1] = ((sup c0 c1).1, true) := by unfold comesL; rw [if_neg (by simp), if_neg (by simp), if_pos rfl]; rfl
    rw [e1, if_pos rfl]
    have k1 := rsup (hco c0 (by simp)).cg (hco c1 (by simp))
    generalize sup c0 c1 = m at *
    (refine wlk ?_)
    (refine SqA.b1 (op_idxT (T := TB) rfl rfl rfl rfl rfl (g0) (by first | rfl | omega)) rfl rfl ?_)
    (refine wlk ?_)
    (refine wlC k1 ?_)
    (refine wlk ?_)
    (refine wfT ?_)
    rfl
  have h5 : r = 5 := by omega
  subst h5
  obtain ⟨c0, us, rfl⟩ := list0 (l := L) (by omega)
  have hall : us.all unit = true := hLu rfl
  have g0 : (c0 :: us)[0]? = some c0 := rfl
  have e1 : comesL ⟨5, frm, cl⟩ (c0 :: us) = ([(rewr us c0).1], decide ((rewr us c0).2 = 0)) := by
    unfold comesL; rw [if_neg (by simp), if_neg (by simp), if_neg (by simp)]; exact if_pos hall
  rw [e1]
  clear e1
  have hd1 : (c0 :: us).drop (1 : Int).toNat = us := rfl
  have k1 := rRewrite (us_szL (fun c hc => hco c (by simp [hc])) hall) c0 (hco c0 (by simp))
  generalize rewr us c0 = nr at *
  obtain ⟨d, e⟩ := nr
  dsimp only at k1 ⊢
  by_cases he : e = 0
  · rw [decide_eq_true he, if_pos rfl]
    (refine wlk ?_)
    simp only [hd1]
    (refine wlC k1 ?_)
    (refine wlk ?_)
    (refine SqA.b1 (op_bsT (T := TB) (f := Cl.d) [d] rfl rfl rfl rfl rfl rfl rfl rfl rfl rfl rfl) rfl rfl ?_)
    (refine wlk ?_)
    refine fin_wk (fun n => Wk.freezeAt (d := 6) rfl) ?_
    (refine wfT ?_)
    rfl
  · rw [decide_eq_false he, if_neg (by simp)]
    (refine wlk ?_)
    simp only [hd1]
    (refine wlC k1 ?_)
    (refine wlk ?_)
    refine fin_wk (fun n => Wk.nilArr (d := 6) rfl) ?_
    (refine wfT ?_)
    rfl
theorem rcheck {S : List Int} {inn : List (List Lt)} {steps : List Sp} (hl : ∀ x ∈ steps, x.frm.length ≤ 1000000000) :
    FnD Tryz.prog 10 [lA Int.d S, lA Cl.d inn, lA Sp.d steps] (.tup [iA (check S inn steps).1, iA (check S inn steps).2]) := by
  refine Fn.of Tryz.func10 rfl Tryz.ntmps10 rfl (Nat.le_of_ble_eq_true rfl) ?_
  have c0 := rwrongSig S
  by_cases hs : wrongSig S = 0
  rotate_left
  · have e : check S inn steps = (wrongSig S, -1) := if_neg hs
    rw [e]
    (refine wlk ?_)
    (refine wlC c0 ?_)
    (refine wlk ?_)
    (refine wfTT ?_)
    rfl
  by_cases h8 : 8 < inn.length
  · have e : check S inn steps = (5, -1) := by unfold check; rw [if_pos hs, if_pos (.inl h8)]
    rw [e]
    (refine wlk ?_)
    (refine wlC c0 ?_)
    (refine wlk ?_)
    (refine wfTT ?_)
    rfl
  by_cases h120 : 120 < steps.length
  · have e : check S inn steps = (5, -1) := by unfold check; rw [if_pos hs, if_pos (.inr h120)]
    rw [e]
    (refine wlk ?_)
    (refine wlC c0 ?_)
    (refine wlk ?_)
    (refine wfTT ?_)
    rfl
  have e : check S inn steps = if firstWrong S inn = 0 then checkGo S inn steps 0 steps else (firstWrong S inn, -1) := by unfold check; rw [if_pos hs, if_neg (by omega)]
  rw [e]
  clear e
  (refine wlk ?_)
  (refine wlC c0 ?_)
  (refine wlk ?_)
  clear c0
  refine dwp_loop (fun k : Nat => [(.t 0, some (.one (lA Int.d S))), (.t 1, some (.one (lA Cl.d inn))), (.t 2, some (.one (lA Sp.d steps))), (.t 31, some (.one (lA Cl.d inn))), (.t 32, some (.one (iA inn.length))), (.t 33, some (.one (iA k)))])
    (fun k => k ≤ inn.length ∧ ∀ j y, j < k → inn[j]? = some y → wrongCl S y = 0) (fun k => inn.length - k) 0 ⟨by omega, fun j y h => absurd h (by omega)⟩ fgs ?_
  rintro k ⟨hk, hno⟩
  by_cases hkl : k < inn.length
  · obtain ⟨c, hc⟩ := get_of_lt hkl
    have c2 := rwrongCl S c
    by_cases hw : wrongCl S c = 0
    · (refine wlk ?_)
      (refine wlC c2 ?_)
      (refine wlk ?_)
      exact ⟨k + 1, ⟨by omega, upto_succ hno hc hw⟩, fgs, by omega⟩
    · have hfw := firstWrong_at hno hc hw
      rw [hfw, if_neg hw]
      (refine wlk ?_)
      (refine wlC c2 ?_)
      (refine wlk ?_)
      (refine wfTT ?_)
      rfl
  have hki : k = inn.length := by omega
  subst hki
  rw [if_pos (firstWrong_no hno)]
  have hcin : ∀ c ∈ inn, COk S c := fun c hc => by
    obtain ⟨j, hj⟩ := List.getElem?_of_mem hc
    exact cok_of hs (hno j c (List.getElem?_eq_some_iff.1 hj).1 hj)
  clear hno hk hkl
  (refine wlk ?_)
  refine dwp_loop (fun k : Nat => [(.t 0, some (.one (lA Int.d S))), (.t 1, some (.one (lA Cl.d inn))), (.t 2, some (.one (lA Sp.d steps))), (.t 44, some (.one (lA Sp.d steps))), (.t 45, some (.one (iA steps.length))), (.t 46, some (.one (iA k)))])
    (fun k => k ≤ steps.length ∧ checkGo S inn steps 0 steps = checkGo S inn steps k (steps.drop k) ∧ ∀ j y, j < k → steps[j]? = some y → wrongCl S y.cl = 0) (fun k => steps.length - k) 0 ⟨by omega, rfl, fun j y h => absurd h (by omega)⟩ fgs ?_
  rintro k ⟨hk, he, hno⟩
  by_cases hkl : k < steps.length
  rotate_left
  · have hki : k = steps.length := by omega
    subst hki
    rw [List.drop_length] at he
    have e0 : checkGo S inn steps steps.length [] = (0, -1) := by rw [checkGo]
    rw [he, e0]
    (refine wlk ?_)
    (refine wfTT ?_)
    rfl
  obtain ⟨x, hx⟩ := get_of_lt hkl
  rw [drop_of hx, checkGo_cons] at he
  have hlx := hl x (List.mem_of_getElem? hx)
  have hst := stAt_cok hs hk hno
  by_cases hr1 : x.rule < 1
  · rw [if_pos (.inl hr1)] at he
    rw [he]
    (refine wlk ?_)
    (refine wfTT ?_)
    rfl
  by_cases hr5 : 5 < x.rule
  · rw [if_pos (.inr hr5)] at he
    rw [he]
    (refine wlk ?_)
    (refine wfTT ?_)
    rfl
  rw [if_neg (by omega)] at he
  have c2 := rwrongCl S x.cl
  by_cases hw : wrongCl S x.cl = 0
  rotate_left
  · rw [if_neg hw] at he
    rw [he]
    (refine wlk ?_)
    (refine wlC c2 ?_)
    (refine wlk ?_)
    (refine wfTT ?_)
    rfl
  rw [if_pos hw] at he
  have htl : (steps.take k).length = k := by rw [List.length_take]; omega
  have hg := rcomes (S := S) (inn := inn) (steps := steps.take k) (x := x) hcin (fun f f0 f1 => by
    rw [htl] at f1
    have := stAt_app (l := steps.take k) (r := steps.drop k) f0 (by rw [htl]; exact f1)
    rw [List.take_append_drop] at this
    rw [← this]; exact hst f f0 f1) ⟨by omega, by omega⟩ hlx
  rw [htl, comes_ahead hk] at hg
  generalize comes inn steps k x = L at hg he
  have hn2 := upto_succ hno hx hw
  have htk : steps.take ((k : Int)).toNat = steps.take k := by rw [Int.toNat_natCast]
  clear hst hno
  (refine wlk ?_)
  (refine wlC c2 ?_)
  (refine wlk ?_)
  (refine SqA.b1 (op_sliceHiT (T := TB) (f := Sp.d) (l := steps) rfl rfl rfl rfl rfl (by omega) (by omega)) rfl rfl ?_)
  rw [htk]
  (refine wlk ?_)
  (refine wlC hg ?_)
  (refine wlk ?_)
  clear hg c2
  refine dwp_len (t := 73) rfl fun hLl => ?_
  rw [List.length_map] at hLl
  refine dwp_loop (fun j : Nat => [(.t 0, some (.one (lA Int.d S))), (.t 1, some (.one (lA Cl.d inn))), (.t 2, some (.one (lA Sp.d steps))), (.t 44, some (.one (lA Sp.d steps))), (.t 45, some (.one (iA steps.length))), (.t 46, some (.one (iA k))),
      (.t 12, some (.one (iA k))), (.t 13, some (.one (.c (.ptr 13 0)))), (.b 13, some (.box (spA x).cells)), (.t 15, some (.one (bA ((L.take j).any fun c => clSame c x.cl)))), (.t 73, some (.one (lA Cl.d L))), (.t 74, some (.one (iA L.length))), (.t 75, some (.one (iA j)))])
    (fun j => j ≤ L.length) (fun j => L.length - j) 0 (by omega) fgs ?_
  intro j hj
  by_cases hjl : j < L.length
  · clear hx
    obtain ⟨c, hc⟩ := get_of_lt hjl
    have hat := any_takeS (p := fun c => clSame c x.cl) hc
    have gs := rsameClause c x.cl
    cases hb : (L.take j).any fun c => clSame c x.cl
    · rw [hb] at hat
      simp only [Bool.false_or] at hat
      (refine wlk ?_)
      (refine wlC gs ?_)
      (refine wlk ?_)
      refine ⟨j + 1, by omega, ?_, by omega⟩
      rw [hat]
      exact fgs
    · rw [hb] at hat
      simp only [Bool.true_or] at hat
      (refine wlk ?_)
      refine ⟨j + 1, by omega, ?_, by omega⟩
      rw [hat]
      exact fgs
  have hjw : j = L.length := by omega
  subst hjw
  rw [List.take_length]
  cases hb : L.any fun c => clSame c x.cl
  · rw [hb, if_neg (by simp)] at he
    rw [he]
    (refine wlk ?_)
    (refine wfTT ?_)
    rfl
  · rw [hb, if_pos rfl] at he
    (refine wlk ?_)
    exact ⟨k + 1, ⟨by omega, he, hn2⟩, fgs, by omega⟩
section
variable {P : Program} {n : Nat} {o : Oper} {σ : St}
theorem op_mkSlB {d T E k : Nat} {s1 s2 : Operand} (hd : o.dst = some d) (ho : o.op = .makeSlice T s1 s2) (hT : SliceOf P T E 1 1 (.bool false)) (h1 : St.ev σ s1 = some (.one (iA k))) (h2 : St.ev σ s2 = some (.one (iA k))) (hk : k ≤ 1000) (hx : Nat.beq d EXT = false) (hmc : Nat.ble d EXT = true) :
    Op1 P n o ⟨opKey s1 ++ opKey s2, [.t d, .b d], [d]⟩ σ [(.t d, some (.one (.c (.sl d k)))), (.b d, some (.box (List.replicate k (.val (.bool false)))))] where
  does := fun σ' hag hal C who a w hr hdst K Q hK => by
    have e1 : a.eval s1 = .int .i64 k := hr.ev ((ev_agree fun k hk => hag k (List.mem_append_left _ hk)).trans h1)
    have e2 : a.eval s2 = .int .i64 k := hr.ev ((ev_agree fun k hk => hag k (List.mem_append_right _ hk)).trans h2)
    obtain ⟨i', hi', hz0, hz1, hz2⟩ := info_parts hT.info
    have hm : (madeCells (Value.bool false).cells k).toList = List.replicate k (.bool false) := by
      apply List.ext_getElem?
      intro j
      rcases Nat.lt_or_ge j k with hj | hj
      · simp [madeCells, Value.cells, hj, Nat.mod_one]
      · rw [List.getElem?_eq_none (by simp [madeCells]; omega), List.getElem?_eq_none (by simp; omega)]
    have hrun0 := run_makeSlice (P := P) w T E i' (.bool false) hT.und hi' hz0 .i64 .i64 k k (by omega) (by omega) (by rw [hz1]; omega) (by rw [hz2]; omega) (by omega)
    have hrun : (execOp a.eval o).run P w = .ok (.value (.slice (some ⟨w.heap.size, 0, none⟩) k k)) (w.alloc (.cells (List.replicate k (Value.bool false)).toArray E)) := by
      have : madeCells (Value.bool false).cells ((k : Int).toNat * i'.size) = (List.replicate k (Value.bool false)).toArray := by
        rw [hz1, Int.toNat_natCast, Nat.mul_one, ← hm]
      rw [this] at hrun0
      simp only [execOp, ho, e1, e2, Sem.run_bind, hrun0]; rfl
    unfold Oper.wp
    rw [hrun]
    show K (a.put o.dst _) _
    refine hK (tagBox d w.heap.size who) _ _ ?_
    rw [hd]
    refine new_boxG (E := E) (u := List.replicate k (.bool false)) (cs := List.replicate k (.val (.bool false))) (cv := .sl d k) hr (hdst d hd) hx (le_ext hmc) (shp_of hmc _ _ _) (hal d (by simp)) (fun who' w' q c v hq hv T G _ _ _ => ?_) (by simp) ⟨_, _, rfl, ⟨Nat.le_refl _, by simp only [maxLen]; omega⟩, tagBox_new⟩
    rw [List.getElem?_replicate] at hq hv
    split at hq
    · rename_i h
      rw [if_pos h] at hv
      injection hq with hq; injection hv with hv
      subst hq hv; rfl
    · cases hq
  wr := by simp
  me := fun j hj => by
    right
    simp [St.ids, oids, X.ids, A1.ids, CV.ids, List.flatMap_replicate] at hj
    subst hj; simp
  al := by simp
theorem op_lenKS {T : Tabs P} {α : Type} {f : α → D} {d t E0 m0 b0 tp E m : Nat} {v : Value} {s : Operand} {l : List α} (hd : o.dst = some d) (ho : o.op = .call { callee := .builtin .len, args := #[s], argTypes := #[t] }) (hT : T.sl t = some (E0, m0, b0)) (hs : St.ev σ s = some (.one (.c (.val v))))
    (hp : St.get σ (.t tp) = some (.one (.c (.ownK v E m (l.map f))))) :
    Op1 P n o ⟨(opKey s ++ [.t tp]) ++ (X.one (iA l.length)).ids.map Key.b, [.t d], []⟩ σ [(.t d, some (.one (iA l.length)))] :=
  .value _ hd fun σ' hag C who a w hr => by
    obtain ⟨z, hzz⟩ := T.sl_ok hT
    have e : a.eval s = v := hr.ev ((ev_agree fun k hk => hag k (List.mem_append_left _ hk)).trans hs)
    obtain ⟨e2, h5⟩ := hr.slot tp _ ((hag (.t tp) (by simp)).trans hp)
    have hl : ∃ ad cap, v = .slice ad l.length cap := by
      obtain ⟨⟨xs, ⟨_, h7⟩, _⟩, _⟩ := h5
      rw [e2, List.length_map] at h7
      rcases h7 with ⟨h7, h8⟩ | ⟨g, cap, cur, h7, _⟩
      · exact ⟨none, 0, by rw [h7, h8]⟩
      · exact ⟨_, cap, h7⟩
    obtain ⟨ad, cap, hv⟩ := hl
    rw [hv] at e
    refine ⟨_, ?_, rfl⟩
    simp [execOp, ho, e, Go.resolve, invoke, builtin, Builtin.len_, run_underlying hzz.und, goInt]
end
theorem op_mkBools {n : Nat} {o : Oper} {σ : St} {d k : Nat} {s1 s2 : Operand} (hd : o.dst = some d) (ho : o.op = .makeSlice 68 s1 s2) (h1 : St.ev σ s1 = some (.one (iA k))) (h2 : St.ev σ s2 = some (.one (iA k))) (hk : k ≤ 1000) (hx : Nat.beq d EXT = false) (hmc : Nat.ble d EXT = true) :
    Op1 Tryz.prog n o ⟨opKey s1 ++ opKey s2, [.t d, .b d], [d]⟩ σ [(.t d, some (.one (.c (.sl d k)))), (.b d, some (.box (List.replicate k (.val (.bool false)))))] := op_mkSlB hd ho slBools h1 h2 hk hx hmc
abbrev gI : Int → List FC := fun n => [.val (.int .i64 n)]
abbrev iC : Int → CV := fun n => .val (.int .i64 n)
abbrev bC : Bool → CV := fun b => .val (.bool b)
theorem els_int (l : List Int) (e : Nat) : els gI l e = l.map iC ++ List.replicate e .any := by
  unfold els
  congr 1
  induction l with
  | nil => rfl
  | cons a l ih => rw [List.flatMap_cons, List.map_append, ih]; rfl
theorem intC_get {l : List Int} {i : Nat} {x : Int} (h : l[i]? = some x) (r : List CV) : (l.map iC ++ r)[i * 1]? = some (iC x) := by
  rw [Nat.mul_one, List.getElem?_append_left (by rw [List.length_map]; exact (List.getElem?_eq_some_iff.1 h).1), List.getElem?_map, h]; rfl
theorem intC_set {l : List Int} {i : Nat} (h : i < l.length) (x : Int) (r : List CV) : (l.map iC ++ r).set (i * 1) (iC x) = (l.set i x).map iC ++ r := by
  rw [Nat.mul_one, List.set_append_left _ _ (by rw [List.length_map]; exact h), List.map_set]
theorem intS_set {l : List Int} (i : Nat) (x : Int) : (l.map iC).set (i * 1) (iC x) = (l.set i x).map iC := by rw [Nat.mul_one, List.map_set]
theorem intS_get {l : List Int} {i : Nat} {x : Int} (h : l[i]? = some x) : (l.map iC)[i * 1]? = some (iC x) := by rw [Nat.mul_one, List.getElem?_map, h]; rfl
theorem boolS_set {l : List Bool} (i : Nat) (x : Bool) : (l.map bC).set (i * 1) (bC x) = (l.set i x).map bC := by rw [Nat.mul_one, List.map_set]
theorem boolS_get {l : List Bool} {i : Nat} {x : Bool} (h : l[i]? = some x) : (l.map bC)[i * 1]? = some (bC x) := by rw [Nat.mul_one, List.getElem?_map, h]; rfl
def mixL (g : Int → Int) (l : List Int) (i : Nat) : List Int := (l.take i).map g ++ l.drop i
theorem mixL_get {g : Int → Int} {l : List Int} {i : Nat} {x : Int} (h : l[i]? = some x) : (mixL g l i)[i]? = some x := by
  have hl := (List.getElem?_eq_some_iff.1 h).1
  unfold mixL
  rw [List.getElem?_append_right (by rw [List.length_map, List.length_take]; omega), List.length_map, List.length_take, Nat.min_eq_left (by omega), Nat.sub_self, List.getElem?_drop]
  exact h
theorem mixL_len (g : Int → Int) (l : List Int) (i : Nat) : (mixL g l i).length = l.length := by
  unfold mixL
  rw [List.length_append, List.length_map, List.length_take, List.length_drop]; omega
theorem mixL_set {g : Int → Int} {l : List Int} {i : Nat} {x : Int} (h : l[i]? = some x) : (mixL g l i).set i (g x) = mixL g l (i + 1) := by
  have hl := (List.getElem?_eq_some_iff.1 h).1
  unfold mixL
  rw [List.set_append_right _ _ (by rw [List.length_map, List.length_take]; omega), List.length_map, List.length_take, Nat.min_eq_left (by omega), Nat.sub_self, take_succ_of h, drop_of h, List.map_append, List.set_cons_zero, List.append_assoc]
  rfl
theorem mixL_same {g : Int → Int} {l : List Int} {i : Nat} {x : Int} (h : l[i]? = some x) (hg : g x = x) : mixL g l (i + 1) = mixL g l i := by
  rw [← mixL_set h, hg]
  exact List.ext_getElem? fun j => by
    rcases Classical.em (i = j) with rfl | hne
    · rw [List.getElem?_set_self (by rw [mixL_len]; exact (List.getElem?_eq_some_iff.1 h).1), mixL_get h]
    · rw [List.getElem?_set_ne hne]
theorem mixL_zero (g : Int → Int) (l : List Int) : mixL g l 0 = l := by simp [mixL]
theorem mixL_all (g : Int → Int) (l : List Int) : mixL g l l.length = l.map g := by simp [mixL]
theorem int_flat (l : List Int) : (l.flatMap gI).map FC.cv = l.map iC := by
  have := els_int l 0
  simpa [els] using this
theorem frz_hc (l : List Int) (r : List CV) : (l.flatMap gI).map FC.cv = (l.map iC ++ r).take (l.flatMap gI).length := by
  have h : (l.flatMap gI).length = (l.map iC).length := by rw [← int_flat, List.length_map]
  rw [int_flat, h, List.take_left]
def mRep (L : List (Int × Value)) (N : Int → Bool) : Prop := ∀ v, (mGet L v).getD (.bool false) = .bool (N v)
theorem mRep.put {L : List (Int × Value)} {N : Int → Bool} (h : mRep L N) (f : Int) : mRep (mPut L f (.bool true)) (fun v => N v || v == f) := fun v => by
  rw [mGet_put]
  by_cases hv : v = f
  · rw [if_pos hv]; simp [hv]
  · rw [if_neg hv, h v]; simp [hv]
theorem mRep.start (a : Int) : mRep (mPut [] a (.bool true)) (fun v => v == a) := fun v => by
  rw [mGet_put]
  by_cases hv : v = a
  · rw [if_pos hv]; simp [hv]
  · rw [if_neg hv, mGet_nil]; simp [hv]
def ren1 (N : Int → Bool) (r f : Int) : Int := if r = 1 then f else (cntN N f.toNat : Int)
theorem map_idL (l : List Int) (g : Int → Int) (h : ∀ x, g x = x) : l.map g = l := by
  induction l with
  | nil => rfl
  | cons a l ih => rw [List.map_cons, ih, h]
theorem renum_eq (N : Int → Bool) (r : Int) (f : List Int) (c : List Lt) : renum N ⟨r, f, c⟩ = ⟨r, f.map (ren1 N r), c⟩ := by
  unfold renum
  by_cases h : r = 1
  · rw [if_pos h, map_idL f (ren1 N r) (fun x => if_pos h)]
  · rw [if_neg h]
    have : f.map (ren1 N r) = f.map fun x => (cntN N x.toNat : Int) := List.map_congr_left fun x _ => if_neg h
    rw [this]
theorem needs_closed {S : List Int} {inn : List (List Lt)} {steps : List Sp} (h : Checked S inn steps) {z : Nat} (hz : z < steps.length) {i : Nat} {r : Int} {f : List Int} {c : List Lt} (hx : steps[i]? = some ⟨r, f, c⟩) (hi : i ≤ z) (hN : needs steps (z : Int) (i : Int) = true) (hr : r ≠ 1) : ∀ y ∈ f, (0 ≤ y ∧ y < (i : Int)) ∧ needs steps (z : Int) y = true := by
  intro y hy
  have hd := h.down
  have hs : stAt steps (i : Int) = ⟨r, f, c⟩ := stAt_get (by rw [Int.toNat_natCast]; exact hx)
  refine ⟨hd i _ hx hr y hy, ?_⟩
  unfold needs at hN ⊢
  rw [Int.toNat_natCast] at hN ⊢
  have := needGo_closed hd (z + 1) (fun v => v == (z : Int)) (by omega) i (by omega) hN
  rw [hs] at this
  exact this hr y hy
theorem frm_ne {S : List Int} {inn : List (List Lt)} {steps : List Sp} (h : Checked S inn steps) {i : Nat} {r : Int} {f : List Int} {c : List Lt} (hx : steps[i]? = some ⟨r, f, c⟩) : 0 < f.length := by
  have hj := h.just i _ hx
  rcases Nat.eq_zero_or_pos f.length with h0 | h0
  · have hc := hj.comes
    have : comes inn steps i ⟨r, f, c⟩ = [] := if_pos (.inl h0)
    rw [this] at hc; cases hc
  · exact h0
theorem contains_snoc (N : Int → Bool) {l : List Int} {k : Nat} {f : Int} (h : l[k]? = some f) (v : Int) : ((N v || (l.take k).contains v) || v == f) = (N v || (l.take (k + 1)).contains v) := by
  rw [take_succ_of h, Bool.or_assoc]
  congr 1
  rw [Bool.eq_iff_iff]
  simp
theorem strim {S : List Int} {inn : List (List Lt)} {steps : List Sp} (h : Checked S inn steps) (hl : ∀ x ∈ steps, x.frm.length ≤ 1000000000) (last : Int) :
    FnD Tryz.prog 12 [lA Sp.d steps, iA last] (.one (lA Sp.d (trim steps last))) := by
  refine Fn.of Tryz.func12 rfl Tryz.ntmps12 rfl (Nat.le_of_ble_eq_true rfl) ?_
  have h120 := h.len
  by_cases h0 : last < 0
  · rw [show trim steps last = [] from if_pos (.inl h0)]
    (refine wlk ?_)
    refine fin_wk (fun n => Wk.nilArr (d := 4) rfl) ?_
    (refine wfT ?_)
    rfl
  by_cases h1 : (steps.length : Int) ≤ last
  · rw [show trim steps last = [] from if_pos (.inr h1)]
    (refine wlk ?_)
    refine fin_wk (fun n => Wk.nilArr (d := 4) rfl) ?_
    (refine wfT ?_)
    rfl
  rw [show trim steps last = trimGo steps (needs steps last) (last.toNat + 1) from if_neg (by omega)]
  obtain ⟨z, rfl⟩ := Int.eq_ofNat_of_zero_le (show 0 ≤ last by omega)
  rw [Int.toNat_natCast]
  have hzl : z < steps.length := by omega
  (refine wlk ?_)
  refine dwp_loop (fun x : Nat × Int × List (Int × Value) × (Int → Bool) => [(.t 0, some (.one (lA Sp.d steps))), (.t 1, some (.one (iA z))), (.t 5, some (.one (.c (.mp 2000023)))), (.b 2000023, some (.box [mapC (Value.int .i64) x.2.2.1])), (.t 6, some (.one (iA x.2.1)))])
    (fun x => x.1 ≤ z + 1 ∧ x.2.1 = (x.1 : Int) - 1 ∧ mRep x.2.2.1 x.2.2.2 ∧ needGo steps x.1 x.2.2.2 = needs steps (z : Int)) (fun x => x.1) (z + 1, (z : Int), mPut [] (z : Int) (.bool true), fun v => v == (z : Int)) ⟨Nat.le_refl _, by simp, mRep.start _, by unfold needs; rw [Int.toNat_natCast]⟩ fgs ?_
  rintro ⟨j, zz, L, N⟩ ⟨hj, hz, hR, hN⟩
  dsimp only at hj hz hR hN ⊢
  cases j with
  | succ i =>
    have hz' : zz = (i : Int) := by omega
    subst hz'
    obtain ⟨⟨r, f, c⟩, hx⟩ := get_of_lt (s := steps) (k := i) (by omega)
    have hsx : stAt steps (i : Int) = ⟨r, f, c⟩ := stAt_get (by rw [Int.toNat_natCast]; exact hx)
    have hstep : needGo steps (i + 1) N = needGo steps i (if N (i : Int) && !((stAt steps (i : Int)).rule == 1) then fun v => N v || (stAt steps (i : Int)).frm.contains v else N) := rfl
    rw [hsx] at hstep
    dsimp only at hstep
    have hlk := hR (i : Int)
    cases hNi : N (i : Int)
    · rw [hNi] at hlk hstep
      simp only [Bool.false_and, Bool.false_eq_true, if_false] at hstep
      (refine wlk ?_)
      exact ⟨(i, (i : Int) - 1, L, N), ⟨by simp only; omega, rfl, hR, by rw [← hN, hstep]⟩, fgs, by simp only; omega⟩
    · rw [hNi] at hlk hstep
      by_cases hr : r = 1
      · rw [if_neg (by simp [hr])] at hstep
        (refine wlk ?_)
        exact ⟨(i, (i : Int) - 1, L, N), ⟨by simp only; omega, rfl, hR, by rw [← hN, hstep]⟩, fgs, by simp only; omega⟩
      · rw [if_pos (by simp [hr])] at hstep
        have hfl := hl _ (List.mem_of_getElem? hx)
        dsimp only at hfl
        (refine wlk ?_)
        clear hlk
        refine dwp_loop (fun y : Nat × List (Int × Value) => [(.t 0, some (.one (lA Sp.d steps))), (.t 1, some (.one (iA z))), (.t 5, some (.one (.c (.mp 2000023)))), (.b 2000023, some (.box [mapC (Value.int .i64) y.2])), (.t 6, some (.one (iA i))), (.t 46, some (.one (lA Int.d f))), (.t 47, some (.one (iA f.length))), (.t 48, some (.one (iA y.1)))])
          (fun y => y.1 ≤ f.length ∧ mRep y.2 (fun v => N v || (f.take y.1).contains v)) (fun y => f.length - y.1) (0, L) ⟨by simp, by simpa using hR⟩ fgs ?_
        rintro ⟨k, M⟩ ⟨hk, hM⟩
        dsimp only at hk hM ⊢
        by_cases hkl : k < f.length
        · obtain ⟨y, hy⟩ := get_of_lt hkl
          have hput : mRep (mPut M y (.bool true)) (fun v => N v || (f.take (k + 1)).contains v) := fun v => by
            rw [hM.put y v]
            exact congrArg _ (contains_snoc N hy v)
          (refine wlk ?_)
          exact ⟨(k + 1, _), ⟨by simp only; omega, hput⟩, fgs, by simp only; omega⟩
        · have hkf : k = f.length := by omega
          subst hkf
          rw [List.take_length] at hM
          (refine wlk ?_)
          exact ⟨(i, (i : Int) - 1, M, fun v => N v || f.contains v), ⟨by simp only; omega, rfl, hM, by rw [← hN, hstep]⟩, fgs, by simp only; omega⟩
  | zero =>
    have hz' : zz = -1 := by omega
    subst hz'
    have hNN : N = needs steps (z : Int) := hN
    rw [← hNN]
    have hcl : ∀ (i : Nat) (r : Int) (f : List Int) (c : List Lt), steps[i]? = some ⟨r, f, c⟩ → i ≤ z → N (i : Int) = true → r ≠ 1 → ∀ y ∈ f, (0 ≤ y ∧ y < (i : Int)) ∧ N y = true := by
      intro i r f c hx hi hNi hr
      rw [hNN] at hNi ⊢
      exact needs_closed h hzl hx hi hNi hr
    clear hN hNN hj hz
    (refine wlk ?_)
    refine dwp_loop (fun x : Nat × List (Int × Value) => [(.t 0, some (.one (lA Sp.d steps))), (.t 5, some (.one (.c (.mp 2000023)))), (.b 2000023, some (.box [mapC (Value.int .i64) L])), (.t 9, some (.one (.c (.mp 2000055)))), (.b 2000055, some (.box [mapC (Value.int .i64) x.2])),
        (.t 10, some (.one (.c (.own 41 3 ((trimGo steps N x.1).map Sp.d))))), (.t 57, some (.one (iA ((z : Int) + 1)))), (.t 58, some (.one (iA x.1)))])
      (fun x => x.1 ≤ z + 1 ∧ ∀ i : Nat, i < x.1 → N (i : Int) = true → mGet x.2 (i : Int) = some (.int .i64 (cntN N i))) (fun x => z + 1 - x.1) (0, []) ⟨by simp, fun i hi => absurd hi (Nat.not_lt_zero _)⟩ ((Wk.nilOwn (d := 10) (E := 41) (m := 3) rfl).trans fgs) ?_
    rintro ⟨k, M⟩ ⟨hk, hM⟩
    dsimp only at hk hM ⊢
    by_cases hkz : k < z + 1
    rotate_left
    · have hke : k = z + 1 := by omega
      subst hke
      refine dwp_wk (Wk.freezeAt (d := 10) rfl) ?_
      (refine wlk ?_)
      (refine wfT ?_)
      rfl
    have hlk := hR (k : Int)
    cases hNk : N (k : Int)
    · rw [hNk] at hlk
      have ht : trimGo steps N (k + 1) = trimGo steps N k := by
        simp only [trimGo]
        rw [hNk]; simp
      (refine wlk ?_)
      refine ⟨(k + 1, M), ⟨by simp only; omega, fun i hi hNi => ?_⟩, ?_, by simp only; omega⟩
      · rcases Nat.lt_or_ge i k with h | h
        · exact hM i h hNi
        · have : i = k := by simp only at hi; omega
          subst this
          rw [hNk] at hNi; cases hNi
      · dsimp only
        rw [ht]
        exact fgs
    rw [hNk] at hlk
    obtain ⟨⟨r, f, c⟩, hx⟩ := get_of_lt (s := steps) (k := k) (by omega)
    have hfl := hl _ (List.mem_of_getElem? hx)
    dsimp only at hfl
    have hf0 := frm_ne h hx
    have hclk := hcl k r f c hx (by omega) hNk
    have hsx : stAt steps (k : Int) = ⟨r, f, c⟩ := stAt_get (by rw [Int.toNat_natCast]; exact hx)
    have ht : trimGo steps N k ++ [(⟨r, f.map (ren1 N r), c⟩ : Sp)] = trimGo steps N (k + 1) := by
      simp only [trimGo]
      rw [hNk, if_pos rfl, hsx, renum_eq]
    have htl : (trimGo steps N k).length ≤ k := by rw [trimGo_len]; exact cntN_le N k
    have htl2 : (trimGo steps N (k + 1)).length ≤ 1000 := by rw [trimGo_len]; have := cntN_le N (k + 1); omega
    have hclone := cloneI f (by omega)
    (refine wlk ?_)
    (refine wlC hclone ?_)
    (refine wlE ?_)
    refine dwp_ownElsB (f := Int.d) (tp := 12) (b0 := 12) (q0 := 1) (T := 500) (l := f) rfl rfl rfl hf0 rfl rfl rfl rfl rfl rfl rfl fun e => ?_
    rw [show els (fun n : Int => [FC.val (.int .i64 n)]) f e = _ from els_int f e]
    (refine wlk ?_)
    refine dwp_loop (fun i : Nat => [(.t 0, some (.one (lA Sp.d steps))), (.t 5, some (.one (.c (.mp 2000023)))), (.b 2000023, some (.box [mapC (Value.int .i64) L])), (.t 9, some (.one (.c (.mp 2000055)))), (.b 2000055, some (.box [mapC (Value.int .i64) M])),
        (.t 10, some (.one (.c (.own 41 3 ((trimGo steps N k).map Sp.d))))), (.t 11, some (.one (iA k))), (.t 12, some (.one (.c (.ptr 12 0)))), (.b 12, some (.box [.val (.int .i64 r), .sl 500 f.length, .arr (c.map Lt.d)])), (.b 500, some (.box ((mixL (ren1 N r) f i).map iC ++ List.replicate e CV.any))),
        (.t 57, some (.one (iA ((z : Int) + 1)))), (.t 58, some (.one (iA k))), (.t 74, some (.one (.c (.sl 500 f.length)))), (.t 75, some (.one (iA f.length))), (.t 76, some (.one (iA i)))])
      (fun i => i ≤ f.length) (fun i => f.length - i) 0 (by omega) (by dsimp only; rw [mixL_zero]; exact fgs) ?_
    intro i hi
    by_cases hil : i < f.length
    · obtain ⟨y, hy⟩ := get_of_lt hil
      have hload := intC_get (mixL_get (g := ren1 N r) hy) (List.replicate e CV.any)
      have hlen : ((mixL (ren1 N r) f i).map iC ++ List.replicate e CV.any).length = f.length + e := by simp [mixL_len]
      by_cases hr : r = 1
      · have hsame := mixL_same (g := ren1 N r) hy (if_pos hr)
        (refine wlk ?_)
        refine ⟨i + 1, by omega, ?_, by omega⟩
        rw [hsame]
        exact fgs
      · obtain ⟨⟨y0, y1⟩, hNy⟩ := hclk hr y (List.mem_of_getElem? hy)
        obtain ⟨yn, rfl⟩ := Int.eq_ofNat_of_zero_le y0
        have hlk2 : (mGet M (yn : Int)).getD (.int .i64 0) = .int .i64 (ren1 N r (yn : Int)) := by
          rw [hM yn (by omega) hNy]
          unfold ren1
          rw [if_neg hr, Int.toNat_natCast]; rfl
        have hset : ((mixL (ren1 N r) f i).map iC ++ List.replicate e CV.any).set (i * 1) (.val (.int .i64 (ren1 N r (yn : Int)))) = (mixL (ren1 N r) f (i + 1)).map iC ++ List.replicate e CV.any := by
          rw [← mixL_set (g := ren1 N r) hy]
          exact intC_set (by rw [mixL_len]; exact hil) _ _
        (refine wlk ?_)
        exact ⟨i + 1, by omega, fgs, by omega⟩
    have hif : i = f.length := by omega
    subst hif
    rw [mixL_all]
    refine dwp_wk (Wk.frzSlB (f := Int.d) (b0 := 12) (q := 1) (j := 500) (k := f.length) (l := f.map (ren1 N r)) (ds' := [.val (.int .i64 r), .arr ((f.map (ren1 N r)).map Int.d), .arr (c.map Lt.d)]) rfl rfl rfl (frz_hc _ _) (by simp) rfl rfl rfl rfl rfl rfl) ?_
    refine dwp_isO (t := 10) rfl fun v => ?_
    (refine wlk ?_)
    (refine SqA.b1 (op_lenKS (T := TB) (f := Sp.d) (l := trimGo steps N k) (tp := 10) rfl rfl rfl rfl rfl) rfl rfl ?_)
    (refine wlE ?_)
    refine dwp_wk (Wk.ofK (t := 10) rfl) ?_
    (refine wlk ?_)
    (refine SqA.b1 (op_bsT (T := TB) (f := Sp.d) [(⟨r, f.map (ren1 N r), c⟩ : Sp)] rfl rfl rfl rfl rfl rfl rfl rfl rfl rfl rfl) rfl rfl ?_)
    (refine wlk ?_)
    refine ⟨(k + 1, _), ⟨by simp only; omega, fun i hi hNi => ?_⟩, fgs, by simp only; omega⟩
    rw [mGet_put]
    by_cases hik : (i : Int) = (k : Int)
    · rw [if_pos hik]
      have : i = k := by omega
      subst this
      simp [trimGo_len]
    · rw [if_neg hik]
      exact hM i (by simp only at hi; omega) hNi
def bRep (B : List Bool) (z : Nat) (N : Int → Bool) : Prop := B.length = z + 1 ∧ ∀ i : Nat, i < z + 1 → B[i]? = some (N (i : Int))
theorem bRep.put {B : List Bool} {z : Nat} {N : Int → Bool} (h : bRep B z N) {i : Nat} (hi : i < z + 1) : bRep (B.set i true) z (fun v => N v || v == (i : Int)) := by
  refine ⟨by rw [List.length_set]; exact h.1, fun j hj => ?_⟩
  rcases Classical.em (i = j) with rfl | hne
  · rw [List.getElem?_set_self (by rw [h.1]; exact hj)]
    simp
  · rw [List.getElem?_set_ne hne, h.2 j hj]
    have : ((j : Int) == (i : Int)) = false := beq_eq_false_iff_ne.2 (by omega)
    dsimp only
    rw [this, Bool.or_false]
theorem bRep.start (z : Nat) : bRep ((List.replicate (z + 1) false).set z true) z (fun v => v == (z : Int)) := by
  refine ⟨by simp, fun j hj => ?_⟩
  rcases Classical.em (z = j) with rfl | hne
  · rw [List.getElem?_set_self (by simp)]; simp
  · rw [List.getElem?_set_ne hne, List.getElem?_replicate, if_pos hj]
    have : ((j : Int) == (z : Int)) = false := beq_eq_false_iff_ne.2 (by omega)
    dsimp only
    rw [this]
theorem replB (k : Nat) : List.replicate k (CV.val (.bool false)) = (List.replicate k false).map bC := by simp
theorem replI (k : Nat) : List.replicate k (CV.val (.int .i64 0)) = (List.replicate k 0).map iC := by simp
theorem boolZ_set (z : Nat) : (List.replicate (z + 1) (CV.val (.bool false))).set (z * 1) (.val (.bool true)) = ((List.replicate (z + 1) false).set z true).map bC := by rw [replB]; exact boolS_set z true
theorem rtrim {S : List Int} {inn : List (List Lt)} {steps : List Sp} (h : Checked S inn steps) (hl : ∀ x ∈ steps, x.frm.length ≤ 1000000000) (last : Int) :
    FnD Tryz.prog 13 [lA Sp.d steps, iA last] (.one (lA Sp.d (trim steps last))) := by
  refine Fn.of Tryz.func13 rfl Tryz.ntmps13 rfl (Nat.le_of_ble_eq_true rfl) ?_
  have h120 := h.len
  by_cases h0 : last < 0
  · rw [show trim steps last = [] from if_pos (.inl h0)]
    (refine wlk ?_)
    refine fin_wk (fun n => Wk.nilArr (d := 4) rfl) ?_
    (refine wfT ?_)
    rfl
  by_cases h1 : (steps.length : Int) ≤ last
  · rw [show trim steps last = [] from if_pos (.inr h1)]
    (refine wlk ?_)
    refine fin_wk (fun n => Wk.nilArr (d := 4) rfl) ?_
    (refine wfT ?_)
    rfl
  rw [show trim steps last = trimGo steps (needs steps last) (last.toNat + 1) from if_neg (by omega)]
  obtain ⟨z, rfl⟩ := Int.eq_ofNat_of_zero_le (show 0 ≤ last by omega)
  rw [Int.toNat_natCast]
  have hzl : z < steps.length := by omega
  have hset0 := boolZ_set z
  (refine wlk ?_)
  (refine SqA.b2 (op_mkBools (k := z + 1) rfl rfl rfl rfl (by omega) rfl rfl) rfl rfl ?_)
  (refine wlk ?_)
  refine dwp_loop (fun x : Nat × Int × List Bool × (Int → Bool) => [(.t 0, some (.one (lA Sp.d steps))), (.t 1, some (.one (iA z))), (.t 5, some (.one (.c (.sl 25 (z + 1))))), (.b 25, some (.box (x.2.2.1.map bC))), (.t 6, some (.one (iA x.2.1)))])
    (fun x => x.1 ≤ z + 1 ∧ x.2.1 = (x.1 : Int) - 1 ∧ bRep x.2.2.1 z x.2.2.2 ∧ needGo steps x.1 x.2.2.2 = needs steps (z : Int)) (fun x => x.1) (z + 1, (z : Int), (List.replicate (z + 1) false).set z true, fun v => v == (z : Int)) ⟨Nat.le_refl _, by simp, bRep.start _, by unfold needs; rw [Int.toNat_natCast]⟩ fgs ?_
  rintro ⟨j, zz, B, N⟩ ⟨hj, hz, hR, hN⟩
  dsimp only at hj hz hR hN ⊢
  cases j with
  | succ i =>
    have hz' : zz = (i : Int) := by omega
    subst hz'
    obtain ⟨⟨r, f, c⟩, hx⟩ := get_of_lt (s := steps) (k := i) (by omega)
    have hsx : stAt steps (i : Int) = ⟨r, f, c⟩ := stAt_get (by rw [Int.toNat_natCast]; exact hx)
    have hstep : needGo steps (i + 1) N = needGo steps i (if N (i : Int) && !((stAt steps (i : Int)).rule == 1) then fun v => N v || (stAt steps (i : Int)).frm.contains v else N) := rfl
    rw [hsx] at hstep
    dsimp only at hstep
    have hlk := boolS_get (hR.2 i (by omega))
    cases hNi : N (i : Int)
    · rw [hNi] at hlk hstep
      simp only [Bool.false_and, Bool.false_eq_true, if_false] at hstep
      (refine wlk ?_)
      exact ⟨(i, (i : Int) - 1, B, N), ⟨by simp only; omega, rfl, hR, by rw [← hN, hstep]⟩, fgs, by simp only; omega⟩
    · rw [hNi] at hlk hstep
      by_cases hr : r = 1
      · rw [if_neg (by simp [hr])] at hstep
        (refine wlk ?_)
        exact ⟨(i, (i : Int) - 1, B, N), ⟨by simp only; omega, rfl, hR, by rw [← hN, hstep]⟩, fgs, by simp only; omega⟩
      · rw [if_pos (by simp [hr])] at hstep
        have hfl := hl _ (List.mem_of_getElem? hx)
        have hdn := h.down i _ hx hr
        dsimp only at hfl hdn
        (refine wlk ?_)
        clear hlk
        refine dwp_loop (fun y : Nat × List Bool => [(.t 0, some (.one (lA Sp.d steps))), (.t 1, some (.one (iA z))), (.t 5, some (.one (.c (.sl 25 (z + 1))))), (.b 25, some (.box (y.2.map bC))), (.t 6, some (.one (iA i))), (.t 51, some (.one (lA Int.d f))), (.t 52, some (.one (iA f.length))), (.t 53, some (.one (iA y.1)))])
          (fun y => y.1 ≤ f.length ∧ bRep y.2 z (fun v => N v || (f.take y.1).contains v)) (fun y => f.length - y.1) (0, B) ⟨by simp, by simpa using hR⟩ fgs ?_
        rintro ⟨k, M⟩ ⟨hk, hM⟩
        dsimp only at hk hM ⊢
        by_cases hkl : k < f.length
        · obtain ⟨y, hy⟩ := get_of_lt hkl
          obtain ⟨y0, y1⟩ := hdn y (List.mem_of_getElem? hy)
          obtain ⟨yn, rfl⟩ := Int.eq_ofNat_of_zero_le y0
          have hput : bRep (M.set yn true) z (fun v => N v || (f.take (k + 1)).contains v) := by
            have := hM.put (i := yn) (by omega)
            rwa [show (fun v => (N v || (f.take k).contains v) || v == (yn : Int)) = (fun v => N v || (f.take (k + 1)).contains v) from funext fun v => contains_snoc N hy v] at this
          have hset : (M.map bC).set (yn * 1) (.val (.bool true)) = (M.set yn true).map bC := boolS_set yn true
          have hml := hM.1
          (refine wlk ?_)
          exact ⟨(k + 1, _), ⟨by simp only; omega, hput⟩, fgs, by simp only; omega⟩
        · have hkf : k = f.length := by omega
          subst hkf
          rw [List.take_length] at hM
          (refine wlk ?_)
          exact ⟨(i, (i : Int) - 1, M, fun v => N v || f.contains v), ⟨by simp only; omega, rfl, hM, by rw [← hN, hstep]⟩, fgs, by simp only; omega⟩
  | zero =>
    have hz' : zz = -1 := by omega
    subst hz'
    have hNN : N = needs steps (z : Int) := hN
    rw [← hNN]
    have hcl : ∀ (i : Nat) (r : Int) (f : List Int) (c : List Lt), steps[i]? = some ⟨r, f, c⟩ → i ≤ z → N (i : Int) = true → r ≠ 1 → ∀ y ∈ f, (0 ≤ y ∧ y < (i : Int)) ∧ N y = true := by
      intro i r f c hx hi hNi hr
      rw [hNN] at hNi ⊢
      exact needs_closed h hzl hx hi hNi hr
    clear hN hNN hj hz hset0
    have hrep := replI (z + 1)
    (refine wlk ?_)
    (refine SqA.b2 (op_mkInts (k := z + 1) rfl rfl rfl rfl (by omega) rfl rfl) rfl (by simp [St.ids, oids, X.ids, A1.ids, CV.ids, nomem, List.flatMap_map]; rfl) ?_)
    (refine wlk ?_)
    refine dwp_loop (fun x : Nat × List Int => [(.t 0, some (.one (lA Sp.d steps))), (.t 5, some (.one (.c (.sl 25 (z + 1))))), (.b 25, some (.box (B.map bC))), (.t 9, some (.one (.c (.sl 63 (z + 1))))), (.b 63, some (.box (x.2.map iC))),
        (.t 10, some (.one (.c (.own 41 3 ((trimGo steps N x.1).map Sp.d))))), (.t 65, some (.one (iA ((z : Int) + 1)))), (.t 66, some (.one (iA x.1)))])
      (fun x => x.1 ≤ z + 1 ∧ x.2.length = z + 1 ∧ ∀ i : Nat, i < x.1 → x.2[i]? = some (cntN N i : Int)) (fun x => z + 1 - x.1) (0, List.replicate (z + 1) 0) ⟨by simp, by simp, fun i hi => absurd hi (Nat.not_lt_zero _)⟩ ((Wk.nilOwn (d := 10) (E := 41) (m := 3) rfl).trans (by dsimp only; rw [← hrep]; exact fgs)) ?_
    rintro ⟨k, A⟩ ⟨hk, hAl, hA⟩
    dsimp only at hk hAl hA ⊢
    by_cases hkz : k < z + 1
    rotate_left
    · have hke : k = z + 1 := by omega
      subst hke
      refine dwp_wk (Wk.freezeAt (d := 10) rfl) ?_
      (refine wlk ?_)
      (refine wfT ?_)
      rfl
    have hlk := boolS_get (hR.2 k hkz)
    have htl : (trimGo steps N k).length ≤ k := by rw [trimGo_len]; exact cntN_le N k
    have hset : (A.map iC).set (k * 1) (.val (.int .i64 ((trimGo steps N k).length : Nat))) = (A.set k (cntN N k : Int)).map iC := by
      rw [trimGo_len]; exact intS_set k _
    have hA2 : ∀ i : Nat, i < k + 1 → (A.set k (cntN N k : Int))[i]? = some (cntN N i : Int) := fun i hi => by
      rcases Classical.em (k = i) with rfl | hne
      · rw [List.getElem?_set_self (by omega)]
      · rw [List.getElem?_set_ne hne]
        exact hA i (by omega)
    have hAl2 : (A.set k (cntN N k : Int)).length = z + 1 := by rw [List.length_set]; exact hAl
    obtain ⟨⟨r, f, c⟩, hx⟩ := get_of_lt (s := steps) (k := k) (by omega)
    refine dwp_isO (t := 10) rfl fun v => ?_
    (refine wlk ?_)
    (refine SqA.b1 (op_lenKS (T := TB) (f := Sp.d) (l := trimGo steps N k) (tp := 10) rfl rfl rfl rfl rfl) rfl rfl ?_)
    (refine wlE ?_)
    refine dwp_wk (Wk.ofK (t := 10) rfl) ?_
    clear hset
    generalize A.set k (cntN N k : Int) = A' at *
    cases hNk : N (k : Int)
    · rw [hNk] at hlk
      have ht : trimGo steps N (k + 1) = trimGo steps N k := by
        simp only [trimGo]
        rw [hNk]; simp
      (refine wlk ?_)
      refine ⟨(k + 1, A'), ⟨by simp only; omega, hAl2, hA2⟩, ?_, by simp only; omega⟩
      dsimp only
      rw [ht]
      exact fgs
    rw [hNk] at hlk
    have hfl := hl _ (List.mem_of_getElem? hx)
    dsimp only at hfl
    have hclk := hcl k r f c hx (by omega) hNk
    have hsx : stAt steps (k : Int) = ⟨r, f, c⟩ := stAt_get (by rw [Int.toNat_natCast]; exact hx)
    have ht : trimGo steps N k ++ [(⟨r, f.map (ren1 N r), c⟩ : Sp)] = trimGo steps N (k + 1) := by
      simp only [trimGo]
      rw [hNk, if_pos rfl, hsx, renum_eq]
    have htl2 : (trimGo steps N (k + 1)).length ≤ 1000 := by rw [trimGo_len]; have := cntN_le N (k + 1); omega
    (refine wlk ?_)
    (refine SqA.a2 TB rfl rfl (by simp [St.ids, oids, X.ids, A1.ids, CV.ids, FC.cv, A1.cells, splL, nomem, List.flatMap_map]; decide) ?_)
    (refine wlk ?_)
    refine dwp_wk (Wk.nilOwnB (j := 12) (q := 1) (E := 3) (m := 1) rfl rfl rfl) ?_
    refine dwp_loop (fun i : Nat => [(.t 0, some (.one (lA Sp.d steps))), (.t 5, some (.one (.c (.sl 25 (z + 1))))), (.b 25, some (.box (B.map bC))), (.t 9, some (.one (.c (.sl 63 (z + 1))))), (.b 63, some (.box (A'.map iC))),
        (.t 10, some (.one (.c (.own 41 3 ((trimGo steps N k).map Sp.d))))), (.t 12, some (.one (.c (.ptr 12 0)))), (.b 12, some (.box [.val (.int .i64 r), .own 3 1 (((f.take i).map (ren1 N r)).map Int.d), .arr (c.map Lt.d)])),
        (.t 65, some (.one (iA ((z : Int) + 1)))), (.t 66, some (.one (iA k))), (.t 94, some (.one (lA Int.d f))), (.t 95, some (.one (iA f.length))), (.t 96, some (.one (iA i)))])
      (fun i => i ≤ f.length) (fun i => f.length - i) 0 (by omega) fgs ?_
    · intro i hi
      by_cases hil : i < f.length
      · obtain ⟨y, hy⟩ := get_of_lt hil
        by_cases hr : r = 1
        · have hk2 : (f.take i).map (ren1 N r) ++ [y] = (f.take (i + 1)).map (ren1 N r) := by
            rw [take_succ_of hy, List.map_append]
            have : ren1 N r y = y := if_pos hr
            simp [this]
          (refine wlk ?_)
          (refine SqA.b1 (op_bsT (T := TB) (f := Int.d) [y] rfl rfl rfl rfl rfl rfl rfl rfl rfl rfl rfl) rfl rfl ?_)
          (refine wlk ?_)
          exact ⟨i + 1, by omega, fgs, by omega⟩
        · obtain ⟨⟨y0, y1⟩, hNy⟩ := hclk hr y (List.mem_of_getElem? hy)
          obtain ⟨yn, rfl⟩ := Int.eq_ofNat_of_zero_le y0
          have hk2 : (f.take i).map (ren1 N r) ++ [(cntN N yn : Int)] = (f.take (i + 1)).map (ren1 N r) := by
            rw [take_succ_of hy, List.map_append]
            have : ren1 N r (yn : Int) = (cntN N yn : Int) := by unfold ren1; rw [if_neg hr, Int.toNat_natCast]
            simp [this]
          have hload := intS_get (hA2 yn (by omega))
          (refine wlk ?_)
          (refine SqA.b1 (op_bsT (T := TB) (f := Int.d) [(cntN N yn : Int)] rfl rfl rfl rfl rfl rfl rfl rfl rfl rfl rfl) rfl rfl ?_)
          (refine wlk ?_)
          exact ⟨i + 1, by omega, fgs, by omega⟩
      have hif : i = f.length := by omega
      subst hif
      rw [List.take_length]
      refine dwp_wk (Wk.freezeB (j := 12) (q := 1) rfl rfl rfl) ?_
      (refine wlk ?_)
      (refine SqA.b1 (op_bsT (T := TB) (f := Sp.d) [(⟨r, f.map (ren1 N r), c⟩ : Sp)] rfl rfl rfl rfl rfl rfl rfl rfl rfl rfl rfl) rfl rfl ?_)
      (refine wlk ?_)
      exact ⟨(k + 1, A'), ⟨by simp only; omega, hAl2, hA2⟩, fgs, by simp only; omega⟩
theorem rsameInts (a b : List Int) : FnD Tryz.prog 27 [lA Int.d a, lA Int.d b] (.one (bA (decide (a = b)))) := by
  refine Fn.of Tryz.func27 rfl Tryz.ntmps27 rfl (Nat.le_of_ble_eq_true rfl) ?_
  refine dwp_len (t := 0) rfl fun hl => ?_
  simp only [List.length_map] at hl
  by_cases h3 : a.length = b.length
  rotate_left
  · (refine wlk ?_)
    (refine wfT ?_)
    exact Xb (b := false) (decide_eq_false (fun e => h3 (by rw [e]))).symm
  (refine wlk ?_)
  refine dwp_loop (fun k : Nat => [(.t 0, some (.one (lA Int.d a))), (.t 1, some (.one (lA Int.d b))), (.t 12, some (.one (iA a.length))), (.t 13, some (.one (iA k)))])
    (fun k => k ≤ a.length ∧ a.take k = b.take k) (fun k => a.length - k) 0 ⟨by omega, rfl⟩ fgs ?_
  rintro k ⟨hk, htk⟩
  by_cases hkl : k < a.length
  · obtain ⟨x, hx⟩ := get_of_lt hkl
    obtain ⟨y, hy⟩ := get_of_lt (s := b) (k := k) (by omega)
    by_cases hxy : x = y
    · (refine wlk ?_)
      exact ⟨k + 1, ⟨by omega, by rw [take_succ_of hx, take_succ_of hy, htk, hxy]⟩, fgs, by omega⟩
    · (refine wlk ?_)
      (refine wfT ?_)
      exact Xb (b := false) (decide_eq_false (fun e => hxy (by rw [e, hy] at hx; injection hx with e; exact e.symm))).symm
  · have : k = a.length := by omega
    subst this
    (refine wlk ?_)
    (refine wfT ?_)
    exact Xb (b := true) (decide_eq_true (by rw [List.take_length, h3, List.take_length] at htk; exact htk)).symm
theorem sameIntsR (l : List Int) : FnD Tryz.prog 27 [lA Int.d l, lA Int.d l] (.one (bA true)) := by
  have := rsameInts l l
  rw [decide_eq_true rfl] at this; exact this
theorem sameStepsR (l : List Sp) : FnD Tryz.prog 11 [lA Sp.d l, lA Sp.d l] (.one (bA true)) := by
  refine Fn.of Tryz.func11 rfl Tryz.ntmps11 rfl (Nat.le_of_ble_eq_true rfl) ?_
  refine dwp_len (t := 0) rfl fun hl => ?_
  simp only [List.length_map] at hl
  (refine wlk ?_)
  refine dwp_loop (fun k : Nat => [(.t 0, some (.one (lA Sp.d l))), (.t 1, some (.one (lA Sp.d l))), (.t 12, some (.one (iA l.length))), (.t 13, some (.one (iA k)))])
    (fun k => k ≤ l.length) (fun k => l.length - k) 0 (by omega) fgs ?_
  intro k hk
  by_cases hkl : k < l.length
  · obtain ⟨⟨r, f, c⟩, hx⟩ := get_of_lt hkl
    have c1 := sameIntsR f
    have c2 := rsameClause c c
    rw [clSame_iff.2 rfl] at c2
    (refine wlk ?_)
    (refine wlC c1 ?_)
    (refine wlk ?_)
    (refine wlC c2 ?_)
    (refine wlk ?_)
    exact ⟨k + 1, by omega, fgs, by omega⟩
  · (refine wlk ?_)
    (refine wfT ?_)
    rfl
theorem logTells_fn (s : List Int) (l : List (List Lt)) (steps : List Sp) (last : Int) (hl : ∀ x ∈ steps, x.frm.length ≤ 1000000000) : FnD Tryz.prog 3 [lA Int.d s, lA Cl.d l, lA Sp.d steps, iA last] (.one (bA true)) := by
  refine Fn.of Tryz.func3 rfl Tryz.ntmps3 rfl (Nat.le_of_ble_eq_true rfl) ?_
  have c1 := scheck (S := s) (inn := l) (steps := steps) hl
  have c2 := rcheck (S := s) (inn := l) (steps := steps) hl
  have hch := check_iff (S := s) (inn := l) (steps := steps)
  generalize check s l steps = r at *
  obtain ⟨e, k⟩ := r
  dsimp only at c1 c2 hch
  by_cases he : e = 0
  · have hc := hch.1 he
    subst he
    have c3 := strim hc hl last
    have c4 := rtrim hc hl last
    have c5 := sameStepsR (trim steps last)
    (refine wlk ?_)
    (refine wlC c1 ?_)
    (refine wlk ?_)
    (refine wlC c2 ?_)
    (refine wlk ?_)
    (refine wlC c3 ?_)
    (refine wlk ?_)
    (refine wlC c4 ?_)
    (refine wlk ?_)
    (refine wlC c5 ?_)
    (refine wlk ?_)
    (refine wfT ?_)
    rfl
  · (refine wlk ?_)
    (refine wlC c1 ?_)
    (refine wlk ?_)
    (refine wlC c2 ?_)
    (refine wlk ?_)
    (refine wfT ?_)
    rfl
end Go.Proofs.YtmanhdacnkpclaaGreat
