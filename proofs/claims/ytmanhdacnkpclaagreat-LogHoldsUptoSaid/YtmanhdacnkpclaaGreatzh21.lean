/- What functions do: the steps of which one comes (the log's Trim). -/
import Derived.Test.YtmanhdacnkpclaaGreatzh20
import Derived.Test.YtmanhdacnkpclaaGreatzh17
import Derived.Test.YtmanhdacnkpclaaGreatzh06
import Derived.Test.YtmanhdacnkpclaaGreatzh16
import Derived.Test.YtmanhdacnkpclaaGreatzh19
import Derived.Test.YtmanhdacnkpclaaGreatzh09
import Derived.Test.YtmanhdacnkpclaaGreatzh10
namespace Go.Proofs.YtmanhdacnkpclaaGreat
set_option linter.all false
set_option maxRecDepth 1000000
set_option maxHeartbeats 32000000
open Go.RowKit
def mRep (L : List (Int × Value)) (N : Int → Bool) : Prop := ∀ v, (mGet L v).getD (.bool false) = .bool (N v)
theorem mRep.put {L : List (Int × Value)} {N : Int → Bool} (h : mRep L N) (f : Int) : mRep (mPut L f (.bool true)) (fun v => N v || v == f) := fun v => by
  rw [mGet_put]
  by_cases hv : v = f
  · rw [if_pos hv]; simp [hv]
  · rw [if_neg hv, h v]; simp [hv]
theorem mRep.start (a : Int) : mRep (mPut [] a (.bool true)) (fun v => v == a) := fun v => by
  rw [mGet_put]
  by_cases hv : v = a
  · rw [if_pos hv]; simp [hv]
  · rw [if_neg hv, mGet_nil]; simp [hv]
def ren1 (N : Int → Bool) (r f : Int) : Int := if r = 1 then f else (cntN N f.toNat : Int)
theorem map_idL (l : List Int) (g : Int → Int) (h : ∀ x, g x = x) : l.map g = l := by
  induction l with
  | nil => rfl
  | cons a l ih => rw [List.map_cons, ih, h]
theorem renum_eq (N : Int → Bool) (r : Int) (f : List Int) (c : List Lt) : renum N ⟨r, f, c⟩ = ⟨r, f.map (ren1 N r), c⟩ := by
  unfold renum
  by_cases h : r = 1
  · rw [if_pos h, map_idL f (ren1 N r) (fun x => if_pos h)]
  · rw [if_neg h]
    have : f.map (ren1 N r) = f.map fun x => (cntN N x.toNat : Int) := List.map_congr_left fun x _ => if_neg h
    rw [this]
theorem needs_closed {S : List Int} {inn : List (List Lt)} {steps : List Sp} (h : Checked S inn steps) {z : Nat} (hz : z < steps.length) {i : Nat} {r : Int} {f : List Int} {c : List Lt} (hx : steps[i]? = some ⟨r, f, c⟩) (hi : i ≤ z) (hN : needs steps (z : Int) (i : Int) = true) (hr : r ≠ 1) : ∀ y ∈ f, (0 ≤ y ∧ y < (i : Int)) ∧ needs steps (z : Int) y = true := by
  intro y hy
  have hd := h.down
  have hs : stAt steps (i : Int) = ⟨r, f, c⟩ := stAt_get (by rw [Int.toNat_natCast]; exact hx)
  refine ⟨hd i _ hx hr y hy, ?_⟩
  unfold needs at hN ⊢
  rw [Int.toNat_natCast] at hN ⊢
  have := needGo_closed hd (z + 1) (fun v => v == (z : Int)) (by omega) i (by omega) hN
  rw [hs] at this
  exact this hr y hy
theorem frm_ne {S : List Int} {inn : List (List Lt)} {steps : List Sp} (h : Checked S inn steps) {i : Nat} {r : Int} {f : List Int} {c : List Lt} (hx : steps[i]? = some ⟨r, f, c⟩) : 0 < f.length := by
  have hj := h.just i _ hx
  rcases Nat.eq_zero_or_pos f.length with h0 | h0
  · have hc := hj.comes
    have : comes inn steps i ⟨r, f, c⟩ = [] := if_pos (.inl h0)
    rw [this] at hc; cases hc
  · exact h0
theorem contains_snoc (N : Int → Bool) {l : List Int} {k : Nat} {f : Int} (h : l[k]? = some f) (v : Int) : ((N v || (l.take k).contains v) || v == f) = (N v || (l.take (k + 1)).contains v) := by
  rw [take_succ_of h, Bool.or_assoc]
  congr 1
  rw [Bool.eq_iff_iff]
  simp
theorem strim {S : List Int} {inn : List (List Lt)} {steps : List Sp} (h : Checked S inn steps) (hl : ∀ x ∈ steps, x.frm.length ≤ 1000000000) (last : Int) :
    FnD Tryz.prog 12 [lA Sp.d steps, iA last] (.one (lA Sp.d (trim steps last))) := by
  refine Fn.of Tryz.func12 rfl Tryz.ntmps12 rfl (Nat.le_of_ble_eq_true rfl) ?_
  have h120 := h.len
  by_cases h0 : last < 0
  · rw [show trim steps last = [] from if_pos (.inl h0)]
    (refine wlk ?_)
    refine fin_wk (fun n => Wk.nilArr (d := 4) rfl) ?_
    (refine wfT ?_)
    rfl
  by_cases h1 : (steps.length : Int) ≤ last
  · rw [show trim steps last = [] from if_pos (.inr h1)]
    (refine wlk ?_)
    refine fin_wk (fun n => Wk.nilArr (d := 4) rfl) ?_
    (refine wfT ?_)
    rfl
  rw [show trim steps last = trimGo steps (needs steps last) (last.toNat + 1) from if_neg (by omega)]
  obtain ⟨z, rfl⟩ := Int.eq_ofNat_of_zero_le (show 0 ≤ last by omega)
  rw [Int.toNat_natCast]
  have hzl : z < steps.length := by omega
  (refine wlk ?_)
  refine dwp_loop (fun x : Nat × Int × List (Int × Value) × (Int → Bool) => [(.t 0, some (.one (lA Sp.d steps))), (.t 1, some (.one (iA z))), (.t 5, some (.one (.c (.mp 2000023)))), (.b 2000023, some (.box [mapC (Value.int .i64) x.2.2.1])), (.t 6, some (.one (iA x.2.1)))])
    (fun x => x.1 ≤ z + 1 ∧ x.2.1 = (x.1 : Int) - 1 ∧ mRep x.2.2.1 x.2.2.2 ∧ needGo steps x.1 x.2.2.2 = needs steps (z : Int)) (fun x => x.1) (z + 1, (z : Int), mPut [] (z : Int) (.bool true), fun v => v == (z : Int)) ⟨Nat.le_refl _, by simp, mRep.start _, by unfold needs; rw [Int.toNat_natCast]⟩ fgs ?_
  rintro ⟨j, zz, L, N⟩ ⟨hj, hz, hR, hN⟩
  dsimp only at hj hz hR hN ⊢
  cases j with
  | succ i =>
    have hz' : zz = (i : Int) := by omega
    subst hz'
    obtain ⟨⟨r, f, c⟩, hx⟩ := get_of_lt (s := steps) (k := i) (by omega)
    have hsx : stAt steps (i : Int) = ⟨r, f, c⟩ := stAt_get (by rw [Int.toNat_natCast]; exact hx)
    have hstep : needGo steps (i + 1) N = needGo steps i (if N (i : Int) && !((stAt steps (i : Int)).rule == 1) then fun v => N v || (stAt steps (i : Int)).frm.contains v else N) := rfl
    rw [hsx] at hstep
    dsimp only at hstep
    have hlk := hR (i : Int)
    cases hNi : N (i : Int)
    · rw [hNi] at hlk hstep
      simp only [Bool.false_and, Bool.false_eq_true, if_false] at hstep
      (refine wlk ?_)
      exact ⟨(i, (i : Int) - 1, L, N), ⟨by simp only; omega, rfl, hR, by rw [← hN, hstep]⟩, fgs, by simp only; omega⟩
    · rw [hNi] at hlk hstep
      by_cases hr : r = 1
      · rw [if_neg (by simp [hr])] at hstep
        (refine wlk ?_)
        exact ⟨(i, (i : Int) - 1, L, N), ⟨by simp only; omega, rfl, hR, by rw [← hN, hstep]⟩, fgs, by simp only; omega⟩
      · rw [if_pos (by simp [hr])] at hstep
        have hfl := hl _ (List.mem_of_getElem? hx)
        dsimp only at hfl
        (refine wlk ?_)
        clear hlk
        refine dwp_loop (fun y : Nat × List (Int × Value) => [(.t 0, some (.one (lA Sp.d steps))), (.t 1, some (.one (iA z))), (.t 5, some (.one (.c (.mp 2000023)))), (.b 2000023, some (.box [mapC (Value.int .i64) y.2])), (.t 6, some (.one (iA i))), (.t 46, some (.one (lA Int.d f))), (.t 47, some (.one (iA f.length))), (.t 48, some (.one (iA y.1)))])
          (fun y => y.1 ≤ f.length ∧ mRep y.2 (fun v => N v || (f.take y.1).contains v)) (fun y => f.length - y.1) (0, L) ⟨by simp, by simpa using hR⟩ fgs ?_
        rintro ⟨k, M⟩ ⟨hk, hM⟩
        dsimp only at hk hM ⊢
        by_cases hkl : k < f.length
        · obtain ⟨y, hy⟩ := get_of_lt hkl
          have hput : mRep (mPut M y (.bool true)) (fun v => N v || (f.take (k + 1)).contains v) := fun v => by
            rw [hM.put y v]
            exact congrArg _ (contains_snoc N hy v)
          (refine wlk ?_)
          exact ⟨(k + 1, _), ⟨by simp only; omega, hput⟩, fgs, by simp only; omega⟩
        · have hkf : k = f.length := by omega
          subst hkf
          rw [List.take_length] at hM
          (refine wlk ?_)
          exact ⟨(i, (i : Int) - 1, M, fun v => N v || f.contains v), ⟨by simp only; omega, rfl, hM, by rw [← hN, hstep]⟩, fgs, by simp only; omega⟩
  | zero =>
    have hz' : zz = -1 := by omega
    subst hz'
    have hNN : N = needs steps (z : Int) := hN
    rw [← hNN]
    have hcl : ∀ (i : Nat) (r : Int) (f : List Int) (c : List Lt), steps[i]? = some ⟨r, f, c⟩ → i ≤ z → N (i : Int) = true → r ≠ 1 → ∀ y ∈ f, (0 ≤ y ∧ y < (i : Int)) ∧ N y = true := by
      intro i r f c hx hi hNi hr
      rw [hNN] at hNi ⊢
      exact needs_closed h hzl hx hi hNi hr
    clear hN hNN hj hz
    (refine wlk ?_)
    refine dwp_loop (fun x : Nat × List (Int × Value) => [(.t 0, some (.one (lA Sp.d steps))), (.t 5, some (.one (.c (.mp 2000023)))), (.b 2000023, some (.box [mapC (Value.int .i64) L])), (.t 9, some (.one (.c (.mp 2000055)))), (.b 2000055, some (.box [mapC (Value.int .i64) x.2])),
        (.t 10, some (.one (.c (.own 41 3 ((trimGo steps N x.1).map Sp.d))))), (.t 57, some (.one (iA ((z : Int) + 1)))), (.t 58, some (.one (iA x.1)))])
      (fun x => x.1 ≤ z + 1 ∧ ∀ i : Nat, i < x.1 → N (i : Int) = true → mGet x.2 (i : Int) = some (.int .i64 (cntN N i))) (fun x => z + 1 - x.1) (0, []) ⟨by simp, fun i hi => absurd hi (Nat.not_lt_zero _)⟩ ((Wk.nilOwn (d := 10) (E := 41) (m := 3) rfl).trans fgs) ?_
    rintro ⟨k, M⟩ ⟨hk, hM⟩
    dsimp only at hk hM ⊢
    by_cases hkz : k < z + 1
    rotate_left
    · have hke : k = z + 1 := by omega
      subst hke
      refine dwp_wk (Wk.freezeAt (d := 10) rfl) ?_
      (refine wlk ?_)
      (refine wfT ?_)
      rfl
    have hlk := hR (k : Int)
    cases hNk : N (k : Int)
    · rw [hNk] at hlk
      have ht : trimGo steps N (k + 1) = trimGo steps N k := by
        simp only [trimGo]
        rw [hNk]; simp
      (refine wlk ?_)
      refine ⟨(k + 1, M), ⟨by simp only; omega, fun i hi hNi => ?_⟩, ?_, by simp only; omega⟩
      · rcases Nat.lt_or_ge i k with h | h
        · exact hM i h hNi
        · have : i = k := by simp only at hi; omega
          subst this
          rw [hNk] at hNi; cases hNi
      · dsimp only
        rw [ht]
        exact fgs
    rw [hNk] at hlk
    obtain ⟨⟨r, f, c⟩, hx⟩ := get_of_lt (s := steps) (k := k) (by omega)
    have hfl := hl _ (List.mem_of_getElem? hx)
    dsimp only at hfl
    have hf0 := frm_ne h hx
    have hclk := hcl k r f c hx (by omega) hNk
    have hsx : stAt steps (k : Int) = ⟨r, f, c⟩ := stAt_get (by rw [Int.toNat_natCast]; exact hx)
    have ht : trimGo steps N k ++ [(⟨r, f.map (ren1 N r), c⟩ : Sp)] = trimGo steps N (k + 1) := by
      simp only [trimGo]
      rw [hNk, if_pos rfl, hsx, renum_eq]
    have htl : (trimGo steps N k).length ≤ k := by rw [trimGo_len]; exact cntN_le N k
    have htl2 : (trimGo steps N (k + 1)).length ≤ 1000 := by rw [trimGo_len]; have := cntN_le N (k + 1); omega
    have hclone := cloneI f (by omega)
    (refine wlk ?_)
    (refine wlC hclone ?_)
    (refine wlE ?_)
    refine dwp_ownElsB (f := Int.d) (tp := 12) (b0 := 12) (q0 := 1) (T := 500) (l := f) rfl rfl rfl hf0 rfl rfl rfl rfl rfl rfl rfl fun e => ?_
    rw [show els (fun n : Int => [FC.val (.int .i64 n)]) f e = _ from els_int f e]
    (refine wlk ?_)
    refine dwp_loop (fun i : Nat => [(.t 0, some (.one (lA Sp.d steps))), (.t 5, some (.one (.c (.mp 2000023)))), (.b 2000023, some (.box [mapC (Value.int .i64) L])), (.t 9, some (.one (.c (.mp 2000055)))), (.b 2000055, some (.box [mapC (Value.int .i64) M])),
        (.t 10, some (.one (.c (.own 41 3 ((trimGo steps N k).map Sp.d))))), (.t 11, some (.one (iA k))), (.t 12, some (.one (.c (.ptr 12 0)))), (.b 12, some (.box [.val (.int .i64 r), .sl 500 f.length, .arr (c.map Lt.d)])), (.b 500, some (.box ((mixL (ren1 N r) f i).map iC ++ List.replicate e CV.any))),
        (.t 57, some (.one (iA ((z : Int) + 1)))), (.t 58, some (.one (iA k))), (.t 74, some (.one (.c (.sl 500 f.length)))), (.t 75, some (.one (iA f.length))), (.t 76, some (.one (iA i)))])
      (fun i => i ≤ f.length) (fun i => f.length - i) 0 (by omega) (by dsimp only; rw [mixL_zero]; exact fgs) ?_
    intro i hi
    by_cases hil : i < f.length
    · obtain ⟨y, hy⟩ := get_of_lt hil
      have hload := intC_get (mixL_get (g := ren1 N r) hy) (List.replicate e CV.any)
      have hlen : ((mixL (ren1 N r) f i).map iC ++ List.replicate e CV.any).length = f.length + e := by simp [mixL_len]
      by_cases hr : r = 1
      · have hsame := mixL_same (g := ren1 N r) hy (if_pos hr)
        (refine wlk ?_)
        refine ⟨i + 1, by omega, ?_, by omega⟩
        rw [hsame]
        exact fgs
      · obtain ⟨⟨y0, y1⟩, hNy⟩ := hclk hr y (List.mem_of_getElem? hy)
        obtain ⟨yn, rfl⟩ := Int.eq_ofNat_of_zero_le y0
        have hlk2 : (mGet M (yn : Int)).getD (.int .i64 0) = .int .i64 (ren1 N r (yn : Int)) := by
          rw [hM yn (by omega) hNy]
          unfold ren1
          rw [if_neg hr, Int.toNat_natCast]; rfl
        have hset : ((mixL (ren1 N r) f i).map iC ++ List.replicate e CV.any).set (i * 1) (.val (.int .i64 (ren1 N r (yn : Int)))) = (mixL (ren1 N r) f (i + 1)).map iC ++ List.replicate e CV.any := by
          rw [← mixL_set (g := ren1 N r) hy]
          exact intC_set (by rw [mixL_len]; exact hil) _ _
        (refine wlk ?_)
        exact ⟨i + 1, by omega, fgs, by omega⟩
    have hif : i = f.length := by omega
    subst hif
    rw [mixL_all]
    refine dwp_wk (Wk.frzSlB (f := Int.d) (b0 := 12) (q := 1) (j := 500) (k := f.length) (l := f.map (ren1 N r)) (ds' := [.val (.int .i64 r), .arr ((f.map (ren1 N r)).map Int.d), .arr (c.map Lt.d)]) rfl rfl rfl (frz_hc _ _) (by simp) rfl rfl rfl rfl rfl rfl) ?_
    refine dwp_isO (t := 10) rfl fun v => ?_
    (refine wlk ?_)
    (refine SqA.b1 (op_lenKS (T := TB) (f := Sp.d) (l := trimGo steps N k) (tp := 10) rfl rfl rfl rfl rfl) rfl rfl ?_)
    (refine wlE ?_)
    refine dwp_wk (Wk.ofK (t := 10) rfl) ?_
    (refine wlk ?_)
    (refine SqA.b1 (op_bsT (T := TB) (f := Sp.d) [(⟨r, f.map (ren1 N r), c⟩ : Sp)] rfl rfl rfl rfl rfl rfl rfl rfl rfl rfl rfl) rfl rfl ?_)
    (refine wlk ?_)
    refine ⟨(k + 1, _), ⟨by simp only; omega, fun i hi hNi => ?_⟩, fgs, by simp only; omega⟩
    rw [mGet_put]
    by_cases hik : (i : Int) = (k : Int)
    · rw [if_pos hik]
      have : i = k := by omega
      subst this
      simp [trimGo_len]
    · rw [if_neg hik]
      exact hM i (by simp only at hi; omega) hNi
def bRep (B : List Bool) (z : Nat) (N : Int → Bool) : Prop := B.length = z + 1 ∧ ∀ i : Nat, i < z + 1 → B[i]? = some (N (i : Int))
theorem bRep.put {B : List Bool} {z : Nat} {N : Int → Bool} (h : bRep B z N) {i : Nat} (hi : i < z + 1) : bRep (B.set i true) z (fun v => N v || v == (i : Int)) := by
  refine ⟨by rw [List.length_set]; exact h.1, fun j hj => ?_⟩
  rcases Classical.em (i = j) with rfl | hne
  · rw [List.getElem?_set_self (by rw [h.1]; exact hj)]
    simp
  · rw [List.getElem?_set_ne hne, h.2 j hj]
    have : ((j : Int) == (i : Int)) = false := beq_eq_false_iff_ne.2 (by omega)
    dsimp only
    rw [this, Bool.or_false]
theorem bRep.start (z : Nat) : bRep ((List.replicate (z + 1) false).set z true) z (fun v => v == (z : Int)) := by
  refine ⟨by simp, fun j hj => ?_⟩
  rcases Classical.em (z = j) with rfl | hne
  · rw [List.getElem?_set_self (by simp)]; simp
  · rw [List.getElem?_set_ne hne, List.getElem?_replicate, if_pos hj]
    have : ((j : Int) == (z : Int)) = false := beq_eq_false_iff_ne.2 (by omega)
    dsimp only
    rw [this]
theorem replB (k : Nat) : List.replicate k (CV.val (.bool false)) = (List.replicate k false).map bC := by simp
theorem replI (k : Nat) : List.replicate k (CV.val (.int .i64 0)) = (List.replicate k 0).map iC := by simp
theorem boolZ_set (z : Nat) : (List.replicate (z + 1) (CV.val (.bool false))).set (z * 1) (.val (.bool true)) = ((List.replicate (z + 1) false).set z true).map bC := by rw [replB]; exact boolS_set z true
theorem rtrim {S : List Int} {inn : List (List Lt)} {steps : List Sp} (h : Checked S inn steps) (hl : ∀ x ∈ steps, x.frm.length ≤ 1000000000) (last : Int) :
    FnD Tryz.prog 13 [lA Sp.d steps, iA last] (.one (lA Sp.d (trim steps last))) := by
  refine Fn.of Tryz.func13 rfl Tryz.ntmps13 rfl (Nat.le_of_ble_eq_true rfl) ?_
  have h120 := h.len
  by_cases h0 : last < 0
  · rw [show trim steps last = [] from if_pos (.inl h0)]
    (refine wlk ?_)
    refine fin_wk (fun n => Wk.nilArr (d := 4) rfl) ?_
    (refine wfT ?_)
    rfl
  by_cases h1 : (steps.length : Int) ≤ last
  · rw [show trim steps last = [] from if_pos (.inr h1)]
    (refine wlk ?_)
    refine fin_wk (fun n => Wk.nilArr (d := 4) rfl) ?_
    (refine wfT ?_)
    rfl
  rw [show trim steps last = trimGo steps (needs steps last) (last.toNat + 1) from if_neg (by omega)]
  obtain ⟨z, rfl⟩ := Int.eq_ofNat_of_zero_le (show 0 ≤ last by omega)
  rw [Int.toNat_natCast]
  have hzl : z < steps.length := by omega
  have hset0 := boolZ_set z
  (refine wlk ?_)
  (refine SqA.b2 (op_mkBools (k := z + 1) rfl rfl rfl rfl (by omega) rfl rfl) rfl rfl ?_)
  (refine wlk ?_)
  refine dwp_loop (fun x : Nat × Int × List Bool × (Int → Bool) => [(.t 0, some (.one (lA Sp.d steps))), (.t 1, some (.one (iA z))), (.t 5, some (.one (.c (.sl 25 (z + 1))))), (.b 25, some (.box (x.2.2.1.map bC))), (.t 6, some (.one (iA x.2.1)))])
    (fun x => x.1 ≤ z + 1 ∧ x.2.1 = (x.1 : Int) - 1 ∧ bRep x.2.2.1 z x.2.2.2 ∧ needGo steps x.1 x.2.2.2 = needs steps (z : Int)) (fun x => x.1) (z + 1, (z : Int), (List.replicate (z + 1) false).set z true, fun v => v == (z : Int)) ⟨Nat.le_refl _, by simp, bRep.start _, by unfold needs; rw [Int.toNat_natCast]⟩ fgs ?_
  rintro ⟨j, zz, B, N⟩ ⟨hj, hz, hR, hN⟩
  dsimp only at hj hz hR hN ⊢
  cases j with
  | succ i =>
    have hz' : zz = (i : Int) := by omega
    subst hz'
    obtain ⟨⟨r, f, c⟩, hx⟩ := get_of_lt (s := steps) (k := i) (by omega)
    have hsx : stAt steps (i : Int) = ⟨r, f, c⟩ := stAt_get (by rw [Int.toNat_natCast]; exact hx)
    have hstep : needGo steps (i + 1) N = needGo steps i (if N (i : Int) && !((stAt steps (i : Int)).rule == 1) then fun v => N v || (stAt steps (i : Int)).frm.contains v else N) := rfl
    rw [hsx] at hstep
    dsimp only at hstep
    have hlk := boolS_get (hR.2 i (by omega))
    cases hNi : N (i : Int)
    · rw [hNi] at hlk hstep
      simp only [Bool.false_and, Bool.false_eq_true, if_false] at hstep
      (refine wlk ?_)
      exact ⟨(i, (i : Int) - 1, B, N), ⟨by simp only; omega, rfl, hR, by rw [← hN, hstep]⟩, fgs, by simp only; omega⟩
    · rw [hNi] at hlk hstep
      by_cases hr : r = 1
      · rw [if_neg (by simp [hr])] at hstep
        (refine wlk ?_)
        exact ⟨(i, (i : Int) - 1, B, N), ⟨by simp only; omega, rfl, hR, by rw [← hN, hstep]⟩, fgs, by simp only; omega⟩
      · rw [if_pos (by simp [hr])] at hstep
        have hfl := hl _ (List.mem_of_getElem? hx)
        have hdn := h.down i _ hx hr
        dsimp only at hfl hdn
        (refine wlk ?_)
        clear hlk
        refine dwp_loop (fun y : Nat × List Bool => [(.t 0, some (.one (lA Sp.d steps))), (.t 1, some (.one (iA z))), (.t 5, some (.one (.c (.sl 25 (z + 1))))), (.b 25, some (.box (y.2.map bC))), (.t 6, some (.one (iA i))), (.t 51, some (.one (lA Int.d f))), (.t 52, some (.one (iA f.length))), (.t 53, some (.one (iA y.1)))])
          (fun y => y.1 ≤ f.length ∧ bRep y.2 z (fun v => N v || (f.take y.1).contains v)) (fun y => f.length - y.1) (0, B) ⟨by simp, by simpa using hR⟩ fgs ?_
        rintro ⟨k, M⟩ ⟨hk, hM⟩
        dsimp only at hk hM ⊢
        by_cases hkl : k < f.length
        · obtain ⟨y, hy⟩ := get_of_lt hkl
          obtain ⟨y0, y1⟩ := hdn y (List.mem_of_getElem? hy)
          obtain ⟨yn, rfl⟩ := Int.eq_ofNat_of_zero_le y0
          have hput : bRep (M.set yn true) z (fun v => N v || (f.take (k + 1)).contains v) := by
            have := hM.put (i := yn) (by omega)
            rwa [show (fun v => (N v || (f.take k).contains v) || v == (yn : Int)) = (fun v => N v || (f.take (k + 1)).contains v) from funext fun v => contains_snoc N hy v] at this
          have hset : (M.map bC).set (yn * 1) (.val (.bool true)) = (M.set yn true).map bC := boolS_set yn true
          have hml := hM.1
          (refine wlk ?_)
          exact ⟨(k + 1, _), ⟨by simp only; omega, hput⟩, fgs, by simp only; omega⟩
        · have hkf : k = f.length := by omega
          subst hkf
          rw [List.take_length] at hM
          (refine wlk ?_)
          exact ⟨(i, (i : Int) - 1, M, fun v => N v || f.contains v), ⟨by simp only; omega, rfl, hM, by rw [← hN, hstep]⟩, fgs, by simp only; omega⟩
  | zero =>
    have hz' : zz = -1 := by omega
    subst hz'
    have hNN : N = needs steps (z : Int) := hN
    rw [← hNN]
    have hcl : ∀ (i : Nat) (r : Int) (f : List Int) (c : List Lt), steps[i]? = some ⟨r, f, c⟩ → i ≤ z → N (i : Int) = true → r ≠ 1 → ∀ y ∈ f, (0 ≤ y ∧ y < (i : Int)) ∧ N y = true := by
      intro i r f c hx hi hNi hr
      rw [hNN] at hNi ⊢
      exact needs_closed h hzl hx hi hNi hr
    clear hN hNN hj hz hset0
    have hrep := replI (z + 1)
    (refine wlk ?_)
    (refine SqA.b2 (op_mkInts (k := z + 1) rfl rfl rfl rfl (by omega) rfl rfl) rfl (by simp [St.ids, oids, X.ids, A1.ids, CV.ids, nomem, List.flatMap_map]; rfl) ?_)
    (refine wlk ?_)
    refine dwp_loop (fun x : Nat × List Int => [(.t 0, some (.one (lA Sp.d steps))), (.t 5, some (.one (.c (.sl 25 (z + 1))))), (.b 25, some (.box (B.map bC))), (.t 9, some (.one (.c (.sl 63 (z + 1))))), (.b 63, some (.box (x.2.map iC))),
        (.t 10, some (.one (.c (.own 41 3 ((trimGo steps N x.1).map Sp.d))))), (.t 65, some (.one (iA ((z : Int) + 1)))), (.t 66, some (.one (iA x.1)))])
      (fun x => x.1 ≤ z + 1 ∧ x.2.length = z + 1 ∧ ∀ i : Nat, i < x.1 → x.2[i]? = some (cntN N i : Int)) (fun x => z + 1 - x.1) (0, List.replicate (z + 1) 0) ⟨by simp, by simp, fun i hi => absurd hi (Nat.not_lt_zero _)⟩ ((Wk.nilOwn (d := 10) (E := 41) (m := 3) rfl).trans (by dsimp only; rw [← hrep]; exact fgs)) ?_
    rintro ⟨k, A⟩ ⟨hk, hAl, hA⟩
    dsimp only at hk hAl hA ⊢
    by_cases hkz : k < z + 1
    rotate_left
    · have hke : k = z + 1 := by omega
      subst hke
      refine dwp_wk (Wk.freezeAt (d := 10) rfl) ?_
      (refine wlk ?_)
      (refine wfT ?_)
      rfl
    have hlk := boolS_get (hR.2 k hkz)
    have htl : (trimGo steps N k).length ≤ k := by rw [trimGo_len]; exact cntN_le N k
    have hset : (A.map iC).set (k * 1) (.val (.int .i64 ((trimGo steps N k).length : Nat))) = (A.set k (cntN N k : Int)).map iC := by
      rw [trimGo_len]; exact intS_set k _
    have hA2 : ∀ i : Nat, i < k + 1 → (A.set k (cntN N k : Int))[i]? = some (cntN N i : Int) := fun i hi => by
      rcases Classical.em (k = i) with rfl | hne
      · rw [List.getElem?_set_self (by omega)]
      · rw [List.getElem?_set_ne hne]
        exact hA i (by omega)
    have hAl2 : (A.set k (cntN N k : Int)).length = z + 1 := by rw [List.length_set]; exact hAl
    obtain ⟨⟨r, f, c⟩, hx⟩ := get_of_lt (s := steps) (k := k) (by omega)
    refine dwp_isO (t := 10) rfl fun v => ?_
    (refine wlk ?_)
    (refine SqA.b1 (op_lenKS (T := TB) (f := Sp.d) (l := trimGo steps N k) (tp := 10) rfl rfl rfl rfl rfl) rfl rfl ?_)
    (refine wlE ?_)
    refine dwp_wk (Wk.ofK (t := 10) rfl) ?_
    clear hset
    generalize A.set k (cntN N k : Int) = A' at *
    cases hNk : N (k : Int)
    · rw [hNk] at hlk
      have ht : trimGo steps N (k + 1) = trimGo steps N k := by
        simp only [trimGo]
        rw [hNk]; simp
      (refine wlk ?_)
      refine ⟨(k + 1, A'), ⟨by simp only; omega, hAl2, hA2⟩, ?_, by simp only; omega⟩
      dsimp only
      rw [ht]
      exact fgs
    rw [hNk] at hlk
    have hfl := hl _ (List.mem_of_getElem? hx)
    dsimp only at hfl
    have hclk := hcl k r f c hx (by omega) hNk
    have hsx : stAt steps (k : Int) = ⟨r, f, c⟩ := stAt_get (by rw [Int.toNat_natCast]; exact hx)
    have ht : trimGo steps N k ++ [(⟨r, f.map (ren1 N r), c⟩ : Sp)] = trimGo steps N (k + 1) := by
      simp only [trimGo]
      rw [hNk, if_pos rfl, hsx, renum_eq]
    have htl2 : (trimGo steps N (k + 1)).length ≤ 1000 := by rw [trimGo_len]; have := cntN_le N (k + 1); omega
    (refine wlk ?_)
    (refine SqA.a2 TB rfl rfl (by simp [St.ids, oids, X.ids, A1.ids, CV.ids, FC.cv, A1.cells, splL, nomem, List.flatMap_map]; decide) ?_)
    (refine wlk ?_)
    refine dwp_wk (Wk.nilOwnB (j := 12) (q := 1) (E := 3) (m := 1) rfl rfl rfl) ?_
    refine dwp_loop (fun i : Nat => [(.t 0, some (.one (lA Sp.d steps))), (.t 5, some (.one (.c (.sl 25 (z + 1))))), (.b 25, some (.box (B.map bC))), (.t 9, some (.one (.c (.sl 63 (z + 1))))), (.b 63, some (.box (A'.map iC))),
        (.t 10, some (.one (.c (.own 41 3 ((trimGo steps N k).map Sp.d))))), (.t 12, some (.one (.c (.ptr 12 0)))), (.b 12, some (.box [.val (.int .i64 r), .own 3 1 (((f.take i).map (ren1 N r)).map Int.d), .arr (c.map Lt.d)])),
        (.t 65, some (.one (iA ((z : Int) + 1)))), (.t 66, some (.one (iA k))), (.t 94, some (.one (lA Int.d f))), (.t 95, some (.one (iA f.length))), (.t 96, some (.one (iA i)))])
      (fun i => i ≤ f.length) (fun i => f.length - i) 0 (by omega) fgs ?_
    · intro i hi
      by_cases hil : i < f.length
      · obtain ⟨y, hy⟩ := get_of_lt hil
        by_cases hr : r = 1
        · have hk2 : (f.take i).map (ren1 N r) ++ [y] = (f.take (i + 1)).map (ren1 N r) := by
            rw [take_succ_of hy, List.map_append]
            have : ren1 N r y = y := if_pos hr
            simp [this]
          (refine wlk ?_)
          (refine SqA.b1 (op_bsT (T := TB) (f := Int.d) [y] rfl rfl rfl rfl rfl rfl rfl rfl rfl rfl rfl) rfl rfl ?_)
          (refine wlk ?_)
          exact ⟨i + 1, by omega, fgs, by omega⟩
        · obtain ⟨⟨y0, y1⟩, hNy⟩ := hclk hr y (List.mem_of_getElem? hy)
          obtain ⟨yn, rfl⟩ := Int.eq_ofNat_of_zero_le y0
          have hk2 : (f.take i).map (ren1 N r) ++ [(cntN N yn : Int)] = (f.take (i + 1)).map (ren1 N r) := by
            rw [take_succ_of hy, List.map_append]
            have : ren1 N r (yn : Int) = (cntN N yn : Int) := by unfold ren1; rw [if_neg hr, Int.toNat_natCast]
            simp [this]
          have hload := intS_get (hA2 yn (by omega))
          (refine wlk ?_)
          (refine SqA.b1 (op_bsT (T := TB) (f := Int.d) [(cntN N yn : Int)] rfl rfl rfl rfl rfl rfl rfl rfl rfl rfl rfl) rfl rfl ?_)
          (refine wlk ?_)
          exact ⟨i + 1, by omega, fgs, by omega⟩
      have hif : i = f.length := by omega
      subst hif
      rw [List.take_length]
      refine dwp_wk (Wk.freezeB (j := 12) (q := 1) rfl rfl rfl) ?_
      (refine wlk ?_)
      (refine SqA.b1 (op_bsT (T := TB) (f := Sp.d) [(⟨r, f.map (ren1 N r), c⟩ : Sp)] rfl rfl rfl rfl rfl rfl rfl rfl rfl rfl rfl) rfl rfl ?_)
      (refine wlk ?_)
      exact ⟨(k + 1, A'), ⟨by simp only; omega, hAl2, hA2⟩, fgs, by simp only; omega⟩
section
variable {P : Program} {n : Nat} {o : Oper} {σ : St}
theorem dwp_isOBs {Q : Exit → St → Prop} {c : Code} {j q E m : Nat} {cs : List CV} {ds : List D} (hb : St.get σ (.b j) = some (.box cs)) (hq : cs[q]? = some (.own E m ds)) (hmc : Nat.ble j EXT = true)
    (hx : ∃ t, St.get σ (.t t) = some (.one (.c (.ptr j 0)))) (h : ∀ ad cp, dwp P n c Q ((.b j, some (.box (cs.set q (.ownK (.slice ad ds.length cp) E m ds)))) :: σ)) : dwp P n c Q σ := fun C who a w hr => by
  obtain ⟨t, ht⟩ := hx
  obtain ⟨b, e, hbw⟩ := hr.slot t _ ht
  obtain ⟨vs, E', h1, h2, h3, h4⟩ := box_cell hr hbw hb hmc
  have hlt : q < vs.length := by rw [h2]; exact (List.getElem?_eq_some_iff.1 hq).1
  have hv := List.getElem?_eq_getElem hlt
  have hown := h4 q _ _ hq hv
  have hform : ∃ ad cp, vs[q] = .slice ad ds.length cp := Own.form hown.1
  obtain ⟨ad, cp, hf⟩ := hform
  refine h ad cp C who a w (hr.addBox fun b' hb' => ?_)
  have : b' = b := hr.bxu b' b j (by rw [bas_of (le_ext hmc)] at hb'; exact hb') hbw
  subst this
  refine ⟨vs, E', by rw [isShp_of hmc]; exact h1, by simpa using h2, fun i c' v hi hvi => ?_⟩
  rcases Classical.em (q = i) with rfl | hne
  · have hlt2 : q < cs.length := (List.getElem?_eq_some_iff.1 hq).1
    rw [List.getElem?_set_self hlt2] at hi; injection hi with hi; subst hi
    rw [hv] at hvi; injection hvi with hvi; subst hvi
    exact ⟨hf, h4 q _ _ hq hv⟩
  · rw [List.getElem?_set_ne hne] at hi
    exact h4 i c' v hi hvi
def CV.knw : CV → CV
  | .ownK v _ _ _ => .val v
  | c => c
theorem CV.knw_re {w : World} {who : Nat → Tag} {p p' : Tag} {c : CV} {u : Value} (hn : c.knw.noOwn = true) (h : cvm w who p c u) : cvm w who p' c.knw u := by
  cases c with
  | ownK v E m ds => exact h.1
  | _ => exact cvm.re hn h
theorem op_loadAggK {d t m j : Nat} {s : Operand} {cs cs' : List CV} (hd : o.dst = some d) (ho : o.op = .load t s) (hr : rowT P t = some (true, m)) (hs : St.ev σ s = some (.one (.c (.ptr j 0)))) (hb : St.get σ (.b j) = some (.box cs)) (hl : cs.length = m) (hc : cs.map CV.knw = cs') (hn : cs'.all (fun c => c.noOwn && c.oneOk) = true) (hmc : Nat.ble j EXT = true) :
    Op1 P n o ⟨(opKey s ++ [.b j]) ++ (X.one (.agg cs')).ids.map Key.b, [.t d], []⟩ σ [(.t d, some (.one (.agg cs')))] :=
  .value _ hd fun σ' hag C who a w hrp => by
    obtain ⟨b, e, hbw⟩ := hrp.ev ((ev_agree fun k hk => hag k (List.mem_append_left _ hk)).trans hs)
    obtain ⟨vs, E, h1, h2, h3, h4⟩ := box_cell hrp hbw ((hag _ (List.mem_append_right _ (by simp))).trans hb) hmc
    subst hc
    refine ⟨.agg vs.toArray, by simp [execOp, ho, e, run_loadN hr (b := b) (q := 0) (w := w) (h2.trans hl) fun i v hv => by rw [Nat.zero_add]; exact h3 i v hv], vs, rfl, by simpa using h2, fun q c v hq hv => ?_⟩
    have hall := List.all_eq_true.1 hn c (List.mem_of_getElem? hq)
    simp only [Bool.and_eq_true] at hall
    rw [List.getElem?_map, Option.map_eq_some_iff] at hq
    obtain ⟨c0, hc0, rfl⟩ := hq
    have h5 : cvm w who (.own (.t d) 0 q) c0.knw v := CV.knw_re hall.1 (h4 q c0 v hc0 hv)
    exact ⟨h5, cvm.one hall.2 h5⟩
theorem op_storeKeep {T m j t q E0 m0 : Nat} {s : Operand} {v : Value} {ds : List D} {cs0 cs cs' : List CV} (hd : o.dst = none) (ho : o.op = .store T s (.tmp t)) (hs : St.ev σ s = some (.one (.c (.ptr j 0)))) (hb : St.get σ (.b j) = some (.box cs0)) (hr : rowT P T = some (true, m)) (hv : St.get σ (.t t) = some (.one (.agg cs))) (hl : cs.length = m) (hl0 : cs0.length = m) (hi : cs.flatMap CV.ids = []) (hno : cs.all CV.noOwn = true)
    (hq0 : cs0[q]? = some (.ownK v E0 m0 ds)) (hq : cs[q]? = some (.val v)) (hc' : cs.set q (.ownK v E0 m0 ds) = cs') (hmc : Nat.ble j EXT = true) :
    Op1 P n o ⟨(opKey s ++ [.t t, .b j]), [.b j], []⟩ σ [(.b j, some (.box cs'))] where
  does := fun σ' hag hal C who a w hrp hdst K Q hK => by
    obtain ⟨b, e, hbw⟩ := hrp.ev ((ev_agree fun k hk => hag k (by simp [hk])).trans hs)
    have hsl := (hag (.t t) (by simp)).trans hv
    obtain ⟨news, e2, hvl, hc⟩ : A1m w who (.t t) 0 (.agg cs) (a.tmps.getD t undef) := hrp.slot t _ hsl
    have e2' : a.eval (.tmp t) = .agg news.toArray := e2
    have hgb : St.get σ' (.b j) = some (.box cs0) := (hag (.b j) (by simp)).trans hb
    obtain ⟨vs, E, h1, h2, h3, h4⟩ := box_cell hrp hbw hgb hmc
    obtain ⟨dsc, ii, hu, hrow, hif, hsz⟩ := rowT_parts hr
    have hcells : (a.eval (.tmp t)).cells = news.toArray := by rw [e2']; simp [Value.cells]
    have hst := run_storeCells_cells (P := P) b 0 news 0 w (fun i hi' => by
      rw [Nat.zero_add, h3 i _ (List.getElem?_eq_getElem (by omega))]; rfl) (fun i _ => by simp [World.frozen?, h1]) (fun v hv => by
      obtain ⟨q, hq, rfl⟩ := List.getElem_of_mem hv
      exact (hc q _ _ (List.getElem?_eq_getElem (hvl ▸ hq)) (List.getElem?_eq_getElem hq)).2)
    have hrun : (execOp a.eval o).run P w = .ok .skip (w.setCells b 0 news) := by
      simp only [execOp, ho, e, Instr.storeAt, Instr.sureAddr, Sem.run_bind, Sem.run_pure, Result.andThen_ok, storeVar, sizeOf, typeInfo, run_program, hif, hcells]
      rw [if_neg (by simp; omega)]
      simp only [Nat.add_zero] at hst
      simp [hst]
    unfold Oper.wp
    rw [hrun]
    show K (a.put o.dst undef) _
    obtain ⟨g1, g2, g3, g4, g5, g6⟩ := setCells_blk news w b 0 vs E h1
    have hstp : Stp who w who (w.setCells b 0 news) (fun k => k = b) (fun _ => False) :=
      ⟨g4, g5, g6, by rw [g3]; exact Nat.le_refl _, fun k _ hk => g2 k hk, fun _ _ _ => rfl, fun k hk => by rw [hk, hbw]; simp, fun _ h => h.elim⟩
    have hrep : Rep n C who ((.b j, none) :: σ') a (w.setCells b 0 news) := by
      refine (hrp.kill (.b j)).stp hstp (fun k hk hoo => ⟨fun hkb => ?_, fun h => h⟩) (fun _ _ _ _ h => h) (fun k hk => by rw [g3]; exact hrp.fz k hk) hrp.bxu ?_ ?_ ?_ ?_
      · have := hrp.adv.tag k hk (hoo.imp id .inl)
        rw [hkb, hbw] at this
        rw [hkb] at hoo
        rcases hoo with hoo | hoo <;> rw [hoo] at this <;> cases this
      · intro k kk p q' hk hT
        rcases hT with hT | hT
        · rw [hT, hbw] at hk; cases hk
        · exact hT.elim
      · intro k i _ h; exact h.elim
      · intro k i hk hT
        rcases hT with hT | hT
        · rw [hT, hbw] at hk; injection hk with hk; have hk := nb_eq (le_ext hmc) hk.symm; subst hk; exact St.get_same
        · exact hT.elim
      · intro k i h1 h2; exact absurd h1 h2
    have hbox : Boxm (w.setCells b 0 news) who j cs' := by
      intro k hk
      rw [bas_of (le_ext hmc)] at hk
      have : k = b := hrp.bxu k b j hk hbw
      subst this
      subst hc'
      refine ⟨splL vs 0 news, E, by rw [isShp_of hmc]; exact g1, by rw [splL_len]; simp; omega, fun i c u hi' hu' => ?_⟩
      rw [splL_get _ _ _ _ (by omega)] at hu'
      have hil : i < cs.length := by
        have := (List.getElem?_eq_some_iff.1 hi').1
        simpa using this
      rw [if_pos (by omega), Nat.sub_zero] at hu'
      rcases Classical.em (q = i) with rfl | hne
      · rw [List.getElem?_set_self hil] at hi'; injection hi' with hi'; subst hi'
        have hu : u = v := (hc q _ u hq hu').1
        subst hu
        have hlt : q < vs.length := by omega
        obtain ⟨e5, h5⟩ := h4 q _ _ hq0 (List.getElem?_eq_getElem hlt)
        rw [e5] at h5
        have h6 : cvm w who (.own (.b j) 0 q) (.ownK u E0 m0 ds) u := ⟨rfl, h5⟩
        exact cvm.stp h6 hstp hrp.fz (fun _ k' hk' => ⟨fun hT => (by rw [hT, hbw] at hk'; cases hk'), fun h => h⟩) (by simp) fun _ _ _ _ h => h
      · rw [List.getElem?_set_ne hne] at hi'
        have h5 := (hc i c u hi' hu').1
        have h6 : cvm (w.setCells k 0 news) who (.own (.t t) 0 i) c u := cvm.stp h5 hstp hrp.fz (fun _ k' hk' => ⟨fun hT => (by rw [hT, hbw] at hk'; cases hk'), fun h => h⟩) (by simp) fun _ _ _ _ h => h
        exact cvm.re (List.all_eq_true.1 hno c (List.mem_of_getElem? hi')) h6
    refine hK who undef _ ?_
    rw [hd]
    refine (hrep.addBox hbox).congr fun k => ?_
    simp only [List.cons_append, List.nil_append, St.get]
    cases Key.is (.b j) k <;> simp
  wr := by simp
  me := fun i hi' => by
    subst hc'
    have h1 : i ∈ (cs.set q (.ownK v E0 m0 ds)).flatMap CV.ids := by simpa [St.ids, oids, X.ids, A1.ids] using hi'
    obtain ⟨c, hc, hic⟩ := List.mem_flatMap.1 h1
    rcases List.mem_or_eq_of_mem_set hc with hc | rfl
    · have := List.flatMap_eq_nil_iff.1 hi c hc
      rw [this] at hic; cases hic
    · simp [CV.ids] at hic
  al := by simp
end
abbrev pfBoxO (p : Pf) : List CV := [.arr (p.sig.map Int.d), .arr (p.steps.map Sp.d), .arr (p.active.map Int.d), .own 3 1 (p.wait.map Int.d), .val (.int .i64 p.found), .val (.bool p.lost)]
theorem rnew {S : List Int} {l : List (List Lt)} : FnD Tryz.prog 21 [lA Int.d S, lA Cl.d l] (.tup [pfA (newP S l).1, iA (newP S l).2]) := by
  refine Fn.of Tryz.func21 rfl Tryz.ntmps21 rfl (Nat.le_of_ble_eq_true rfl) ?_
  have c0 := rwrongSig S
  by_cases hw : wrongSig S = 0
  rotate_left
  · have e : newP S l = (Pf.zero, wrongSig S) := if_neg hw
    rw [e]
    (refine wlk ?_)
    (refine wlC c0 ?_)
    (refine wlk ?_)
    refine fin_wk (fun n => Wk.nilArrB (j := 4) (q := 0) rfl rfl rfl) ?_
    refine fin_wk (fun n => Wk.nilArrB (j := 4) (q := 1) rfl rfl rfl) ?_
    refine fin_wk (fun n => Wk.nilArrB (j := 4) (q := 2) rfl rfl rfl) ?_
    refine fin_wk (fun n => Wk.nilArrB (j := 4) (q := 3) rfl rfl rfl) ?_
    (refine wfCT ?_)
    rfl
  by_cases h8 : 8 < l.length
  · have e : newP S l = (Pf.zero, 5) := by unfold newP; rw [if_pos hw, if_pos h8]
    rw [e]
    (refine wlk ?_)
    (refine wlC c0 ?_)
    (refine wlk ?_)
    refine fin_wk (fun n => Wk.nilArrB (j := 4) (q := 0) rfl rfl rfl) ?_
    refine fin_wk (fun n => Wk.nilArrB (j := 4) (q := 1) rfl rfl rfl) ?_
    refine fin_wk (fun n => Wk.nilArrB (j := 4) (q := 2) rfl rfl rfl) ?_
    refine fin_wk (fun n => Wk.nilArrB (j := 4) (q := 3) rfl rfl rfl) ?_
    (refine wfCT ?_)
    rfl
  have e : newP S l = newGo S 0 l ⟨S, [], [], [], -1, false⟩ := by unfold newP; rw [if_pos hw, if_neg h8]
  rw [e]
  clear e
  (refine wlN ?_)
  (refine wlE ?_)
  (refine wlk ?_)
  (refine wlC c0 ?_)
  (refine wlE ?_)
  (refine wlN ?_)
  (refine wlE ?_)
  (refine wlN ?_)
  (refine wlE ?_)
  (refine wlN ?_)
  (refine wlE ?_)
  refine dwp_wk (Wk.nilArrB (j := 7) (q := 1) rfl rfl rfl) ?_
  refine dwp_wk (Wk.nilArrB (j := 7) (q := 2) rfl rfl rfl) ?_
  refine dwp_wk (Wk.nilOwnB (j := 7) (q := 3) (E := 3) (m := 1) rfl rfl rfl) ?_
  (refine wlk ?_)
  refine dwp_loop (fun x : Nat × Pf => [(.t 0, some (.one (lA Int.d S))), (.t 4, some (.one (.c (.ptr 4 0)))), (.b 4, some (.box zero9)), (.t 7, some (.one (.c (.ptr 7 0)))), (.b 7, some (.box (pfBoxO x.2))), (.t 25, some (.one (lA Cl.d l))), (.t 26, some (.one (iA l.length))), (.t 27, some (.one (iA x.1)))])
    (fun x => x.1 ≤ l.length ∧ newGo S 0 l ⟨S, [], [], [], -1, false⟩ = newGo S x.1 (l.drop x.1) x.2 ∧ x.2.steps.length ≤ x.1 ∧ x.2.wait.length ≤ x.1) (fun x => l.length - x.1) (0, ⟨S, [], [], [], -1, false⟩) ⟨by simp, rfl, by simp, by simp⟩ fgs ?_
  rintro ⟨k, p⟩ ⟨hk, hp, hst, hwa⟩
  dsimp only at hk hp hst hwa ⊢
  by_cases hkl : k < l.length
  rotate_left
  · have hkc : k = l.length := by omega
    subst hkc
    rw [List.drop_length] at hp
    have e : newGo S l.length [] p = (p, 0) := rfl
    rw [hp, e]
    refine dwp_wk (Wk.freezeB (j := 7) (q := 3) rfl rfl rfl) ?_
    (refine wlk ?_)
    (refine wfCT ?_)
    rfl
  obtain ⟨c, hc⟩ := get_of_lt hkl
  have c2 := rwrongCl S c
  have e1 : newGo S k (l.drop k) p = if wrongCl S c = 0 then (match norm c with
      | (n, e) => if e = 4 then (Pf.zero, 4) else if e = 0 then newGo S (k + 1) (l.drop (k + 1)) { (stepP p 1 [(k : Int)] n).1 with wait := p.wait ++ [((stepP p 1 [(k : Int)] n).1.steps.length : Int) - 1] } else newGo S (k + 1) (l.drop (k + 1)) p)
    else (Pf.zero, wrongCl S c) := by
    rw [drop_of hc]; rfl
  by_cases hwc : wrongCl S c = 0
  rotate_left
  · rw [hp, e1, if_neg hwc]
    (refine wlk ?_)
    (refine wlC c2 ?_)
    (refine wlk ?_)
    refine fin_wk (fun n => Wk.nilArrB (j := 4) (q := 0) rfl rfl rfl) ?_
    refine fin_wk (fun n => Wk.nilArrB (j := 4) (q := 1) rfl rfl rfl) ?_
    refine fin_wk (fun n => Wk.nilArrB (j := 4) (q := 2) rfl rfl rfl) ?_
    refine fin_wk (fun n => Wk.nilArrB (j := 4) (q := 3) rfl rfl rfl) ?_
    (refine wfCT ?_)
    rfl
  rw [if_pos hwc] at e1
  have hco := cok_of hw hwc
  have hl4 := hco.len
  have hgd : ∀ x ∈ c, (x.left.okv = true ∧ few x.left) ∧ (x.right.okv = true ∧ few x.right) := fun x hx => by
    obtain ⟨i, hi⟩ := List.getElem?_of_mem hx
    have ho := hco.cg.old hi
    exact ⟨⟨ho.1.1.okv, ho.1.1.few⟩, ho.2.1.okv, ho.2.1.few⟩
  have c3 := rnorm c (fun x hx => ⟨(hgd x hx).1.1, (hgd x hx).2.1⟩) (fun x hx => ⟨(hgd x hx).1.2, (hgd x hx).2.2⟩) (fun x hx => by have := hco.size x hx; omega) (by omega)
  rcases hn : norm c with ⟨d, e⟩
  rw [hn] at e1 c3
  dsimp only at e1 c3
  by_cases h4 : e = 4
  · subst h4
    rw [if_pos rfl] at e1
    rw [hp, e1]
    (refine wlk ?_)
    (refine wlC c2 ?_)
    (refine wlk ?_)
    (refine wlC c3 ?_)
    (refine wlk ?_)
    refine fin_wk (fun n => Wk.nilArrB (j := 4) (q := 0) rfl rfl rfl) ?_
    refine fin_wk (fun n => Wk.nilArrB (j := 4) (q := 1) rfl rfl rfl) ?_
    refine fin_wk (fun n => Wk.nilArrB (j := 4) (q := 2) rfl rfl rfl) ?_
    refine fin_wk (fun n => Wk.nilArrB (j := 4) (q := 3) rfl rfl rfl) ?_
    (refine wfCT ?_)
    rfl
  rw [if_neg h4] at e1
  by_cases h0 : e = 0
  rotate_left
  · rw [if_neg h0] at e1
    (refine wlk ?_)
    (refine wlC c2 ?_)
    (refine wlk ?_)
    (refine wlC c3 ?_)
    (refine wlk ?_)
    exact ⟨(k + 1, p), ⟨by simp only; omega, hp.trans e1, by simp only; omega, by simp only; omega⟩, fgs, by simp only; omega⟩
  subst h0
  rw [if_pos rfl] at e1
  obtain ⟨sg, st, ac, wa, fo, lo⟩ := p
  dsimp only at hst hwa e1
  have h120 : ¬ 120 ≤ st.length := by omega
  rw [stepP_in (by exact h120)] at e1
  dsimp only at e1
  have hp2 := hp.trans e1
  clear e1 hp
  have hwl : (wa ++ [((st ++ [(⟨1, [(k : Int)], d⟩ : Sp)]).length : Int) - 1]).length ≤ 1000 := by simp; omega
  have hsl2 : (st ++ [(⟨1, [(k : Int)], d⟩ : Sp)]).length = st.length + 1 := by simp
  (refine wlk ?_)
  (refine wlC c2 ?_)
  (refine wlk ?_)
  (refine wlC c3 ?_)
  (refine wlE ?_)
  (refine wlN ?_)
  (refine wlE ?_)
  (refine wlN ?_)
  (refine wlE ?_)
  refine dwp_isOBs (j := 7) (q := 3) rfl rfl rfl ⟨7, rfl⟩ fun ad cp => ?_
  have hsp := rstepV ad (wa.map Int.d).length cp ⟨sg, st, ac, wa, fo, lo⟩ 1 [(k : Int)] d (by simp only; omega)
  rw [stepP_t (by exact h120)] at hsp
  dsimp only [pfAV, pfA] at hsp
  (refine wlN ?_)
  (refine SqA.b1 (op_loadAggK rfl rfl (rw_of rfl) rfl rfl rfl rfl rfl rfl) rfl rfl ?_)
  (refine wlk ?_)
  (refine SqA.b1 (op_bsT (T := TB) (f := Int.d) [(k : Int)] rfl rfl rfl rfl rfl rfl rfl rfl rfl rfl rfl) rfl rfl ?_)
  (refine wlk ?_)
  (refine wlC hsp ?_)
  (refine SqA.a1 TB rfl rfl rfl ?_)
  (refine SqA.a1 TB rfl rfl rfl ?_)
  (refine SqA.a1 TB rfl rfl rfl ?_)
  (refine SqA.b1 (op_storeKeep (j := 7) (q := 3) rfl rfl rfl rfl (rw_of rfl) rfl rfl rfl rfl rfl rfl rfl rfl rfl) rfl rfl ?_)
  (refine wlE ?_)
  refine dwp_wk (Wk.ofKB (j := 7) (q := 3) rfl rfl rfl rfl) ?_
  (refine wlk ?_)
  (refine SqA.b1 (op_bsT (T := TB) (f := Int.d) [((st ++ [(⟨1, [(k : Int)], d⟩ : Sp)]).length : Int) - 1] rfl rfl rfl rfl rfl rfl rfl rfl rfl rfl rfl) rfl rfl ?_)
  (refine wlk ?_)
  exact ⟨(k + 1, ⟨sg, st ++ [⟨1, [(k : Int)], d⟩], ac, wa ++ [((st ++ [(⟨1, [(k : Int)], d⟩ : Sp)]).length : Int) - 1], if d.length = 0 ∧ fo < 0 then (st.length : Int) else fo, lo⟩), ⟨by simp only; omega, hp2, by simp; omega, by simp; omega⟩, fgs, by simp only; omega⟩
theorem emod_of {n m : Int} (hm : 0 < m) : (if Int.tmod n m < 0 then Int.tmod n m + m else Int.tmod n m) = n % m := by
  rcases Int.lt_or_le n 0 with h | h
  · have e : Int.tmod n m = - ((-n) % m) := by
      have : n = - (-n) := by omega
      rw [this, Int.neg_tmod, Int.tmod_eq_emod_of_nonneg (by omega)]; simp
    rw [e]
    have h1 := Int.emod_nonneg (-n) (show m ≠ 0 by omega)
    have h2 := Int.emod_lt_of_pos (-n) hm
    rcases Classical.em ((-n) % m = 0) with h0 | h0
    · rw [h0]
      simp only [Int.neg_zero]
      rw [if_neg (by omega)]
      have := Int.dvd_of_emod_eq_zero h0
      exact (Int.emod_eq_zero_of_dvd ((Int.dvd_neg).1 this)).symm
    · rw [if_pos (by omega)]
      have h4 : (m - (-n) % m) % m = m - (-n) % m := Int.emod_eq_of_lt (by omega) (by omega)
      have hd := Int.emod_add_mul_ediv (-n) m
      have hs : n = (m - (-n) % m) + m * (-((-n) / m) - 1) := by
        rw [Int.mul_sub, Int.mul_neg, Int.mul_one]; omega
      have h3 : n % m = (m - (-n) % m) % m := by
        rw [congrArg (· % m) hs]
        exact Int.add_mul_emod_self_left _ _ _
      rw [h3, h4]
      exact Int.add_comm _ _
  · rw [Int.tmod_eq_emod_of_nonneg h, if_neg (by have := Int.emod_nonneg n (show m ≠ 0 by omega); omega)]
section
variable {P : Program}
theorem bin_tmod {T : TypeId} {a b : Int} (h1 : 0 < b) : Bin P .rem T (.int .i64 a) (.int .i64 b) (.int .i64 (Int.tmod a b)) := .mk fun s1 s2 w => by
  simp [eqGuard, binOp, Op.intDiv, show ¬ b = 0 by omega]
end
theorem rsearch {S : List Int} {l : List (List Lt)} {picks : List Int} : FnD Tryz.prog 18 [lA Int.d S, lA Cl.d l, lA Int.d picks] (.tup [pfA (search S l picks).1, iA (search S l picks).2]) := by
  refine Fn.of Tryz.func18 rfl Tryz.ntmps18 rfl (Nat.le_of_ble_eq_true rfl) ?_
  have c0 := rnew (S := S) (l := l)
  obtain ⟨⟨p0, e⟩, hn⟩ : ∃ r, r = newP S l := ⟨_, rfl⟩
  have hse : search S l picks = if e = 0 then (if 120 < picks.length then (Pf.zero, 4) else (searchGo p0 picks, 0)) else (Pf.zero, e) := by unfold search; rw [← hn]
  rw [← hn] at c0
  dsimp only at c0
  by_cases he : e = 0
  rotate_left
  · rw [hse, if_neg he]
    (refine wlk ?_)
    (refine wlC c0 ?_)
    (refine wlk ?_)
    refine fin_wk (fun n => Wk.nilArrB (j := 6) (q := 0) rfl rfl rfl) ?_
    refine fin_wk (fun n => Wk.nilArrB (j := 6) (q := 1) rfl rfl rfl) ?_
    refine fin_wk (fun n => Wk.nilArrB (j := 6) (q := 2) rfl rfl rfl) ?_
    refine fin_wk (fun n => Wk.nilArrB (j := 6) (q := 3) rfl rfl rfl) ?_
    (refine wfCT ?_)
    rfl
  subst he
  rw [if_pos rfl] at hse
  by_cases h120 : 120 < picks.length
  · rw [hse, if_pos h120]
    (refine wlk ?_)
    (refine wlC c0 ?_)
    (refine wlk ?_)
    refine fin_wk (fun n => Wk.nilArrB (j := 6) (q := 0) rfl rfl rfl) ?_
    refine fin_wk (fun n => Wk.nilArrB (j := 6) (q := 1) rfl rfl rfl) ?_
    refine fin_wk (fun n => Wk.nilArrB (j := 6) (q := 2) rfl rfl rfl) ?_
    refine fin_wk (fun n => Wk.nilArrB (j := 6) (q := 3) rfl rfl rfl) ?_
    (refine wfCT ?_)
    rfl
  rw [hse, if_neg h120]
  clear hse
  obtain ⟨hs, hi⟩ := newP_right hn.symm
  have hQ := QOk.ofKept hs hi
  have hpi := (newP_ok hn.symm hQ).1
  clear hn
  (refine wlk ?_)
  (refine wlC c0 ?_)
  (refine wlk ?_)
  refine dwp_loop (fun x : Nat × Pf => [(.t 6, some (.one (.c (.ptr 6 0)))), (.b 6, some (.box zero9)), (.t 8, some (.one (.c (.ptr 8 0)))), (.b 8, some (.box (pfA x.2).cells)), (.t 26, some (.one (lA Int.d picks))), (.t 27, some (.one (iA picks.length))), (.t 28, some (.one (iA x.1)))])
    (fun x => x.1 ≤ picks.length ∧ searchGo p0 picks = searchGo x.2 (picks.drop x.1) ∧ PI S l (Kept S) x.2) (fun x => picks.length - x.1) (0, p0) ⟨by simp, rfl, hpi⟩ fgs ?_
  clear hpi c0
  rintro ⟨k, p⟩ ⟨hk, hsg, hp⟩
  dsimp only at hk hsg hp ⊢
  by_cases hkl : k < picks.length
  rotate_left
  · have : k = picks.length := by omega
    subst this
    rw [List.drop_length] at hsg
    have e : searchGo p [] = p := rfl
    rw [hsg, e]
    (refine wlk ?_)
    (refine wfCT ?_)
    rfl
  obtain ⟨x, hx⟩ := get_of_lt hkl
  rw [drop_of hx] at hsg
  have e1 : searchGo p (x :: picks.drop (k + 1)) = if p.wait.length = 0 then p else searchGo (pick p (x % (p.wait.length : Int))).1 (picks.drop (k + 1)) := rfl
  rw [e1] at hsg
  have hgo := PfGo.of hp fun c h => h
  have hlen := hgo.ok.len
  have haw := hgo.aw
  by_cases hw : p.wait.length = 0
  · rw [if_pos hw] at hsg
    rw [hsg]
    (refine wlk ?_)
    (refine wfCT ?_)
    rfl
  rw [if_neg hw] at hsg
  have hm : 0 < (p.wait.length : Int) := by omega
  have hmod := emod_of (n := x) hm
  have hb1 := Int.emod_nonneg x (show (p.wait.length : Int) ≠ 0 by omega)
  have hb2 := Int.emod_lt_of_pos x hm
  by_cases hneg : Int.tmod x (p.wait.length : Int) < 0
  · rw [if_pos hneg] at hmod
    have hpk := rpick hgo (Int.tmod x (p.wait.length : Int) + (p.wait.length : Int))
    have hp2 := (hp.pick hQ (x % (p.wait.length : Int))).1
    rw [← hmod] at hsg hp2
    (refine wlk ?_)
    (refine SqA.b1 (op_bin rfl rfl rfl rfl (bin_tmod (by omega))) rfl rfl ?_)
    (refine wlk ?_)
    (refine wlC hpk ?_)
    (refine wlk ?_)
    exact ⟨(k + 1, _), ⟨by simp only; omega, hsg, hp2⟩, fgs, by simp only; omega⟩
  · rw [if_neg hneg] at hmod
    have hpk := rpick hgo (Int.tmod x (p.wait.length : Int))
    have hp2 := (hp.pick hQ (x % (p.wait.length : Int))).1
    rw [← hmod] at hsg hp2
    (refine wlk ?_)
    (refine SqA.b1 (op_bin rfl rfl rfl rfl (bin_tmod (by omega))) rfl rfl ?_)
    (refine wlk ?_)
    (refine wlC hpk ?_)
    (refine wlk ?_)
    exact ⟨(k + 1, _), ⟨by simp only; omega, hsg, hp2⟩, fgs, by simp only; omega⟩
theorem rsameInts (a b : List Int) : FnD Tryz.prog 27 [lA Int.d a, lA Int.d b] (.one (bA (decide (a = b)))) := by
  refine Fn.of Tryz.func27 rfl Tryz.ntmps27 rfl (Nat.le_of_ble_eq_true rfl) ?_
  refine dwp_len (t := 0) rfl fun hl => ?_
  simp only [List.length_map] at hl
  by_cases h3 : a.length = b.length
  rotate_left
  · (refine wlk ?_)
    (refine wfT ?_)
    exact Xb (b := false) (decide_eq_false (fun e => h3 (by rw [e]))).symm
  (refine wlk ?_)
  refine dwp_loop (fun k : Nat => [(.t 0, some (.one (lA Int.d a))), (.t 1, some (.one (lA Int.d b))), (.t 12, some (.one (iA a.length))), (.t 13, some (.one (iA k)))])
    (fun k => k ≤ a.length ∧ a.take k = b.take k) (fun k => a.length - k) 0 ⟨by omega, rfl⟩ fgs ?_
  rintro k ⟨hk, htk⟩
  by_cases hkl : k < a.length
  · obtain ⟨x, hx⟩ := get_of_lt hkl
    obtain ⟨y, hy⟩ := get_of_lt (s := b) (k := k) (by omega)
    by_cases hxy : x = y
    · (refine wlk ?_)
      exact ⟨k + 1, ⟨by omega, by rw [take_succ_of hx, take_succ_of hy, htk, hxy]⟩, fgs, by omega⟩
    · (refine wlk ?_)
      (refine wfT ?_)
      exact Xb (b := false) (decide_eq_false (fun e => hxy (by rw [e, hy] at hx; injection hx with e; exact e.symm))).symm
  · have : k = a.length := by omega
    subst this
    (refine wlk ?_)
    (refine wfT ?_)
    exact Xb (b := true) (decide_eq_true (by rw [List.take_length, h3, List.take_length] at htk; exact htk)).symm
theorem sameIntsR (l : List Int) : FnD Tryz.prog 27 [lA Int.d l, lA Int.d l] (.one (bA true)) := by
  have := rsameInts l l
  rw [decide_eq_true rfl] at this; exact this
theorem sameStepsR (l : List Sp) : FnD Tryz.prog 11 [lA Sp.d l, lA Sp.d l] (.one (bA true)) := by
  refine Fn.of Tryz.func11 rfl Tryz.ntmps11 rfl (Nat.le_of_ble_eq_true rfl) ?_
  refine dwp_len (t := 0) rfl fun hl => ?_
  simp only [List.length_map] at hl
  (refine wlk ?_)
  refine dwp_loop (fun k : Nat => [(.t 0, some (.one (lA Sp.d l))), (.t 1, some (.one (lA Sp.d l))), (.t 12, some (.one (iA l.length))), (.t 13, some (.one (iA k)))])
    (fun k => k ≤ l.length) (fun k => l.length - k) 0 (by omega) fgs ?_
  intro k hk
  by_cases hkl : k < l.length
  · obtain ⟨⟨r, f, c⟩, hx⟩ := get_of_lt hkl
    have c1 := sameIntsR f
    have c2 := rsameClause c c
    rw [clSame_iff.2 rfl] at c2
    (refine wlk ?_)
    (refine wlC c1 ?_)
    (refine wlk ?_)
    (refine wlC c2 ?_)
    (refine wlk ?_)
    exact ⟨k + 1, by omega, fgs, by omega⟩
  · (refine wlk ?_)
    (refine wfT ?_)
    rfl
theorem clauses10 (ts : List (List UInt8)) (cs : List (List Lt)) (hcs : cs = ts.map fun t => (clauseParse [0, 1, 2] t).1) (hl : ts.length ≤ 1000) (hb : ∀ t ∈ ts, t.length ≤ 1000) : FnD Tryz.prog 38 [lA Str.d ts] (.one (lA Cl.d cs)) := by
  have hcl : cs.length = ts.length := by rw [hcs, List.length_map]
  refine Fn.of Tryz.func38 rfl Tryz.ntmps38 rfl (Nat.le_of_ble_eq_true rfl) ?_
  (refine wlk ?_)
  refine dwp_loop (fun k : Nat => [(.t 3, some (.one (.c (.own 39 1 ((cs.take k).map Cl.d))))), (.t 8, some (.one (lA Str.d ts))), (.t 9, some (.one (iA ts.length))), (.t 10, some (.one (iA k)))])
    (fun k => k ≤ ts.length) (fun k => ts.length - k) 0 (by omega) ((Wk.nilOwn (d := 3) (E := 39) (m := 1) rfl).trans fgs) ?_
  intro k hk
  by_cases hkl : k < ts.length
  rotate_left
  · have : k = ts.length := by omega
    subst this
    refine dwp_wk (Wk.freezeAt (d := 3) rfl) ?_
    (refine wlk ?_)
    (refine wfT ?_)
    rw [List.take_of_length_le (by omega)]
    rfl
  obtain ⟨t, ht⟩ := get_of_lt hkl
  have htl := hb t (List.mem_of_getElem? ht)
  have hp := rclauseParse [0, 1, 2] t (by omega)
  have hc : cs[k]? = some (clauseParse [0, 1, 2] t).1 := by rw [hcs, List.getElem?_map, ht]; rfl
  obtain ⟨⟨c, e⟩, he⟩ : ∃ r, r = clauseParse [0, 1, 2] t := ⟨_, rfl⟩
  rw [← he] at hp hc
  dsimp only at hp hc
  have hts : cs.take k ++ [c] = cs.take (k + 1) := (take_succ_of hc).symm
  have hlen : (cs.take (k + 1)).length ≤ 1001 := by rw [List.length_take]; omega
  have hlen0 : (cs.take k).length ≤ 1001 := by rw [List.length_take]; omega
  clear hc
  (refine wlk ?_)
  (refine SqA.b1 (op_bsT (T := TB) (f := Int.d) [0, 1, 2] rfl rfl rfl rfl rfl rfl rfl rfl rfl rfl rfl) rfl rfl ?_)
  (refine wlk ?_)
  (refine wlC hp ?_)
  (refine wlk ?_)
  (refine SqA.b1 (op_bsT (T := TB) (f := Cl.d) [c] rfl rfl rfl rfl rfl rfl rfl rfl rfl rfl rfl) rfl rfl ?_)
  (refine wlk ?_)
  exact ⟨k + 1, by omega, fgs, by omega⟩
theorem alive10 : FnD Tryz.prog 14 [] (.one (bA true)) := by
  have c1 := clauses10 [[98, 40, 88, 48, 41, 61, 88, 48], [98, 40, 97, 41, 33, 61, 97]] [k91, k92] (by kernel_rfl) (by decide) (by decide)
  have c2 := rsearch (S := [0, 1, 2]) (l := [k91, k92]) (picks := [0, 0])
  rw [search91] at c2
  have c3 := scheck (S := [0, 1, 2]) (inn := [k91, k92]) (steps := r91.steps) (by decide)
  rw [checked91.check] at c3
  have c4 := scheck (S := [0, 1, 2]) (inn := [k91, k92]) (steps := bad91) (by decide)
  rw [check91b] at c4
  have c5 := strim checked91 (by decide) 2
  have h0 : ([] : List Sp) ++ r91.steps = r91.steps := rfl
  have hl3 : r91.steps.length ≤ 1000 := by decide
  rw [trim91] at c5
  dsimp only [pfA] at c2 c3 c4 c5
  refine Fn.of Tryz.func14 rfl Tryz.ntmps14 rfl (Nat.le_of_ble_eq_true rfl) ?_
  (refine wlk ?_)
  (refine SqA.b1 (op_bsT (T := TB) (f := Int.d) [0, 1, 2] rfl rfl rfl rfl rfl rfl rfl rfl rfl rfl rfl) rfl rfl ?_)
  (refine wlk ?_)
  (refine SqA.b1 (op_bsT (T := TB) (f := Str.d) [[98, 40, 88, 48, 41, 61, 88, 48], [98, 40, 97, 41, 33, 61, 97]] rfl rfl rfl rfl rfl rfl rfl rfl rfl rfl rfl) rfl rfl ?_)
  (refine wlk ?_)
  (refine wlC c1 ?_)
  (refine wlk ?_)
  (refine SqA.b1 (op_bsT (T := TB) (f := Int.d) [0, 0] rfl rfl rfl rfl rfl rfl rfl rfl rfl rfl rfl) rfl rfl ?_)
  (refine wlk ?_)
  (refine wlC c2 ?_)
  (refine wlk ?_)
  (refine wlC c3 ?_)
  (refine wlE ?_)
  (refine wlN ?_)
  (refine wlE ?_)
  refine dwp_ownEls (f := Sp.d) (t := 7) (l := r91.steps) rfl (by decide) rfl rfl rfl rfl fun e => ?_
  rw [show els spG r91.steps e = [CV.val (.int .i64 1), .arr ([0].map Int.d), .arr (k91.map Lt.d), .val (.int .i64 1), .arr ([1].map Int.d), .arr (k92.map Lt.d), .val (.int .i64 5), .arr ([1, 0].map Int.d), .arr (([] : List Lt).map Lt.d)] ++ List.replicate e .any from rfl, show r91.steps.length = 3 from rfl]
  (refine wlN ?_)
  (refine SqA.a1 TB rfl rfl rfl ?_)
  (refine SqA.b1 (op_idxSlT (T := TB) (q := 0) (q' := 0) rfl rfl rfl rfl rfl rfl (by decide) rfl) rfl rfl ?_)
  (refine wlE ?_)
  refine dwp_wk (Wk.nilArrB (j := 7) (q := 2) rfl rfl rfl) ?_
  refine dwp_wk (Wk.frzSlG (f := Sp.d) (t := 7) (j := 7) (k := 3) (l := bad91) rfl rfl rfl rfl rfl rfl) ?_
  (refine wlk ?_)
  (refine wlC c4 ?_)
  (refine wlk ?_)
  (refine wlC c5 ?_)
  have g2 : r91.steps[2]? = some ⟨5, [1, 0], []⟩ := rfl
  (refine wlk ?_)
  (refine wfT ?_)
  rfl
theorem logTells_fn (s : List Int) (l : List (List Lt)) (steps : List Sp) (last : Int) (hl : ∀ x ∈ steps, x.frm.length ≤ 1000000000) : FnD Tryz.prog 3 [lA Int.d s, lA Cl.d l, lA Sp.d steps, iA last] (.one (bA true)) := by
  refine Fn.of Tryz.func3 rfl Tryz.ntmps3 rfl (Nat.le_of_ble_eq_true rfl) ?_
  have c1 := scheck (S := s) (inn := l) (steps := steps) hl
  have c2 := rcheck (S := s) (inn := l) (steps := steps) hl
  have hch := check_iff (S := s) (inn := l) (steps := steps)
  generalize check s l steps = r at *
  obtain ⟨e, k⟩ := r
  dsimp only at c1 c2 hch
  by_cases he : e = 0
  · have hc := hch.1 he
    subst he
    have c3 := strim hc hl last
    have c4 := rtrim hc hl last
    have c5 := sameStepsR (trim steps last)
    (refine wlk ?_)
    (refine wlC c1 ?_)
    (refine wlk ?_)
    (refine wlC c2 ?_)
    (refine wlk ?_)
    (refine wlC c3 ?_)
    (refine wlk ?_)
    (refine wlC c4 ?_)
    (refine wlk ?_)
    (refine wlC c5 ?_)
    (refine wlk ?_)
    (refine wfT ?_)
    rfl
  · (refine wlk ?_)
    (refine wlC c1 ?_)
    (refine wlk ?_)
    (refine wlC c2 ?_)
    (refine wlk ?_)
    (refine wfT ?_)
    rfl
theorem logHolds_fn (s : List Int) (l : List (List Lt)) (steps : List Sp) (m : Md) (hl : ∀ x ∈ steps, x.frm.length ≤ 1000000000) : FnD Tryz.prog 4 [lA Int.d s, lA Cl.d l, lA Sp.d steps, mdA m] (.one (bA true)) := by
  refine Fn.of Tryz.func4 rfl Tryz.ntmps4 rfl (Nat.le_of_ble_eq_true rfl) ?_
  have c1 := scheck (S := s) (inn := l) (steps := steps) hl
  have hch := check_iff (S := s) (inn := l) (steps := steps)
  generalize check s l steps = r at *
  obtain ⟨e, k⟩ := r
  dsimp only at c1 hch
  by_cases he : e = 0
  rotate_left
  · (refine wlk ?_)
    (refine wlC alive10 ?_)
    (refine wlk ?_)
    (refine wlC c1 ?_)
    (refine wlk ?_)
    (refine wfT ?_)
    rfl
  have hc := hch.1 he
  subst he
  have m2 := rwrongModel s hc.sig m
  by_cases hm : wrongModel s m = 0
  rotate_left
  · generalize wrongModel s m = e at *
    (refine wlk ?_)
    (refine wlC alive10 ?_)
    (refine wlk ?_)
    (refine wlC c1 ?_)
    (refine wlk ?_)
    (refine wlC m2 ?_)
    (refine wlk ?_)
    (refine wfT ?_)
    rfl
  rw [hm] at m2
  have hmo := MOk.of hm
  have hco : ∀ c ∈ l, COk s c := fun c h => cok_of hc.sig (hc.rin c h)
  have hmd := rmodels hmo hc.sig l (fun u hu => ⟨(hco u hu).wf, cok_sz9 (hco u hu)⟩) (by have := hc.inn8; omega)
  cases hv : l.all (holds m)
  · rw [hv] at hmd
    (refine wlk ?_)
    (refine wlC alive10 ?_)
    (refine wlk ?_)
    (refine wlC c1 ?_)
    (refine wlk ?_)
    (refine wlC m2 ?_)
    (refine wlk ?_)
    (refine wlC hmd ?_)
    (refine wlk ?_)
    (refine wfT ?_)
    rfl
  rw [hv] at hmd
  have hval : ∀ c ∈ l, validF m c := fun c h => (holds_iffF hmo (hco c h).wf).1 (List.all_eq_true.1 hv c h)
  have hall := hc.valid hmo hval
  have hlen := hc.len
  (refine wlk ?_)
  (refine wlC alive10 ?_)
  (refine wlk ?_)
  (refine wlC c1 ?_)
  (refine wlk ?_)
  (refine wlC m2 ?_)
  (refine wlk ?_)
  (refine wlC hmd ?_)
  (refine wlk ?_)
  refine dwp_loop (fun k : Nat => [(.t 7, some (.one (.c (.ptr 7 0)))), (.b 7, some (.box (mdA m).cells)), (.t 36, some (.one (lA Sp.d steps))), (.t 37, some (.one (iA steps.length))), (.t 38, some (.one (iA k)))])
    (fun k => k ≤ steps.length) (fun k => steps.length - k) 0 (by omega) fgs ?_
  intro j hj
  by_cases hjl : j < steps.length
  rotate_left
  · (refine wlk ?_)
    (refine wfT ?_)
    rfl
  obtain ⟨x, hx⟩ := get_of_lt hjl
  have hxo := hc.wf hx
  have hxv := hall j x hx
  have hh := rholds hmo hc.sig x.cl hxo.wf (cok_sz9 hxo)
  rw [(holds_iffF hmo hxo.wf).2 hxv] at hh
  have hne : x.cl.length ≠ 0 := fun h => by
    rw [List.length_eq_zero_iff.1 h] at hxv
    exact validF_nil hmo hxv
  (refine wlk ?_)
  (refine wlC hh ?_)
  (refine wlk ?_)
  exact ⟨j + 1, by omega, fgs, by omega⟩
end Go.Proofs.YtmanhdacnkpclaaGreat
