/- IndexFinds, walked. -/
import Derived.Test.YtmanhdacnkpclaaD5
import Derived.Test.YtmanhdacnkpclaaD6
import Derived.Test.YtmanhdacnkpclaaBc
import Derived.Test.YtmanhdacnkpclaaK3
namespace Go.Proofs.Ytmanhdacnkpclaa
set_option linter.all false
open Go.RowKit

set_option maxRecDepth 100000 in
theorem read8 (l : List UInt8) : FnD Try.prog 92 [sA l] (.one (tA (parseTm [0, 1, 2] l).1)) := by
  refine Fn.of Try.func92 rfl Try.ntmps92 rfl (Nat.le_of_ble_eq_true rfl) ?_
  (refine wlk ?_)
  (refine SqA.b1 (op_bsT (T := TB) (f := Int.d) [0, 1, 2] rfl rfl rfl rfl rfl rfl rfl rfl rfl rfl rfl) rfl rfl ?_)
  (refine wlk ?_)
  (refine SqA.b1 (op_call none rfl rfl rfl (by kernel_rfl) (FnD.use (rparse [0, 1, 2] l)) rfl rfl rfl rfl rfl rfl) rfl rfl ?_)
  (refine wlk ?_)
  (first | (refine finR (.cellN rfl rfl (rw_of rfl) rfl rfl .nil) rfl rfl ?_) | (refine finN (.cellN rfl rfl (rw_of rfl) rfl rfl .nil) rfl rfl ?_))
  rfl
theorem read8_at {l : List UInt8} {t : Tm} (h : parseTm [0, 1, 2] l = (t, 0)) : FnD Try.prog 92 [sA l] (.one (tA t)) := by
  have := read8 l
  rw [h] at this; exact this
theorem key_at {t : Tm} {x y z : Int} (h : mark t [] = x ∧ mark t [0] = y ∧ mark t [1] = z) : FnD Try.prog 29 [tA t] (.one (i3 x y z)) := by
  have := pkey t
  rw [h.1, h.2.1, h.2.2] at this; exact this
set_option maxHeartbeats 8000000 in
set_option maxRecDepth 100000 in
theorem alive8 : FnD Try.prog 38 [] (.one (bA true)) := by
  have r1 : FnD Try.prog 92 [sA [99, 40, 88, 48, 44, 97, 41]] (.one (tA ⟨false, 2, [⟨true, 0, []⟩, ⟨false, 0, []⟩]⟩)) := read8_at (by kernel_rfl)
  have ra : FnD Try.prog 92 [sA [97]] (.one (tA ⟨false, 0, []⟩)) := read8_at (by kernel_rfl)
  have r2 : FnD Try.prog 92 [sA [99, 40, 97, 44, 88, 49, 41]] (.one (tA ⟨false, 2, [⟨false, 0, []⟩, ⟨true, 1, []⟩]⟩)) := read8_at (by kernel_rfl)
  have rx : FnD Try.prog 92 [sA [88, 48]] (.one (tA ⟨true, 0, []⟩)) := read8_at (by kernel_rfl)
  have r3 : FnD Try.prog 92 [sA [99, 40, 98, 40, 97, 41, 44, 97, 41]] (.one (tA ⟨false, 2, [⟨false, 1, [⟨false, 0, []⟩]⟩, ⟨false, 0, []⟩]⟩)) := read8_at (by kernel_rfl)
  have rc : FnD Try.prog 93 [lA Int.d [0, 1, 2], sA [98, 40, 88, 48, 41, 61, 97]] (.tup [lA Lt.d [⟨false, ⟨false, 1, [⟨true, 0, []⟩]⟩, ⟨false, 0, []⟩⟩], iA 0]) := by
    have := rclauseParse [0, 1, 2] [98, 40, 88, 48, 41, 61, 97] (by decide)
    rw [show clauseParse [0, 1, 2] [98, 40, 88, 48, 41, 61, 97] = ([⟨false, ⟨false, 1, [⟨true, 0, []⟩]⟩, ⟨false, 0, []⟩⟩], 0) by kernel_rfl] at this
    exact this
  have k1 : FnD Try.prog 29 [tA ⟨false, 2, [⟨true, 0, []⟩, ⟨false, 0, []⟩]⟩] (.one (i3 3 0 1)) := key_at ⟨by kernel_rfl, by kernel_rfl, by kernel_rfl⟩
  have kx : FnD Try.prog 29 [tA ⟨true, 0, []⟩] (.one (i3 0 (-1) (-1))) := key_at ⟨by kernel_rfl, by kernel_rfl, by kernel_rfl⟩
  have k3 : FnD Try.prog 29 [tA ⟨false, 2, [⟨false, 1, [⟨false, 0, []⟩]⟩, ⟨false, 0, []⟩]⟩] (.one (i3 3 2 1)) := key_at ⟨by kernel_rfl, by kernel_rfl, by kernel_rfl⟩
  have ka : FnD Try.prog 29 [tA ⟨false, 0, []⟩] (.one (i3 1 (-2) (-2))) := key_at ⟨by kernel_rfl, by kernel_rfl, by kernel_rfl⟩
  have pf := pfind [⟨false, 0, []⟩, ⟨false, 2, [⟨false, 0, []⟩, ⟨true, 1, []⟩]⟩, ⟨true, 0, []⟩] ⟨false, 2, [⟨true, 0, []⟩, ⟨false, 0, []⟩]⟩ (by decide)
  rw [show finds ⟨false, 2, [⟨true, 0, []⟩, ⟨false, 0, []⟩]⟩ 0 [⟨false, 0, []⟩, ⟨false, 2, [⟨false, 0, []⟩, ⟨true, 1, []⟩]⟩, ⟨true, 0, []⟩] = [1, 2] by kernel_rfl] at pf
  have u1 : FnD Try.prog 31 [i3 3 0 1, i3 0 (-1) (-1)] (.one (bA true)) := pmayU 3 0 1 0 (-1) (-1)
  have m1 : FnD Try.prog 33 [i3 3 0 1, i3 3 2 1] (.one (bA true)) := pmayM 3 0 1 3 2 1
  have m2 : FnD Try.prog 33 [i3 3 0 1, i3 1 (-2) (-2)] (.one (bA false)) := pmayM 3 0 1 1 (-2) (-2)
  have al := pall [⟨false, ⟨false, 1, [⟨true, 0, []⟩]⟩, ⟨false, 0, []⟩⟩] (by decide) (by decide)
  rw [show allT [⟨false, ⟨false, 1, [⟨true, 0, []⟩]⟩, ⟨false, 0, []⟩⟩] = [⟨false, 1, [⟨true, 0, []⟩]⟩, ⟨false, 0, []⟩] by kernel_rfl] at al
  refine Fn.of Try.func38 rfl Try.ntmps38 rfl (Nat.le_of_ble_eq_true rfl) ?_
  have g1 : ([1, 2] : List Int)[0]? = some 1 := rfl
  (refine wlk ?_)
  (refine SqA.b1 (op_call none rfl rfl rfl (by kernel_rfl) (FnD.use (r1)) rfl rfl rfl rfl rfl rfl) rfl rfl ?_)
  (refine wlk ?_)
  (refine SqA.b1 (op_call none rfl rfl rfl (by kernel_rfl) (FnD.use (k1)) rfl rfl rfl rfl rfl rfl) rfl rfl ?_)
  (refine wlk ?_)
  (refine SqA.b1 (op_bsT (T := TB) (f := Int.d) [0, 1, 2] rfl rfl rfl rfl rfl rfl rfl rfl rfl rfl rfl) rfl rfl ?_)
  (refine wlk ?_)
  (refine SqA.b1 (op_call none rfl rfl rfl (by kernel_rfl) (FnD.use (rc)) rfl rfl rfl rfl rfl rfl) rfl rfl ?_)
  (refine wlk ?_)
  (refine SqA.b1 (op_call none rfl rfl rfl (by kernel_rfl) (FnD.use (ra)) rfl rfl rfl rfl rfl rfl) rfl rfl ?_)
  (refine wlk ?_)
  (refine SqA.b1 (op_call none rfl rfl rfl (by kernel_rfl) (FnD.use (r2)) rfl rfl rfl rfl rfl rfl) rfl rfl ?_)
  (refine wlk ?_)
  (refine SqA.b1 (op_call none rfl rfl rfl (by kernel_rfl) (FnD.use (rx)) rfl rfl rfl rfl rfl rfl) rfl rfl ?_)
  (refine wlk ?_)
  (refine SqA.b1 (op_bsT (T := TB) (f := Tm.d) [⟨false, 0, []⟩, ⟨false, 2, [⟨false, 0, []⟩, ⟨true, 1, []⟩]⟩, ⟨true, 0, []⟩] rfl rfl rfl rfl rfl rfl rfl rfl rfl rfl rfl) rfl rfl ?_)
  (refine wlk ?_)
  (refine SqA.b1 (op_call none rfl rfl rfl (by kernel_rfl) (FnD.use (r1)) rfl rfl rfl rfl rfl rfl) rfl rfl ?_)
  (refine wlk ?_)
  (refine SqA.b1 (op_call none rfl rfl rfl (by kernel_rfl) (FnD.use (pf)) rfl rfl rfl rfl rfl rfl) rfl rfl ?_)
  (refine wlk ?_)
  (refine SqA.b1 (op_call none rfl rfl rfl (by kernel_rfl) (FnD.use (rx)) rfl rfl rfl rfl rfl rfl) rfl rfl ?_)
  (refine wlk ?_)
  (refine SqA.b1 (op_call none rfl rfl rfl (by kernel_rfl) (FnD.use (kx)) rfl rfl rfl rfl rfl rfl) rfl rfl ?_)
  (refine wlk ?_)
  (refine SqA.b1 (op_call none rfl rfl rfl (by kernel_rfl) (FnD.use (u1)) rfl rfl rfl rfl rfl rfl) rfl rfl ?_)
  (refine wlk ?_)
  (refine SqA.b1 (op_call none rfl rfl rfl (by kernel_rfl) (FnD.use (r3)) rfl rfl rfl rfl rfl rfl) rfl rfl ?_)
  (refine wlk ?_)
  (refine SqA.b1 (op_call none rfl rfl rfl (by kernel_rfl) (FnD.use (k3)) rfl rfl rfl rfl rfl rfl) rfl rfl ?_)
  (refine wlk ?_)
  (refine SqA.b1 (op_call none rfl rfl rfl (by kernel_rfl) (FnD.use (m1)) rfl rfl rfl rfl rfl rfl) rfl rfl ?_)
  (refine wlk ?_)
  (refine SqA.b1 (op_call none rfl rfl rfl (by kernel_rfl) (FnD.use (ra)) rfl rfl rfl rfl rfl rfl) rfl rfl ?_)
  (refine wlk ?_)
  (refine SqA.b1 (op_call none rfl rfl rfl (by kernel_rfl) (FnD.use (ka)) rfl rfl rfl rfl rfl rfl) rfl rfl ?_)
  (refine wlk ?_)
  (refine SqA.b1 (op_call none rfl rfl rfl (by kernel_rfl) (FnD.use (m2)) rfl rfl rfl rfl rfl rfl) rfl rfl ?_)
  (refine wlk ?_)
  (refine SqA.b1 (op_call none rfl rfl rfl (by kernel_rfl) (FnD.use (al)) rfl rfl rfl rfl rfl rfl) rfl rfl ?_)
  (refine wlk ?_)
  (first | (refine finR (.tmp rfl .nil) rfl rfl ?_) | (refine finN (.tmp rfl .nil) rfl rfl ?_))
  rfl

theorem few_tok {S : List Int} {t : Tm} (h : t.wf S = true) : few t := fun v hv => by have := times_wf h hv; omega
theorem size_ren {k : Int} : ∀ t : Tm, (ren k t).size = t.size := by
  refine Tm.ind ?_
  intro v n l ih
  cases v
  · simp only [ren, Tm.size, rens_eq]
    congr 1
    have key : ∀ l : List Tm, (∀ a ∈ l, (ren k a).size = a.size) → Tm.sizes (l.map (ren k)) = Tm.sizes l := by
      intro l
      induction l with
      | nil => intro _; rfl
      | cons a l ih => intro h; simp only [List.map_cons, Tm.sizes, h a (by simp), ih fun b hb => h b (by simp [hb])]
    exact key l ih
  · rfl
theorem old_of {S : List Int} {t : Tm} (hs : t.size ≤ 12) (h : t.wf S = true) : Old t := ⟨Tm.wf_okv t h, hs, few_tok h⟩
theorem old_ren {S : List Int} {t : Tm} (hs : t.size ≤ 12) (h : t.wf S = true) : Old (ren 5 t) ∧ (ren 5 t).ar S = true := by
  have ha : (ren 5 t).ar S = true := ren_ar (by omega) t (Tm.wf_ar t h) fun v hv => by have := times_wf h hv; omega
  refine ⟨⟨Tm.ar_okv _ ha, by rw [size_ren]; exact hs, fun v hv => ?_⟩, ha⟩
  rw [times_ren t (Tm.wf_okv t h)] at hv
  have := times_wf h hv; omega
set_option maxHeartbeats 16000000 in
set_option maxRecDepth 100000 in
theorem indexFinds_fn (s : List Int) (a b : Tm) : FnD Try.prog 7 [lA Int.d s, tA a, tA b] (.one (bA true)) := by
  refine Fn.of Try.func7 rfl Try.ntmps7 rfl (Nat.le_of_ble_eq_true rfl) ?_
  by_cases hs : wrongSig s = 0
  rotate_left
  · (refine wlk ?_)
    (refine SqA.b1 (op_call none rfl rfl rfl (by kernel_rfl) (FnD.use (alive8)) rfl rfl rfl rfl rfl rfl) rfl rfl ?_)
    (refine wlk ?_)
    (refine SqA.b1 (op_call none rfl rfl rfl (by kernel_rfl) (FnD.use (rwrongSig s)) rfl rfl rfl rfl rfl rfl) rfl rfl ?_)
    (refine wlk ?_)
    (first | (refine finR (.tmp rfl .nil) rfl rfl ?_) | (refine finN (.tmp rfl .nil) rfl rfl ?_))
    rfl
  by_cases ha : wrong s a = 0
  rotate_left
  · (refine wlk ?_)
    (refine SqA.b1 (op_call none rfl rfl rfl (by kernel_rfl) (FnD.use (alive8)) rfl rfl rfl rfl rfl rfl) rfl rfl ?_)
    (refine wlk ?_)
    (refine SqA.b1 (op_call none rfl rfl rfl (by kernel_rfl) (FnD.use (rwrongSig s)) rfl rfl rfl rfl rfl rfl) rfl rfl ?_)
    (refine wlk ?_)
    (refine SqA.b1 (op_call none rfl rfl rfl (by kernel_rfl) (FnD.use (rwrong s a)) rfl rfl rfl rfl rfl rfl) rfl rfl ?_)
    (refine wlk ?_)
    (first | (refine finR (.tmp rfl .nil) rfl rfl ?_) | (refine finN (.tmp rfl .nil) rfl rfl ?_))
    rfl
  by_cases hb : wrong s b = 0
  rotate_left
  · (refine wlk ?_)
    (refine SqA.b1 (op_call none rfl rfl rfl (by kernel_rfl) (FnD.use (alive8)) rfl rfl rfl rfl rfl rfl) rfl rfl ?_)
    (refine wlk ?_)
    (refine SqA.b1 (op_call none rfl rfl rfl (by kernel_rfl) (FnD.use (rwrongSig s)) rfl rfl rfl rfl rfl rfl) rfl rfl ?_)
    (refine wlk ?_)
    (refine SqA.b1 (op_call none rfl rfl rfl (by kernel_rfl) (FnD.use (rwrong s a)) rfl rfl rfl rfl rfl rfl) rfl rfl ?_)
    (refine wlk ?_)
    (refine SqA.b1 (op_call none rfl rfl rfl (by kernel_rfl) (FnD.use (rwrong s b)) rfl rfl rfl rfl rfl rfl) rfl rfl ?_)
    (refine wlk ?_)
    (first | (refine finR (.tmp rfl .nil) rfl rfl ?_) | (refine finN (.tmp rfl .nil) rfl rfl ?_))
    rfl
  obtain ⟨sa, ka, wa⟩ := rightT hs ha
  obtain ⟨sb, kb, wb⟩ := rightT hs hb
  have fa := wf_of s a 1 wa
  have fb := wf_of s b 1 wb
  obtain ⟨ob, rb⟩ := old_ren sb fb
  have oa := old_of sa fa
  have hS := (sig_len hs).2
  have hU := runify oa ob
  have hM := FnD.nil (rmore a b [] (by simp; omega)) 0 rfl
  have hcU : ∀ r, unify a (ren 5 b) = some r → mayK a b = true ∧ mayK b a = true := fun r hr => by
    have h1 := mayK_of hS (Tm.wf_ar a fa) rb (unify_sound ka ob.okv hr).2
    simp only [mayK, mark_ren] at h1 ⊢
    exact h1
  have hcM : (moreR [] a b).2 = true → (mayM (mark a []) (mark b []) && (mayM (mark a [0]) (mark b [0]) && mayM (mark a [1]) (mark b [1]))) = true := fun h => by
    have h1 := (moreR_sound a [] b (moreR [] a b).1 ka (by rw [← h])).2.2
    have h2 := mayM_0 hS (Tm.wf_ar a fa) (Tm.wf_ar b fb) h1
    have h3 := mayM_1 hS (Tm.wf_ar a fa) (Tm.wf_ar b fb) h1 0
    have h4 := mayM_1 hS (Tm.wf_ar a fa) (Tm.wf_ar b fb) h1 1
    simp only [Bool.and_eq_true]
    exact ⟨h2, h3, h4⟩
  have c1 : FnD Try.prog 31 [i3 (mark a []) (mark a [0]) (mark a [1]), i3 (mark b []) (mark b [0]) (mark b [1])] (.one (bA (mayK a b))) := pmayU _ _ _ _ _ _
  have c2 : FnD Try.prog 31 [i3 (mark b []) (mark b [0]) (mark b [1]), i3 (mark a []) (mark a [0]) (mark a [1])] (.one (bA (mayK b a))) := pmayU _ _ _ _ _ _
  have c3 := pmayM (mark a []) (mark a [0]) (mark a [1]) (mark b []) (mark b [0]) (mark b [1])
  have c4 := pfind [a] b (by simp)
  have hfd : mayK a b = true → (finds b 0 [a]).length = 1 := fun h => by simp [finds, h]
  cases hr : unify a (ren 5 b) with
  | none =>
    rw [hr] at hU
    cases hm : (moreR [] a b).2
    · rw [hm] at hM
      (refine wlk ?_)
      (refine SqA.b1 (op_call none rfl rfl rfl (by kernel_rfl) (FnD.use (alive8)) rfl rfl rfl rfl rfl rfl) rfl rfl ?_)
      (refine wlk ?_)
      (refine SqA.b1 (op_call none rfl rfl rfl (by kernel_rfl) (FnD.use (rwrongSig s)) rfl rfl rfl rfl rfl rfl) rfl rfl ?_)
      (refine wlk ?_)
      (refine SqA.b1 (op_call none rfl rfl rfl (by kernel_rfl) (FnD.use (rwrong s a)) rfl rfl rfl rfl rfl rfl) rfl rfl ?_)
      (refine wlk ?_)
      (refine SqA.b1 (op_call none rfl rfl rfl (by kernel_rfl) (FnD.use (rwrong s b)) rfl rfl rfl rfl rfl rfl) rfl rfl ?_)
      (refine wlk ?_)
      (refine SqA.b1 (op_call none rfl rfl rfl (by kernel_rfl) (FnD.use (pkey a)) rfl rfl rfl rfl rfl rfl) rfl rfl ?_)
      (refine wlk ?_)
      (refine SqA.b1 (op_call none rfl rfl rfl (by kernel_rfl) (FnD.use (pkey b)) rfl rfl rfl rfl rfl rfl) rfl rfl ?_)
      (refine wlk ?_)
      (refine SqA.b1 (op_call none rfl rfl rfl (by kernel_rfl) (FnD.use (rrename 5 (by omega) (by omega) b kb (by omega))) rfl rfl rfl rfl rfl rfl) rfl rfl ?_)
      (refine wlk ?_)
      (refine SqA.b1 (op_call none rfl rfl rfl (by kernel_rfl) (FnD.use (hU)) rfl rfl rfl rfl rfl rfl) rfl rfl ?_)
      (refine wlk ?_)
      (refine SqA.b1 (op_call none rfl rfl rfl (by kernel_rfl) (FnD.use (hM)) rfl rfl rfl rfl rfl rfl) rfl rfl ?_)
      (refine wlk ?_)
      (first | (refine finR (.tmp rfl .nil) rfl rfl ?_) | (refine finN (.tmp rfl .nil) rfl rfl ?_))
      rfl
    · rw [hm] at hM
      rw [hcM hm] at c3
      (refine wlk ?_)
      (refine SqA.b1 (op_call none rfl rfl rfl (by kernel_rfl) (FnD.use (alive8)) rfl rfl rfl rfl rfl rfl) rfl rfl ?_)
      (refine wlk ?_)
      (refine SqA.b1 (op_call none rfl rfl rfl (by kernel_rfl) (FnD.use (rwrongSig s)) rfl rfl rfl rfl rfl rfl) rfl rfl ?_)
      (refine wlk ?_)
      (refine SqA.b1 (op_call none rfl rfl rfl (by kernel_rfl) (FnD.use (rwrong s a)) rfl rfl rfl rfl rfl rfl) rfl rfl ?_)
      (refine wlk ?_)
      (refine SqA.b1 (op_call none rfl rfl rfl (by kernel_rfl) (FnD.use (rwrong s b)) rfl rfl rfl rfl rfl rfl) rfl rfl ?_)
      (refine wlk ?_)
      (refine SqA.b1 (op_call none rfl rfl rfl (by kernel_rfl) (FnD.use (pkey a)) rfl rfl rfl rfl rfl rfl) rfl rfl ?_)
      (refine wlk ?_)
      (refine SqA.b1 (op_call none rfl rfl rfl (by kernel_rfl) (FnD.use (pkey b)) rfl rfl rfl rfl rfl rfl) rfl rfl ?_)
      (refine wlk ?_)
      (refine SqA.b1 (op_call none rfl rfl rfl (by kernel_rfl) (FnD.use (rrename 5 (by omega) (by omega) b kb (by omega))) rfl rfl rfl rfl rfl rfl) rfl rfl ?_)
      (refine wlk ?_)
      (refine SqA.b1 (op_call none rfl rfl rfl (by kernel_rfl) (FnD.use (hU)) rfl rfl rfl rfl rfl rfl) rfl rfl ?_)
      (refine wlk ?_)
      (refine SqA.b1 (op_call none rfl rfl rfl (by kernel_rfl) (FnD.use (hM)) rfl rfl rfl rfl rfl rfl) rfl rfl ?_)
      (refine wlk ?_)
      (refine SqA.b1 (op_call none rfl rfl rfl (by kernel_rfl) (FnD.use (c3)) rfl rfl rfl rfl rfl rfl) rfl rfl ?_)
      (refine wlk ?_)
      (first | (refine finR (.tmp rfl .nil) rfl rfl ?_) | (refine finN (.tmp rfl .nil) rfl rfl ?_))
      rfl
  | some r =>
    rw [hr] at hU
    obtain ⟨m1, m2⟩ := hcU r hr
    have hl1 := hfd m1
    rw [m1] at c1
    rw [m2] at c2
    generalize finds b 0 [a] = fs at c4 hl1
    cases hm : (moreR [] a b).2
    · rw [hm] at hM
      (refine wlk ?_)
      (refine SqA.b1 (op_call none rfl rfl rfl (by kernel_rfl) (FnD.use (alive8)) rfl rfl rfl rfl rfl rfl) rfl rfl ?_)
      (refine wlk ?_)
      (refine SqA.b1 (op_call none rfl rfl rfl (by kernel_rfl) (FnD.use (rwrongSig s)) rfl rfl rfl rfl rfl rfl) rfl rfl ?_)
      (refine wlk ?_)
      (refine SqA.b1 (op_call none rfl rfl rfl (by kernel_rfl) (FnD.use (rwrong s a)) rfl rfl rfl rfl rfl rfl) rfl rfl ?_)
      (refine wlk ?_)
      (refine SqA.b1 (op_call none rfl rfl rfl (by kernel_rfl) (FnD.use (rwrong s b)) rfl rfl rfl rfl rfl rfl) rfl rfl ?_)
      (refine wlk ?_)
      (refine SqA.b1 (op_call none rfl rfl rfl (by kernel_rfl) (FnD.use (pkey a)) rfl rfl rfl rfl rfl rfl) rfl rfl ?_)
      (refine wlk ?_)
      (refine SqA.b1 (op_call none rfl rfl rfl (by kernel_rfl) (FnD.use (pkey b)) rfl rfl rfl rfl rfl rfl) rfl rfl ?_)
      (refine wlk ?_)
      (refine SqA.b1 (op_call none rfl rfl rfl (by kernel_rfl) (FnD.use (rrename 5 (by omega) (by omega) b kb (by omega))) rfl rfl rfl rfl rfl rfl) rfl rfl ?_)
      (refine wlk ?_)
      (refine SqA.b1 (op_call none rfl rfl rfl (by kernel_rfl) (FnD.use (hU)) rfl rfl rfl rfl rfl rfl) rfl rfl ?_)
      (refine wlk ?_)
      (refine SqA.b1 (op_call none rfl rfl rfl (by kernel_rfl) (FnD.use (c1)) rfl rfl rfl rfl rfl rfl) rfl rfl ?_)
      (refine wlk ?_)
      (refine SqA.b1 (op_call none rfl rfl rfl (by kernel_rfl) (FnD.use (c2)) rfl rfl rfl rfl rfl rfl) rfl rfl ?_)
      (refine wlk ?_)
      (refine SqA.b1 (op_bsT (T := TB) (f := Tm.d) [a] rfl rfl rfl rfl rfl rfl rfl rfl rfl rfl rfl) rfl rfl ?_)
      (refine wlk ?_)
      (refine SqA.b1 (op_call none rfl rfl rfl (by kernel_rfl) (FnD.use (c4)) rfl rfl rfl rfl rfl rfl) rfl rfl ?_)
      (refine wlk ?_)
      (refine SqA.b1 (op_call none rfl rfl rfl (by kernel_rfl) (FnD.use (hM)) rfl rfl rfl rfl rfl rfl) rfl rfl ?_)
      (refine wlk ?_)
      (first | (refine finR (.tmp rfl .nil) rfl rfl ?_) | (refine finN (.tmp rfl .nil) rfl rfl ?_))
      rfl
    · rw [hm] at hM
      rw [hcM hm] at c3
      (refine wlk ?_)
      (refine SqA.b1 (op_call none rfl rfl rfl (by kernel_rfl) (FnD.use (alive8)) rfl rfl rfl rfl rfl rfl) rfl rfl ?_)
      (refine wlk ?_)
      (refine SqA.b1 (op_call none rfl rfl rfl (by kernel_rfl) (FnD.use (rwrongSig s)) rfl rfl rfl rfl rfl rfl) rfl rfl ?_)
      (refine wlk ?_)
      (refine SqA.b1 (op_call none rfl rfl rfl (by kernel_rfl) (FnD.use (rwrong s a)) rfl rfl rfl rfl rfl rfl) rfl rfl ?_)
      (refine wlk ?_)
      (refine SqA.b1 (op_call none rfl rfl rfl (by kernel_rfl) (FnD.use (rwrong s b)) rfl rfl rfl rfl rfl rfl) rfl rfl ?_)
      (refine wlk ?_)
      (refine SqA.b1 (op_call none rfl rfl rfl (by kernel_rfl) (FnD.use (pkey a)) rfl rfl rfl rfl rfl rfl) rfl rfl ?_)
      (refine wlk ?_)
      (refine SqA.b1 (op_call none rfl rfl rfl (by kernel_rfl) (FnD.use (pkey b)) rfl rfl rfl rfl rfl rfl) rfl rfl ?_)
      (refine wlk ?_)
      (refine SqA.b1 (op_call none rfl rfl rfl (by kernel_rfl) (FnD.use (rrename 5 (by omega) (by omega) b kb (by omega))) rfl rfl rfl rfl rfl rfl) rfl rfl ?_)
      (refine wlk ?_)
      (refine SqA.b1 (op_call none rfl rfl rfl (by kernel_rfl) (FnD.use (hU)) rfl rfl rfl rfl rfl rfl) rfl rfl ?_)
      (refine wlk ?_)
      (refine SqA.b1 (op_call none rfl rfl rfl (by kernel_rfl) (FnD.use (c1)) rfl rfl rfl rfl rfl rfl) rfl rfl ?_)
      (refine wlk ?_)
      (refine SqA.b1 (op_call none rfl rfl rfl (by kernel_rfl) (FnD.use (c2)) rfl rfl rfl rfl rfl rfl) rfl rfl ?_)
      (refine wlk ?_)
      (refine SqA.b1 (op_bsT (T := TB) (f := Tm.d) [a] rfl rfl rfl rfl rfl rfl rfl rfl rfl rfl rfl) rfl rfl ?_)
      (refine wlk ?_)
      (refine SqA.b1 (op_call none rfl rfl rfl (by kernel_rfl) (FnD.use (c4)) rfl rfl rfl rfl rfl rfl) rfl rfl ?_)
      (refine wlk ?_)
      (refine SqA.b1 (op_call none rfl rfl rfl (by kernel_rfl) (FnD.use (hM)) rfl rfl rfl rfl rfl rfl) rfl rfl ?_)
      (refine wlk ?_)
      (refine SqA.b1 (op_call none rfl rfl rfl (by kernel_rfl) (FnD.use (c3)) rfl rfl rfl rfl rfl rfl) rfl rfl ?_)
      (refine wlk ?_)
      (first | (refine finR (.tmp rfl .nil) rfl rfl ?_) | (refine finN (.tmp rfl .nil) rfl rfl ?_))
      rfl
end Go.Proofs.Ytmanhdacnkpclaa
