/- OrderStays, walked. -/
import Derived.Test.YtmanhdacnkpclaaL3
import Derived.Test.YtmanhdacnkpclaaPa1
import Derived.Test.YtmanhdacnkpclaaBa
namespace Go.Proofs.Ytmanhdacnkpclaa
set_option linter.all false
open Go.RowKit

theorem rgt_each {s : List Int} (hs : wrongSig s = 0) {t : Tm} : rgtB s [t] = decide (wrong s t = 0) := by simp [rgtB, hs]
theorem sizes_app_le {σ : List Pr} {t : Tm} (hσ : ∀ p ∈ σ, p.2.size ≤ 12) (ht : t.okv = true) : (app σ t).size ≤ t.size * 12 := size_app_le (by omega) t ht fun n _ => by
  unfold appV
  rw [app_var]
  cases hf : findS σ n with
  | none => simp [Tm.size, Tm.sizes]
  | some u => obtain ⟨p, hp, _, rfl⟩ := findS_mem hf; exact hσ p hp
theorem put_size : ∀ (p : List Int) (t u : Tm), (put t p u).size ≤ t.size + u.size
  | [], t, u => by simp [put]
  | i :: p, ⟨v, n, l⟩, u => by
    rw [put]
    split
    · omega
    · rename_i h
      have hk : i.toNat < l.length := by omega
      have hx := List.getElem?_eq_getElem hk
      have := sizes_set (y := put (l.getD i.toNat ⟨false, 0, []⟩) p u) hx
      rw [getD_of hx] at this ⊢
      have ih := put_size p l[i.toNat] u
      simp only [Tm.size]
      omega
set_option maxHeartbeats 16000000 in
set_option maxRecDepth 100000 in
theorem orderStays_fn (s : List Int) (a b c : Tm) (by_ : List Pr) (k : Int) (hby : by_.length ≤ 4000000000000) (hk0 : -9223372036854775808 ≤ k ∧ k ≤ 9223372036854775807) : FnD Try.prog 5 [lA Int.d s, tA a, tA b, tA c, lA Pr.d by_, iA k] (.one (bA true)) := by
  refine Fn.of Try.func5 rfl Try.ntmps5 rfl (Nat.le_of_ble_eq_true rfl) ?_
  have hr := right3 s [a, b, c] (by simp)
  cases hb : rgtB s [a, b, c]
  · rw [hb] at hr
    (refine wlk ?_)
    (refine SqA.b1 (op_call none rfl rfl rfl (by kernel_rfl) (FnD.use (alive3)) rfl rfl rfl rfl rfl rfl) rfl rfl ?_)
    (refine wlk ?_)
    (refine SqA.b1 (op_bsT (T := TB) (f := Tm.d) [a, b, c] rfl rfl rfl rfl rfl rfl rfl rfl rfl rfl rfl) rfl rfl ?_)
    (refine wlk ?_)
    (refine SqA.b1 (op_call none rfl rfl rfl (by kernel_rfl) (FnD.use (hr)) rfl rfl rfl rfl rfl rfl) rfl rfl ?_)
    (refine wlk ?_)
    (first | (refine finR (.tmp rfl .nil) rfl rfl ?_) | (refine finN (.tmp rfl .nil) rfl rfl ?_))
    rfl
  rw [hb] at hr
  obtain ⟨hs, hall⟩ := rgt_of hb
  have ka := tok_of hs (hall a (by simp))
  have kb := tok_of hs (hall b (by simp))
  have kc := tok_of hs (hall c (by simp))
  have hpl := places_len a
  have hsa := ka.size
  have hplc := places_len c
  have hsc := kc.size
  (refine wlk ?_)
  (refine SqA.b1 (op_call none rfl rfl rfl (by kernel_rfl) (FnD.use (alive3)) rfl rfl rfl rfl rfl rfl) rfl rfl ?_)
  (refine wlk ?_)
  (refine SqA.b1 (op_bsT (T := TB) (f := Tm.d) [a, b, c] rfl rfl rfl rfl rfl rfl rfl rfl rfl rfl rfl) rfl rfl ?_)
  (refine wlk ?_)
  (refine SqA.b1 (op_call none rfl rfl rfl (by kernel_rfl) (FnD.use (hr)) rfl rfl rfl rfl rfl rfl) rfl rfl ?_)
  (refine wlk ?_)
  (refine SqA.b1 (op_call none rfl rfl rfl (by kernel_rfl) (FnD.use (rplaces a (by omega))) rfl rfl rfl rfl rfl rfl) rfl rfl ?_)
  (refine wlk ?_)
  refine dwp_loop (fun i : Nat => [(.t 0, some (.one (lA Int.d s))), (.t 4, some (.one (lA Pr.d by_))), (.t 5, some (.one (iA k))), (.t 7, some (.one (.c (.ptr 7 0)))), (.b 7, some (.box (tA a).cells)), (.t 8, some (.one (.c (.ptr 8 0)))), (.b 8, some (.box (tA b).cells)), (.t 9, some (.one (.c (.ptr 9 0)))), (.b 9, some (.box (tA c).cells)),
    (.t 30, some (.one (lA Is.d (places a)))), (.t 31, some (.one (iA (places a).length))), (.t 32, some (.one (iA i)))])
    (fun i => i ≤ (places a).length) (fun i => (places a).length - i) 0 (by omega) fgs ?_
  intro i hi
  by_cases hil : i < (places a).length
  · obtain ⟨p, hp⟩ := get_of_lt hil
    have hpm := List.mem_of_getElem? hp
    have hpd := places_deep a p hpm
    obtain ⟨g1, g2, g3, g4, g5⟩ := at_place p a ka.okv hpm
    by_cases hi0 : 0 < i
    · have hab := above_at ka.okv hpm (places_ne hp hi0)
      have hcc := cmp_at (t := a) (u := (at_ a p).1) (r := 3) ((compare_more ka.okv).2 hab) (by omega) (by omega) ka.okv g3
      (refine wlk ?_)
      (refine SqA.b1 (op_call none rfl rfl rfl (by kernel_rfl) (FnD.use (rat p a (by omega))) rfl rfl rfl rfl rfl rfl) rfl rfl ?_)
      (refine wlk ?_)
      (refine SqA.b1 (op_call none rfl rfl rfl (by kernel_rfl) (FnD.use (hcc)) rfl rfl rfl rfl rfl rfl) rfl rfl ?_)
      (refine wlk ?_)
      exact ⟨i + 1, by omega, fgs, by omega⟩
    · (refine wlk ?_)
      (refine SqA.b1 (op_call none rfl rfl rfl (by kernel_rfl) (FnD.use (rat p a (by omega))) rfl rfl rfl rfl rfl rfl) rfl rfl ?_)
      (refine wlk ?_)
      exact ⟨i + 1, by omega, fgs, by omega⟩
  have : i = (places a).length := by omega
  subst this
  have hcab := ka.cmp kb (r := compare a b) rfl
  by_cases hm : compare a b = 3
  rotate_left
  · (refine wlk ?_)
    (refine SqA.b1 (op_call none rfl rfl rfl (by kernel_rfl) (FnD.use (hcab)) rfl rfl rfl rfl rfl rfl) rfl rfl ?_)
    (refine wlk ?_)
    (first | (refine finR (.tmp rfl .nil) rfl rfl ?_) | (refine finN (.tmp rfl .nil) rfl rfl ?_))
    rfl
  have habv := (compare_more ka.okv).1 hm
  (refine wlk ?_)
  (refine SqA.b1 (op_call none rfl rfl rfl (by kernel_rfl) (FnD.use (hcab)) rfl rfl rfl rfl rfl rfl) rfl rfl ?_)
  (refine wlk ?_)
  refine dwp_loop (fun i : Nat => [(.t 0, some (.one (lA Int.d s))), (.t 4, some (.one (lA Pr.d by_))), (.t 5, some (.one (iA k))), (.t 7, some (.one (.c (.ptr 7 0)))), (.b 7, some (.box (tA a).cells)), (.t 8, some (.one (.c (.ptr 8 0)))), (.b 8, some (.box (tA b).cells)), (.t 9, some (.one (.c (.ptr 9 0)))), (.b 9, some (.box (tA c).cells)),
    (.t 56, some (.one (lA Pr.d by_))), (.t 57, some (.one (iA by_.length))), (.t 58, some (.one (iA i)))])
    (fun i => i ≤ by_.length ∧ ∀ j x, j < i → by_[j]? = some x → wrong s x.2 = 0) (fun i => by_.length - i) 0 ⟨by omega, fun j x h => absurd h (by omega)⟩ fgs ?_
  rintro i ⟨hi, hno⟩
  by_cases hil : i < by_.length
  · obtain ⟨x, hx⟩ := get_of_lt hil
    have hr1 := right3 s [x.2] (by simp)
    rw [rgt_each hs] at hr1
    by_cases hw : wrong s x.2 = 0
    · rw [decide_eq_true hw] at hr1
      (refine wlk ?_)
      (refine SqA.b1 (op_bsT (T := TB) (f := Tm.d) [x.2] rfl rfl rfl rfl rfl rfl rfl rfl rfl rfl rfl) rfl rfl ?_)
      (refine wlk ?_)
      (refine SqA.b1 (op_call none rfl rfl rfl (by kernel_rfl) (FnD.use (hr1)) rfl rfl rfl rfl rfl rfl) rfl rfl ?_)
      (refine wlk ?_)
      exact ⟨i + 1, ⟨by omega, upto_succ hno hx hw⟩, fgs, by omega⟩
    · rw [decide_eq_false hw] at hr1
      (refine wlk ?_)
      (refine SqA.b1 (op_bsT (T := TB) (f := Tm.d) [x.2] rfl rfl rfl rfl rfl rfl rfl rfl rfl rfl rfl) rfl rfl ?_)
      (refine wlk ?_)
      (refine SqA.b1 (op_call none rfl rfl rfl (by kernel_rfl) (FnD.use (hr1)) rfl rfl rfl rfl rfl rfl) rfl rfl ?_)
      (refine wlk ?_)
      (first | (refine finR (.tmp rfl .nil) rfl rfl ?_) | (refine finN (.tmp rfl .nil) rfl rfl ?_))
      rfl
  have hall2 : ∀ q ∈ by_, TOk s q.2 := fun q hq => by
    obtain ⟨j, hj, e⟩ := List.getElem_of_mem hq
    exact tok_of hs (hno j q (by omega) (by rw [List.getElem?_eq_getElem hj, e]))
  have hok2 : ∀ q ∈ by_, q.2.okv = true := fun q hq => (hall2 q hq).okv
  have haa := above_app hok2 a b ka.okv kb.okv habv
  have s1 := sizes_app_le (fun q hq => (hall2 q hq).size) ka.okv
  have s2 := sizes_app_le (fun q hq => (hall2 q hq).size) kb.okv
  have hsb := kb.size
  have hca := cmp_at (t := app by_ a) (u := app by_ b) (r := 3) ((compare_more (app_okv hok2 a ka.okv)).2 haa) (by omega) (by omega) (app_okv hok2 a ka.okv) (app_okv hok2 b kb.okv)
  by_cases hk1 : k < 0
  · (refine wlk ?_)
    (refine SqA.b1 (op_call none rfl rfl rfl (by kernel_rfl) (FnD.use (ap by_ hby a (by omega))) rfl rfl rfl rfl rfl rfl) rfl rfl ?_)
    (refine wlk ?_)
    (refine SqA.b1 (op_call none rfl rfl rfl (by kernel_rfl) (FnD.use (ap by_ hby b (by omega))) rfl rfl rfl rfl rfl rfl) rfl rfl ?_)
    (refine wlk ?_)
    (refine SqA.b1 (op_call none rfl rfl rfl (by kernel_rfl) (FnD.use (hca)) rfl rfl rfl rfl rfl rfl) rfl rfl ?_)
    (refine wlk ?_)
    (refine SqA.b1 (op_call none rfl rfl rfl (by kernel_rfl) (FnD.use (rplaces c (by omega))) rfl rfl rfl rfl rfl rfl) rfl rfl ?_)
    (refine wlk ?_)
    (first | (refine finR (.tmp rfl .nil) rfl rfl ?_) | (refine finN (.tmp rfl .nil) rfl rfl ?_))
    rfl
  by_cases hk2 : ((places c).length : Int) ≤ k
  · (refine wlk ?_)
    (refine SqA.b1 (op_call none rfl rfl rfl (by kernel_rfl) (FnD.use (ap by_ hby a (by omega))) rfl rfl rfl rfl rfl rfl) rfl rfl ?_)
    (refine wlk ?_)
    (refine SqA.b1 (op_call none rfl rfl rfl (by kernel_rfl) (FnD.use (ap by_ hby b (by omega))) rfl rfl rfl rfl rfl rfl) rfl rfl ?_)
    (refine wlk ?_)
    (refine SqA.b1 (op_call none rfl rfl rfl (by kernel_rfl) (FnD.use (hca)) rfl rfl rfl rfl rfl rfl) rfl rfl ?_)
    (refine wlk ?_)
    (refine SqA.b1 (op_call none rfl rfl rfl (by kernel_rfl) (FnD.use (rplaces c (by omega))) rfl rfl rfl rfl rfl rfl) rfl rfl ?_)
    (refine wlk ?_)
    (first | (refine finR (.tmp rfl .nil) rfl rfl ?_) | (refine finN (.tmp rfl .nil) rfl rfl ?_))
    rfl
  obtain ⟨m, rfl⟩ := Int.eq_ofNat_of_zero_le (a := k) (by omega)
  obtain ⟨p, hp⟩ := get_of_lt (s := places c) (k := m) (by omega)
  have hpm := List.mem_of_getElem? hp
  have hput := above_put p c a b kc.okv ka.okv kb.okv hpm habv
  have z1 := put_size p c a
  have z2 := put_size p c b
  have k1 := put_okv p c a kc.okv ka.okv hpm
  have k2 := put_okv p c b kc.okv kb.okv hpm
  have hcp := cmp_at (t := put c p a) (u := put c p b) (r := 3) ((compare_more k1).2 hput) (by omega) (by omega) k1 k2
  (refine wlk ?_)
  (refine SqA.b1 (op_call none rfl rfl rfl (by kernel_rfl) (FnD.use (ap by_ hby a (by omega))) rfl rfl rfl rfl rfl rfl) rfl rfl ?_)
  (refine wlk ?_)
  (refine SqA.b1 (op_call none rfl rfl rfl (by kernel_rfl) (FnD.use (ap by_ hby b (by omega))) rfl rfl rfl rfl rfl rfl) rfl rfl ?_)
  (refine wlk ?_)
  (refine SqA.b1 (op_call none rfl rfl rfl (by kernel_rfl) (FnD.use (hca)) rfl rfl rfl rfl rfl rfl) rfl rfl ?_)
  (refine wlk ?_)
  (refine SqA.b1 (op_call none rfl rfl rfl (by kernel_rfl) (FnD.use (rplaces c (by omega))) rfl rfl rfl rfl rfl rfl) rfl rfl ?_)
  (refine wlk ?_)
  (refine SqA.b1 (op_call none rfl rfl rfl (by kernel_rfl) (FnD.use (rput a p c (by omega))) rfl rfl rfl rfl rfl rfl) rfl rfl ?_)
  (refine wlk ?_)
  (refine SqA.b1 (op_call none rfl rfl rfl (by kernel_rfl) (FnD.use (rput b p c (by omega))) rfl rfl rfl rfl rfl rfl) rfl rfl ?_)
  (refine wlk ?_)
  (refine SqA.b1 (op_call none rfl rfl rfl (by kernel_rfl) (FnD.use (hcp)) rfl rfl rfl rfl rfl rfl) rfl rfl ?_)
  (refine wlk ?_)
  (first | (refine finR (.tmp rfl .nil) rfl rfl ?_) | (refine finN (.tmp rfl .nil) rfl rfl ?_))
  rfl
end Go.Proofs.Ytmanhdacnkpclaa
