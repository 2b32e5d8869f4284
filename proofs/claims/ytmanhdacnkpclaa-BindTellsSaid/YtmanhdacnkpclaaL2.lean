/- BindTells, walked. -/
import Derived.Test.YtmanhdacnkpclaaE2
import Derived.Test.YtmanhdacnkpclaaBa
import Derived.Test.YtmanhdacnkpclaaRt
namespace Go.Proofs.Ytmanhdacnkpclaa
set_option linter.all false
open Go.RowKit

set_option maxRecDepth 100000 in
theorem right2 (s : List Int) (l : List Tm) (hl : l.length ≤ 1000000000) : FnD Try.prog 53 [lA Int.d s, lA Tm.d l] (.one (bA (rgtB s l))) := by
  refine Fn.of Try.func53 rfl Try.ntmps53 rfl (Nat.le_of_ble_eq_true rfl) ?_
  have e0 : decide (wrongSig s = 0) = rgtB s (l.take 0) := by simp [rgtB]
  (refine wlk ?_)
  (refine SqA.b1 (op_call none rfl rfl rfl (by kernel_rfl) (FnD.use (rwrongSig s)) rfl rfl rfl rfl rfl rfl) rfl rfl ?_)
  (refine wlk ?_)
  refine dwp_loop (fun k : Nat => [(.t 0, some (.one (lA Int.d s))), (.t 5, some (.one (bA (rgtB s (l.take k))))), (.t 11, some (.one (lA Tm.d l))), (.t 12, some (.one (iA l.length))), (.t 13, some (.one (iA k)))])
    (fun k => k ≤ l.length) (fun k => l.length - k) 0 (by omega) ?_ ?_
  · rw [← e0]; exact fgs
  intro k hk
  by_cases hkl : k < l.length
  · obtain ⟨x, hx⟩ := get_of_lt hkl
    have hsn := rgtB_snoc (s := s) hx
    cases hb : rgtB s (l.take k)
    · rw [hb] at hsn
      simp only [Bool.false_and] at hsn
      (refine wlk ?_)
      refine ⟨k + 1, by omega, ?_, by omega⟩
      rw [hsn]
      exact fgs
    · rw [hb] at hsn
      simp only [Bool.true_and] at hsn
      (refine wlk ?_)
      (refine SqA.b1 (op_call none rfl rfl rfl (by kernel_rfl) (FnD.use (rwrong s x)) rfl rfl rfl rfl rfl rfl) rfl rfl ?_)
      (refine wlk ?_)
      refine ⟨k + 1, by omega, ?_, by omega⟩
      rw [hsn]
      exact fgs
  · have : k = l.length := by omega
    subst this
    rw [List.take_length]
    (refine wlk ?_)
    (first | (refine finR (.tmp rfl .nil) rfl rfl ?_) | (refine finN (.tmp rfl .nil) rfl rfl ?_))
    rfl

set_option maxHeartbeats 16000000 in
set_option maxRecDepth 100000 in
theorem bindTells_fn (s : List Int) (a b : Tm) (by_ : Int) : FnD Try.prog 12 [lA Int.d s, tA a, tA b, iA by_] (.one (bA true)) := by
  refine Fn.of Try.func12 rfl Try.ntmps12 rfl (Nat.le_of_ble_eq_true rfl) ?_
  have hr := right2 s [a, b] (by simp)
  cases hb : rgtB s [a, b]
  · rw [hb] at hr
    (refine wlk ?_)
    (refine SqA.b1 (op_bsT (T := TB) (f := Tm.d) [a, b] rfl rfl rfl rfl rfl rfl rfl rfl rfl rfl rfl) rfl rfl ?_)
    (refine wlk ?_)
    (refine SqA.b1 (op_call none rfl rfl rfl (by kernel_rfl) (FnD.use (hr)) rfl rfl rfl rfl rfl rfl) rfl rfl ?_)
    (refine wlk ?_)
    (first | (refine finR (.tmp rfl .nil) rfl rfl ?_) | (refine finN (.tmp rfl .nil) rfl rfl ?_))
    rfl
  rw [hb] at hr
  by_cases h0 : by_ < 0
  · (refine wlk ?_)
    (refine SqA.b1 (op_bsT (T := TB) (f := Tm.d) [a, b] rfl rfl rfl rfl rfl rfl rfl rfl rfl rfl rfl) rfl rfl ?_)
    (refine wlk ?_)
    (refine SqA.b1 (op_call none rfl rfl rfl (by kernel_rfl) (FnD.use (hr)) rfl rfl rfl rfl rfl rfl) rfl rfl ?_)
    (refine wlk ?_)
    (first | (refine finR (.tmp rfl .nil) rfl rfl ?_) | (refine finN (.tmp rfl .nil) rfl rfl ?_))
    rfl
  by_cases h1 : 1000 < by_
  · (refine wlk ?_)
    (refine SqA.b1 (op_bsT (T := TB) (f := Tm.d) [a, b] rfl rfl rfl rfl rfl rfl rfl rfl rfl rfl rfl) rfl rfl ?_)
    (refine wlk ?_)
    (refine SqA.b1 (op_call none rfl rfl rfl (by kernel_rfl) (FnD.use (hr)) rfl rfl rfl rfl rfl rfl) rfl rfl ?_)
    (refine wlk ?_)
    (first | (refine finR (.tmp rfl .nil) rfl rfl ?_) | (refine finN (.tmp rfl .nil) rfl rfl ?_))
    rfl
  obtain ⟨hs, hw⟩ := rgt_of hb
  have ta := tok_of hs (hw a (by simp))
  have tb := tok_of hs (hw b (by simp))
  have oa := old_of ta.size ta.wf
  have ob := old_of tb.size tb.wf
  have za := ta.size
  have zb := tb.size
  have cu := bunify oa ob
  have ru := runify oa ob
  have cm := bmatch a b (by omega)
  have rm := FnD.nil (rmore a b [] (by simp; omega)) 0 rfl
  have lm := moreR_len a [] b
  have hmm : matchR a b = match moreR [] a b with | (r, true) => (r, true) | (_, false) => ([], false) := by unfold matchR; rfl
  rw [hmm] at cm
  generalize moreR [] a b = y at cm rm lm
  obtain ⟨y, yb⟩ := y
  simp only [List.length_nil] at lm
  have pm := bmore b a y (by omega)
  have rm2 := rmore b a y (by omega)
  have ss := fun l => by have := rsameSub l l; rw [sameSub_self] at this; exact this
  generalize moreR y b a = z at pm rm2
  obtain ⟨z, zb'⟩ := z
  have hu : ∃ x ub, resU (unify a b) = [lA Pr.d x, bA ub] ∧ x.length ≤ 1000000 := by
    cases he : unify a b with
    | none => exact ⟨[], false, rfl, by simp⟩
    | some r =>
      refine ⟨r, true, rfl, ?_⟩
      exact unify_len oa ob he
  obtain ⟨x, ub, hx, hxl⟩ := hu
  rw [hx] at cu ru
  have ca := bapply x a (by omega)
  have ra := ap x (by omega) a (by omega)
  have cr := brename by_ (by omega) (by omega) a ta.okv (by omega)
  have rr := rrename by_ (by omega) (by omega) a ta.okv (by omega)
  have sa := rsame (app x a) (app x a)
  rw [(Tm.same_iff _ _).2 rfl] at sa
  have sr := rsame (ren by_ a) (ren by_ a)
  rw [(Tm.same_iff _ _).2 rfl] at sr
  have hyn : yb = false → ¬ (0 : Int) < (([] : List Pr).length : Int) := fun _ => by simp
  have hbu : (ub != ub) = false := by simp
  have hby : (yb != yb) = false := by simp
  have hbz : (zb' == zb') = true := by simp
  have hn0 : (0 : Int) = (([] : List Pr).length : Int) := rfl
  cases ub <;> cases yb <;> cases zb' <;> (
    (refine wlk ?_)
    (refine SqA.b1 (op_bsT (T := TB) (f := Tm.d) [a, b] rfl rfl rfl rfl rfl rfl rfl rfl rfl rfl rfl) rfl rfl ?_)
    (refine wlk ?_)
    (refine SqA.b1 (op_call none rfl rfl rfl (by kernel_rfl) (FnD.use (hr)) rfl rfl rfl rfl rfl rfl) rfl rfl ?_)
    (refine wlk ?_)
    (refine SqA.b1 (op_call none rfl rfl rfl (by kernel_rfl) (FnD.use (cu)) rfl rfl rfl rfl rfl rfl) rfl rfl ?_)
    (refine wlk ?_)
    (refine SqA.b1 (op_call none rfl rfl rfl (by kernel_rfl) (FnD.use (ru)) rfl rfl rfl rfl rfl rfl) rfl rfl ?_)
    (refine wlk ?_)
    (refine SqA.b1 (op_call none rfl rfl rfl (by kernel_rfl) (FnD.use (ss x)) rfl rfl rfl rfl rfl rfl) rfl rfl ?_)
    (refine wlk ?_)
    (refine SqA.b1 (op_call none rfl rfl rfl (by kernel_rfl) (FnD.use (ca)) rfl rfl rfl rfl rfl rfl) rfl rfl ?_)
    (refine wlk ?_)
    (refine SqA.b1 (op_call none rfl rfl rfl (by kernel_rfl) (FnD.use (ra)) rfl rfl rfl rfl rfl rfl) rfl rfl ?_)
    (refine wlk ?_)
    (refine SqA.b1 (op_call none rfl rfl rfl (by kernel_rfl) (FnD.use (sa)) rfl rfl rfl rfl rfl rfl) rfl rfl ?_)
    (refine wlk ?_)
    (refine SqA.b1 (op_call none rfl rfl rfl (by kernel_rfl) (FnD.use (cr)) rfl rfl rfl rfl rfl rfl) rfl rfl ?_)
    (refine wlk ?_)
    (refine SqA.b1 (op_call none rfl rfl rfl (by kernel_rfl) (FnD.use (rr)) rfl rfl rfl rfl rfl rfl) rfl rfl ?_)
    (refine wlk ?_)
    (refine SqA.b1 (op_call none rfl rfl rfl (by kernel_rfl) (FnD.use (sr)) rfl rfl rfl rfl rfl rfl) rfl rfl ?_)
    (refine wlk ?_)
    (refine SqA.b1 (op_call none rfl rfl rfl (by kernel_rfl) (FnD.use (cm)) rfl rfl rfl rfl rfl rfl) rfl rfl ?_)
    (refine wlk ?_)
    (refine SqA.b1 (op_call none rfl rfl rfl (by kernel_rfl) (FnD.use (rm)) rfl rfl rfl rfl rfl rfl) rfl rfl ?_)
    (refine wlk ?_)
    (try ((refine SqA.b1 (op_call none rfl rfl rfl (by kernel_rfl) (FnD.use (ss y)) rfl rfl rfl rfl rfl rfl) rfl rfl ?_); (refine wlk ?_)))
    (refine SqA.b1 (op_call none rfl rfl rfl (by kernel_rfl) (FnD.use (pm)) rfl rfl rfl rfl rfl rfl) rfl rfl ?_)
    (refine wlk ?_)
    (refine SqA.b1 (op_call none rfl rfl rfl (by kernel_rfl) (FnD.use (rm2)) rfl rfl rfl rfl rfl rfl) rfl rfl ?_)
    (refine wlk ?_)
    (try ((refine SqA.b1 (op_call none rfl rfl rfl (by kernel_rfl) (FnD.use (ss z)) rfl rfl rfl rfl rfl rfl) rfl rfl ?_); (refine wlk ?_)))
    (first | (refine finR (.tmp rfl .nil) rfl rfl ?_) | (refine finN (.tmp rfl .nil) rfl rfl ?_))
    exact rfl)
end Go.Proofs.Ytmanhdacnkpclaa
