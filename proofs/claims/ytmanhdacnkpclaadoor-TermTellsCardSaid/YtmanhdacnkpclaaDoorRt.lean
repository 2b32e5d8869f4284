/- Right terms, plainly. -/
import Derived.Test.YtmanhdacnkpclaaDoorPa1
import Derived.Test.YtmanhdacnkpclaaDoorK3
import Derived.Test.YtmanhdacnkpclaaDoorPb1
namespace Go.Proofs.YtmanhdacnkpclaaDoor
set_option linter.all false
open Go.RowKit

/-- right terms of symbols? -/
def rgtB (s : List Int) (l : List Tm) : Bool := decide (wrongSig s = 0) && l.all fun t => decide (wrong s t = 0)
theorem rgtB_snoc {s : List Int} {l : List Tm} {k : Nat} {x : Tm} (h : l[k]? = some x) : rgtB s (l.take (k + 1)) = (rgtB s (l.take k) && decide (wrong s x = 0)) := by
  rw [take_succ_of h]
  simp [rgtB, Bool.and_assoc]
theorem rgt_of {s : List Int} {l : List Tm} (h : rgtB s l = true) : wrongSig s = 0 ∧ ∀ t ∈ l, wrong s t = 0 := by
  simp only [rgtB, Bool.and_eq_true, decide_eq_true_eq, List.all_eq_true] at h
  exact h
/-- what is right with a right term -/
structure TOk (s : List Int) (t : Tm) : Prop where
  size : t.size ≤ 12
  okv : t.okv = true
  wf : t.wf s = true
theorem tok_of {s : List Int} {t : Tm} (hs : wrongSig s = 0) (h : wrong s t = 0) : TOk s t := by
  obtain ⟨h1, h2, h3⟩ := rightT hs h
  exact ⟨h1, h2, wf_of s t 1 h3⟩
theorem few_tok {S : List Int} {t : Tm} (h : t.wf S = true) : few t := fun v hv => by have := times_wf h hv; omega
theorem size_ren {k : Int} : ∀ t : Tm, (ren k t).size = t.size := by
  refine Tm.ind ?_
  intro v n l ih
  cases v
  · simp only [ren, Tm.size, rens_eq]
    congr 1
    have key : ∀ l : List Tm, (∀ a ∈ l, (ren k a).size = a.size) → Tm.sizes (l.map (ren k)) = Tm.sizes l := by
      intro l
      induction l with
      | nil => intro _; rfl
      | cons a l ih => intro h; simp only [List.map_cons, Tm.sizes, h a (by simp), ih fun b hb => h b (by simp [hb])]
    exact key l ih
  · rfl
theorem old_of {S : List Int} {t : Tm} (hs : t.size ≤ 12) (h : t.wf S = true) : Old t := ⟨Tm.wf_okv t h, hs, few_tok h⟩
theorem old_ren {S : List Int} {t : Tm} (hs : t.size ≤ 12) (h : t.wf S = true) : Old (ren 5 t) ∧ (ren 5 t).ar S = true := by
  have ha : (ren 5 t).ar S = true := ren_ar (by omega) t (Tm.wf_ar t h) fun v hv => by have := times_wf h hv; omega
  refine ⟨⟨Tm.ar_okv _ ha, by rw [size_ren]; exact hs, fun v hv => ?_⟩, ha⟩
  rw [times_ren t (Tm.wf_okv t h)] at hv
  have := times_wf h hv; omega
theorem unifyF_inv {root : Tm} : ∀ (f : Nat) (s : List Pr) (todo : List (Tm × Tm)) (r : List Pr), UInv root s todo → unifyF f s todo = some r → UInv root r []
  | f, s, [], r, hi, h => by
    have : s = r := by cases f <;> simpa [unifyF] using h
    subst this; exact hi
  | 0, s, (a, b) :: todo, r, _, h => by simp [unifyF] at h
  | f + 1, s, (a, b) :: todo, r, hi, h => by
    have hab := hi.ok (a, b) (by simp)
    simp only [unifyF] at h
    split at h
    · cases h
    · rename_i s' todo' hst
      exact unifyF_inv f s' todo' r (hi.step (ustep_way (app_okv hi.idem.1 a hab.1) (app_okv hi.idem.1 b hab.2) hst)).1 h
theorem unify_len {a b : Tm} (ha : Old a) (hb : Old b) {r : List Pr} (h : unify a b = some r) : r.length ≤ 1000000 := by
  have := (unifyF_inv _ _ _ r (UInv.start ha hb) h).len_le
  omega
end Go.Proofs.YtmanhdacnkpclaaDoor
