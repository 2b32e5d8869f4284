/- Ends of walks over abstract states. -/
import Derived.Test.YtmanhdacnkpclaaGU
namespace Go.Proofs.Ytmanhdacnkpclaa
set_option linter.unusedVariables false
set_option linter.unusedSimpArgs false
open Go.RowKit

inductive ResL (P : Program) (σ : St) : List ResultVar → List A1 → Prop
  | nil : ResL P σ [] []
  | tmp {t : Nat} {A : A1} {rs : List ResultVar} {As : List A1} (h : St.get σ (.t t) = some (.one A)) (hr : ResL P σ rs As) : ResL P σ (.tmp t :: rs) (A :: As)
  | cell1 {a T j q m : Nat} {cs : List CV} {c : CV} {rs : List ResultVar} {As : List A1} (h : St.get σ (.t a) = some (.one (.c (.ptr j q)))) (hb : St.get σ (.b j) = some (.box cs)) (hT : rowT P T = some (false, m)) (hc : cs[q]? = some c) (hr : ResL P σ rs As) :
      ResL P σ (.cell a T :: rs) (.c c :: As)
  | cellN {a T j q m : Nat} {cs cs' : List CV} {rs : List ResultVar} {As : List A1} (h : St.get σ (.t a) = some (.one (.c (.ptr j q)))) (hb : St.get σ (.b j) = some (.box cs)) (hT : rowT P T = some (true, m)) (hc : (cs.drop q).take m = cs') (hl : cs'.length = m) (hr : ResL P σ rs As) :
      ResL P σ (.cell a T :: rs) (.agg cs' :: As)
theorem ResL.mapM {P : Program} {σ : St} {rs : List ResultVar} {As : List A1} (h : ResL P σ rs As) : rs.mapM (resOf P σ) = some As := by
  induction h with
  | nil => rfl
  | tmp h _ ih => rw [List.mapM_cons, ih]; simp [resOf, h]
  | cell1 h hb hT hc _ ih => rw [List.mapM_cons, ih]; simp [resOf, h, hb, hT, hc]
  | cellN h hb hT hc hl _ ih =>
    rw [List.mapM_cons, ih]
    subst hc
    simp only [resOf, h, hb, hT, hl, Nat.beq_refl, cond_true]; rfl
section
variable {P : Program} {σ : St} {rs : List ResultVar} {As : List A1} {pre : Bool} {R : X → List CV → Prop} {cs : List CV}
theorem finR (h : ResL P σ rs As) (hn : As.all (fun A => A.noOwn && A.cells.all CV.oneOk) = true) (hi : (mkX As).ids = []) (hR : R (mkX As) []) : finD P rs false R .ret σ := ⟨σ, fun _ => .refl, _, [], .all As h.mapM hn hi, (fun h => by cases h), hR⟩
theorem finN (h : ResL P σ rs As) (hn : As.all (fun A => A.noOwn && A.cells.all CV.oneOk) = true) (hi : (mkX As).ids = []) (hR : R (mkX As) []) : finD P rs false R .normal σ := finR h hn hi hR
theorem finRB (h : ResL P σ rs As) (hn : As.all (fun A => A.noOwn && A.cells.all CV.oneOk) = true) (hi : (mkX As).ids = []) (hb : St.get σ (.b EXT) = some (.box cs)) (hc : cs.flatMap CV.ids = []) (hR : R (mkX As) cs) : finD P rs pre R .ret σ := ⟨σ, fun _ => .refl, _, cs, .all As h.mapM hn hi, fun _ => ⟨hb, hc⟩, hR⟩
theorem finNB (h : ResL P σ rs As) (hn : As.all (fun A => A.noOwn && A.cells.all CV.oneOk) = true) (hi : (mkX As).ids = []) (hb : St.get σ (.b EXT) = some (.box cs)) (hc : cs.flatMap CV.ids = []) (hR : R (mkX As) cs) : finD P rs pre R .normal σ := finRB h hn hi hb hc hR
theorem finO {t E m : Nat} {ds : List D} (hs : St.get σ (.t t) = some (.one (.c (.own E m ds)))) (hR : R (.one (.c (.own E m ds))) []) : finD P [.tmp t] false R .ret σ := ⟨σ, fun _ => .refl, _, [], .own t E m ds rfl hs, (fun h => by cases h), hR⟩
end
theorem fin_wk {P : Program} {σ σ1 : St} {rs : List ResultVar} {pre : Bool} {R : X → List CV → Prop} {e : Exit} (hw : ∀ n, Wk n σ σ1) (h : finD P rs pre R e σ1) : finD P rs pre R e σ := by
  cases e with
  | normal => obtain ⟨σ', hw', h'⟩ := h; exact ⟨σ', fun n => (hw n).trans (hw' n), h'⟩
  | ret => obtain ⟨σ', hw', h'⟩ := h; exact ⟨σ', fun n => (hw n).trans (hw' n), h'⟩
  | _ => exact h
theorem A1c {c c' : CV} (h : c = c') : (.one (.c c) : X) = .one (.c c') := by rw [h]
theorem Xv {v v' : Value} (h : v = v') : (.one (.c (.val v)) : X) = .one (.c (.val v')) := by rw [h]
theorem Xb {b b' : Bool} (h : b = b') : (.one (bA b) : X) = .one (bA b') := by rw [h]
theorem Xi {b b' : Int} (h : b = b') : (.one (iA b) : X) = .one (iA b') := by rw [h]
theorem Xt {b b' : Tm} (h : b = b') : (.one (tA b) : X) = .one (tA b') := by rw [h]
theorem Xl {α : Type} {f : α → D} {b b' : List α} (h : b = b') : (.one (lA f b) : X) = .one (lA f b') := by rw [h]
theorem snoc1 {α : Type} (f : α → D) {l : List α} {k : Nat} {x : α} (h : l[k]? = some x) : (l.take k).map f ++ [f x] = (l.take (k + 1)).map f := by rw [List.take_add_one, h]; simp
theorem snoc2 {α β : Type} (f : α → D) (g : β → α) {l : List β} {k : Nat} {x : β} (h : l[k]? = some x) : ((l.take k).map g).map f ++ [g x].map f = ((l.take (k + 1)).map g).map f := by rw [List.take_add_one, h]; simp
end Go.Proofs.Ytmanhdacnkpclaa
