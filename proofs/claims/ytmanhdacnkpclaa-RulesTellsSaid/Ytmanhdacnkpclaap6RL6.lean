/- The row of RulesTells: for every input it gives true, and the input reads as it did. -/
import Derived.Test.Ytmanhdacnkpclaap6L6
import Derived.Test.Ytmanhdacnkpclaap6Rw
import Derived.SizedLaws
import Derived.ChangeMaps5
import Derived.WalkKit
import Derived.ProofKit
namespace Go.Proofs.Ytmanhdacnkpclaa
set_option linter.all false
open Go.ChangeShapes Go.WideShapes Go.ChangeAt Go.RowKit

set_option maxRecDepth 100000 in
theorem rulesTells_lifted (os : Os) (started : os.Started) (H : Type) (enc : TypeId × Value → H) :
    ReturnsInHanded {} Try.checked os 14 .any (Rows.rulesTellsSpec.pre6 enc Try.prog Try.f14 Rows.rulesTellsRow.domain false) (Rows.rulesTellsSpec.post enc Try.prog Try.f14 false true false false) := by
  refine returnsInHanded_of_change_sized (C := Try.checked) Try.own started (by kernel_rfl) Try.func14
    (ChangeSpec.witness6 (enc := enc) (C := Try.checked) false ⟨#[], #[.slice none 0 0, .slice none 0 0, .slice none 0 0], []⟩ 8 (by kernel_rfl) (by kernel_rfl) (by kernel_rfl) (by kernel_rfl)) ?_
  intro W base args ds gs before hval0 hW hcnd hsized _
  have hval : ∀ (j : Nat) t v, Try.f14.params[j]? = some t → args[j]? = some v → Value.okWide Try.prog W .any base t v := hval0
  have hW' := hW
  obtain ⟨p, q, hA0, hV, rfl, hfz, hnd⟩ := hW
  have hA : DataW.TrodAll enc Try.prog W 0 (fun _ => true) true Try.f14.params.toList args.toList ds p := hA0
  rw [Try.params14] at hA hval
  have hA1 := hA
  obtain ⟨args⟩ := args
  obtain ⟨v0, w0, d0, e0, p0, q0, rfl, rfl, rfl, h0, hR0⟩ := trodAll_cons hA
  obtain ⟨v1, w1, d1, e1, p1, q1, rfl, rfl, rfl, h1, hR1⟩ := trodAll_cons hR0
  obtain ⟨v2, w2, d2, e2, p2, q2, rfl, rfl, rfl, h2, hR2⟩ := trodAll_cons hR1
  obtain ⟨rfl, rfl, rfl⟩ := trodAll_nil hR2
  obtain ⟨rfl, rfl⟩ := trodVars_none hV
  obtain ⟨x0, k0⟩ := open_nums Try.underlying23 (hval 0 _ v0 rfl rfl) h0
  obtain ⟨x1, k1⟩ := open_clause (hval 1 _ v1 rfl rfl) h1
  obtain ⟨x2, k2⟩ := open_clause (hval 2 _ v2 rfl rfl) h2
  clear hA0 hval0
  simp only [List.append_nil] at hW'
  refine (Fn.elderV (rulesTells_fn x0 x1 x2) W (fun _ => True) [v0, v1, v2] rfl (fun i A v hA hv => ?_)).mono fun e W' ⟨he, hb⟩ => ?_
  · match i with
    | 0 => simp at hA hv; subst hA hv; exact RdL.argS k0
    | 1 => simp at hA hv; subst hA hv; exact RdL.argS k1
    | 2 => simp at hA hv; subst hA hv; exact RdL.argS k2
    | i + 3 => simp at hA
  subst he
  refine ⟨_, rfl, _, _, _, [], p0 ++ (p1 ++ (p2 ++ [])), [], hW', ?_, ?_, rfl, hb.frame _, fun h => by cases h⟩
  · exact trodAll_mk1 (shut_bool Try.underlying4 true)
  · exact trodAll_below hb _ _ _ (p0 ++ (p1 ++ (p2 ++ []))) (by decide) hA1 (fun x hx => by simpa using hW'.lt x (by simpa using hx))

theorem rulesTells_proved : Rows.RulesTellsSaid :=
  OpenClaim.holds_of_wide 14 Try.f14 rfl rfl rfl rfl rfl rfl rfl ⟨rfl, rfl, rfl, rfl, rfl⟩ rfl rfl rfl rfl rfl (by kernel_rfl) Try.func14 (by kernel_rfl) (of_decide_eq_true (by kernel_rfl))
    (by unfold Func.isWrapper; rw [if_neg (of_decide_eq_false (by kernel_rfl))]; exact ⟨rfl, rfl⟩) (fun os started H enc _ => rulesTells_lifted os started H enc)
end Go.Proofs.Ytmanhdacnkpclaa
