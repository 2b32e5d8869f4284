/- The row of LogHolds: for every input of bulk at most 1048576 (the second form) it gives true, and the input reads as it did. -/
import Derived.Test.YtmanhdacnkpclaaGreatzh21
import Derived.Test.YtmanhdacnkpclaaGreatzh22
import Derived.SizedLaws
import Derived.ChangeMaps5
import Derived.WalkKit
import Derived.ProofKit
namespace Go.Proofs.YtmanhdacnkpclaaGreat
set_option linter.all false
set_option maxRecDepth 1000000
set_option maxHeartbeats 32000000
open Go.ChangeShapes Go.WideShapes Go.ChangeAt Go.RowKit
theorem logHolds_lifted (os : Os) (started : os.Started) (H : Type) (enc : TypeId × Value → H) (F0 : Stop.Interp) :
    ReturnsInHanded {} Tryz.checked os 4 .any ((Rows.OpenSpec.upto Rows.logHoldsSpec).pre6 enc Tryz.prog Tryz.f4 Rows.logHoldsUptoRow.domain false) (((Rows.OpenSpec.upto Rows.logHoldsSpec).at F0).post enc Tryz.prog Tryz.f4 false true false false) := by
  refine returnsInHanded_of_cond (C := Tryz.checked) (s := (Rows.OpenSpec.upto Rows.logHoldsSpec)) (k := Rows.uptoSmall) rfl Tryz.own started (by kernel_rfl) Tryz.func4
    (OpenSpec.witness (enc := enc) (C := Tryz.checked) (s := (Rows.OpenSpec.upto Rows.logHoldsSpec)) (k := Rows.uptoSmall) rfl false ⟨#[], #[.slice none 0 0, .slice none 0 0, .slice none 0 0, .agg #[.int .i64 0, .slice none 0 0]], []⟩ 8 (by kernel_rfl) (by kernel_rfl) (by kernel_rfl) (x := ([.nil, .nil, .nil, .agg [.lit (.int .i64 0), .nil]], [], [])) (by kernel_rfl) (by kernel_rfl) (by kernel_rfl)) ?_
  intro W base args ds gs before hval0 hW hcnd hkk _
  have hval : ∀ (j : Nat) t v, Tryz.f4.params[j]? = some t → args[j]? = some v → Value.okWide Tryz.prog W .any base t v := hval0
  have hW' := hW
  obtain ⟨p, q, hA0, hV, rfl, hfz, hnd⟩ := hW
  have hA : DataW.TrodAll enc Tryz.prog W 0 (fun _ => true) true Tryz.f4.params.toList args.toList ds p := hA0
  rw [Tryz.params4] at hA hval
  have hA1 := hA
  obtain ⟨args⟩ := args
  obtain ⟨v0, w0, d0, e0, p0, q0, rfl, rfl, rfl, h0, hR0⟩ := trodAll_cons hA
  obtain ⟨v1, w1, d1, e1, p1, q1, rfl, rfl, rfl, h1, hR1⟩ := trodAll_cons hR0
  obtain ⟨v2, w2, d2, e2, p2, q2, rfl, rfl, rfl, h2, hR2⟩ := trodAll_cons hR1
  obtain ⟨v3, w3, d3, e3, p3, q3, rfl, rfl, rfl, h3, hR3⟩ := trodAll_cons hR2
  obtain ⟨rfl, rfl, rfl⟩ := trodAll_nil hR3
  obtain ⟨rfl, rfl⟩ := trodVars_none hV
  obtain ⟨x0, k0⟩ := open_nums Tryz.underlying23 (hval 0 _ v0 rfl rfl) h0
  obtain ⟨x1, k1⟩ := open_clauses (hval 1 _ v1 rfl rfl) h1
  obtain ⟨x2, k2, hb2⟩ := open_steps (hval 2 _ v2 rfl rfl) h2
  obtain ⟨x3, k3⟩ := open_model (hval 3 _ v3 rfl rfl) h3
  clear hA0 hval0
  simp only [List.append_nil] at hW'
  have hbulk : Rows.uptoBulkAll ([(d0), (d1), (d2), (d3)] : List (DataW H)) ≤ 1048576 := by
    have := of_decide_eq_true hkk
    simpa using this
  have hst2 : ∀ y ∈ x2, y.frm.length ≤ 1000000000 := fun y hy => by
    have h1 := hb2 y hy
    have h2 := bulk_mem (l := [d0, d1, d2, d3]) (d := d2) (by simp)
    omega
  refine (Fn.elderV (logHolds_fn x0 x1 x2 x3 hst2) W (fun _ => True) (glob_any W _) [v0, v1, v2, v3] rfl (fun i A v hA hv => ?_)).mono fun e W' ⟨he, hb⟩ => ?_
  · match i with
    | 0 => simp at hA hv; subst hA hv; exact RdL.argS k0
    | 1 => simp at hA hv; subst hA hv; exact RdL.argS k1
    | 2 => simp at hA hv; subst hA hv; exact RdL.argS k2
    | 3 => simp at hA hv; subst hA hv; exact k3
    | i + 4 => simp at hA
  subst he
  refine ⟨_, rfl, _, _, _, [], p0 ++ (p1 ++ (p2 ++ (p3 ++ []))), [], hW', ?_, ?_, rfl, hb.frame _, fun h => by cases h⟩
  · exact trodAll_mk1 (shut_bool Tryz.underlying4 true)
  · exact trodAll_below hb _ _ _ (p0 ++ (p1 ++ (p2 ++ (p3 ++ [])))) (by decide) hA1 (fun x hx => by simpa using hW'.lt x (by simpa using hx))
theorem logHolds_upto : Rows.LogHoldsUptoSaid :=
  OpenClaim.holds_of_cond 4 Tryz.f4 rfl rfl rfl rfl rfl rfl rfl ⟨rfl, rfl, rfl, rfl, rfl⟩ rfl rfl rfl rfl rfl (by kernel_rfl) Tryz.func4 (by kernel_rfl) (of_decide_eq_true (by kernel_rfl))
    (by unfold Func.isWrapper; rw [if_neg (of_decide_eq_false (by kernel_rfl))]; exact ⟨rfl, rfl⟩) (fun os started H enc _ F => logHolds_lifted os started H enc F)
end Go.Proofs.YtmanhdacnkpclaaGreat
