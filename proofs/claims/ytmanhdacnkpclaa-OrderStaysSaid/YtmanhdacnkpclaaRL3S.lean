/- The row of OrderStays: for every input it gives true, and the input reads as it did. -/
import Derived.Test.YtmanhdacnkpclaaL3S
import Derived.Test.YtmanhdacnkpclaaRw
import Derived.SizedLaws
import Derived.WalkKit
import Derived.ProofKit
namespace Go.Proofs.Ytmanhdacnkpclaa
set_option linter.all false
open Go.ChangeShapes Go.WideShapes Go.ChangeAt Go.RowKit

set_option maxRecDepth 100000 in
theorem orderStays_lifted (os : Os) (started : os.Started) (H : Type) (enc : TypeId × Value → H) :
    ReturnsInHanded {} Try.checked os 5 .any (Rows.orderStaysSpec.pre6 enc Try.prog Try.f5 Rows.orderStaysRow.domain false) (Rows.orderStaysSpec.post enc Try.prog Try.f5 false true false false) := by
  refine returnsInHanded_of_change_sized (C := Try.checked) Try.own started (by kernel_rfl) Try.func5
    (ChangeSpec.witness6 (enc := enc) (C := Try.checked) false ⟨#[], #[.slice none 0 0, .agg #[.bool false, .int .i64 0, .slice none 0 0], .agg #[.bool false, .int .i64 0, .slice none 0 0], .agg #[.bool false, .int .i64 0, .slice none 0 0], .slice none 0 0, .int .i64 0], []⟩ 8 (by kernel_rfl) (by kernel_rfl) (by kernel_rfl) (by kernel_rfl)) ?_
  intro W base args ds gs before hval0 hW hcnd hsized _
  have hval : ∀ (j : Nat) t v, Try.f5.params[j]? = some t → args[j]? = some v → Value.okWide Try.prog W .any base t v := hval0
  have hW' := hW
  obtain ⟨p, q, hA0, hV, rfl, hfz, hnd⟩ := hW
  have hA : DataW.TrodAll enc Try.prog W 0 (fun _ => true) true Try.f5.params.toList args.toList ds p := hA0
  rw [Try.params5] at hA hval
  have hA1 := hA
  obtain ⟨args⟩ := args
  obtain ⟨v0, w0, d0, e0, p0, q0, rfl, rfl, rfl, h0, hR0⟩ := trodAll_cons hA
  obtain ⟨v1, w1, d1, e1, p1, q1, rfl, rfl, rfl, h1, hR1⟩ := trodAll_cons hR0
  obtain ⟨v2, w2, d2, e2, p2, q2, rfl, rfl, rfl, h2, hR2⟩ := trodAll_cons hR1
  obtain ⟨v3, w3, d3, e3, p3, q3, rfl, rfl, rfl, h3, hR3⟩ := trodAll_cons hR2
  obtain ⟨v4, w4, d4, e4, p4, q4, rfl, rfl, rfl, h4, hR4⟩ := trodAll_cons hR3
  obtain ⟨v5, w5, d5, e5, p5, q5, rfl, rfl, rfl, h5, hR5⟩ := trodAll_cons hR4
  obtain ⟨rfl, rfl, rfl⟩ := trodAll_nil hR5
  obtain ⟨rfl, rfl⟩ := trodVars_none hV
  obtain ⟨x0, k0⟩ := open_nums Try.underlying23 (hval 0 _ v0 rfl rfl) h0
  obtain ⟨x1, k1⟩ := open_tm (hval 1 _ v1 rfl rfl) h1
  obtain ⟨x2, k2⟩ := open_tm (hval 2 _ v2 rfl rfl) h2
  obtain ⟨x3, k3⟩ := open_tm (hval 3 _ v3 rfl rfl) h3
  obtain ⟨x4, k4⟩ := open_sub (hval 4 _ v4 rfl rfl) h4
  obtain ⟨x5, rfl, rfl, rfl, k5⟩ := open_int Try.underlying3 (hval 5 _ v5 rfl rfl) h5
  clear hA0 hval0
  simp only [List.append_nil] at hW'
  have hlen4 : x4.length ≤ 4000000000000 := by
    obtain ⟨a', c', rfl, _, _⟩ := k4.form
    rcases trod_len Try.underlying36 h4 with e | ⟨el, re, rfl, e⟩
    · omega
    · have hb := sized_slice hsized (j := 4) rfl rfl Try.underlying36
      rw [show Try.checked.prog.bytesOf 42 = 48 by kernel_rfl] at hb
      have := reachBytes_lt
      omega
  refine (Fn.elderV (orderStays_fn x0 x1 x2 x3 x4 x5 hlen4 (int_rng k5)) W (fun _ => True) [v0, v1, v2, v3, v4, .int .i64 x5] rfl (fun i A v hA hv => ?_)).mono fun e W' ⟨he, hb⟩ => ?_
  · match i with
    | 0 => simp at hA hv; subst hA hv; exact RdL.argS k0
    | 1 => simp at hA hv; subst hA hv; exact RdT.argS k1
    | 2 => simp at hA hv; subst hA hv; exact RdT.argS k2
    | 3 => simp at hA hv; subst hA hv; exact RdT.argS k3
    | 4 => simp at hA hv; subst hA hv; exact RdL.argS k4
    | 5 => simp at hA hv; subst hA hv; exact rfl
    | i + 6 => simp at hA
  subst he
  refine ⟨_, rfl, _, _, _, [], p0 ++ (p1 ++ (p2 ++ (p3 ++ (p4 ++ ([] ++ []))))), [], hW', ?_, ?_, rfl, hb.frame _, fun h => by cases h⟩
  · exact trodAll_mk1 (shut_bool Try.underlying4 true)
  · exact trodAll_below hb _ _ _ (p0 ++ (p1 ++ (p2 ++ (p3 ++ (p4 ++ ([] ++ [])))))) (by decide) hA1 (fun x hx => by simpa using hW'.lt x (by simpa using hx))

theorem orderStays_proved : Rows.OrderStaysSaid :=
  OpenClaim.holds_of_wide 5 Try.f5 rfl rfl rfl rfl rfl rfl rfl ⟨rfl, rfl, rfl, rfl, rfl⟩ rfl rfl rfl rfl rfl (by kernel_rfl) Try.func5 (by kernel_rfl) (of_decide_eq_true (by kernel_rfl))
    (by unfold Func.isWrapper; rw [if_neg (of_decide_eq_false (by kernel_rfl))]; exact ⟨rfl, rfl⟩) (fun os started H enc _ => orderStays_lifted os started H enc)
end Go.Proofs.Ytmanhdacnkpclaa
