/- The row of RulesHold: for every input it gives true, and the input reads as it did. -/
import Derived.Test.YtmanhdacnkpclaaDoorq6L6D
import Derived.Test.YtmanhdacnkpclaaDoorq6Rw
import Derived.SizedLaws
import Derived.Handed
import Derived.LaidMore
import Derived.LaidLaws
import Derived.SevenTiedAt
import Derived.Test.YtmanhdacnkpclaaDoorTie
import Derived.Test.YtmanhdacnkpclaaDoorCards
import Derived.ChangeMaps5
import Derived.WalkKit
import Derived.ProofKit
namespace Go.Proofs.YtmanhdacnkpclaaDoor
set_option linter.all false
open Go.ChangeShapes Go.WideShapes Go.ChangeAt Go.RowKit

/-- the door's own heap meets the condition -/
theorem rulesHold_met (os : Os) (args : Array Value) : laidMetH Tryd.prog Rows.rulesHoldRow.laid ((World.doorLaid Tryd.prog 34 os).forCall (fun _ _ => 0) ⟨#[], args, []⟩).memory :=
  laidMetH_of_parts3 (fuel := 8) (laidMet_of_run' 8 (by kernel_rfl) (by kernel_rfl)) (by kernel_rfl) (by kernel_rfl)
set_option maxRecDepth 100000 in
theorem rulesHold_lifted (os : Os) (started : os.Started) (H : Type) (enc : TypeId × Value → H) :
    ReturnsInHanded {} Tryd.checked os 11 .any (fun w args => (Rows.rulesHoldSpec.pre enc Tryd.prog Tryd.f11 Rows.rulesHoldRow.domain false w args ∧ laidMetH Tryd.prog Rows.rulesHoldRow.laid w) ∧ sizedMet enc Tryd.prog Tryd.f11 (OpenSpec.ofChange Rows.rulesHoldSpec) false w args) (Rows.rulesHoldSpec.post enc Tryd.prog Tryd.f11 false true false false) := by
  refine returnsInHanded_of_change_and (C := Tryd.checked) (X := fun w _ => laidMetH Tryd.prog Rows.rulesHoldRow.laid w) (fun _ _ _ hh h => h.of_heap hh) Tryd.own started (by kernel_rfl) Tryd.func11
    (ChangeSpec.witness_shaped (enc := enc) (C := Tryd.checked) (os := os) (X := fun w _ => laidMetH Tryd.prog Rows.rulesHoldRow.laid w) false (World.doorLaid Tryd.prog 34 os) #[.slice none 0 0, .slice none 0 0, .slice none 0 0, .agg #[.int .i64 0, .slice none 0 0]] 8 rfl (World.shaped_of_RefB (by kernel_rfl) (by kernel_rfl)) (by kernel_rfl) (by kernel_rfl) (by kernel_rfl) (rulesHold_met os _)) ?_
  intro W base args ds gs before hval0 hW hcnd hsized hL _
  have hval : ∀ (j : Nat) t v, Tryd.f11.params[j]? = some t → args[j]? = some v → Value.okWide Tryd.prog W .any base t v := hval0
  have hW' := hW
  obtain ⟨p, q, hA0, hV, rfl, hfz, hnd⟩ := hW
  have hA : DataW.TrodAll enc Tryd.prog W 0 (fun _ => true) true Tryd.f11.params.toList args.toList ds p := hA0
  rw [Tryd.params11] at hA hval
  have hA1 := hA
  obtain ⟨args⟩ := args
  obtain ⟨v0, w0, d0, e0, p0, q0, rfl, rfl, rfl, h0, hR0⟩ := trodAll_cons hA
  obtain ⟨v1, w1, d1, e1, p1, q1, rfl, rfl, rfl, h1, hR1⟩ := trodAll_cons hR0
  obtain ⟨v2, w2, d2, e2, p2, q2, rfl, rfl, rfl, h2, hR2⟩ := trodAll_cons hR1
  obtain ⟨v3, w3, d3, e3, p3, q3, rfl, rfl, rfl, h3, hR3⟩ := trodAll_cons hR2
  obtain ⟨rfl, rfl, rfl⟩ := trodAll_nil hR3
  obtain ⟨rfl, rfl⟩ := trodVars_none hV
  obtain ⟨x0, k0⟩ := open_nums Tryd.underlying23 (hval 0 _ v0 rfl rfl) h0
  obtain ⟨x1, k1⟩ := open_clause (hval 1 _ v1 rfl rfl) h1
  obtain ⟨x2, k2⟩ := open_clause (hval 2 _ v2 rfl rfl) h2
  obtain ⟨x3, k3⟩ := open_model (hval 3 _ v3 rfl rfl) h3
  clear hA0 hval0
  simp only [List.append_nil] at hW'
  refine (Fn.elderV (rulesHold_fn x0 x1 x2 x3) W (fun _ => True) [v0, v1, v2, v3] rfl (fun i A v hA hv => ?_)).mono fun e W' ⟨he, hb⟩ => ?_
  · match i with
    | 0 => simp at hA hv; subst hA hv; exact RdL.argS k0
    | 1 => simp at hA hv; subst hA hv; exact RdL.argS k1
    | 2 => simp at hA hv; subst hA hv; exact RdL.argS k2
    | 3 => simp at hA hv; subst hA hv; exact k3
    | i + 4 => simp at hA
  subst he
  refine ⟨_, rfl, _, _, _, [], p0 ++ (p1 ++ (p2 ++ (p3 ++ []))), [], hW', ?_, ?_, rfl, hb.frame _, fun h => by cases h⟩
  · exact trodAll_mk1 (shut_bool Tryd.underlying4 true)
  · exact trodAll_below hb _ _ _ (p0 ++ (p1 ++ (p2 ++ (p3 ++ [])))) (by decide) hA1 (fun x hx => by simpa using hW'.lt x (by simpa using hx))

theorem rulesHold_said : Rows.RulesHoldSaid :=
  OpenClaim.holds_of_wide 11 Tryd.f11 rfl rfl rfl rfl rfl rfl rfl ⟨rfl, rfl, rfl, rfl, rfl⟩ rfl rfl rfl rfl rfl (by kernel_rfl) Tryd.func11 (by kernel_rfl) (of_decide_eq_true (by kernel_rfl))
    (by unfold Func.isWrapper; rw [if_neg (of_decide_eq_false (by kernel_rfl))]; exact ⟨rfl, rfl⟩) (fun os started H enc _ => rulesHold_lifted os started H enc)

theorem rulesHold_proved : Rows.RulesHoldCardSaid :=
  Claim7.holds_tied_plain_at .later [] [.data, .data, .data] true (true, "10d9faa4737fa9e7b27e19c687499a79ef0ec232135226baccfe12c9ea5e3dbc") false
    rulesHold_said (fun _ h => by cases h) (by kernel_rfl) (fun _ h => by cases h) rulesHold_row_tie rfl ⟨rfl, rfl⟩ (by kernel_rfl) rfl
    (fun f fn hf hfn => by
      obtain rfl : f = 11 := Option.some.inj ((show Tryd.prog.funcNamed "mendproof/mplaw6.RulesHold" = some 11 by kernel_rfl).symm.trans hf) |>.symm
      obtain rfl : fn = Tryd.f11 := (Option.some.inj (Tryd.func11.symm.trans hfn)).symm
      exact ⟨by kernel_rfl, fun j t ht => by
        rw [Tryd.params11] at ht
        have hm : t ∈ [23, 59, 62] := by
          have := Array.mem_of_getElem? ht
          first | (simp at this ⊢; omega) | simpa using this | (simp at this ⊢; rcases this with h | h | h | h | h <;> simp [h])
        have hall : ([23, 59, 62].all fun u => !Tryd.prog.wantsStandIn u) = true := by kernel_rfl
        exact (show Tryd.prog.wantsStandIn t = false by simpa using List.all_eq_true.1 hall t hm)⟩)
    (by kernel_rfl)
end Go.Proofs.YtmanhdacnkpclaaDoor

