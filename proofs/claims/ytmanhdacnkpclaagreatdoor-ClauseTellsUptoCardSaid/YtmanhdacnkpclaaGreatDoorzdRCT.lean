/- The row of ClauseTells: for every input of bulk at most 1048576 (the second form) it gives true, and the input reads as it did. -/
import Derived.Test.YtmanhdacnkpclaaGreatDoorzdCT
import Derived.Test.YtmanhdacnkpclaaGreatDoorzdRowB
import Derived.SizedLaws
import Derived.Handed
import Derived.LaidMore
import Derived.LaidLaws
import Derived.SevenTiedAt
import Derived.Test.YtmanhdacnkpclaaGreatDoorTie
import Derived.Test.YtmanhdacnkpclaaGreatDoorCards
import Derived.ChangeMaps5
import Derived.Test.YtmanhdacnkpclaaGreatDoorzdRowC
import Derived.Deep.DeepHandedRow
import Derived.Deep.DeepWitnessRowRef
import Derived.Shelf.Vars
import Derived.WalkKit
import Derived.ProofKit
namespace Go.Proofs.YtmanhdacnkpclaaGreatDoor
set_option linter.all false
open Go.ChangeShapes Go.WideShapes Go.ChangeAt Go.RowKit

set_option maxRecDepth 100000 in
theorem clauseTells_lifted (os : Os) (started : os.Started) (H : Type) (enc : TypeId × Value → H) (F0 : Stop.Interp) :
    ReturnsInHanded {} Tryz.checked os 3 .any ((Rows.OpenSpec.upto Rows.clauseTellsSpec).preRow enc Tryz.prog Tryz.f3 Rows.clauseTellsUptoRow.domain false Rows.clauseTellsUptoRow.laid) (((Rows.OpenSpec.upto Rows.clauseTellsSpec).at F0).post enc Tryz.prog Tryz.f3 false true false false) := by
  refine returnsInHanded_of_row (C := Tryz.checked) (s := (Rows.OpenSpec.upto Rows.clauseTellsSpec)) Tryz.own started (by kernel_rfl) Tryz.func3
    (witness_row_atRef (enc := enc) (C := Tryz.checked) false (doorWorld os) #[.slice none 0 0, .slice none 0 0, .slice none 0 0, .slice none 0 0, .int .i64 0, .string ⟨#[]⟩] rfl (by kernel_rfl) (by kernel_rfl) (by kernel_rfl)
      (OpenSpec.preRow_of_cond 8 (x := ([.nil, .nil, .nil, .nil, .lit (.int .i64 0), .lit (.string [])], [], [])) (by kernel_rfl) (by kernel_rfl) (fun k hk => by cases hk; kernel_rfl) (by kernel_rfl) (door_met os _))) ?_
  intro W base args ds gs before hval0 hW hcnd hcond hsized hL hsh _
  have hval : ∀ (j : Nat) t v, Tryz.f3.params[j]? = some t → args[j]? = some v → Value.okWide Tryz.prog W .any base t v := hval0
  have hW' := hW
  obtain ⟨p, q, hA0, hV, rfl, hfz, hnd⟩ := hW
  have hA : DataW.TrodAll enc Tryz.prog W 0 (fun _ => true) true Tryz.f3.params.toList args.toList ds p := hA0
  rw [Tryz.params3] at hA hval
  have hA1 := hA
  obtain ⟨args⟩ := args
  obtain ⟨v0, w0, d0, e0, p0, q0, rfl, rfl, rfl, h0, hR0⟩ := trodAll_cons hA
  obtain ⟨v1, w1, d1, e1, p1, q1, rfl, rfl, rfl, h1, hR1⟩ := trodAll_cons hR0
  obtain ⟨v2, w2, d2, e2, p2, q2, rfl, rfl, rfl, h2, hR2⟩ := trodAll_cons hR1
  obtain ⟨v3, w3, d3, e3, p3, q3, rfl, rfl, rfl, h3, hR3⟩ := trodAll_cons hR2
  obtain ⟨v4, w4, d4, e4, p4, q4, rfl, rfl, rfl, h4, hR4⟩ := trodAll_cons hR3
  obtain ⟨v5, w5, d5, e5, p5, q5, rfl, rfl, rfl, h5, hR5⟩ := trodAll_cons hR4
  obtain ⟨rfl, rfl, rfl⟩ := trodAll_nil hR5
  obtain ⟨rfl, rfl⟩ := trodVars_none hV
  obtain ⟨x0, k0⟩ := open_nums Tryz.underlying23 (hval 0 _ v0 rfl rfl) h0
  obtain ⟨x1, k1⟩ := open_clause (hval 1 _ v1 rfl rfl) h1
  obtain ⟨x2, k2⟩ := open_clause (hval 2 _ v2 rfl rfl) h2
  obtain ⟨x3, k3⟩ := open_sub (hval 3 _ v3 rfl rfl) h3
  obtain ⟨x4, rfl, rfl, rfl, k4⟩ := open_int Tryz.underlying3 (hval 4 _ v4 rfl rfl) h4
  obtain ⟨bs5, rfl, rfl, rfl, k5⟩ := Go.ChangeMaps.open_string Tryz.underlying9 (hval 5 _ v5 rfl rfl) h5
  clear hA0 hval0
  simp only [List.append_nil] at hW'
  have hbulk : Rows.uptoBulkAll ([(d0), (d1), (d2), (d3), (.lit (.int .i64 x4)), (.lit (.string bs5.data.toList))] : List (DataW H)) ≤ 1048576 := by
    have := of_decide_eq_true (hcond _ rfl)
    simpa using this
  have hst5 : bs5.data.toList.length ≤ 1048576 := by
    have h2 := bulk_mem (l := [(d0), (d1), (d2), (d3), (.lit (.int .i64 x4)), (.lit (.string bs5.data.toList))]) (d := (DataW.lit (.string bs5.data.toList) : DataW H)) (by simp)
    simp only [Rows.uptoBulk] at h2
    omega
  have hlen3 : x3.length ≤ 4000000000000 := by
    obtain ⟨a', c', rfl, _, _⟩ := k3.form
    rcases trod_len Tryz.underlying27 h3 with e | ⟨el, re, rfl, e⟩
    · omega
    · have hb := sized_slice hsized (j := 3) rfl rfl Tryz.underlying27
      rw [show Tryz.checked.prog.bytesOf 38 = 48 by kernel_rfl] at hb
      have : reachBytes = 140737488351232 := rfl
      omega
  refine (Fn.elderV (clauseTells_fn x0 x1 x2 x3 x4 bs5.data.toList hlen3 hst5) W (fun _ => True) (glob_of fun g hg => by
    simp only [globs, List.mem_cons, List.mem_nil_iff, or_false] at hg
    subst hg
    exact cell_of_shapedOpen_int (zero := #[.int .i64 0]) (t := 3) hsh (of_decide_eq_true (by kernel_rfl)) (by kernel_rfl) rfl (by kernel_rfl) (by kernel_rfl) Tryz.underlying3) [v0, v1, v2, v3, .int .i64 x4, .string bs5] rfl (fun i A v hA hv => ?_)).mono fun e W' ⟨he, hb⟩ => ?_
  · match i with
    | 0 => simp at hA hv; subst hA hv; exact RdL.argS k0
    | 1 => simp at hA hv; subst hA hv; exact RdL.argS k1
    | 2 => simp at hA hv; subst hA hv; exact RdL.argS k2
    | 3 => simp at hA hv; subst hA hv; exact RdL.argS k3
    | 4 => simp at hA hv; subst hA hv; exact rfl
    | 5 => simp at hA hv; subst hA hv; exact rfl
    | i + 6 => simp at hA
  subst he
  refine ⟨_, rfl, _, _, _, [], p0 ++ (p1 ++ (p2 ++ (p3 ++ ([] ++ ([] ++ []))))), [], hW', ?_, ?_, rfl, hb.frame _, fun h => by cases h⟩
  · exact trodAll_mk1 (shut_bool Tryz.underlying4 true)
  · exact trodAll_below hb _ _ _ (p0 ++ (p1 ++ (p2 ++ (p3 ++ ([] ++ ([] ++ [])))))) (by decide) hA1 (fun x hx => by simpa using hW'.lt x (by simpa using hx))

theorem clauseTells_said : Rows.ClauseTellsUptoSaid :=
  OpenClaim.holds_of_cond 3 Tryz.f3 rfl rfl rfl rfl rfl rfl rfl ⟨rfl, rfl, rfl, rfl, rfl⟩ rfl rfl rfl rfl rfl (by kernel_rfl) Tryz.func3 (by kernel_rfl) (of_decide_eq_true (by kernel_rfl))
    (by unfold Func.isWrapper; rw [if_neg (of_decide_eq_false (by kernel_rfl))]; exact ⟨rfl, rfl⟩) (fun os started H enc _ F => by rw [OpenClaim.pre_eq_preRow]; exact clauseTells_lifted os started H enc F)

theorem clauseTells_upto : Rows.ClauseTellsUptoCardSaid :=
  Claim7.holds_tied_plain_at .later [] _ _ _ _
    clauseTells_said (fun _ h => by cases h) (by kernel_rfl) (fun _ h => by cases h) clauseTellsUpto_row_tie rfl ⟨rfl, rfl⟩ (by kernel_rfl) rfl
    (fun f fn hf hfn => by
      obtain rfl : f = 3 := Option.some.inj ((show Tryz.prog.funcNamed "mendproof/mplaw4.ClauseTells" = some 3 by kernel_rfl).symm.trans hf) |>.symm
      obtain rfl : fn = Tryz.f3 := (Option.some.inj (Tryz.func3.symm.trans hfn)).symm
      exact ⟨by kernel_rfl, fun j t ht => by
        rw [Tryz.params3] at ht
        have hm : t ∈ [23, 25, 27, 3, 9] := by
          have := Array.mem_of_getElem? ht
          first | (simp at this ⊢; omega) | simpa using this | (simp at this ⊢; rcases this with h | h | h | h | h <;> simp [h])
        have hall : ([23, 25, 27, 3, 9].all fun u => !Tryz.prog.wantsStandIn u) = true := by kernel_rfl
        exact (show Tryz.prog.wantsStandIn t = false by simpa using List.all_eq_true.1 hall t hm)⟩)
    (by kernel_rfl)
end Go.Proofs.YtmanhdacnkpclaaGreatDoor

