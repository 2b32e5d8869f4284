/- The row of ClauseTurns: for every input of bulk at most 1048576 (the second form) it gives true, and the input reads as it did. -/
import Derived.Test.YtmanhdacnkpclaaDoordcCD
import Derived.Test.YtmanhdacnkpclaaDoordcRowB
import Derived.SizedLaws
import Derived.Handed
import Derived.LaidMore
import Derived.LaidLaws
import Derived.SevenTiedAt
import Derived.Test.YtmanhdacnkpclaaDoorTie
import Derived.Test.YtmanhdacnkpclaaDoorCards
import Derived.ChangeMaps5
import Derived.Test.YtmanhdacnkpclaaDoordcRowC
import Derived.Deep.DeepHandedRow
import Derived.Deep.DeepWitnessRowRef
import Derived.Shelf.Vars
import Derived.WalkKit
import Derived.ProofKit
namespace Go.Proofs.YtmanhdacnkpclaaDoor
set_option linter.all false
open Go.ChangeShapes Go.WideShapes Go.ChangeAt Go.RowKit

set_option maxRecDepth 100000 in
theorem clauseTurns_lifted (os : Os) (started : os.Started) (H : Type) (enc : TypeId × Value → H) (F0 : Stop.Interp) :
    ReturnsInHanded {} Tryd.checked os 13 .any ((Rows.OpenSpec.upto Rows.clauseTurnsSpec).preRow enc Tryd.prog Tryd.f13 Rows.clauseTurnsUptoRow.domain false Rows.clauseTurnsUptoRow.laid) (((Rows.OpenSpec.upto Rows.clauseTurnsSpec).at F0).post enc Tryd.prog Tryd.f13 false true false false) := by
  refine returnsInHanded_of_row (C := Tryd.checked) (s := (Rows.OpenSpec.upto Rows.clauseTurnsSpec)) Tryd.own started (by kernel_rfl) Tryd.func13
    (witness_row_atRef (enc := enc) (C := Tryd.checked) false (doorWorld os) #[.slice none 0 0, .slice none 0 0, .string ⟨#[]⟩] rfl (by kernel_rfl) (by kernel_rfl) (by kernel_rfl)
      (OpenSpec.preRow_of_cond 8 (x := ([.nil, .nil, .lit (.string [])], [], [])) (by kernel_rfl) (by kernel_rfl) (fun k hk => by cases hk; kernel_rfl) (by kernel_rfl) (door_met os _))) ?_
  intro W base args ds gs before hval0 hW hcnd hcond hsized hL hsh _
  have hval : ∀ (j : Nat) t v, Tryd.f13.params[j]? = some t → args[j]? = some v → Value.okWide Tryd.prog W .any base t v := hval0
  have hW' := hW
  obtain ⟨p, q, hA0, hV, rfl, hfz, hnd⟩ := hW
  have hA : DataW.TrodAll enc Tryd.prog W 0 (fun _ => true) true Tryd.f13.params.toList args.toList ds p := hA0
  rw [Tryd.params13] at hA hval
  have hA1 := hA
  obtain ⟨args⟩ := args
  obtain ⟨v0, w0, d0, e0, p0, q0, rfl, rfl, rfl, h0, hR0⟩ := trodAll_cons hA
  obtain ⟨v1, w1, d1, e1, p1, q1, rfl, rfl, rfl, h1, hR1⟩ := trodAll_cons hR0
  obtain ⟨v2, w2, d2, e2, p2, q2, rfl, rfl, rfl, h2, hR2⟩ := trodAll_cons hR1
  obtain ⟨rfl, rfl, rfl⟩ := trodAll_nil hR2
  obtain ⟨rfl, rfl⟩ := trodVars_none hV
  obtain ⟨x0, k0⟩ := open_nums Tryd.underlying23 (hval 0 _ v0 rfl rfl) h0
  obtain ⟨x1, k1⟩ := open_clause (hval 1 _ v1 rfl rfl) h1
  obtain ⟨bs2, rfl, rfl, rfl, k2⟩ := Go.ChangeMaps.open_string Tryd.underlying9 (hval 2 _ v2 rfl rfl) h2
  clear hA0 hval0
  simp only [List.append_nil] at hW'
  have hbulk : Rows.uptoBulkAll ([(d0), (d1), (.lit (.string bs2.data.toList))] : List (DataW H)) ≤ 1048576 := by
    have := of_decide_eq_true (hcond _ rfl)
    simpa using this
  have hst2 : bs2.data.toList.length ≤ 1048576 := by
    have h2 := bulk_mem (l := [(d0), (d1), (.lit (.string bs2.data.toList))]) (d := (DataW.lit (.string bs2.data.toList) : DataW H)) (by simp)
    simp only [Rows.uptoBulk] at h2
    omega
  refine (Fn.elderV (clauseTurns_fn x0 x1 bs2.data.toList hst2) W (fun _ => True) (glob_of fun g hg => by
    simp only [globs, List.mem_cons, List.mem_nil_iff, or_false] at hg
    subst hg
    exact cell_of_shapedOpen_int (zero := #[.int .i64 0]) (t := 3) hsh (of_decide_eq_true (by kernel_rfl)) (by kernel_rfl) rfl (by kernel_rfl) (by kernel_rfl) Tryd.underlying3) [v0, v1, .string bs2] rfl (fun i A v hA hv => ?_)).mono fun e W' ⟨he, hb⟩ => ?_
  · match i with
    | 0 => simp at hA hv; subst hA hv; exact RdL.argS k0
    | 1 => simp at hA hv; subst hA hv; exact RdL.argS k1
    | 2 => simp at hA hv; subst hA hv; exact rfl
    | i + 3 => simp at hA
  subst he
  refine ⟨_, rfl, _, _, _, [], p0 ++ (p1 ++ ([] ++ [])), [], hW', ?_, ?_, rfl, hb.frame _, fun h => by cases h⟩
  · exact trodAll_mk1 (shut_bool Tryd.underlying4 true)
  · exact trodAll_below hb _ _ _ (p0 ++ (p1 ++ ([] ++ []))) (by decide) hA1 (fun x hx => by simpa using hW'.lt x (by simpa using hx))

theorem clauseTurns_said : Rows.ClauseTurnsUptoSaid :=
  OpenClaim.holds_of_cond 13 Tryd.f13 rfl rfl rfl rfl rfl rfl rfl ⟨rfl, rfl, rfl, rfl, rfl⟩ rfl rfl rfl rfl rfl (by kernel_rfl) Tryd.func13 (by kernel_rfl) (of_decide_eq_true (by kernel_rfl))
    (by unfold Func.isWrapper; rw [if_neg (of_decide_eq_false (by kernel_rfl))]; exact ⟨rfl, rfl⟩) (fun os started H enc _ F => by rw [OpenClaim.pre_eq_preRow]; exact clauseTurns_lifted os started H enc F)

theorem clauseTurns_upto : Rows.ClauseTurnsUptoCardSaid :=
  Claim7.holds_tied_plain_at .later [] _ _ _ _
    clauseTurns_said (fun _ h => by cases h) (by kernel_rfl) (fun _ h => by cases h) clauseTurnsUpto_row_tie rfl ⟨rfl, rfl⟩ (by kernel_rfl) rfl
    (fun f fn hf hfn => by
      obtain rfl : f = 13 := Option.some.inj ((show Tryd.prog.funcNamed "mendproof/mplaw4.ClauseTurns" = some 13 by kernel_rfl).symm.trans hf) |>.symm
      obtain rfl : fn = Tryd.f13 := (Option.some.inj (Tryd.func13.symm.trans hfn)).symm
      exact ⟨by kernel_rfl, fun j t ht => by
        rw [Tryd.params13] at ht
        have hm : t ∈ [23, 59, 9] := by
          have := Array.mem_of_getElem? ht
          first | (simp at this ⊢; omega) | simpa using this | (simp at this ⊢; rcases this with h | h | h | h | h <;> simp [h])
        have hall : ([23, 59, 9].all fun u => !Tryd.prog.wantsStandIn u) = true := by kernel_rfl
        exact (show Tryd.prog.wantsStandIn t = false by simpa using List.all_eq_true.1 hall t hm)⟩)
    (by kernel_rfl)
end Go.Proofs.YtmanhdacnkpclaaDoor

