/- What functions do: a search takes a step in. -/
import Derived.Test.YtmanhdacnkpclaaGreatz906
import Derived.Test.YtmanhdacnkpclaaGreatz911
import Derived.Test.YtmanhdacnkpclaaGreatz915
import Derived.Test.YtmanhdacnkpclaaGreatz914
import Derived.Test.YtmanhdacnkpclaaGreatz913
import Derived.Test.YtmanhdacnkpclaaGreatz908
import Derived.Test.YtmanhdacnkpclaaGreatz910

/- What functions do: a search takes a step in. -/
namespace Go.Proofs.YtmanhdacnkpclaaGreat
set_option linter.all false
open Go.RowKit
def Sp.d (x : Sp) : D := .agg [.lit (.int .i64 x.rule), .arr (x.frm.map Int.d), .arr (x.cl.map Lt.d)]
abbrev spG : Sp → List FC := fun x => [.val (.int .i64 x.rule), .arr (x.frm.map Int.d), .arr (x.cl.map Lt.d)]
theorem Sp_fc (x : Sp) : (Sp.d x).fc = spG x := by simp [Sp.d, D.fc, fcs, spG]
instance : FCs Sp.d 3 (fun x => [.val (.int .i64 x.rule), .arr (x.frm.map Int.d), .arr (x.cl.map Lt.d)]) := ⟨Sp_fc, fun _ => rfl, fun _ => rfl⟩
abbrev pfBox (p : Pf) : List CV := [.arr (p.sig.map Int.d), .own 41 3 (p.steps.map Sp.d), .own 3 1 (p.active.map Int.d), .own 3 1 (p.wait.map Int.d), .val (.int .i64 p.found), .val (.bool p.lost)]
abbrev pfBoxK (va : Value) (p : Pf) : List CV := [.arr (p.sig.map Int.d), .own 41 3 (p.steps.map Sp.d), .ownK va 3 1 (p.active.map Int.d), .own 3 1 (p.wait.map Int.d), .val (.int .i64 p.found), .val (.bool p.lost)]
abbrev pfA (p : Pf) : A1 := .agg [.arr (p.sig.map Int.d), .arr (p.steps.map Sp.d), .arr (p.active.map Int.d), .arr (p.wait.map Int.d), .val (.int .i64 p.found), .val (.bool p.lost)]
abbrev pfL (p : Pf) : List F0 := [.arr (p.sig.map Int.d), .arr (p.steps.map Sp.d), .arr (p.active.map Int.d), .arr (p.wait.map Int.d), .val (.int .i64 p.found), .val (.bool p.lost)]
abbrev pfF (p : Pf) : A1 := .c (.fp [.arr (p.sig.map Int.d), .arr (p.steps.map Sp.d), .arr (p.active.map Int.d), .arr (p.wait.map Int.d), .val (.int .i64 p.found), .val (.bool p.lost)])
def stepN (p : Pf) : Int := if 120 ≤ p.steps.length then -1 else (p.steps.length : Int)
set_option maxHeartbeats 4000000 in
set_option maxRecDepth 100000 in
theorem sadd (p : Pf) (rule : Int) (frm : List Int) (c : List Lt) (hl : p.steps.length ≤ 1000) :
    FnB Tryz.prog 44 [.c (.ptr EXT 0), iA rule, lA Int.d frm, lA Lt.d c] (pfBox p) (.one (iA (stepN p))) (pfBox (stepP p rule frm c).1) := by
  refine Fn.of Tryz.func44 rfl Tryz.ntmps44 rfl (Nat.le_of_ble_eq_true rfl) ?_
  obtain ⟨sg, st, ac, wa, fo, lo⟩ := p
  dsimp only at hl
  by_cases h120 : 120 ≤ st.length
  · have e1 : stepN ⟨sg, st, ac, wa, fo, lo⟩ = -1 := if_pos h120
    have e2 : stepP ⟨sg, st, ac, wa, fo, lo⟩ rule frm c = (⟨sg, st, ac, wa, fo, true⟩, false) := if_pos h120
    rw [e1, e2]
    refine dwp_isOB (j := EXT) (q := 1) rfl rfl rfl ⟨0, rfl⟩ fun v => ?_
    (refine wlk ?_)
    (refine SqA.b1 (op_lenKT (T := TB) (f := Sp.d) (l := st) (tp := 0) (j := EXT) (q := 1) rfl rfl rfl rfl rfl rfl rfl rfl) rfl rfl ?_)
    (refine wlk ?_)
    refine fin_wk (fun n => Wk.ofKB (j := EXT) (q := 1) rfl rfl rfl rfl) ?_
    (refine wbT ?_)
    exact XB rfl rfl
  have e1 : stepN ⟨sg, st, ac, wa, fo, lo⟩ = (st.length : Int) := if_neg h120
  have e2 : stepP ⟨sg, st, ac, wa, fo, lo⟩ rule frm c = (⟨sg, st ++ [⟨rule, frm, c⟩], ac, wa, if c.length = 0 ∧ fo < 0 then (st.length : Int) else fo, lo⟩, true) := if_neg h120
  rw [e1, e2]
  have e3 : ((st.length + 1 : Nat) : Int) - 1 = (st.length : Int) := by omega
  have hlen : (st ++ [(⟨rule, frm, c⟩ : Sp)]).length = st.length + 1 := by simp
  refine dwp_isOB (j := EXT) (q := 1) rfl rfl rfl ⟨0, rfl⟩ fun v => ?_
  (refine wlk ?_)
  (refine SqA.b1 (op_lenKT (T := TB) (f := Sp.d) (l := st) (tp := 0) (j := EXT) (q := 1) rfl rfl rfl rfl rfl rfl rfl rfl) rfl rfl ?_)
  (refine wlE ?_)
  refine dwp_wk (Wk.ofKB (j := EXT) (q := 1) rfl rfl rfl rfl) ?_
  (refine wlk ?_)
  (refine SqA.b1 (op_bsT (T := TB) (f := Sp.d) [(⟨rule, frm, c⟩ : Sp)] rfl rfl rfl rfl rfl rfl rfl rfl rfl rfl rfl) rfl rfl ?_)
  (refine wlE ?_)
  refine dwp_isOB (j := EXT) (q := 1) rfl rfl rfl ⟨0, rfl⟩ fun v' => ?_
  (refine wlk ?_)
  (refine SqA.b1 (op_lenKT (T := TB) (f := Sp.d) (l := st ++ [(⟨rule, frm, c⟩ : Sp)]) (tp := 0) (j := EXT) (q := 1) rfl rfl rfl rfl rfl rfl rfl rfl) rfl rfl ?_)
  rw [hlen]
  by_cases hc0 : c.length = 0
  · by_cases hf0 : fo < 0
    · rw [if_pos ⟨hc0, hf0⟩]
      (refine wlk ?_)
      refine fin_wk (fun n => Wk.ofKB (j := EXT) (q := 1) rfl rfl rfl rfl) ?_
      (refine wbT ?_)
      rw [e3]
      exact XB rfl rfl
    · rw [if_neg (fun h => hf0 h.2)]
      (refine wlk ?_)
      refine fin_wk (fun n => Wk.ofKB (j := EXT) (q := 1) rfl rfl rfl rfl) ?_
      (refine wbT ?_)
      rw [e3]
      exact XB rfl rfl
  · rw [if_neg (fun h => hc0 h.1)]
    (refine wlk ?_)
    refine fin_wk (fun n => Wk.ofKB (j := EXT) (q := 1) rfl rfl rfl rfl) ?_
    (refine wbT ?_)
    rw [e3]
    exact XB rfl rfl
set_option maxHeartbeats 4000000 in
set_option maxRecDepth 100000 in
theorem saddK (va : Value) (p : Pf) (rule : Int) (frm : List Int) (c : List Lt) (hl : p.steps.length ≤ 1000) :
    FnB Tryz.prog 44 [.c (.ptr EXT 0), iA rule, lA Int.d frm, lA Lt.d c] (pfBoxK va p) (.one (iA (stepN p))) (pfBoxK va (stepP p rule frm c).1) := by
  refine Fn.of Tryz.func44 rfl Tryz.ntmps44 rfl (Nat.le_of_ble_eq_true rfl) ?_
  obtain ⟨sg, st, ac, wa, fo, lo⟩ := p
  dsimp only at hl
  by_cases h120 : 120 ≤ st.length
  · have e1 : stepN ⟨sg, st, ac, wa, fo, lo⟩ = -1 := if_pos h120
    have e2 : stepP ⟨sg, st, ac, wa, fo, lo⟩ rule frm c = (⟨sg, st, ac, wa, fo, true⟩, false) := if_pos h120
    rw [e1, e2]
    refine dwp_isOB (j := EXT) (q := 1) rfl rfl rfl ⟨0, rfl⟩ fun v => ?_
    (refine wlk ?_)
    (refine SqA.b1 (op_lenKT (T := TB) (f := Sp.d) (l := st) (tp := 0) (j := EXT) (q := 1) rfl rfl rfl rfl rfl rfl rfl rfl) rfl rfl ?_)
    (refine wlk ?_)
    refine fin_wk (fun n => Wk.ofKB (j := EXT) (q := 1) rfl rfl rfl rfl) ?_
    (refine wbT ?_)
    exact XB rfl rfl
  have e1 : stepN ⟨sg, st, ac, wa, fo, lo⟩ = (st.length : Int) := if_neg h120
  have e2 : stepP ⟨sg, st, ac, wa, fo, lo⟩ rule frm c = (⟨sg, st ++ [⟨rule, frm, c⟩], ac, wa, if c.length = 0 ∧ fo < 0 then (st.length : Int) else fo, lo⟩, true) := if_neg h120
  rw [e1, e2]
  have e3 : ((st.length + 1 : Nat) : Int) - 1 = (st.length : Int) := by omega
  have hlen : (st ++ [(⟨rule, frm, c⟩ : Sp)]).length = st.length + 1 := by simp
  refine dwp_isOB (j := EXT) (q := 1) rfl rfl rfl ⟨0, rfl⟩ fun v => ?_
  (refine wlk ?_)
  (refine SqA.b1 (op_lenKT (T := TB) (f := Sp.d) (l := st) (tp := 0) (j := EXT) (q := 1) rfl rfl rfl rfl rfl rfl rfl rfl) rfl rfl ?_)
  (refine wlE ?_)
  refine dwp_wk (Wk.ofKB (j := EXT) (q := 1) rfl rfl rfl rfl) ?_
  (refine wlk ?_)
  (refine SqA.b1 (op_bsT (T := TB) (f := Sp.d) [(⟨rule, frm, c⟩ : Sp)] rfl rfl rfl rfl rfl rfl rfl rfl rfl rfl rfl) rfl rfl ?_)
  (refine wlE ?_)
  refine dwp_isOB (j := EXT) (q := 1) rfl rfl rfl ⟨0, rfl⟩ fun v' => ?_
  (refine wlk ?_)
  (refine SqA.b1 (op_lenKT (T := TB) (f := Sp.d) (l := st ++ [(⟨rule, frm, c⟩ : Sp)]) (tp := 0) (j := EXT) (q := 1) rfl rfl rfl rfl rfl rfl rfl rfl) rfl rfl ?_)
  rw [hlen]
  by_cases hc0 : c.length = 0
  · by_cases hf0 : fo < 0
    · rw [if_pos ⟨hc0, hf0⟩]
      (refine wlk ?_)
      refine fin_wk (fun n => Wk.ofKB (j := EXT) (q := 1) rfl rfl rfl rfl) ?_
      (refine wbT ?_)
      rw [e3]
      exact XB rfl rfl
    · rw [if_neg (fun h => hf0 h.2)]
      (refine wlk ?_)
      refine fin_wk (fun n => Wk.ofKB (j := EXT) (q := 1) rfl rfl rfl rfl) ?_
      (refine wbT ?_)
      rw [e3]
      exact XB rfl rfl
  · rw [if_neg (fun h => hc0 h.1)]
    (refine wlk ?_)
    refine fin_wk (fun n => Wk.ofKB (j := EXT) (q := 1) rfl rfl rfl rfl) ?_
    (refine wbT ?_)
    rw [e3]
    exact XB rfl rfl
end Go.Proofs.YtmanhdacnkpclaaGreat
/- What functions do: what a search knows already. -/
namespace Go.Proofs.YtmanhdacnkpclaaGreat
set_option linter.all false
open Go.RowKit
set_option maxHeartbeats 4000000 in
set_option maxRecDepth 100000 in
theorem idxFI2 (f : FuncId) (f1 f2 : List FC) (p : Int → Bool) (hf : enters Tryz.prog f = true) (l : List Int) (hp : ∀ x ∈ l, FnD Tryz.prog f [iA x, .c (.fp f1), .c (.fp f2)] (.one (bA (p x)))) :
    FnD Tryz.prog 123 [lA Int.d l, .c (.fnv f [f1, f2])] (.one (iA (idxP p 0 l))) := by
  refine Fn.of Tryz.func123 rfl Tryz.ntmps123 rfl (Nat.le_of_ble_eq_true rfl) ?_
  refine dwp_len (t := 0) rfl fun hbl => ?_
  rw [List.length_map] at hbl
  (refine wlk ?_)
  refine dwp_loop (fun k : Nat => [(.t 0, some (.one (lA Int.d l))), (.t 1, some (.one (.c (.fnv f [f1, f2])))), (.t 7, some (.one (iA l.length))), (.t 8, some (.one (iA k)))])
    (fun k => k ≤ l.length ∧ ∀ j x, j < k → l[j]? = some x → p x = false) (fun k => l.length - k) 0 ⟨by omega, fun j x h => absurd h (by omega)⟩ fgs ?_
  rintro k ⟨hk, hno⟩
  by_cases hkl : k < l.length
  · obtain ⟨x, hx⟩ := get_of_lt hkl
    have hc := hp x (List.mem_of_getElem? hx)
    cases e : p x
    · rw [e] at hc
      (refine wlk ?_)
      (refine SqA.b1 (op_callV none rfl rfl rfl hf (FnD.use (hc)) rfl rfl rfl rfl rfl rfl) rfl rfl ?_)
      (refine wlk ?_)
      exact ⟨k + 1, ⟨by omega, upto_succ hno hx e⟩, fgs, by omega⟩
    · rw [e] at hc
      (refine wlk ?_)
      (refine SqA.b1 (op_callV none rfl rfl rfl hf (FnD.use (hc)) rfl rfl rfl rfl rfl rfl) rfl rfl ?_)
      (refine wlk ?_)
      (refine wfT ?_)
      exact Xi (b := k) (by rw [idxP_at hno hx e, Nat.zero_add])
  · have : k = l.length := by omega
    subst this
    (refine wlk ?_)
    (refine wfT ?_)
    exact Xi (b := -1) (by rw [idxP_no (any_upto hno)])
set_option maxRecDepth 100000 in
theorem contFI2 (f : FuncId) (f1 f2 : List FC) (p : Int → Bool) (hf : enters Tryz.prog f = true) (l : List Int) (hp : ∀ x ∈ l, FnD Tryz.prog f [iA x, .c (.fp f1), .c (.fp f2)] (.one (bA (p x)))) :
    FnD Tryz.prog 87 [lA Int.d l, .c (.fnv f [f1, f2])] (.one (bA (l.any p))) := by
  refine Fn.of Tryz.func87 rfl Tryz.ntmps87 rfl (Nat.le_of_ble_eq_true rfl) ?_
  have hc := idxFI2 f f1 f2 p hf l hp
  cases e : l.any p
  · have h0 := idxP_no (p := p) (i := 0) (any_no e)
    (refine wlk ?_)
    (refine wlC hc ?_)
    (refine wlk ?_)
    (refine wfT ?_)
    rfl
  · have h0 := idxP_any (p := p) (i := 0) e
    (refine wlk ?_)
    (refine wlC hc ?_)
    (refine wlk ?_)
    (refine wfT ?_)
    rfl
structure PfOk (S : List Int) (p : Pf) : Prop where
  len : p.steps.length ≤ 120
  cok : ∀ x ∈ p.steps, COk S x.cl
  act : ∀ k ∈ p.active, 0 ≤ k ∧ k < p.steps.length
  wai : ∀ k ∈ p.wait, 0 ≤ k ∧ k < p.steps.length
theorem PfOk.at {S : List Int} {p : Pf} (h : PfOk S p) {k : Int} (hk : 0 ≤ k ∧ k < p.steps.length) : ∃ i : Nat, k = (i : Int) ∧ p.steps[i]? = some (stAt p.steps k) ∧ clAt p k = (stAt p.steps k).cl ∧ COk S (stAt p.steps k).cl := by
  obtain ⟨i, rfl⟩ := Int.eq_ofNat_of_zero_le hk.1
  have hi : i < p.steps.length := by have := hk.2; omega
  have e : p.steps[i]? = some (stAt p.steps (i : Int)) := by
    unfold stAt
    rw [List.getD_eq_getElem?_getD, Int.toNat_natCast, List.getElem?_eq_getElem hi]; rfl
  exact ⟨i, rfl, e, rfl, h.cok _ (List.mem_of_getElem? e)⟩
set_option maxRecDepth 100000 in
theorem sknown1 {S : List Int} {p : Pf} (h : PfOk S p) {k : Int} (hk : 0 ≤ k ∧ k < p.steps.length) (c : List Lt) : FnD Tryz.prog 88 [iA k, .c (.fp [.ptr (pfL p)]), .c (.fp [.arr (c.map Lt.d)])] (.one (bA (covers (clAt p k) c))) := by
  obtain ⟨i, rfl, hx, e, hco⟩ := h.at hk
  rw [e]
  have hcl := hco.len
  have g := pCovers (stAt p.steps (i : Int)).cl c hco.size (by omega)
  refine Fn.of Tryz.func88 rfl Tryz.ntmps88 rfl (Nat.le_of_ble_eq_true rfl) ?_
  (refine wlk ?_)
  (refine wlC g ?_)
  (refine wlk ?_)
  (refine wfT ?_)
  rfl
set_option maxRecDepth 100000 in
theorem scome1 {S : List Int} {p : Pf} (h : PfOk S p) {k : Int} (hk : 0 ≤ k ∧ k < p.steps.length) (c : List Lt) : FnD Tryz.prog 93 [iA k, .c (.fp [.ptr (pfL p)]), .c (.fp [.arr (c.map Lt.d)])] (.one (bA (clSame (clAt p k) c))) := by
  obtain ⟨i, rfl, hx, e, hco⟩ := h.at hk
  rw [e]
  have hcl := hco.len
  have g := psameClause (stAt p.steps (i : Int)).cl c
  refine Fn.of Tryz.func93 rfl Tryz.ntmps93 rfl (Nat.le_of_ble_eq_true rfl) ?_
  (refine wlk ?_)
  (refine wlC g ?_)
  (refine wlk ?_)
  (refine wfT ?_)
  rfl
set_option maxRecDepth 100000 in
theorem sknown {S : List Int} {p : Pf} (h : PfOk S p) (c : List Lt) : FnD Tryz.prog 50 [pfF p, lA Lt.d c] (.one (bA (known p c))) := by
  have g := contFI2 88 [.ptr (pfL p)] [.arr (c.map Lt.d)] (fun k => covers (clAt p k) c) (by kernel_rfl) p.active fun k hk => sknown1 h (h.act k hk) c
  refine Fn.of Tryz.func50 rfl Tryz.ntmps50 rfl (Nat.le_of_ble_eq_true rfl) ?_
  (refine wlR ?_)
  refine dwp_wk (Wk.frzF (t := 2) (j := 2) (fs := [.ptr (pfL p)]) rfl rfl rfl rfl rfl) ?_
  refine dwp_wk (Wk.frzF (t := 3) (j := 3) (fs := [.arr (c.map Lt.d)]) rfl rfl rfl rfl rfl) ?_
  (refine wlk ?_)
  (refine SqA.b1 (op_mkFn rfl rfl rfl) rfl rfl ?_)
  (refine wlk ?_)
  (refine wlC g ?_)
  (refine wlk ?_)
  (refine wfT ?_)
  rfl
end Go.Proofs.YtmanhdacnkpclaaGreat
/- What functions do: a search's active units. -/
namespace Go.Proofs.YtmanhdacnkpclaaGreat
set_option linter.all false
open Go.RowKit
theorem filter_take {p : Int → Bool} {l : List Int} {k : Nat} {x : Int} (h : l[k]? = some x) : (l.take (k + 1)).filter p = (l.take k).filter p ++ (if p x then [x] else []) := by
  rw [List.take_add_one, h, List.filter_append]
  simp only [Option.toList_some, List.filter_cons, List.filter_nil]
abbrev usK (p : Pf) (k : Nat) : List Int := (p.active.take k).filter fun j => unit (clAt p j)
theorem usK_len (p : Pf) (k : Nat) : (usK p k).length ≤ p.active.length := Nat.le_trans (List.length_filter_le ..) (by rw [List.length_take]; omega)
set_option maxHeartbeats 4000000 in
set_option maxRecDepth 100000 in
theorem sunits {S : List Int} {p : Pf} (h : PfOk S p) (hal : p.active.length ≤ 1000) :
    FnB Tryz.prog 48 [.c (.ptr EXT 0)] (pfBox p) (.tup [lA Int.d (unitsK p), lA Cl.d ((unitsK p).map (clAt p))]) (pfBox p) := by
  refine Fn.of Tryz.func48 rfl Tryz.ntmps48 rfl (Nat.le_of_ble_eq_true rfl) ?_
  refine dwp_isOB (j := EXT) (q := 1) rfl rfl rfl ⟨0, rfl⟩ fun vs => ?_
  refine dwp_isOB (j := EXT) (q := 2) rfl rfl rfl ⟨0, rfl⟩ fun va => ?_
  (refine wlk ?_)
  (refine SqA.b1 (op_lenKT (T := TB) (f := Int.d) (l := p.active) (tp := 0) (j := EXT) (q := 2) rfl rfl rfl rfl rfl rfl rfl rfl) rfl rfl ?_)
  (refine wlk ?_)
  refine dwp_loop (fun k : Nat => [(.t 0, some (.one (.c (.ptr EXT 0)))), (.b EXT, some (.box [.arr (p.sig.map Int.d), .ownK vs 41 3 (p.steps.map Sp.d), .ownK va 3 1 (p.active.map Int.d), .own 3 1 (p.wait.map Int.d), .val (.int .i64 p.found), .val (.bool p.lost)])),
      (.t 4, some (.one (.c (.own 3 1 ((usK p k).map Int.d))))), (.t 5, some (.one (.c (.own 39 1 (((usK p k).map (clAt p)).map Cl.d))))), (.t 13, some (.one (.c (.val va)))), (.t 14, some (.one (iA p.active.length))), (.t 15, some (.one (iA k)))])
    (fun k => k ≤ p.active.length) (fun k => p.active.length - k) 0 (by omega) ((Wk.nilOwn (d := 4) (E := 3) (m := 1) rfl).trans ((Wk.nilOwn (d := 5) (E := 39) (m := 1) rfl).trans fgs)) ?_
  intro k hk
  by_cases hkl : k < p.active.length
  rotate_left
  · have : k = p.active.length := by omega
    subst this
    have e1 : usK p p.active.length = unitsK p := by unfold usK unitsK; rw [List.take_length]
    rw [e1]
    refine dwp_wk (Wk.ofKB (j := EXT) (q := 1) rfl rfl rfl rfl) ?_
    refine dwp_wk (Wk.ofKB (j := EXT) (q := 2) rfl rfl rfl rfl) ?_
    (refine wlk ?_)
    refine fin_wk (fun n => Wk.freezeAt (d := 2) rfl) ?_
    refine fin_wk (fun n => Wk.freezeAt (d := 3) rfl) ?_
    (refine wbTT ?_)
    exact XB rfl rfl
  obtain ⟨x, hx⟩ := get_of_lt hkl
  obtain ⟨i, rfl, hst, hcl, hco⟩ := h.at (h.act x (List.mem_of_getElem? hx))
  have hil := (List.getElem?_eq_some_iff.1 hst).1
  have hf := filter_take (p := fun j => unit (clAt p j)) hx
  have hul := usK_len p k
  have g := punit (clAt p (i : Int))
  have hcc : (spG (stAt p.steps (i : Int)))[2]? = some (.arr ((clAt p (i : Int)).map Lt.d)) := rfl
  (refine wlk ?_)
  (refine SqA.b1 (op_idxK (T := TB) (tp := 0) (j := EXT) (q := 2) (k := k) (q' := k) rfl rfl rfl rfl rfl rfl rfl rfl rfl rfl (by simp; omega) (Nat.mul_one k)) rfl rfl ?_)
  (refine SqA.b1 (op_loadKE (f := Int.d) (l := p.active) (x := (i : Int)) (k := k) (tp := 0) (j := EXT) (q := 2) rfl rfl (rw_of rfl) rfl rfl rfl rfl rfl hx rfl rfl) rfl rfl ?_)
  (refine wlk ?_)
  (refine SqA.b1 (op_idxK (T := TB) (tp := 0) (j := EXT) (q := 1) (k := i) (q' := i * 3) rfl rfl rfl rfl rfl rfl rfl rfl rfl rfl (by simp; omega) rfl) rfl rfl ?_)
  (refine SqA.b1 (op_fldK (tp := 0) (j := EXT) (q := 1) (k := i * 3) (off := 2) rfl rfl (fo_of rfl) rfl rfl rfl rfl rfl (by simp; omega)) rfl rfl ?_)
  (refine SqA.b1 (op_loadKR (f := Sp.d) (g := spG) (l := p.steps) (x := stAt p.steps (i : Int)) (k := i) (r := 2) (tp := 0) (j := EXT) (q := 1) rfl rfl (rw_of rfl) rfl rfl rfl rfl rfl rfl hst hcc rfl) rfl rfl ?_)
  (refine wlk ?_)
  cases hu : unit (clAt p (i : Int))
  · rw [hu] at g
    simp only [hu] at hf
    have hk1 : usK p (k + 1) = usK p k := by unfold usK; rw [hf]; simp
    (refine wlC g ?_)
    (refine wlk ?_)
    refine ⟨k + 1, by omega, ?_, by omega⟩
    rw [hk1]
    exact fgs
  · rw [hu] at g
    simp only [hu] at hf
    have hk1 : usK p k ++ [(i : Int)] = usK p (k + 1) := by unfold usK; rw [hf]; simp
    have hk2 : (usK p k).map (clAt p) ++ [clAt p (i : Int)] = (usK p (k + 1)).map (clAt p) := by rw [← hk1, List.map_append]; rfl
    have hul2 := usK_len p (k + 1)
    have hml : ((usK p (k + 1)).map (clAt p)).length ≤ 1000 := by rw [List.length_map]; omega
    (refine wlC g ?_)
    (refine wlk ?_)
    (refine SqA.b1 (op_bsT (T := TB) (f := Int.d) [(i : Int)] rfl rfl rfl rfl rfl rfl rfl rfl rfl rfl rfl) rfl rfl ?_)
    (refine SqA.b2 (op_appT (T := TB) rfl rfl rfl rfl rfl hk1 (by omega) (by decide)) rfl rfl ?_)
    (refine wlk ?_)
    (refine SqA.b1 (op_bsT (T := TB) (f := Cl.d) [clAt p (i : Int)] rfl rfl rfl rfl rfl rfl rfl rfl rfl rfl rfl) rfl rfl ?_)
    (refine SqA.b2 (op_appT (T := TB) rfl rfl rfl rfl rfl hk2 (by omega) (by decide)) rfl rfl ?_)
    (refine wlk ?_)
    exact ⟨k + 1, by omega, fgs, by omega⟩
end Go.Proofs.YtmanhdacnkpclaaGreat
namespace Go.Proofs.YtmanhdacnkpclaaGreat
set_option linter.all false
open Go.RowKit
theorem UInv.asize24 {root : Tm} {s : List Pr} {todo : List (Tm × Tm)} (h : UInv root s todo) {t : Tm} (hk : t.okv = true) (hf : Go.Proofs.YtmanhdacnkpclaaGreat.few t) (hz : t.size ≤ 24) : (app s t).size ≤ 1486016741376 := by
  have h1 : (app s t).size ≤ t.size * 12 ^ 10 := by
    refine size_app_le (Nat.pow_pos (by omega)) t hk fun n hn => ?_
    obtain ⟨h0, h9⟩ := hf n hn
    obtain ⟨w, rfl⟩ := Int.eq_ofNat_of_zero_le h0
    refine Nat.le_trans (h.gsize _ w rfl) (Nat.pow_le_pow_right (by omega) ?_)
    have := cnt_full (p := fun x => decide ((appV s (x : Int)).size < (appV s w).size)) (k := 10) (i := w) (by omega) (by simp)
    omega
  have h2 : t.size * 12 ^ 10 ≤ 24 * 12 ^ 10 := Nat.mul_le_mul_right _ hz
  omega
structure AddOk (s : List Pr) (c : List Lt) : Prop where
  slen : s.length ≤ 1000000
  sz : clSz c
  len : c.length ≤ 1000
  okv : clOkv (each (app s) c)
  few : clFew (each (app s) c)
  sz2 : clSz (each (app s) c)
theorem addOk_of {S : List Int} {a b : Tm} {s : List Pr} {c : List Lt} (ha : Old a) (hb : Old b) (ga : a.ar S = true) (gb : b.ar S = true) (hs : unify a b = some s) (hc : clGood S c) (hl : c.length ≤ 1000) (hz : ∀ l ∈ c, l.left.size ≤ 24 ∧ l.right.size ≤ 24) : AddOk s c := by
  have hi := unifyF_inv _ _ _ s (UInv.start ha hb) hs
  have har := unify_ar ga ha.few gb hb.few hs
  have hg := hc.each har.1 har.2
  refine ⟨unify_len ha hb hs, fun l h => ?_, hl, hg.1.okv, hg.2, fun l h => ?_⟩
  · have := hz l h; omega
  · simp only [each, List.mem_map] at h
    obtain ⟨k, hk, rfl⟩ := h
    have h1 := hi.asize24 (hc.1.okv k hk).1 (hc.2 k hk).1 (hz k hk).1
    have h2 := hi.asize24 (hc.1.okv k hk).2 (hc.2 k hk).2 (hz k hk).2
    simp only
    omega
theorem uok_of {a b : Tm} {s : List Pr} (ha : Old a) (hb : Old b) (hs : unify a b = some s) {t : Tm} (ht : Old t) : (app s t).size ≤ 1486016741376 ∧ (app s t).okv = true := by
  have hi := unifyF_inv _ _ _ s (UInv.start ha hb) hs
  exact ⟨hi.asize24 ht.okv ht.few (by have := ht.size; omega), app_okv hi.idem.1 t ht.okv⟩
structure CG (S : List Int) (c : List Lt) : Prop where
  len : c.length ≤ 4
  good : clGood S c
  size : ∀ l ∈ c, l.left.size ≤ 12 ∧ l.right.size ≤ 12
theorem COk.cg {S : List Int} {c : List Lt} (h : COk S c) : CG S c := ⟨h.len, h.wf.good, h.size⟩
theorem COk.cgr {S : List Int} {c : List Lt} (h : COk S c) : CG S (each (ren 5) c) := by
  refine ⟨by simp [each]; exact h.len, h.wf.ren, fun l hl => ?_⟩
  simp only [each, List.mem_map] at hl
  obtain ⟨k, hk, rfl⟩ := hl
  have := h.size k hk
  simp only [size_ren]
  exact this
theorem CG.old {S : List Int} {c : List Lt} (h : CG S c) {i : Nat} {l : Lt} (hl : c[i]? = some l) : (Old l.left ∧ l.left.ar S = true) ∧ (Old l.right ∧ l.right.ar S = true) := by
  have hm := List.mem_of_getElem? hl
  have h1 := h.good.at hl
  have h2 := h.size l hm
  exact ⟨⟨⟨Tm.ar_okv _ h1.1.1, h2.1, h1.1.2⟩, h1.1.1⟩, ⟨Tm.ar_okv _ h1.2.1, h2.2, h1.2.2⟩, h1.2.1⟩
theorem CG.way {S : List Int} {c : List Lt} (h : CG S c) {i : Nat} {l : Lt} (hl : c[i]? = some l) {a : Tm × Tm} (ha : a ∈ waysL l) : (Old a.1 ∧ a.1.ar S = true) ∧ (Old a.2 ∧ a.2.ar S = true) := by
  have := h.old hl
  rcases ways_mem ha with rfl | rfl
  · exact this
  · exact this.symm
theorem CG.erase {S : List Int} {c : List Lt} (h : CG S c) (i : Nat) : CG S (c.eraseIdx i) :=
  ⟨Nat.le_trans (List.length_eraseIdx_le ..) h.len, h.good.sub fun l hl => List.mem_of_mem_eraseIdx hl, fun l hl => h.size l (List.mem_of_mem_eraseIdx hl)⟩
theorem CG.resolve {S : List Int} {c : List Lt} (h : CG S c) {i : Nat} {l : Lt} {s : List Pr} (hl : c[i]? = some l) (hs : unify l.left l.right = some s) : AddOk s (c.eraseIdx i) := by
  have ho := h.old hl
  have he := h.erase i
  refine addOk_of ho.1.1 ho.2.1 ho.1.2 ho.2.2 hs he.good (by have := he.len; omega) fun l hl => ?_
  have := he.size l hl
  omega
theorem CG.factor {S : List Int} {c : List Lt} (h : CG S c) {i j : Nat} {x y : Lt} {a b : Tm × Tm} {s : List Pr} (hx : c[i]? = some x) (hy : c[j]? = some y) (ha : a ∈ waysL x) (hb : b ∈ waysL y) (hs : unify a.1 b.1 = some s) : AddOk s (c.eraseIdx i ++ [⟨true, a.2, b.2⟩]) := by
  have o1 := h.way hx ha
  have o2 := h.way hy hb
  have he := h.erase i
  refine addOk_of o1.1.1 o2.1.1 o1.1.2 o2.1.2 hs (factor_good h.good hx hy ha hb) (by have := he.len; simp; omega) fun l hl => ?_
  rcases List.mem_append.1 hl with hl | hl
  · have := he.size l hl; omega
  · simp only [List.mem_singleton] at hl
    subst hl
    have h1 := o1.2.1.size
    have h2 := o2.2.1.size
    simp only
    omega
theorem CG.sup {S : List Int} {c d : List Lt} (h : CG S c) (hd : CG S d) {i j : Nat} {x y : Lt} {a : Tm × Tm} {side : Bool} {p : List Int} {s : List Pr} (hx : c[i]? = some x) (hy : d[j]? = some y) (ha : a ∈ waysL x) (hp : p ∈ places (turnL side y).left)
    (hs : unify a.1 (at_ (turnL side y).left p).1 = some s) : AddOk s (supCl c d i j y a side p) := by
  have o1 := h.way hx ha
  have gy := turn_good hd.good hy side
  have hso : (turnL side y).left.size ≤ 12 ∧ (turnL side y).right.size ≤ 12 := by
    have := hd.size y (List.mem_of_getElem? hy)
    cases side
    · exact this
    · exact this.symm
  have hk : (turnL side y).left.okv = true := Tm.ar_okv _ gy.1.1
  have hat := at_place p (turnL side y).left hk hp
  have oat : Old (at_ (turnL side y).left p).1 := ⟨hat.2.2.1, by have := hat.2.2.2.2; omega, few_at hk gy.1.2 hp⟩
  have he := h.erase i
  refine addOk_of o1.1.1 oat o1.1.2 (at_ar p _ gy.1.1 hp) hs (supCl_good h.good hd.good hx hy ha hp) (by have := he.len; have := hd.len; simp [supCl]; omega) fun l hl => ?_
  rcases List.mem_append.1 hl with hl | hl
  · have := he.size l hl; omega
  · rcases List.mem_or_eq_of_mem_set hl with hl | rfl
    · have := hd.size l hl; omega
    · have h1 := size_put p (turnL side y).left a.2 hp
      have h2 := o1.2.1.size
      cases side
      · exact ⟨by show (put (turnL false y).left p a.2).size ≤ 24; omega, by show (turnL false y).right.size ≤ 24; omega⟩
      · exact ⟨by show (turnL true y).right.size ≤ 24; omega, by show (put (turnL true y).left p a.2).size ≤ 24; omega⟩
theorem addR_len (m : Mk) (s : List Pr) (c : List Lt) : (addR m s c).1.length ≤ m.1.length + 1 := by
  unfold addR
  split
  split
  · simp only; omega
  · split
    · split
      · omega
      · simp
    · omega
theorem sup1_len (a : Tm × Tm) (rest d : List Lt) (j : Nat) (y : Lt) (side : Bool) (w : Tm × Tm) (m : Mk) (p : List Int) : (sup1 a rest d j y side w m p).1.length ≤ m.1.length + 1 := by
  unfold sup1
  split
  · omega
  · split
    · omega
    · exact addR_len ..
theorem CG.turn {S : List Int} {c : List Lt} (h : CG S c) {i : Nat} {l : Lt} (hl : c[i]? = some l) (b : Bool) : (Old (turnL b l).left ∧ (turnL b l).left.ar S = true) ∧ (Old (turnL b l).right ∧ (turnL b l).right.ar S = true) := by
  have := h.old hl
  cases b
  · exact this
  · exact this.symm
theorem Old.at {S : List Int} {t : Tm} {p : List Int} (h : Old t) (ha : t.ar S = true) (hp : p ∈ places t) : Old (at_ t p).1 := by
  have hat := at_place p t h.okv hp
  exact ⟨hat.2.2.1, by have := hat.2.2.2.2; have := h.size; omega, few_at h.okv h.few hp⟩
theorem foldl_len {α : Type} {f : Mk → α → Mk} (hf : ∀ m a, (f m a).1.length ≤ m.1.length + 1) : ∀ (l : List α) (m : Mk), (l.foldl f m).1.length ≤ m.1.length + l.length
  | [], m => by simp
  | a :: l, m => by
    have h1 := foldl_len hf l (f m a)
    have h2 := hf m a
    simp only [List.foldl_cons, List.length_cons]
    omega
theorem sup2_len {S : List Int} {d : List Lt} (hd : CG S d) (a : Tm × Tm) (rest : List Lt) {j : Nat} {y : Lt} (hy : d[j]? = some y) (m : Mk) (side : Bool) : (sup2 a rest d j y m side).1.length ≤ m.1.length + 12 := by
  have h1 := foldl_len (fun m p => sup1_len a rest d j y side ((turnL side y).left, (turnL side y).right) m p) (places (turnL side y).left) m
  have h2 := places_len (turnL side y).left
  have h3 := (hd.turn hy side).1.1.size
  unfold sup2
  omega
theorem sup3_len {S : List Int} {d : List Lt} (hd : CG S d) (a : Tm × Tm) (rest : List Lt) (m : Mk) (j : Nat) : (sup3 a rest d m j).1.length ≤ m.1.length + 24 := by
  unfold sup3
  split
  · omega
  · rename_i y hy
    have h1 := sup2_len hd a rest hy m false
    have h2 := sup2_len hd a rest hy (sup2 a rest d j y m false) true
    simp only [List.foldl_cons, List.foldl_nil]
    omega
theorem side_at {s : Nat} (hs : s < 2) (y : Lt) : ∃ side : Bool, [false, true][s]? = some side ∧ (waysL y)[s]? = some ((turnL side y).left, (turnL side y).right) ∧ ((s = 1 ∧ side = true) ∨ (s = 0 ∧ side = false)) := by
  rcases (show s = 0 ∨ s = 1 by omega) with rfl | rfl
  · exact ⟨false, rfl, rfl, .inr ⟨rfl, rfl⟩⟩
  · exact ⟨true, rfl, rfl, .inl ⟨rfl, rfl⟩⟩
theorem range_fold {β : Type} (f : β → Nat → β) (b : β) (k : Nat) : (List.range (k + 1)).foldl f b = f ((List.range k).foldl f b) k := by
  rw [List.range_succ, List.foldl_append]; rfl
theorem fold_take {α β : Type} (f : β → α → β) (b : β) {l : List α} {k : Nat} {a : α} (h : l[k]? = some a) : (l.take (k + 1)).foldl f b = f ((l.take k).foldl f b) a := by
  rw [List.take_add_one, h, List.foldl_append]; rfl
theorem fold_all {α β : Type} (f : β → α → β) (b : β) {l : List α} {k : Nat} (h : l.length ≤ k) : (l.take k).foldl f b = l.foldl f b := by rw [List.take_of_length_le h]
theorem range_drop {n i d : Nat} (h : i + d < n) : ((List.range n).drop i)[d]? = some (i + d) := by
  rw [List.getElem?_drop, List.getElem?_range h]
theorem factor1_len (rest : List Lt) (a : Tm × Tm) (m : Mk) (b : Tm × Tm) : (factor1 rest a m b).1.length ≤ m.1.length + 1 := by
  unfold factor1
  split
  · exact addR_len ..
  · omega
theorem resolve1_len (c : List Lt) (m : Mk) (i : Nat) : (resolve1 c m i).1.length ≤ m.1.length + 1 := by
  unfold resolve1
  split
  · omega
  · split
    · split
      · exact addR_len ..
      · omega
    · omega
theorem resolve_len (c : List Lt) (k : Nat) : ((List.range k).foldl (resolve1 c) (([], false) : Mk)).1.length ≤ k := by
  induction k with
  | zero => simp
  | succ k ih => rw [range_fold]; have := resolve1_len c ((List.range k).foldl (resolve1 c) ([], false)) k; omega
end Go.Proofs.YtmanhdacnkpclaaGreat
namespace Go.Proofs.YtmanhdacnkpclaaGreat
set_option linter.all false
open Go.RowKit
section
variable {P : Program} {n : Nat} {o : Oper} {σ : St}
theorem Op1.bkIn {i : Info} {δ : St} {t tp j : Nat} {v : Value} (ht : St.get σ (.t t) = some (.one (.c (.val v)))) (hk : St.get σ (.t tp) = some (.one (.c (.isB v j)))) (h : Op1 P n o i ((.t t, some (.one (.c (.ptr j 0)))) :: σ) δ) :
    Op1 P n o ⟨.t t :: .t tp :: .b j :: i.rd, .t t :: i.wr, i.al⟩ σ (δ ++ [(.t t, some (.one (.c (.ptr j 0))))]) where
  does := fun σ' hag hal C who x w hr hdst K Q hK => by
    have ht' : St.get σ' (.t t) = some (.one (.c (.val v))) := (hag _ (by simp)).trans ht
    have hk' : St.get σ' (.t tp) = some (.one (.c (.isB v j))) := (hag _ (by simp)).trans hk
    have e1 : x.tmps.getD t undef = v := hr.slot t _ ht'
    obtain ⟨e2, b, e3, hb⟩ := hr.slot tp _ hk'
    rw [e2] at e3
    have hr' : Rep n C who ((.t t, some (.one (.c (.ptr j 0)))) :: σ') x w := hr.addSlot (t := t) (x := .one (.c (.ptr j 0))) ⟨b, e1.trans e3, hb⟩
    have hj : j ∈ St.ids σ' := St.ids_get hk' (by simp [X.ids, A1.ids, CV.ids])
    refine h.does ((.t t, some (.one (.c (.ptr j 0)))) :: σ') (fun k hk => ?_) (fun j' hj' hm => ?_) C who x w hr' hdst K Q (fun w1 v w' hr1 => hK w1 v w' ?_)
    · rcases Classical.em (Key.t t = k) with rfl | hne
      · rw [St.get_same, St.get_same]
      · rw [St.get_ne (by simpa using hne), St.get_ne (by simpa using hne)]
        exact hag k (by simp [hk])
    · have h1 : j' = j ∨ j' ∈ St.ids σ' := by simpa [St.ids, oids, X.ids, A1.ids, CV.ids] using hm
      rcases h1 with rfl | h1
      · exact hal _ hj' hj
      · exact hal _ hj' h1
    · rw [List.append_assoc]; exact hr1
  wr := fun e he => by
    rcases List.mem_append.1 he with he | he
    · exact List.mem_cons_of_mem _ (h.wr e he)
    · simp at he; subst he; simp
  me := fun j' hj => by
    have h1 : j' ∈ St.ids δ ∨ j' = j := by simpa [St.ids, oids, X.ids, A1.ids, CV.ids] using hj
    rcases h1 with h1 | rfl
    · rcases h.me j' h1 with h2 | h2
      · exact .inl (by simp [h2])
      · exact .inr h2
    · exact .inl (by simp)
  al := fun j hj => List.mem_cons_of_mem _ (h.al j hj)
theorem lend_boxV {L : Tag → Prop} {s : Operand} {j tp : Nat} {v : Value} {cs : List CV} {l : List F0} (hs : St.ev σ s = some (.one (.c (.val v)))) (hk : St.get σ (.t tp) = some (.one (.c (.isB v j)))) (hb : St.get σ (.b j) = some (.box cs)) (hl : lents cs = some l) (hmc : Nat.ble j EXT = true) (hL0 : L (.bx j)) (hL : ∀ q, L (.own (.b j) 0 q)) :
    Lend n σ L (opKey s ++ [.t tp, .b j]) s (.c (.fp (l.map F0.fc))) := fun σ' hag C who a w hr k p => by
  have e : a.eval s = v := hr.ev ((ev_agree fun k hk => hag k (List.mem_append_left _ hk)).trans hs)
  obtain ⟨e2, b, e3, hbw⟩ := hr.slot tp _ ((hag (.t tp) (by simp)).trans hk)
  rw [e2] at e3
  refine ⟨b, 0, e.trans e3, lendT_in hbw (by simp) hL0, fun i c hi => ?_⟩
  rw [List.getElem?_map, Option.map_eq_some_iff] at hi
  obtain ⟨e0, he, rfl⟩ := hi
  obtain ⟨x, hx, hm⟩ := lent_cells hr hbw ((hag (.b j) (by simp)).trans hb) hl hmc hL i e0 he
  exact ⟨x, hx, f0m.fc.1 hm⟩
end
def LX : Tag → Prop := fun t => t = .bx EXT ∨ ∃ q, t = .own (.b EXT) 0 q
theorem LX0 : LX (.bx EXT) := .inl rfl
theorem LXq (q : Nat) : LX (.own (.b EXT) 0 q) := .inr ⟨q, rfl⟩
structure PfGo (S : List Int) (p : Pf) : Prop where
  ok : PfOk S p
  aw : p.active.length + p.wait.length ≤ p.steps.length
theorem stepP_ok {S : List Int} {p : Pf} (h : PfOk S p) (rule : Int) (frm : List Int) {c : List Lt} (hc : COk S c) : PfOk S (stepP p rule frm c).1 := by
  unfold stepP
  split
  · exact ⟨h.len, h.cok, h.act, h.wai⟩
  · rename_i h1
    have hl := h.len
    have hle : (p.steps ++ [(⟨rule, frm, c⟩ : Sp)]).length = p.steps.length + 1 := by simp
    refine ⟨by simp only [hle]; omega, fun x hx => ?_, fun k hk => ?_, fun k hk => ?_⟩
    · rcases List.mem_append.1 hx with hx | hx
      · exact h.cok x hx
      · simp only [List.mem_singleton] at hx; subst hx; exact hc
    · have := h.act k hk; simp only [hle]; omega
    · have := h.wai k hk; simp only [hle]; omega
theorem come1_ok {S : List Int} {p : Pf} (h : PfGo S p) (rule : Int) (frm : List Int) {c : List Lt} (hc : COk S c) : PfGo S (come1 rule frm p c) := by
  unfold come1
  split
  · exact h
  · by_cases h1 : 120 ≤ p.steps.length
    · have e : stepP p rule frm c = ({ p with lost := true }, false) := if_pos h1
      rw [e]
      exact ⟨⟨h.ok.len, h.ok.cok, h.ok.act, h.ok.wai⟩, h.aw⟩
    · have hs := stepP_ok h.ok rule frm hc
      have e : stepP p rule frm c = ({ p with steps := p.steps ++ [⟨rule, frm, c⟩], found := if c.length = 0 ∧ p.found < 0 then (p.steps.length : Int) else p.found }, true) := if_neg h1
      rw [e] at hs ⊢
      have hle : (p.steps ++ [(⟨rule, frm, c⟩ : Sp)]).length = p.steps.length + 1 := by simp
      refine ⟨⟨hs.len, hs.cok, hs.act, fun k hk => ?_⟩, ?_⟩
      · rcases List.mem_append.1 hk with hk | hk
        · exact hs.wai k hk
        · simp only [List.mem_singleton] at hk; subst hk
          simp only [hle]; omega
      · have := h.aw
        simp only [hle, List.length_append, List.length_cons, List.length_nil]; omega
theorem come1_skip {p : Pf} {rule : Int} {frm : List Int} {c : List Lt} (h : 0 ≤ p.found ∨ waits p c = true ∨ known p c = true) : come1 rule frm p c = p := if_pos h
theorem come1_full {p : Pf} {rule : Int} {frm : List Int} {c : List Lt} (h : ¬ (0 ≤ p.found ∨ waits p c = true ∨ known p c = true)) (h1 : 120 ≤ p.steps.length) : come1 rule frm p c = (stepP p rule frm c).1 := by
  unfold come1
  rw [if_neg h, show stepP p rule frm c = ({ p with lost := true }, false) from if_pos h1]
theorem come1_in {p : Pf} {rule : Int} {frm : List Int} {c : List Lt} (h : ¬ (0 ≤ p.found ∨ waits p c = true ∨ known p c = true)) (h1 : ¬ 120 ≤ p.steps.length) : come1 rule frm p c = { (stepP p rule frm c).1 with wait := p.wait ++ [(p.steps.length : Int)] } := by
  have e : stepP p rule frm c = ({ p with steps := p.steps ++ [⟨rule, frm, c⟩], found := if c.length = 0 ∧ p.found < 0 then (p.steps.length : Int) else p.found }, true) := if_neg h1
  unfold come1
  rw [if_neg h, e]
  simp
theorem stepP_in {p : Pf} {rule : Int} {frm : List Int} {c : List Lt} (h1 : ¬ 120 ≤ p.steps.length) : (stepP p rule frm c).1 = ⟨p.sig, p.steps ++ [⟨rule, frm, c⟩], p.active, p.wait, if c.length = 0 ∧ p.found < 0 then (p.steps.length : Int) else p.found, p.lost⟩ := by
  unfold stepP; rw [if_neg h1]
theorem stepP_full {p : Pf} {rule : Int} {frm : List Int} {c : List Lt} (h1 : 120 ≤ p.steps.length) : (stepP p rule frm c).1 = ⟨p.sig, p.steps, p.active, p.wait, p.found, true⟩ := by
  unfold stepP; rw [if_pos h1]
theorem come1_in2 {p : Pf} {rule : Int} {frm : List Int} {c : List Lt} (h : ¬ (0 ≤ p.found ∨ waits p c = true ∨ known p c = true)) (h1 : ¬ 120 ≤ p.steps.length) : come1 rule frm p c = ⟨p.sig, p.steps ++ [⟨rule, frm, c⟩], p.active, p.wait ++ [(p.steps.length : Int)], if c.length = 0 ∧ p.found < 0 then (p.steps.length : Int) else p.found, p.lost⟩ := by
  rw [come1_in h h1, stepP_in h1]
set_option maxHeartbeats 16000000 in
set_option maxRecDepth 100000 in
theorem scome {S : List Int} {p : Pf} (h : PfGo S p) (rule : Int) (frm : List Int) (l : List (List Lt)) (lost : Bool) (hl : ∀ c ∈ l, COk S c) :
    FnB Tryz.prog 52 [.c (.ptr EXT 0), iA rule, lA Int.d frm, lA Cl.d l, bA lost] (pfBox p) (.tup []) (pfBox (come p rule frm (l, lost))) := by
  refine Fn.of Tryz.func52 rfl Tryz.ntmps52 rfl (Nat.le_of_ble_eq_true rfl) ?_
  refine dwp_len (t := 3) (ds := l.map Cl.d) rfl fun hbl => ?_
  rw [List.length_map] at hbl
  refine dwp_isB (t := 0) (j := EXT) rfl fun pv => ?_
  have hg0 : PfGo S { p with lost := p.lost || lost } := ⟨⟨h.ok.len, h.ok.cok, h.ok.act, h.ok.wai⟩, h.aw⟩
  have hcome : come p rule frm (l, lost) = l.foldl (come1 rule frm) { p with lost := p.lost || lost } := rfl
  rw [hcome]
  clear hcome h
  obtain ⟨sg, st, ac, wa, fo, plo⟩ := p
  dsimp only at hg0 ⊢
  obtain ⟨p0, hp0⟩ : ∃ p0 : Pf, p0 = ⟨sg, st, ac, wa, fo, plo || lost⟩ := ⟨_, rfl⟩
  rw [← hp0] at hg0 ⊢
  (refine wlR ?_)
  refine dwp_wk (Wk.cellVal (j := 5) (q := 0) rfl rfl rfl) ?_
  refine dwp_wk (Wk.frzF (t := 5) (j := 5) (fs := [.val pv]) rfl rfl rfl rfl rfl) ?_
  cases plo
  all_goals (
    (refine wlk ?_)
    (refine SqA.b1 (op_nilBK (tp := 0) rfl rfl rfl rfl) rfl rfl ?_)
    (refine wlk ?_)
    (refine SqA.b1 (op_nilBK (tp := 0) rfl rfl rfl rfl) rfl rfl ?_)
    (refine wlk ?_)
    refine dwp_loop (fun x : Nat × Pf => [(.t 0, some (.one (.c (.isB pv EXT)))), (.t 16, some (.one (.c (.ptr EXT 0)))), (.b EXT, some (.box (pfBox x.2))), (.t 1, some (.one (iA rule))), (.t 2, some (.one (lA Int.d frm))), (.t 5, some (.one (.c (.fp [.val pv])))), (.t 26, some (.one (lA Cl.d l))), (.t 27, some (.one (iA l.length))), (.t 28, some (.one (iA x.1)))])
      (fun x => x.1 ≤ l.length ∧ x.2 = (l.take x.1).foldl (come1 rule frm) p0 ∧ PfGo S x.2) (fun x => l.length - x.1) (0, p0) ⟨by simp, rfl, hg0⟩ (by dsimp only; rw [hp0]; exact fgs) ?_
    rintro ⟨k, q⟩ ⟨hk, hq, hg⟩
    dsimp only at hk hq hg ⊢
    by_cases hkl : k < l.length
    rotate_left
    · rw [fold_all _ _ (by omega)] at hq
      rw [← hq]
      (refine wlk ?_)
      (refine wbU ?_)
      exact XB rfl rfl
    obtain ⟨c, hc⟩ := get_of_lt hkl
    have hco := hl c (List.mem_of_getElem? hc)
    have hnext := fold_take (come1 rule frm) p0 hc
    rw [← hq] at hnext
    have hgn := come1_ok hg rule frm hco
    have gw := contFI2 93 [.ptr (pfL q)] [.arr (c.map Lt.d)] (fun k => clSame (clAt q k) c) (by kernel_rfl) q.wait fun k hk => scome1 hg.ok (hg.ok.wai k hk) c
    have hww : (q.wait.any fun k => clSame (clAt q k) c) = waits q c := rfl
    rw [hww] at gw
    have gk := sknown hg.ok c
    have hlen := hg.ok.len
    have haw := hg.aw
    (refine wlN ?_)
    (refine wlE ?_)
    (refine wlN ?_)
    (refine wlE ?_)
    refine dwp_wk (Wk.frzF (t := 11) (j := 11) (fs := [.arr (c.map Lt.d)]) rfl rfl rfl rfl rfl) ?_
    refine dwp_isOB (j := EXT) (q := 3) rfl rfl rfl ⟨16, rfl⟩ fun vw => ?_
    (refine wlk ?_)
    (refine SqA.b1 (op_nilBK (tp := 0) rfl rfl rfl rfl) rfl rfl ?_)
    (refine wlk ?_)
    (refine SqA.b1 (op_mkFn rfl rfl rfl) rfl rfl ?_)
    (refine SqA.b1 (op_callL LX rfl rfl rfl (by kernel_rfl) gw (LendL.cons (lend_valB (j := EXT) (q := 3) (tp := 16) rfl rfl rfl rfl rfl (LXq 3)) (LendL.cons (lend_fnv (j := EXT) (tp := 0) rfl rfl rfl rfl rfl LX0 LXq) .nil)) rfl rfl) rfl rfl ?_)
    (refine wlE ?_)
    refine dwp_wk (Wk.ofKB (j := EXT) (q := 3) rfl rfl rfl rfl) ?_
    by_cases hf : 0 ≤ q.found
    · rw [come1_skip (.inl hf)] at hnext
      (refine wlk ?_)
      (refine SqA.b1 (op_nilBK (tp := 0) rfl rfl rfl rfl) rfl rfl ?_)
      (refine wlk ?_)
      exact ⟨(k + 1, q), ⟨by simp only; omega, hnext.symm, hg⟩, fgs, by simp only; omega⟩
    cases hw : waits q c
    rotate_left
    · rw [come1_skip (.inr (.inl hw))] at hnext
      (refine wlk ?_)
      (refine SqA.b1 (op_nilBK (tp := 0) rfl rfl rfl rfl) rfl rfl ?_)
      (refine wlk ?_)
      exact ⟨(k + 1, q), ⟨by simp only; omega, hnext.symm, hg⟩, fgs, by simp only; omega⟩
    cases hn : known q c
    rotate_left
    · rw [come1_skip (.inr (.inr hn))] at hnext
      rw [hn] at gk
      (refine wlk ?_)
      (refine SqA.b1 (op_nilBK (tp := 0) rfl rfl rfl rfl) rfl rfl ?_)
      (refine wlk ?_)
      (refine SqA.b1 (op_callL LX rfl rfl rfl (by kernel_rfl) gk (LendL.cons (lend_boxV (j := EXT) (tp := 0) (l := pfL q) rfl rfl rfl rfl rfl LX0 LXq) (LendL.cons (lend_same rfl rfl rfl) .nil)) rfl rfl) rfl rfl ?_)
      (refine wlk ?_)
      exact ⟨(k + 1, q), ⟨by simp only; omega, hnext.symm, hg⟩, fgs, by simp only; omega⟩
    rw [hn] at gk
    have hno : ¬ (0 ≤ q.found ∨ waits q c = true ∨ known q c = true) := by
      rintro (h1 | h1 | h1)
      · exact hf h1
      · rw [hw] at h1; cases h1
      · rw [hn] at h1; cases h1
    have hadd := sadd q rule frm c (by omega)
    by_cases h120 : 120 ≤ q.steps.length
    · rw [come1_full hno h120, stepP_full h120] at hnext hgn
      rw [stepP_full h120, show stepN q = -1 from if_pos h120] at hadd
      (refine wlk ?_)
      (refine SqA.b1 (op_nilBK (tp := 0) rfl rfl rfl rfl) rfl rfl ?_)
      (refine wlk ?_)
      (refine SqA.b1 (op_callL LX rfl rfl rfl (by kernel_rfl) gk (LendL.cons (lend_boxV (j := EXT) (tp := 0) (l := pfL q) rfl rfl rfl rfl rfl LX0 LXq) (LendL.cons (lend_same rfl rfl rfl) .nil)) rfl rfl) rfl rfl ?_)
      (refine wlk ?_)
      (refine SqA.b3 (Op1.bkIn (t := 53) (tp := 0) (j := EXT) rfl rfl (op_call (some EXT) rfl rfl rfl (by kernel_rfl) (FnB.use hadd) rfl rfl rfl rfl rfl rfl)) rfl rfl ?_)
      (refine wlk ?_)
      exact ⟨(k + 1, _), ⟨by simp only; omega, hnext.symm, hgn⟩, fgs, by simp only; omega⟩
    · rw [come1_in2 hno h120] at hnext hgn
      rw [stepP_in h120, show stepN q = (q.steps.length : Int) from if_neg h120] at hadd
      have hwl : (q.wait ++ [(q.steps.length : Int)]).length ≤ 1000 := by simp; omega
      (refine wlk ?_)
      (refine SqA.b1 (op_nilBK (tp := 0) rfl rfl rfl rfl) rfl rfl ?_)
      (refine wlk ?_)
      (refine SqA.b1 (op_callL LX rfl rfl rfl (by kernel_rfl) gk (LendL.cons (lend_boxV (j := EXT) (tp := 0) (l := pfL q) rfl rfl rfl rfl rfl LX0 LXq) (LendL.cons (lend_same rfl rfl rfl) .nil)) rfl rfl) rfl rfl ?_)
      (refine wlk ?_)
      (refine SqA.b3 (Op1.bkIn (t := 53) (tp := 0) (j := EXT) rfl rfl (op_call (some EXT) rfl rfl rfl (by kernel_rfl) (FnB.use hadd) rfl rfl rfl rfl rfl rfl)) rfl rfl ?_)
      (refine wlk ?_)
      (refine SqA.b1 (op_nilBK (tp := 0) rfl rfl rfl rfl) rfl rfl ?_)
      (refine wlk ?_)
      (refine SqA.b1 (op_bsT (T := TB) (f := Int.d) [(q.steps.length : Int)] rfl rfl rfl rfl rfl rfl rfl rfl rfl rfl rfl) rfl rfl ?_)
      (refine wlk ?_)
      (refine SqA.b1 (op_nilBK (tp := 0) rfl rfl rfl rfl) rfl rfl ?_)
      (refine wlk ?_)
      exact ⟨(k + 1, _), ⟨by simp only; omega, hnext.symm, hgn⟩, fgs, by simp only; omega⟩)
set_option maxHeartbeats 16000000 in
set_option maxRecDepth 100000 in
theorem scomeK {S : List Int} {p : Pf} (va : Value) (h : PfGo S p) (rule : Int) (frm : List Int) (l : List (List Lt)) (lost : Bool) (hl : ∀ c ∈ l, COk S c) :
    FnB Tryz.prog 52 [.c (.ptr EXT 0), iA rule, lA Int.d frm, lA Cl.d l, bA lost] (pfBoxK va p) (.tup []) (pfBoxK va (come p rule frm (l, lost))) := by
  refine Fn.of Tryz.func52 rfl Tryz.ntmps52 rfl (Nat.le_of_ble_eq_true rfl) ?_
  refine dwp_len (t := 3) (ds := l.map Cl.d) rfl fun hbl => ?_
  rw [List.length_map] at hbl
  refine dwp_isB (t := 0) (j := EXT) rfl fun pv => ?_
  have hg0 : PfGo S { p with lost := p.lost || lost } := ⟨⟨h.ok.len, h.ok.cok, h.ok.act, h.ok.wai⟩, h.aw⟩
  have hcome : come p rule frm (l, lost) = l.foldl (come1 rule frm) { p with lost := p.lost || lost } := rfl
  rw [hcome]
  clear hcome h
  obtain ⟨sg, st, ac, wa, fo, plo⟩ := p
  dsimp only at hg0 ⊢
  obtain ⟨p0, hp0⟩ : ∃ p0 : Pf, p0 = ⟨sg, st, ac, wa, fo, plo || lost⟩ := ⟨_, rfl⟩
  rw [← hp0] at hg0 ⊢
  (refine wlR ?_)
  refine dwp_wk (Wk.cellVal (j := 5) (q := 0) rfl rfl rfl) ?_
  refine dwp_wk (Wk.frzF (t := 5) (j := 5) (fs := [.val pv]) rfl rfl rfl rfl rfl) ?_
  cases plo
  all_goals (
    (refine wlk ?_)
    (refine SqA.b1 (op_nilBK (tp := 0) rfl rfl rfl rfl) rfl rfl ?_)
    (refine wlk ?_)
    (refine SqA.b1 (op_nilBK (tp := 0) rfl rfl rfl rfl) rfl rfl ?_)
    (refine wlk ?_)
    refine dwp_loop (fun x : Nat × Pf => [(.t 0, some (.one (.c (.isB pv EXT)))), (.t 16, some (.one (.c (.ptr EXT 0)))), (.b EXT, some (.box (pfBoxK va x.2))), (.t 1, some (.one (iA rule))), (.t 2, some (.one (lA Int.d frm))), (.t 5, some (.one (.c (.fp [.val pv])))), (.t 26, some (.one (lA Cl.d l))), (.t 27, some (.one (iA l.length))), (.t 28, some (.one (iA x.1)))])
      (fun x => x.1 ≤ l.length ∧ x.2 = (l.take x.1).foldl (come1 rule frm) p0 ∧ PfGo S x.2) (fun x => l.length - x.1) (0, p0) ⟨by simp, rfl, hg0⟩ (by dsimp only; rw [hp0]; exact fgs) ?_
    rintro ⟨k, q⟩ ⟨hk, hq, hg⟩
    dsimp only at hk hq hg ⊢
    by_cases hkl : k < l.length
    rotate_left
    · rw [fold_all _ _ (by omega)] at hq
      rw [← hq]
      (refine wlk ?_)
      (refine wbU ?_)
      exact XB rfl rfl
    obtain ⟨c, hc⟩ := get_of_lt hkl
    have hco := hl c (List.mem_of_getElem? hc)
    have hnext := fold_take (come1 rule frm) p0 hc
    rw [← hq] at hnext
    have hgn := come1_ok hg rule frm hco
    have gw := contFI2 93 [.ptr (pfL q)] [.arr (c.map Lt.d)] (fun k => clSame (clAt q k) c) (by kernel_rfl) q.wait fun k hk => scome1 hg.ok (hg.ok.wai k hk) c
    have hww : (q.wait.any fun k => clSame (clAt q k) c) = waits q c := rfl
    rw [hww] at gw
    have gk := sknown hg.ok c
    have hlen := hg.ok.len
    have haw := hg.aw
    (refine wlN ?_)
    (refine wlE ?_)
    (refine wlN ?_)
    (refine wlE ?_)
    refine dwp_wk (Wk.frzF (t := 11) (j := 11) (fs := [.arr (c.map Lt.d)]) rfl rfl rfl rfl rfl) ?_
    refine dwp_isOB (j := EXT) (q := 3) rfl rfl rfl ⟨16, rfl⟩ fun vw => ?_
    (refine wlk ?_)
    (refine SqA.b1 (op_nilBK (tp := 0) rfl rfl rfl rfl) rfl rfl ?_)
    (refine wlk ?_)
    (refine SqA.b1 (op_mkFn rfl rfl rfl) rfl rfl ?_)
    (refine SqA.b1 (op_callL LX rfl rfl rfl (by kernel_rfl) gw (LendL.cons (lend_valB (j := EXT) (q := 3) (tp := 16) rfl rfl rfl rfl rfl (LXq 3)) (LendL.cons (lend_fnv (j := EXT) (tp := 0) rfl rfl rfl rfl rfl LX0 LXq) .nil)) rfl rfl) rfl rfl ?_)
    (refine wlE ?_)
    refine dwp_wk (Wk.ofKB (j := EXT) (q := 3) rfl rfl rfl rfl) ?_
    by_cases hf : 0 ≤ q.found
    · rw [come1_skip (.inl hf)] at hnext
      (refine wlk ?_)
      (refine SqA.b1 (op_nilBK (tp := 0) rfl rfl rfl rfl) rfl rfl ?_)
      (refine wlk ?_)
      exact ⟨(k + 1, q), ⟨by simp only; omega, hnext.symm, hg⟩, fgs, by simp only; omega⟩
    cases hw : waits q c
    rotate_left
    · rw [come1_skip (.inr (.inl hw))] at hnext
      (refine wlk ?_)
      (refine SqA.b1 (op_nilBK (tp := 0) rfl rfl rfl rfl) rfl rfl ?_)
      (refine wlk ?_)
      exact ⟨(k + 1, q), ⟨by simp only; omega, hnext.symm, hg⟩, fgs, by simp only; omega⟩
    cases hn : known q c
    rotate_left
    · rw [come1_skip (.inr (.inr hn))] at hnext
      rw [hn] at gk
      (refine wlk ?_)
      (refine SqA.b1 (op_nilBK (tp := 0) rfl rfl rfl rfl) rfl rfl ?_)
      (refine wlk ?_)
      (refine SqA.b1 (op_callL LX rfl rfl rfl (by kernel_rfl) gk (LendL.cons (lend_boxV (j := EXT) (tp := 0) (l := pfL q) rfl rfl rfl rfl rfl LX0 LXq) (LendL.cons (lend_same rfl rfl rfl) .nil)) rfl rfl) rfl rfl ?_)
      (refine wlk ?_)
      exact ⟨(k + 1, q), ⟨by simp only; omega, hnext.symm, hg⟩, fgs, by simp only; omega⟩
    rw [hn] at gk
    have hno : ¬ (0 ≤ q.found ∨ waits q c = true ∨ known q c = true) := by
      rintro (h1 | h1 | h1)
      · exact hf h1
      · rw [hw] at h1; cases h1
      · rw [hn] at h1; cases h1
    have hadd := saddK va q rule frm c (by omega)
    by_cases h120 : 120 ≤ q.steps.length
    · rw [come1_full hno h120, stepP_full h120] at hnext hgn
      rw [stepP_full h120, show stepN q = -1 from if_pos h120] at hadd
      (refine wlk ?_)
      (refine SqA.b1 (op_nilBK (tp := 0) rfl rfl rfl rfl) rfl rfl ?_)
      (refine wlk ?_)
      (refine SqA.b1 (op_callL LX rfl rfl rfl (by kernel_rfl) gk (LendL.cons (lend_boxV (j := EXT) (tp := 0) (l := pfL q) rfl rfl rfl rfl rfl LX0 LXq) (LendL.cons (lend_same rfl rfl rfl) .nil)) rfl rfl) rfl rfl ?_)
      (refine wlk ?_)
      (refine SqA.b3 (Op1.bkIn (t := 53) (tp := 0) (j := EXT) rfl rfl (op_call (some EXT) rfl rfl rfl (by kernel_rfl) (FnB.use hadd) rfl rfl rfl rfl rfl rfl)) rfl rfl ?_)
      (refine wlk ?_)
      exact ⟨(k + 1, _), ⟨by simp only; omega, hnext.symm, hgn⟩, fgs, by simp only; omega⟩
    · rw [come1_in2 hno h120] at hnext hgn
      rw [stepP_in h120, show stepN q = (q.steps.length : Int) from if_neg h120] at hadd
      have hwl : (q.wait ++ [(q.steps.length : Int)]).length ≤ 1000 := by simp; omega
      (refine wlk ?_)
      (refine SqA.b1 (op_nilBK (tp := 0) rfl rfl rfl rfl) rfl rfl ?_)
      (refine wlk ?_)
      (refine SqA.b1 (op_callL LX rfl rfl rfl (by kernel_rfl) gk (LendL.cons (lend_boxV (j := EXT) (tp := 0) (l := pfL q) rfl rfl rfl rfl rfl LX0 LXq) (LendL.cons (lend_same rfl rfl rfl) .nil)) rfl rfl) rfl rfl ?_)
      (refine wlk ?_)
      (refine SqA.b3 (Op1.bkIn (t := 53) (tp := 0) (j := EXT) rfl rfl (op_call (some EXT) rfl rfl rfl (by kernel_rfl) (FnB.use hadd) rfl rfl rfl rfl rfl rfl)) rfl rfl ?_)
      (refine wlk ?_)
      (refine SqA.b1 (op_nilBK (tp := 0) rfl rfl rfl rfl) rfl rfl ?_)
      (refine wlk ?_)
      (refine SqA.b1 (op_bsT (T := TB) (f := Int.d) [(q.steps.length : Int)] rfl rfl rfl rfl rfl rfl rfl rfl rfl rfl rfl) rfl rfl ?_)
      (refine wlk ?_)
      (refine SqA.b1 (op_nilBK (tp := 0) rfl rfl rfl rfl) rfl rfl ?_)
      (refine wlk ?_)
      exact ⟨(k + 1, _), ⟨by simp only; omega, hnext.symm, hgn⟩, fgs, by simp only; omega⟩)
end Go.Proofs.YtmanhdacnkpclaaGreat
namespace Go.Proofs.YtmanhdacnkpclaaGreat
set_option linter.all false
open Go.RowKit
set_option maxRecDepth 100000 in
theorem cloneS (l : List Sp) (hl : l.length ≤ 1000000000) : FnD Tryz.prog 62 [lA Sp.d l] (.one (.c (.own 41 3 (l.map Sp.d)))) := by
  cases l with
  | nil =>
    refine FnD.ofNil 0 rfl fun a c hc => ?_
    refine Fn.of Tryz.func62 rfl Tryz.ntmps62 rfl (Nat.le_of_ble_eq_true rfl) ?_
    cases a with
    | none =>
      (refine wlk ?_)
      (refine SqA.b1 (op_bin rfl rfl rfl rfl (nvSp c)) rfl rfl ?_)
      (refine wlk ?_)
      refine fin_wk (fun n => Wk.nilOwn (d := 2) (E := 41) (m := 3) rfl) ?_
      refine finO (E := _) rfl ?_
      rfl
    | some a =>
      (refine wlk ?_)
      (refine SqA.b1 (op_bin rfl rfl rfl rfl (nqSp a 0 c)) rfl rfl ?_)
      (refine wlk ?_)
      (refine SqA.b3 (Op1.vaIn (t := 6) rfl hc (op_appT (f := Sp.d) (l := []) (es := []) (rs := []) (T := TB) rfl rfl rfl rfl rfl rfl (by decide) (by decide))) rfl rfl ?_)
      (refine wlk ?_)
      refine finO (E := _) rfl ?_
      rfl
  | cons x l =>
    generalize hy : x :: l = y at *
    have hy0 : 0 < (y.map Sp.d).length := by rw [← hy]; simp
    have hl1 : ([] : List Sp) ++ y = y := rfl
    refine Fn.of Tryz.func62 rfl Tryz.ntmps62 rfl (Nat.le_of_ble_eq_true rfl) ?_
    (refine wlk ?_)
    (refine SqA.b1 (op_eqNil rfl rfl rfl rfl nqSp hy0) rfl rfl ?_)
    (refine wlk ?_)
    refine finO (E := _) rfl ?_
    rfl
set_option maxHeartbeats 4000000 in
set_option maxRecDepth 100000 in
theorem sown (p : Pf) (h1 : p.sig.length ≤ 1000000) (h2 : p.steps.length ≤ 1000000) (h3 : p.active.length ≤ 1000000) (h4 : p.wait.length ≤ 1000000) : FnD Tryz.prog 25 [pfA p] (.one (.agg (pfBox p))) := by
  have c1 := cloneG p.sig (by omega)
  have c2 := cloneS p.steps (by omega)
  have c3 := cloneI p.active (by omega)
  have c4 := cloneI p.wait (by omega)
  refine Fn.of Tryz.func25 rfl Tryz.ntmps25 rfl (Nat.le_of_ble_eq_true rfl) ?_
  (refine wlk ?_)
  (refine wlC c1 ?_)
  (refine wlk ?_)
  (refine wlC c2 ?_)
  (refine wlD ?_)
  (refine wlk ?_)
  (refine wlC c3 ?_)
  (refine wlk ?_)
  (refine wlC c4 ?_)
  (refine wlD ?_)
  refine dwp_wk (Wk.freezeB (j := 1) (q := 0) rfl rfl rfl) ?_
  (refine wlN ?_)
  (refine SqA.b2 (op_loadAgg rfl rfl (rw_of rfl) rfl rfl rfl rfl rfl rfl rfl) rfl rfl ?_)
  (refine SqA.b2 (op_storeAgg rfl rfl rfl rfl (rw_of rfl) rfl rfl rfl rfl rfl) rfl rfl ?_)
  (refine wlk ?_)
  refine finA (t0 := 2) (j := 2) (rw_of rfl) rfl rfl rfl rfl rfl rfl rfl ?_
  rfl
end Go.Proofs.YtmanhdacnkpclaaGreat
