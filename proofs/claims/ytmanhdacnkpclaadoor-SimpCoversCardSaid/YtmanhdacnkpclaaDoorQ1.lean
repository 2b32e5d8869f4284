/- What functions do: units; right clauses; one step down. -/
import Derived.Test.YtmanhdacnkpclaaDoorNh
import Derived.Test.YtmanhdacnkpclaaDoorPv
import Derived.Test.YtmanhdacnkpclaaDoorE2
namespace Go.Proofs.YtmanhdacnkpclaaDoor
set_option linter.all false
open Go.RowKit

theorem unit_no {c : List Lt} (h : c.length ≠ 1) : unit c = false := by
  match c, h with
  | [], _ => rfl
  | [l], h => simp at h
  | _ :: _ :: _, _ => rfl
set_option maxRecDepth 100000 in
theorem punit (c : List Lt) : FnD Tryd.prog 85 [lA Lt.d c] (.one (bA (unit c))) := by
  refine Fn.of Tryd.func85 rfl Tryd.ntmps85 rfl (Nat.le_of_ble_eq_true rfl) ?_
  by_cases h1 : c.length = 1
  · obtain ⟨⟨ng, xl, xr⟩, rfl⟩ : ∃ l, c = [l] := by
      match c, h1 with
      | [l], _ => exact ⟨l, rfl⟩
    have h0 : [(⟨ng, xl, xr⟩ : Lt)][0]? = some ⟨ng, xl, xr⟩ := rfl
    (refine wlk ?_)
    (first | (refine finR (.tmp rfl .nil) rfl rfl ?_) | (refine finN (.tmp rfl .nil) rfl rfl ?_))
    rfl
  · (refine wlk ?_)
    (first | (refine finR (.tmp rfl .nil) rfl rfl ?_) | (refine finN (.tmp rfl .nil) rfl rfl ?_))
    exact Xb (b := false) (unit_no h1).symm
set_option maxRecDepth 100000 in
theorem runit (c : List Lt) : FnD Tryd.prog 86 [lA Lt.d c] (.one (bA (unit c))) := by
  refine Fn.of Tryd.func86 rfl Tryd.ntmps86 rfl (Nat.le_of_ble_eq_true rfl) ?_
  by_cases h1 : c.length = 1
  · obtain ⟨⟨ng, xl, xr⟩, rfl⟩ : ∃ l, c = [l] := by
      match c, h1 with
      | [l], _ => exact ⟨l, rfl⟩
    have h0 : [(⟨ng, xl, xr⟩ : Lt)][0]? = some ⟨ng, xl, xr⟩ := rfl
    (refine wlk ?_)
    (first | (refine finR (.tmp rfl .nil) rfl rfl ?_) | (refine finN (.tmp rfl .nil) rfl rfl ?_))
    rfl
  · (refine wlk ?_)
    (first | (refine finR (.tmp rfl .nil) rfl rfl ?_) | (refine finN (.tmp rfl .nil) rfl rfl ?_))
    exact Xb (b := false) (unit_no h1).symm
set_option maxRecDepth 100000 in
theorem runits (us : List (List Lt)) : FnD Tryd.prog 48 [lA Cl.d us] (.one (bA (us.all unit))) := by
  refine Fn.of Tryd.func48 rfl Tryd.ntmps48 rfl (Nat.le_of_ble_eq_true rfl) ?_
  refine dwp_len (t := 0) (ds := us.map Cl.d) rfl fun hbl => ?_
  rw [List.length_map] at hbl
  (refine wlk ?_)
  refine dwp_loop (fun k : Nat => [(.t 5, some (.one (lA Cl.d us))), (.t 6, some (.one (iA us.length))), (.t 7, some (.one (iA k)))])
    (fun k => k ≤ us.length ∧ ∀ j x, j < k → us[j]? = some x → unit x = true) (fun k => us.length - k) 0 ⟨by omega, fun j x h => absurd h (by omega)⟩ fgs ?_
  rintro k ⟨hk, hno⟩
  by_cases hkl : k < us.length
  · obtain ⟨x, hx⟩ := get_of_lt hkl
    have hc := runit x
    cases e : unit x
    · rw [e] at hc
      (refine wlk ?_)
      (refine SqA.b1 (op_call none rfl rfl rfl (by kernel_rfl) (FnD.use (hc)) rfl rfl rfl rfl rfl rfl) rfl rfl ?_)
      (refine wlk ?_)
      (first | (refine finR (.tmp rfl .nil) rfl rfl ?_) | (refine finN (.tmp rfl .nil) rfl rfl ?_))
      exact Xb (b := false) (List.all_eq_false.2 ⟨x, List.mem_of_getElem? hx, by rw [e]; simp⟩).symm
    · rw [e] at hc
      (refine wlk ?_)
      (refine SqA.b1 (op_call none rfl rfl rfl (by kernel_rfl) (FnD.use (hc)) rfl rfl rfl rfl rfl rfl) rfl rfl ?_)
      (refine wlk ?_)
      exact ⟨k + 1, ⟨by omega, upto_succ hno hx e⟩, fgs, by omega⟩
  · have : k = us.length := by omega
    subst this
    (refine wlk ?_)
    (first | (refine finR (.tmp rfl .nil) rfl rfl ?_) | (refine finN (.tmp rfl .nil) rfl rfl ?_))
    exact Xb (b := true) (List.all_eq_true.2 fun x hx => any_upto hno x hx).symm
def rightC (s : List Int) (l : List (List Lt)) : Bool := decide (wrongSig s = 0) && (decide (l.length ≤ 8) && l.all fun c => decide (wrongCl s c = 0))
theorem right_of {s : List Int} {l : List (List Lt)} (h : rightC s l = true) : wrongSig s = 0 ∧ l.length ≤ 8 ∧ ∀ c ∈ l, COk s c := by
  simp only [rightC, Bool.and_eq_true, decide_eq_true_eq, List.all_eq_true] at h
  exact ⟨h.1, h.2.1, fun c hc => cok_of h.1 (h.2.2 c hc)⟩
set_option maxRecDepth 100000 in
theorem rright (s : List Int) (l : List (List Lt)) : FnD Tryd.prog 47 [lA Int.d s, lA Cl.d l] (.one (bA (rightC s l))) := by
  refine Fn.of Tryd.func47 rfl Tryd.ntmps47 rfl (Nat.le_of_ble_eq_true rfl) ?_
  have hs := rwrongSig s
  by_cases h0 : wrongSig s = 0
  rotate_left
  · (refine wlk ?_)
    (refine SqA.b1 (op_call none rfl rfl rfl (by kernel_rfl) (FnD.use (hs)) rfl rfl rfl rfl rfl rfl) rfl rfl ?_)
    (refine wlk ?_)
    (first | (refine finR (.tmp rfl .nil) rfl rfl ?_) | (refine finN (.tmp rfl .nil) rfl rfl ?_))
    exact Xb (b := false) (by simp [rightC, h0])
  by_cases h8 : l.length ≤ 8
  rotate_left
  · (refine wlk ?_)
    (refine SqA.b1 (op_call none rfl rfl rfl (by kernel_rfl) (FnD.use (hs)) rfl rfl rfl rfl rfl rfl) rfl rfl ?_)
    (refine wlk ?_)
    (first | (refine finR (.tmp rfl .nil) rfl rfl ?_) | (refine finN (.tmp rfl .nil) rfl rfl ?_))
    exact Xb (b := false) (by simp [rightC, h8])
  (refine wlk ?_)
  (refine SqA.b1 (op_call none rfl rfl rfl (by kernel_rfl) (FnD.use (hs)) rfl rfl rfl rfl rfl rfl) rfl rfl ?_)
  (refine wlk ?_)
  refine dwp_loop (fun k : Nat => [(.t 0, some (.one (lA Int.d s))), (.t 15, some (.one (lA Cl.d l))), (.t 16, some (.one (iA l.length))), (.t 17, some (.one (iA k)))])
    (fun k => k ≤ l.length ∧ ∀ j x, j < k → l[j]? = some x → wrongCl s x = 0) (fun k => l.length - k) 0 ⟨by omega, fun j x h => absurd h (by omega)⟩ fgs ?_
  rintro k ⟨hk, hno⟩
  by_cases hkl : k < l.length
  · obtain ⟨x, hx⟩ := get_of_lt hkl
    have hc := rwrongCl s x
    by_cases e : wrongCl s x = 0
    · (refine wlk ?_)
      (refine SqA.b1 (op_call none rfl rfl rfl (by kernel_rfl) (FnD.use (hc)) rfl rfl rfl rfl rfl rfl) rfl rfl ?_)
      (refine wlk ?_)
      exact ⟨k + 1, ⟨by omega, upto_succ hno hx e⟩, fgs, by omega⟩
    · (refine wlk ?_)
      (refine SqA.b1 (op_call none rfl rfl rfl (by kernel_rfl) (FnD.use (hc)) rfl rfl rfl rfl rfl rfl) rfl rfl ?_)
      (refine wlk ?_)
      (first | (refine finR (.tmp rfl .nil) rfl rfl ?_) | (refine finN (.tmp rfl .nil) rfl rfl ?_))
      exact Xb (b := false) (by
        have : (l.all fun c => decide (wrongCl s c = 0)) = false := List.all_eq_false.2 ⟨x, List.mem_of_getElem? hx, by simp [e]⟩
        simp [rightC, this])
  · have : k = l.length := by omega
    subst this
    (refine wlk ?_)
    (first | (refine finR (.tmp rfl .nil) rfl rfl ?_) | (refine finN (.tmp rfl .nil) rfl rfl ?_))
    exact Xb (b := true) (by
      have : (l.all fun c => decide (wrongCl s c = 0)) = true := List.all_eq_true.2 fun x hx => decide_eq_true (any_upto hno x hx)
      simp [rightC, h0, h8, this])

/-! ## one step down -/
section
variable {n : Nat} {o : Oper} {σ : St}
theorem op_idx2B {d j q k : Nat} {s i : Operand} {kk : IntKind} {zi : Int} (hd : o.dst = some d) (ho : o.op = .indexAddr 92 s i) (hs : St.ev σ s = some (.one (.c (.ptr j q)))) (hi : St.ev σ i = some (.one (.c (.val (.int kk zi))))) (hz : zi = (k : Int)) (hk : k < 2) :
    Op1 Tryd.prog n o ⟨(opKey s ++ opKey i) ++ (X.one (.c (.ptr j (q + k * 3)))).ids.map Key.b, [.t d], []⟩ σ [(.t d, some (.one (.c (.ptr j (q + k * 3)))))] := op_idxB hd ho ar2 ar2E hs hi hz hk (by omega)
end
set_option maxRecDepth 100000 in
theorem pdown1 (vs : List Int) (v : Int) : FnD Tryd.prog 119 [iA v, .c (.fp [.arr (vs.map Int.d)])] (.one (bA (!vs.contains v))) := by
  refine Fn.of Tryd.func119 rfl Tryd.ntmps119 rfl (Nat.le_of_ble_eq_true rfl) ?_
  (refine wlk ?_)
  (refine SqA.b1 (op_call none rfl rfl rfl (by kernel_rfl) (FnD.use (ccontI vs v)) rfl rfl rfl rfl rfl rfl) rfl rfl ?_)
  (refine wlk ?_)
  (first | (refine finR (.tmp rfl .nil) rfl rfl ?_) | (refine finN (.tmp rfl .nil) rfl rfl ?_))
  rfl
theorem try1_of_match {t : Tm} {w : Tm × Tm} {s : List Pr} (h : matchR w.1 t = (s, true)) : try1 t w = if (vars [] w.2).any (fun v => !(vars [] w.1).contains v) then none else if above t (app s w.2) then some (app s w.2) else none := by
  unfold try1; rw [h]
theorem try1_of_no {t : Tm} {w : Tm × Tm} {s : List Pr} (h : matchR w.1 t = (s, false)) : try1 t w = none := by
  unfold try1; rw [h]
theorem down1_step {us : List (List Lt)} {t : Tm} {u : List Lt} {k : Nat} (h : ∀ j x, j < k → us[j]? = some x → firstS (try1 t) (wayOf x) = none) (hu : us[k]? = some u) {r : Tm} (hr : firstS (try1 t) (wayOf u) = some r) : down1 us t = some r := firstS_hit h hu hr
set_option maxHeartbeats 40000000 in
set_option maxRecDepth 100000 in
theorem pdown {S : List Int} {us : List (List Lt)} (hu : UsSz S us) (t : Tm) (ht : t.ar S = true) (hz : t.size ≤ 12) : FnD Tryd.prog 87 [tA t, lA Cl.d us] (.tup (resF (down1 us t))) := by
  refine Fn.of Tryd.func87 rfl Tryd.ntmps87 rfl (Nat.le_of_ble_eq_true rfl) ?_
  have hk := Tm.ar_okv t ht
  refine dwp_len (t := 1) (ds := us.map Cl.d) rfl fun hbl => ?_
  rw [List.length_map] at hbl
  (refine wlk ?_)
  refine dwp_loop (fun k : Nat => [(.t 2, some (.one (.c (.ptr 2 0)))), (.b 2, some (.box (tA t).cells)), (.t 4, some (.one (.c (.ptr 4 0)))), (.b 4, some (.box [.val (.bool false), .val (.int .i64 0), .val (.slice none 0 0)])),
      (.t 14, some (.one (lA Cl.d us))), (.t 15, some (.one (iA us.length))), (.t 16, some (.one (iA k)))])
    (fun k => k ≤ us.length ∧ ∀ j x, j < k → us[j]? = some x → firstS (try1 t) (wayOf x) = none) (fun k => us.length - k) 0 ⟨by omega, fun j x h => absurd h (by omega)⟩ fgs ?_
  rintro k ⟨hkk, hno⟩
  by_cases hkl : k < us.length
  · obtain ⟨u, hx⟩ := get_of_lt hkl
    obtain ⟨⟨ng, xl, xr⟩, rfl, hng, hwf, hsz⟩ := hu.one (List.mem_of_getElem? hx)
    dsimp only at hng hwf hsz
    subst hng
    have h0 : [(⟨false, xl, xr⟩ : Lt)][0]? = some ⟨false, xl, xr⟩ := rfl
    have hwo : wayOf [(⟨false, xl, xr⟩ : Lt)] = [(xl, xr), (xr, xl)] := rfl
    (refine wlk ?_)
    (refine SqA.b1 (op_bsT (T := TB) (f := Tw.d) [((xl, xr) : Tm × Tm), (xr, xl)] rfl rfl rfl rfl rfl rfl rfl rfl rfl rfl rfl) rfl rfl ?_)
    (refine wlk ?_)
    refine dwp_loop (fun j : Nat => [(.t 2, some (.one (.c (.ptr 2 0)))), (.b 2, some (.box (tA t).cells)), (.t 4, some (.one (.c (.ptr 4 0)))), (.b 4, some (.box [.val (.bool false), .val (.int .i64 0), .val (.slice none 0 0)])),
        (.t 14, some (.one (lA Cl.d us))), (.t 15, some (.one (iA us.length))), (.t 16, some (.one (iA k))), (.t 38, some (.one (lA Tw.d [((xl, xr) : Tm × Tm), (xr, xl)]))), (.t 39, some (.one (iA (2 : Nat)))), (.t 40, some (.one (iA j)))])
      (fun j => j ≤ 2 ∧ ∀ i w, i < j → [((xl, xr) : Tm × Tm), (xr, xl)][i]? = some w → try1 t w = none) (fun j => 2 - j) 0 ⟨by omega, fun j x h => absurd h (by omega)⟩ fgs ?_
    rintro j ⟨hj, hnj⟩
    by_cases hj2 : j < 2
    · obtain ⟨⟨a, b⟩, hw, ha, hb, haz, hbz⟩ : ∃ w : Tm × Tm, [((xl, xr) : Tm × Tm), (xr, xl)][j]? = some w ∧ w.1.wf S = true ∧ w.2.wf S = true ∧ w.1.size ≤ 12 ∧ w.2.size ≤ 12 := by
        rcases (show j = 0 ∨ j = 1 by omega) with rfl | rfl
        · exact ⟨(xl, xr), rfl, hwf.1, hwf.2, hsz.1, hsz.2⟩
        · exact ⟨(xr, xl), rfl, hwf.2, hwf.1, hsz.2, hsz.1⟩
      dsimp only at ha hb haz hbz
      have g1 := bmatch a t (by omega)
      cases hm : matchR a t with
      | mk s ok =>
        rw [hm] at g1
        cases ok
        · (refine wlk ?_)
          (refine SqA.b1 (op_idx2B (k := 0) rfl rfl rfl rfl rfl (by decide)) rfl rfl ?_)
          (refine wlk ?_)
          (refine SqA.b1 (op_call none rfl rfl rfl (by kernel_rfl) (FnD.use (g1)) rfl rfl rfl rfl rfl rfl) rfl rfl ?_)
          (refine wlk ?_)
          exact ⟨j + 1, ⟨by omega, upto_succ hnj hw (try1_of_no hm)⟩, fgs, by omega⟩
        · have hsa : subAr S s := by have := matchR_ar (p := a) ht; rw [hm] at this; exact this
          have hss : ∀ q ∈ s, q.2.size ≤ 12 := by have := matchR_size (p := a) hz; rw [hm] at this; exact this
          have hrz := app_small hss (Tm.wf_okv b hb) hbz
          have hra : (app s b).ar S = true := app_ar hsa b (Tm.wf_ar b hb)
          have g2 := FnD.nil (pvars a [] (by simp; omega)) 0 rfl
          have g3 := FnD.nil (pvars b [] (by simp; omega)) 0 rfl
          have g4 := contFI1 119 [.arr ((vars [] a).map Int.d)] (fun v => !(vars [] a).contains v) (by kernel_rfl) (vars [] b) fun v _ => pdown1 (vars [] a) v
          have g5 := bapply s b (by omega)
          have g6 := pcompare t (app s b) (by omega) (by omega) hk (Tm.ar_okv _ hra)
          have h3 := compare_more (b := app s b) hk
          have htry := try1_of_match (w := (a, b)) hm
          dsimp only at htry
          cases hany : ((vars [] b).any fun v => !(vars [] a).contains v)
          rotate_left
          · rw [hany] at g4 htry
            rw [if_pos rfl] at htry
            (refine wlk ?_)
            (refine SqA.b1 (op_idx2B (k := 0) rfl rfl rfl rfl rfl (by decide)) rfl rfl ?_)
            (refine wlk ?_)
            (refine SqA.b1 (op_call none rfl rfl rfl (by kernel_rfl) (FnD.use (g1)) rfl rfl rfl rfl rfl rfl) rfl rfl ?_)
            (refine wlk ?_)
            (refine SqA.b1 (op_idx2B (k := 0) rfl rfl rfl rfl rfl (by decide)) rfl rfl ?_)
            (refine wlk ?_)
            (refine SqA.b1 (op_call none rfl rfl rfl (by kernel_rfl) (FnD.use (g2)) rfl rfl rfl rfl rfl rfl) rfl rfl ?_)
            ((repeat ((with_reducible refine id_sq ?_); (first | ((with_reducible refine id_bin (b := .add) ?_); first | (refine SqA.b1 (op_bin rfl rfl rfl rfl (by first | exact bin_add rfl (by omega) | exact bin_catS (by first | assumption | rfl) (by (try simp only [List.length_append, List.length_cons, List.length_nil, List.length_drop, List.length_take]); omega) | exact bin_addw | exact bin_addK (by first | assumption | rfl))) rfl rfl ?_) | (refine SqA.noG1 rfl rfl ?_)) | ((with_reducible refine id_bin (b := .sub) ?_); first | (refine SqA.b1 (op_bin rfl rfl rfl rfl (by first | exact bin_sub rfl (by omega) | exact bin_subK (by first | assumption | rfl))) rfl rfl ?_) | (refine SqA.noG1 rfl rfl ?_)) | ((with_reducible refine id_bin (t := 9) ?_); first | (refine SqA.b1 (op_bin rfl rfl rfl rfl (by first | exact bin_eqS (by first | assumption | rfl) | exact bin_neS (by first | exact congrArg Bool.not (by assumption) | rfl))) rfl rfl ?_) | (refine SqA.a1 TB rfl rfl rfl ?_) | (refine SqA.noG1 rfl rfl ?_)) | ((with_reducible refine id_bin (b := .mul) ?_); first | (refine SqA.b1 (op_bin rfl rfl rfl rfl (by exact bin_mul rfl (by omega))) rfl rfl ?_) | (refine SqA.noG1 rfl rfl ?_)) | ((with_reducible refine id_bin (b := .quo) ?_); first | (refine SqA.b1 (op_bin rfl rfl rfl rfl (bin_quo (by omega) (by omega) (by omega) (by first | assumption | rfl))) rfl rfl ?_) | (refine SqA.noG1 rfl rfl ?_)) | ((with_reducible refine id_bin (b := .rem) ?_); first | (refine SqA.b1 (op_bin rfl rfl rfl rfl (bin_rem (by omega) (by omega) (by first | assumption | rfl))) rfl rfl ?_) | (refine SqA.noG1 rfl rfl ?_)) | ((with_reducible refine id_bin (t := 4) ?_); first | (refine SqA.b1 (op_bin rfl rfl rfl rfl (by first | exact bin_eqlB (by assumption) | exact bin_neqB (by assumption))) rfl rfl ?_) | (refine SqA.a1 TB rfl rfl rfl ?_) | (refine SqA.noG1 rfl rfl ?_)) | ((with_reducible refine id_bin ?_); first | (refine SqA.b1 (op_cmp rfl rfl rfl rfl rfl (by first | exact cmpT (by simp only [cmpP]; assumption) | exact cmpF (by simp only [cmpP]; assumption) | exact cmpT (by simp only [cmpP]; first | done | omega) | exact cmpF (by simp only [cmpP]; first | done | omega) | exact cmpD)) rfl rfl ?_) | (refine SqA.a1 TB rfl rfl rfl ?_) | (refine SqA.b1 (op_neq3 rfl rfl rfl rfl (by first | assumption | rfl)) rfl rfl ?_) | (refine SqA.b1 (op_eql3 rfl rfl rfl rfl (by first | assumption | rfl)) rfl rfl ?_) | (refine SqA.noG1 rfl rfl ?_)) | ((with_reducible refine id_callb (b := .len) ?_); first | (refine SqA.b1 (op_lenT (T := TB) rfl rfl rfl rfl) rfl rfl ?_) | (refine SqA.b1 (op_lenOT (T := TB) rfl rfl rfl rfl) rfl rfl ?_) | (refine SqA.b1 (op_lenNT (T := TB) rfl rfl rfl rfl) rfl rfl ?_) | (refine SqA.b1 (op_lenStr rfl rfl rfl) rfl rfl ?_) | (refine SqA.b1 (op_lenSlT (T := TB) rfl rfl rfl rfl) rfl rfl ?_) | (refine SqA.noG1 rfl rfl ?_)) | ((with_reducible refine id_callb (b := .append) ?_); first | (refine SqA.b2 (op_appT (T := TB) rfl rfl rfl rfl rfl (by first | assumption | rfl) (by (try simp only [List.length_map, List.length_append, List.length_cons, List.length_nil, List.length_take]); omega) (by decide)) rfl rfl ?_) | (refine SqA.b1 (op_app0T (T := TB) rfl rfl rfl rfl rfl (by (try simp only [List.length_map, List.length_append, List.length_cons, List.length_nil, List.length_take]); omega) (by decide)) rfl rfl ?_) | (refine SqA.b1 (op_appFullT (T := TB) rfl rfl rfl rfl rfl (by first | assumption | rfl) (by (try simp only [List.length_map, List.length_append, List.length_cons, List.length_nil, List.length_take]); omega) (by decide) (Nat.succ_pos _)) rfl rfl ?_) | (refine SqA.noG1 rfl rfl ?_)) | ((with_reducible refine id_callb (b := .min) ?_); first | (refine SqA.b1 (op_min rfl rfl rfl rfl (by first | exact if_pos (by omega) | exact if_neg (by omega) | rfl)) rfl rfl ?_) | (refine SqA.noG1 rfl rfl ?_)) | ((with_reducible refine id_callb (b := .max) ?_); first | (refine SqA.b1 (op_max rfl rfl rfl rfl (by first | exact if_pos (by omega) | exact if_neg (by omega) | rfl)) rfl rfl ?_) | (refine SqA.noG1 rfl rfl ?_)) | ((with_reducible refine id_idx ?_); first | (refine SqA.b1 (op_idxT (T := TB) rfl rfl rfl rfl rfl (by assumption) (by first | rfl | omega)) rfl rfl ?_) | (refine SqA.b1 (op_idx3 rfl rfl rfl rfl (by first | rfl | omega) (by omega)) rfl rfl ?_) | (refine SqA.b1 (op_idxSlT (T := TB) rfl rfl rfl rfl rfl (by first | rfl | omega) (by omega) rfl) rfl rfl ?_) | (refine SqA.b1 (op_idx2 rfl rfl rfl rfl (k := 0) rfl (by omega)) rfl rfl ?_) | (refine SqA.b1 (op_idx2 rfl rfl rfl rfl (k := 1) rfl (by omega)) rfl rfl ?_) | (refine SqA.noG1 rfl rfl ?_)) | ((with_reducible refine id_index ?_); first | (refine SqA.b1 (op_index3 rfl rfl rfl rfl (by first | rfl | omega) (by omega) (by first | assumption | rfl) rfl) rfl rfl ?_) | (refine SqA.b1 (op_idxS rfl rfl rfl rfl (by assumption) (by first | rfl | omega)) rfl rfl ?_) | (refine SqA.noG1 rfl rfl ?_)) | ((with_reducible refine id_slice ?_); first | (refine SqA.b1 (op_sliceLoT (T := TB) rfl rfl rfl rfl rfl (by first | decide | omega) (by first | decide | (simp only [List.length_cons, Int.toNat_one]; omega) | omega)) rfl rfl ?_) | (refine SqA.b1 (op_slice3T (T := TB) rfl rfl rfl rfl rfl rfl rfl (by (try simp only [List.length_cons, List.length_nil, List.length_drop, List.length_take, List.length_append]); omega)) rfl rfl ?_) | (refine SqA.b1 (op_slS1 rfl rfl rfl rfl (by first | rfl | omega) (by (try simp only [List.length_cons, List.length_nil, List.length_drop, List.length_take, List.length_append]); omega) (by first | assumption | rfl)) rfl rfl ?_) | (refine SqA.b1 (op_slS2 rfl rfl rfl rfl rfl (by first | rfl | omega) (by first | rfl | omega) (by (try simp only [List.length_cons, List.length_nil, List.length_drop, List.length_take, List.length_append]); omega) (by (try simp only [List.length_cons, List.length_nil, List.length_drop, List.length_take, List.length_append]); omega) (by first | assumption | rfl)) rfl rfl ?_) | (refine SqA.b1 (op_slS0 rfl rfl rfl rfl (by first | rfl | omega) (by (try simp only [List.length_cons, List.length_nil, List.length_drop, List.length_take, List.length_append]); omega) (by first | assumption | rfl)) rfl rfl ?_) | (refine SqA.noG1 rfl rfl ?_)) | ((with_reducible refine id_load ?_); first | (refine SqA.a1 TB rfl rfl rfl ?_) | (refine SqA.a2 TB rfl rfl rfl ?_) | (refine SqA.b1 (op_loadK rfl rfl (rw_of rfl) rfl rfl rfl rfl) rfl rfl ?_) | (refine SqA.b1 (op_load1B rfl rfl (rw_of rfl) rfl rfl (by assumption) rfl rfl) rfl rfl ?_) | (refine SqA.b1 (op_load1I rfl rfl (rw_of rfl) rfl rfl rfl) rfl rfl ?_) | (refine SqA.b1 (op_loadNI rfl rfl (rw_of rfl) rfl rfl rfl rfl rfl) rfl rfl ?_) | (refine SqA.b1 (op_loadP rfl rfl (rw_of rfl) rfl rfl) rfl rfl ?_) | (refine SqA.noG1 rfl rfl ?_)) | ((with_reducible refine id_store ?_); first | (refine SqA.a1 TB rfl rfl rfl ?_) | (refine SqA.a2 TB rfl rfl rfl ?_) | (refine SqA.b1 (op_storeV rfl rfl rfl rfl (rw_of rfl) rfl rfl rfl (by (try simp only [List.length_map, List.length_replicate, List.length_set]); omega) (by first | assumption | rfl) rfl) rfl rfl ?_) | (refine SqA.noG0 rfl rfl ?_)) | ((with_reducible refine id_box ?_); first | (refine SqA.a2 TB rfl rfl rfl ?_) | (refine SqA.noG1 rfl rfl ?_)) | ((with_reducible refine id_alloc ?_); first | (refine SqA.a2 TB rfl rfl rfl ?_) | (refine SqA.b2 (op_alloc3 rfl rfl rfl rfl) rfl rfl ?_) | (refine SqA.noG1 rfl rfl ?_)) | ((with_reducible refine id_build ?_); first | (refine SqA.a1 TB rfl rfl rfl ?_) | (refine SqA.b1 (op_b3 rfl rfl rfl) rfl rfl ?_) | (refine SqA.b1 (op_b2 rfl rfl rfl) rfl rfl ?_) | (refine SqA.noG1 rfl rfl ?_)) | ((with_reducible refine id_move ?_); first | (refine SqA.a1 TB rfl rfl rfl ?_) | (refine SqA.a2 TB rfl rfl rfl ?_) | (refine SqA.noG1 rfl rfl ?_) | (refine SqA.b1 (op_moveK rfl (Or.inl rfl) rfl) rfl rfl ?_)) | ((with_reducible refine id_assign ?_); first | (refine SqA.a1 TB rfl rfl rfl ?_) | (refine SqA.a2 TB rfl rfl rfl ?_) | (refine SqA.noG1 rfl rfl ?_) | (refine SqA.b1 (op_moveK rfl (Or.inr rfl) rfl) rfl rfl ?_)) | ((with_reducible refine id_un ?_); first | (refine SqA.a1 TB rfl rfl rfl ?_) | (refine SqA.noG1 rfl rfl ?_)) | ((with_reducible refine id_fld ?_); first | (refine SqA.a1 TB rfl rfl rfl ?_) | (refine SqA.b1 (op_fldI rfl rfl (fo_of rfl) rfl rfl rfl) rfl rfl ?_) | (refine SqA.noG1 rfl rfl ?_)) | ((with_reducible refine id_extract ?_); first | (refine SqA.a1 TB rfl rfl rfl ?_) | (refine SqA.noG1 rfl rfl ?_)) | ((with_reducible refine id_pick ?_); first | (refine SqA.a1 TB rfl rfl rfl ?_) | (refine SqA.noG1 rfl rfl ?_)) | ((with_reducible refine id_bs ?_); first | (refine SqA.a1 TB rfl rfl rfl ?_) | (refine SqA.noG1 rfl rfl ?_)) | ((with_reducible refine id_call ?_); first | (refine SqA.noG1 rfl rfl ?_)) | ((with_reducible refine id_conv ?_); first | (refine SqA.b1 (op_convU rfl rfl rfl (by omega)) rfl rfl ?_) | (refine SqA.b1 (op_conv8 rfl rfl rfl (by first | assumption | rfl)) rfl rfl ?_) | (refine SqA.b1 (op_s8 rfl rfl rfl) rfl rfl ?_) | (refine SqA.b1 (op_conv32 rfl rfl rfl (by first | assumption | rfl)) rfl rfl ?_) | (refine SqA.b1 (op_s32 rfl rfl rfl (by first | assumption | rfl)) rfl rfl ?_) | (refine SqA.noG1 rfl rfl ?_)) | ((with_reducible refine id_nilc ?_); first | (refine SqA.b1 (op_nilB rfl rfl rfl) rfl rfl ?_) | (refine SqA.b1 (op_nilF rfl rfl rfl) rfl rfl ?_) | (refine SqA.noG1 rfl rfl ?_)) | ((with_reducible refine id_field ?_); first | (refine SqA.b1 (op_fldV rfl rfl ftT0 (rw_of rfl) rfl rfl rfl) rfl rfl ?_) | (refine SqA.b1 (op_fldV rfl rfl ftT1 (rw_of rfl) rfl rfl rfl) rfl rfl ?_) | (refine SqA.b1 (op_fldV rfl rfl ftT2 (rw_of rfl) rfl rfl rfl) rfl rfl ?_) | (refine SqA.noG1 rfl rfl ?_)) | ((with_reducible refine id_mksl ?_); first | (refine SqA.b2 (op_mkInts rfl rfl rfl rfl (by omega) rfl rfl) rfl rfl ?_) | (refine SqA.noG1 rfl rfl ?_)) | ((with_reducible refine id_mkmap ?_); first | (refine SqA.goG (op_mfII (by assumption) rfl rfl rfl rfl rfl) rfl rfl ?_) | (refine SqA.goG (op_mfBS rfl rfl rfl rfl rfl) rfl rfl ?_) | (refine SqA.b2 (op_mkII rfl rfl) rfl rfl ?_) | (refine SqA.b2 (op_mkIB rfl rfl) rfl rfl ?_) | (refine SqA.b2 (op_mkBS rfl rfl) rfl rfl ?_) | (refine SqA.noG1 rfl rfl ?_)) | ((with_reducible refine id_look ?_); first | (refine SqA.b1 (op_lookII rfl rfl rfl rfl rfl rfl rfl (by first | assumption | rfl)) rfl rfl ?_) | (refine SqA.b1 (op_lookIB rfl rfl rfl rfl rfl rfl rfl (by first | assumption | rfl)) rfl rfl ?_) | (refine SqA.b1 (op_lookBS rfl rfl rfl rfl rfl rfl rfl (by first | assumption | rfl)) rfl rfl ?_) | (refine SqA.b1 (op_lfII rfl rfl rfl rfl rfl rfl rfl rfl rfl rfl) rfl rfl ?_) | (refine SqA.b1 (op_lfBS rfl rfl rfl rfl rfl rfl rfl rfl rfl rfl) rfl rfl ?_) | (refine SqA.b1 (op_lnII rfl rfl rfl rfl rfl rfl (by omega) rfl) rfl rfl ?_) | (refine SqA.noG1 rfl rfl ?_)) | ((with_reducible refine id_upd ?_); first | (refine SqA.b1 (op_putII rfl (Or.inl rfl) rfl rfl rfl rfl rfl rfl (by first | assumption | rfl)) rfl rfl ?_) | (refine SqA.b1 (op_putIB rfl (Or.inl rfl) rfl rfl rfl rfl rfl rfl (by first | assumption | rfl)) rfl rfl ?_) | (refine SqA.b1 (op_putBS rfl (Or.inl rfl) rfl rfl rfl rfl rfl rfl (by first | assumption | rfl)) rfl rfl ?_) | (refine SqA.b1 (op_pfII rfl (Or.inl rfl) rfl rfl rfl rfl rfl rfl rfl rfl) rfl rfl ?_) | (refine SqA.b1 (op_pfBS rfl (Or.inl rfl) rfl rfl rfl rfl rfl rfl rfl rfl) rfl rfl ?_) | (refine SqA.noG0 rfl rfl ?_)) | ((with_reducible refine id_ins ?_); first | (refine SqA.b1 (op_putII rfl (Or.inr rfl) rfl rfl rfl rfl rfl rfl (by first | assumption | rfl)) rfl rfl ?_) | (refine SqA.b1 (op_putIB rfl (Or.inr rfl) rfl rfl rfl rfl rfl rfl (by first | assumption | rfl)) rfl rfl ?_) | (refine SqA.b1 (op_putBS rfl (Or.inr rfl) rfl rfl rfl rfl rfl rfl (by first | assumption | rfl)) rfl rfl ?_) | (refine SqA.b1 (op_pfII rfl (Or.inr rfl) rfl rfl rfl rfl rfl rfl rfl rfl) rfl rfl ?_) | (refine SqA.b1 (op_pfBS rfl (Or.inr rfl) rfl rfl rfl rfl rfl rfl rfl rfl) rfl rfl ?_) | (refine SqA.noG0 rfl rfl ?_))))); (with_reducible refine SqA.nilN ?_); (first | (with_reducible refine thenD_n ?_) | (with_reducible refine thenD_ret ?_) | (with_reducible refine thenD_exit ?_) | (with_reducible refine inB_n ?_) | (with_reducible refine inB_ret ?_) | (refine inB_same ?_) | (refine inB_ne rfl ?_)))
            refine dwp_wk (Wk.frzF (t := 12) (j := 12) (fs := [.arr ((vars [] a).map Int.d)]) rfl rfl rfl rfl rfl) ?_
            (refine wlk ?_)
            (refine SqA.b1 (op_idx2B (k := 1) rfl rfl rfl rfl rfl (by decide)) rfl rfl ?_)
            (refine wlk ?_)
            (refine SqA.b1 (op_call none rfl rfl rfl (by kernel_rfl) (FnD.use (g3)) rfl rfl rfl rfl rfl rfl) rfl rfl ?_)
            (refine wlk ?_)
            (refine SqA.b1 (op_mkFn rfl rfl rfl) rfl rfl ?_)
            (refine wlk ?_)
            (refine SqA.b1 (op_call none rfl rfl rfl (by kernel_rfl) (FnD.use (g4)) rfl rfl rfl rfl rfl rfl) rfl rfl ?_)
            (refine wlk ?_)
            exact ⟨j + 1, ⟨by omega, upto_succ hnj hw htry⟩, fgs, by omega⟩
          · rw [hany] at g4 htry
            rw [if_neg (by simp)] at htry
            by_cases ha3 : above t (app s b) = true
            · rw [if_pos ha3] at htry
              have hc3 := h3.2 ha3
              have hr := down1_step hno hx (firstS_hit (f := try1 t) hnj hw htry)
              rw [hr]
              (refine wlk ?_)
              (refine SqA.b1 (op_idx2B (k := 0) rfl rfl rfl rfl rfl (by decide)) rfl rfl ?_)
              (refine wlk ?_)
              (refine SqA.b1 (op_call none rfl rfl rfl (by kernel_rfl) (FnD.use (g1)) rfl rfl rfl rfl rfl rfl) rfl rfl ?_)
              (refine wlk ?_)
              (refine SqA.b1 (op_idx2B (k := 0) rfl rfl rfl rfl rfl (by decide)) rfl rfl ?_)
              (refine wlk ?_)
              (refine SqA.b1 (op_call none rfl rfl rfl (by kernel_rfl) (FnD.use (g2)) rfl rfl rfl rfl rfl rfl) rfl rfl ?_)
              ((repeat ((with_reducible refine id_sq ?_); (first | ((with_reducible refine id_bin (b := .add) ?_); first | (refine SqA.b1 (op_bin rfl rfl rfl rfl (by first | exact bin_add rfl (by omega) | exact bin_catS (by first | assumption | rfl) (by (try simp only [List.length_append, List.length_cons, List.length_nil, List.length_drop, List.length_take]); omega) | exact bin_addw | exact bin_addK (by first | assumption | rfl))) rfl rfl ?_) | (refine SqA.noG1 rfl rfl ?_)) | ((with_reducible refine id_bin (b := .sub) ?_); first | (refine SqA.b1 (op_bin rfl rfl rfl rfl (by first | exact bin_sub rfl (by omega) | exact bin_subK (by first | assumption | rfl))) rfl rfl ?_) | (refine SqA.noG1 rfl rfl ?_)) | ((with_reducible refine id_bin (t := 9) ?_); first | (refine SqA.b1 (op_bin rfl rfl rfl rfl (by first | exact bin_eqS (by first | assumption | rfl) | exact bin_neS (by first | exact congrArg Bool.not (by assumption) | rfl))) rfl rfl ?_) | (refine SqA.a1 TB rfl rfl rfl ?_) | (refine SqA.noG1 rfl rfl ?_)) | ((with_reducible refine id_bin (b := .mul) ?_); first | (refine SqA.b1 (op_bin rfl rfl rfl rfl (by exact bin_mul rfl (by omega))) rfl rfl ?_) | (refine SqA.noG1 rfl rfl ?_)) | ((with_reducible refine id_bin (b := .quo) ?_); first | (refine SqA.b1 (op_bin rfl rfl rfl rfl (bin_quo (by omega) (by omega) (by omega) (by first | assumption | rfl))) rfl rfl ?_) | (refine SqA.noG1 rfl rfl ?_)) | ((with_reducible refine id_bin (b := .rem) ?_); first | (refine SqA.b1 (op_bin rfl rfl rfl rfl (bin_rem (by omega) (by omega) (by first | assumption | rfl))) rfl rfl ?_) | (refine SqA.noG1 rfl rfl ?_)) | ((with_reducible refine id_bin (t := 4) ?_); first | (refine SqA.b1 (op_bin rfl rfl rfl rfl (by first | exact bin_eqlB (by assumption) | exact bin_neqB (by assumption))) rfl rfl ?_) | (refine SqA.a1 TB rfl rfl rfl ?_) | (refine SqA.noG1 rfl rfl ?_)) | ((with_reducible refine id_bin ?_); first | (refine SqA.b1 (op_cmp rfl rfl rfl rfl rfl (by first | exact cmpT (by simp only [cmpP]; assumption) | exact cmpF (by simp only [cmpP]; assumption) | exact cmpT (by simp only [cmpP]; first | done | omega) | exact cmpF (by simp only [cmpP]; first | done | omega) | exact cmpD)) rfl rfl ?_) | (refine SqA.a1 TB rfl rfl rfl ?_) | (refine SqA.b1 (op_neq3 rfl rfl rfl rfl (by first | assumption | rfl)) rfl rfl ?_) | (refine SqA.b1 (op_eql3 rfl rfl rfl rfl (by first | assumption | rfl)) rfl rfl ?_) | (refine SqA.noG1 rfl rfl ?_)) | ((with_reducible refine id_callb (b := .len) ?_); first | (refine SqA.b1 (op_lenT (T := TB) rfl rfl rfl rfl) rfl rfl ?_) | (refine SqA.b1 (op_lenOT (T := TB) rfl rfl rfl rfl) rfl rfl ?_) | (refine SqA.b1 (op_lenNT (T := TB) rfl rfl rfl rfl) rfl rfl ?_) | (refine SqA.b1 (op_lenStr rfl rfl rfl) rfl rfl ?_) | (refine SqA.b1 (op_lenSlT (T := TB) rfl rfl rfl rfl) rfl rfl ?_) | (refine SqA.noG1 rfl rfl ?_)) | ((with_reducible refine id_callb (b := .append) ?_); first | (refine SqA.b2 (op_appT (T := TB) rfl rfl rfl rfl rfl (by first | assumption | rfl) (by (try simp only [List.length_map, List.length_append, List.length_cons, List.length_nil, List.length_take]); omega) (by decide)) rfl rfl ?_) | (refine SqA.b1 (op_app0T (T := TB) rfl rfl rfl rfl rfl (by (try simp only [List.length_map, List.length_append, List.length_cons, List.length_nil, List.length_take]); omega) (by decide)) rfl rfl ?_) | (refine SqA.b1 (op_appFullT (T := TB) rfl rfl rfl rfl rfl (by first | assumption | rfl) (by (try simp only [List.length_map, List.length_append, List.length_cons, List.length_nil, List.length_take]); omega) (by decide) (Nat.succ_pos _)) rfl rfl ?_) | (refine SqA.noG1 rfl rfl ?_)) | ((with_reducible refine id_callb (b := .min) ?_); first | (refine SqA.b1 (op_min rfl rfl rfl rfl (by first | exact if_pos (by omega) | exact if_neg (by omega) | rfl)) rfl rfl ?_) | (refine SqA.noG1 rfl rfl ?_)) | ((with_reducible refine id_callb (b := .max) ?_); first | (refine SqA.b1 (op_max rfl rfl rfl rfl (by first | exact if_pos (by omega) | exact if_neg (by omega) | rfl)) rfl rfl ?_) | (refine SqA.noG1 rfl rfl ?_)) | ((with_reducible refine id_idx ?_); first | (refine SqA.b1 (op_idxT (T := TB) rfl rfl rfl rfl rfl (by assumption) (by first | rfl | omega)) rfl rfl ?_) | (refine SqA.b1 (op_idx3 rfl rfl rfl rfl (by first | rfl | omega) (by omega)) rfl rfl ?_) | (refine SqA.b1 (op_idxSlT (T := TB) rfl rfl rfl rfl rfl (by first | rfl | omega) (by omega) rfl) rfl rfl ?_) | (refine SqA.b1 (op_idx2 rfl rfl rfl rfl (k := 0) rfl (by omega)) rfl rfl ?_) | (refine SqA.b1 (op_idx2 rfl rfl rfl rfl (k := 1) rfl (by omega)) rfl rfl ?_) | (refine SqA.noG1 rfl rfl ?_)) | ((with_reducible refine id_index ?_); first | (refine SqA.b1 (op_index3 rfl rfl rfl rfl (by first | rfl | omega) (by omega) (by first | assumption | rfl) rfl) rfl rfl ?_) | (refine SqA.b1 (op_idxS rfl rfl rfl rfl (by assumption) (by first | rfl | omega)) rfl rfl ?_) | (refine SqA.noG1 rfl rfl ?_)) | ((with_reducible refine id_slice ?_); first | (refine SqA.b1 (op_sliceLoT (T := TB) rfl rfl rfl rfl rfl (by first | decide | omega) (by first | decide | (simp only [List.length_cons, Int.toNat_one]; omega) | omega)) rfl rfl ?_) | (refine SqA.b1 (op_slice3T (T := TB) rfl rfl rfl rfl rfl rfl rfl (by (try simp only [List.length_cons, List.length_nil, List.length_drop, List.length_take, List.length_append]); omega)) rfl rfl ?_) | (refine SqA.b1 (op_slS1 rfl rfl rfl rfl (by first | rfl | omega) (by (try simp only [List.length_cons, List.length_nil, List.length_drop, List.length_take, List.length_append]); omega) (by first | assumption | rfl)) rfl rfl ?_) | (refine SqA.b1 (op_slS2 rfl rfl rfl rfl rfl (by first | rfl | omega) (by first | rfl | omega) (by (try simp only [List.length_cons, List.length_nil, List.length_drop, List.length_take, List.length_append]); omega) (by (try simp only [List.length_cons, List.length_nil, List.length_drop, List.length_take, List.length_append]); omega) (by first | assumption | rfl)) rfl rfl ?_) | (refine SqA.b1 (op_slS0 rfl rfl rfl rfl (by first | rfl | omega) (by (try simp only [List.length_cons, List.length_nil, List.length_drop, List.length_take, List.length_append]); omega) (by first | assumption | rfl)) rfl rfl ?_) | (refine SqA.noG1 rfl rfl ?_)) | ((with_reducible refine id_load ?_); first | (refine SqA.a1 TB rfl rfl rfl ?_) | (refine SqA.a2 TB rfl rfl rfl ?_) | (refine SqA.b1 (op_loadK rfl rfl (rw_of rfl) rfl rfl rfl rfl) rfl rfl ?_) | (refine SqA.b1 (op_load1B rfl rfl (rw_of rfl) rfl rfl (by assumption) rfl rfl) rfl rfl ?_) | (refine SqA.b1 (op_load1I rfl rfl (rw_of rfl) rfl rfl rfl) rfl rfl ?_) | (refine SqA.b1 (op_loadNI rfl rfl (rw_of rfl) rfl rfl rfl rfl rfl) rfl rfl ?_) | (refine SqA.b1 (op_loadP rfl rfl (rw_of rfl) rfl rfl) rfl rfl ?_) | (refine SqA.noG1 rfl rfl ?_)) | ((with_reducible refine id_store ?_); first | (refine SqA.a1 TB rfl rfl rfl ?_) | (refine SqA.a2 TB rfl rfl rfl ?_) | (refine SqA.b1 (op_storeV rfl rfl rfl rfl (rw_of rfl) rfl rfl rfl (by (try simp only [List.length_map, List.length_replicate, List.length_set]); omega) (by first | assumption | rfl) rfl) rfl rfl ?_) | (refine SqA.noG0 rfl rfl ?_)) | ((with_reducible refine id_box ?_); first | (refine SqA.a2 TB rfl rfl rfl ?_) | (refine SqA.noG1 rfl rfl ?_)) | ((with_reducible refine id_alloc ?_); first | (refine SqA.a2 TB rfl rfl rfl ?_) | (refine SqA.b2 (op_alloc3 rfl rfl rfl rfl) rfl rfl ?_) | (refine SqA.noG1 rfl rfl ?_)) | ((with_reducible refine id_build ?_); first | (refine SqA.a1 TB rfl rfl rfl ?_) | (refine SqA.b1 (op_b3 rfl rfl rfl) rfl rfl ?_) | (refine SqA.b1 (op_b2 rfl rfl rfl) rfl rfl ?_) | (refine SqA.noG1 rfl rfl ?_)) | ((with_reducible refine id_move ?_); first | (refine SqA.a1 TB rfl rfl rfl ?_) | (refine SqA.a2 TB rfl rfl rfl ?_) | (refine SqA.noG1 rfl rfl ?_) | (refine SqA.b1 (op_moveK rfl (Or.inl rfl) rfl) rfl rfl ?_)) | ((with_reducible refine id_assign ?_); first | (refine SqA.a1 TB rfl rfl rfl ?_) | (refine SqA.a2 TB rfl rfl rfl ?_) | (refine SqA.noG1 rfl rfl ?_) | (refine SqA.b1 (op_moveK rfl (Or.inr rfl) rfl) rfl rfl ?_)) | ((with_reducible refine id_un ?_); first | (refine SqA.a1 TB rfl rfl rfl ?_) | (refine SqA.noG1 rfl rfl ?_)) | ((with_reducible refine id_fld ?_); first | (refine SqA.a1 TB rfl rfl rfl ?_) | (refine SqA.b1 (op_fldI rfl rfl (fo_of rfl) rfl rfl rfl) rfl rfl ?_) | (refine SqA.noG1 rfl rfl ?_)) | ((with_reducible refine id_extract ?_); first | (refine SqA.a1 TB rfl rfl rfl ?_) | (refine SqA.noG1 rfl rfl ?_)) | ((with_reducible refine id_pick ?_); first | (refine SqA.a1 TB rfl rfl rfl ?_) | (refine SqA.noG1 rfl rfl ?_)) | ((with_reducible refine id_bs ?_); first | (refine SqA.a1 TB rfl rfl rfl ?_) | (refine SqA.noG1 rfl rfl ?_)) | ((with_reducible refine id_call ?_); first | (refine SqA.noG1 rfl rfl ?_)) | ((with_reducible refine id_conv ?_); first | (refine SqA.b1 (op_convU rfl rfl rfl (by omega)) rfl rfl ?_) | (refine SqA.b1 (op_conv8 rfl rfl rfl (by first | assumption | rfl)) rfl rfl ?_) | (refine SqA.b1 (op_s8 rfl rfl rfl) rfl rfl ?_) | (refine SqA.b1 (op_conv32 rfl rfl rfl (by first | assumption | rfl)) rfl rfl ?_) | (refine SqA.b1 (op_s32 rfl rfl rfl (by first | assumption | rfl)) rfl rfl ?_) | (refine SqA.noG1 rfl rfl ?_)) | ((with_reducible refine id_nilc ?_); first | (refine SqA.b1 (op_nilB rfl rfl rfl) rfl rfl ?_) | (refine SqA.b1 (op_nilF rfl rfl rfl) rfl rfl ?_) | (refine SqA.noG1 rfl rfl ?_)) | ((with_reducible refine id_field ?_); first | (refine SqA.b1 (op_fldV rfl rfl ftT0 (rw_of rfl) rfl rfl rfl) rfl rfl ?_) | (refine SqA.b1 (op_fldV rfl rfl ftT1 (rw_of rfl) rfl rfl rfl) rfl rfl ?_) | (refine SqA.b1 (op_fldV rfl rfl ftT2 (rw_of rfl) rfl rfl rfl) rfl rfl ?_) | (refine SqA.noG1 rfl rfl ?_)) | ((with_reducible refine id_mksl ?_); first | (refine SqA.b2 (op_mkInts rfl rfl rfl rfl (by omega) rfl rfl) rfl rfl ?_) | (refine SqA.noG1 rfl rfl ?_)) | ((with_reducible refine id_mkmap ?_); first | (refine SqA.goG (op_mfII (by assumption) rfl rfl rfl rfl rfl) rfl rfl ?_) | (refine SqA.goG (op_mfBS rfl rfl rfl rfl rfl) rfl rfl ?_) | (refine SqA.b2 (op_mkII rfl rfl) rfl rfl ?_) | (refine SqA.b2 (op_mkIB rfl rfl) rfl rfl ?_) | (refine SqA.b2 (op_mkBS rfl rfl) rfl rfl ?_) | (refine SqA.noG1 rfl rfl ?_)) | ((with_reducible refine id_look ?_); first | (refine SqA.b1 (op_lookII rfl rfl rfl rfl rfl rfl rfl (by first | assumption | rfl)) rfl rfl ?_) | (refine SqA.b1 (op_lookIB rfl rfl rfl rfl rfl rfl rfl (by first | assumption | rfl)) rfl rfl ?_) | (refine SqA.b1 (op_lookBS rfl rfl rfl rfl rfl rfl rfl (by first | assumption | rfl)) rfl rfl ?_) | (refine SqA.b1 (op_lfII rfl rfl rfl rfl rfl rfl rfl rfl rfl rfl) rfl rfl ?_) | (refine SqA.b1 (op_lfBS rfl rfl rfl rfl rfl rfl rfl rfl rfl rfl) rfl rfl ?_) | (refine SqA.b1 (op_lnII rfl rfl rfl rfl rfl rfl (by omega) rfl) rfl rfl ?_) | (refine SqA.noG1 rfl rfl ?_)) | ((with_reducible refine id_upd ?_); first | (refine SqA.b1 (op_putII rfl (Or.inl rfl) rfl rfl rfl rfl rfl rfl (by first | assumption | rfl)) rfl rfl ?_) | (refine SqA.b1 (op_putIB rfl (Or.inl rfl) rfl rfl rfl rfl rfl rfl (by first | assumption | rfl)) rfl rfl ?_) | (refine SqA.b1 (op_putBS rfl (Or.inl rfl) rfl rfl rfl rfl rfl rfl (by first | assumption | rfl)) rfl rfl ?_) | (refine SqA.b1 (op_pfII rfl (Or.inl rfl) rfl rfl rfl rfl rfl rfl rfl rfl) rfl rfl ?_) | (refine SqA.b1 (op_pfBS rfl (Or.inl rfl) rfl rfl rfl rfl rfl rfl rfl rfl) rfl rfl ?_) | (refine SqA.noG0 rfl rfl ?_)) | ((with_reducible refine id_ins ?_); first | (refine SqA.b1 (op_putII rfl (Or.inr rfl) rfl rfl rfl rfl rfl rfl (by first | assumption | rfl)) rfl rfl ?_) | (refine SqA.b1 (op_putIB rfl (Or.inr rfl) rfl rfl rfl rfl rfl rfl (by first | assumption | rfl)) rfl rfl ?_) | (refine SqA.b1 (op_putBS rfl (Or.inr rfl) rfl rfl rfl rfl rfl rfl (by first | assumption | rfl)) rfl rfl ?_) | (refine SqA.b1 (op_pfII rfl (Or.inr rfl) rfl rfl rfl rfl rfl rfl rfl rfl) rfl rfl ?_) | (refine SqA.b1 (op_pfBS rfl (Or.inr rfl) rfl rfl rfl rfl rfl rfl rfl rfl) rfl rfl ?_) | (refine SqA.noG0 rfl rfl ?_))))); (with_reducible refine SqA.nilN ?_); (first | (with_reducible refine thenD_n ?_) | (with_reducible refine thenD_ret ?_) | (with_reducible refine thenD_exit ?_) | (with_reducible refine inB_n ?_) | (with_reducible refine inB_ret ?_) | (refine inB_same ?_) | (refine inB_ne rfl ?_)))
              refine dwp_wk (Wk.frzF (t := 12) (j := 12) (fs := [.arr ((vars [] a).map Int.d)]) rfl rfl rfl rfl rfl) ?_
              (refine wlk ?_)
              (refine SqA.b1 (op_idx2B (k := 1) rfl rfl rfl rfl rfl (by decide)) rfl rfl ?_)
              (refine wlk ?_)
              (refine SqA.b1 (op_call none rfl rfl rfl (by kernel_rfl) (FnD.use (g3)) rfl rfl rfl rfl rfl rfl) rfl rfl ?_)
              (refine wlk ?_)
              (refine SqA.b1 (op_mkFn rfl rfl rfl) rfl rfl ?_)
              (refine wlk ?_)
              (refine SqA.b1 (op_call none rfl rfl rfl (by kernel_rfl) (FnD.use (g4)) rfl rfl rfl rfl rfl rfl) rfl rfl ?_)
              (refine wlk ?_)
              (refine SqA.b1 (op_idx2B (k := 1) rfl rfl rfl rfl rfl (by decide)) rfl rfl ?_)
              (refine wlk ?_)
              (refine SqA.b1 (op_call none rfl rfl rfl (by kernel_rfl) (FnD.use (g5)) rfl rfl rfl rfl rfl rfl) rfl rfl ?_)
              (refine wlk ?_)
              (refine SqA.b1 (op_call none rfl rfl rfl (by kernel_rfl) (FnD.use (g6)) rfl rfl rfl rfl rfl rfl) rfl rfl ?_)
              (refine wlk ?_)
              (first | (refine finR (.cellN rfl rfl (rw_of rfl) rfl rfl (.tmp rfl .nil)) rfl rfl ?_) | (refine finN (.cellN rfl rfl (rw_of rfl) rfl rfl (.tmp rfl .nil)) rfl rfl ?_))
              rfl
            · rw [if_neg ha3] at htry
              have hc3 : ¬ compare t (app s b) = 3 := fun h => ha3 (h3.1 h)
              (refine wlk ?_)
              (refine SqA.b1 (op_idx2B (k := 0) rfl rfl rfl rfl rfl (by decide)) rfl rfl ?_)
              (refine wlk ?_)
              (refine SqA.b1 (op_call none rfl rfl rfl (by kernel_rfl) (FnD.use (g1)) rfl rfl rfl rfl rfl rfl) rfl rfl ?_)
              (refine wlk ?_)
              (refine SqA.b1 (op_idx2B (k := 0) rfl rfl rfl rfl rfl (by decide)) rfl rfl ?_)
              (refine wlk ?_)
              (refine SqA.b1 (op_call none rfl rfl rfl (by kernel_rfl) (FnD.use (g2)) rfl rfl rfl rfl rfl rfl) rfl rfl ?_)
              ((repeat ((with_reducible refine id_sq ?_); (first | ((with_reducible refine id_bin (b := .add) ?_); first | (refine SqA.b1 (op_bin rfl rfl rfl rfl (by first | exact bin_add rfl (by omega) | exact bin_catS (by first | assumption | rfl) (by (try simp only [List.length_append, List.length_cons, List.length_nil, List.length_drop, List.length_take]); omega) | exact bin_addw | exact bin_addK (by first | assumption | rfl))) rfl rfl ?_) | (refine SqA.noG1 rfl rfl ?_)) | ((with_reducible refine id_bin (b := .sub) ?_); first | (refine SqA.b1 (op_bin rfl rfl rfl rfl (by first | exact bin_sub rfl (by omega) | exact bin_subK (by first | assumption | rfl))) rfl rfl ?_) | (refine SqA.noG1 rfl rfl ?_)) | ((with_reducible refine id_bin (t := 9) ?_); first | (refine SqA.b1 (op_bin rfl rfl rfl rfl (by first | exact bin_eqS (by first | assumption | rfl) | exact bin_neS (by first | exact congrArg Bool.not (by assumption) | rfl))) rfl rfl ?_) | (refine SqA.a1 TB rfl rfl rfl ?_) | (refine SqA.noG1 rfl rfl ?_)) | ((with_reducible refine id_bin (b := .mul) ?_); first | (refine SqA.b1 (op_bin rfl rfl rfl rfl (by exact bin_mul rfl (by omega))) rfl rfl ?_) | (refine SqA.noG1 rfl rfl ?_)) | ((with_reducible refine id_bin (b := .quo) ?_); first | (refine SqA.b1 (op_bin rfl rfl rfl rfl (bin_quo (by omega) (by omega) (by omega) (by first | assumption | rfl))) rfl rfl ?_) | (refine SqA.noG1 rfl rfl ?_)) | ((with_reducible refine id_bin (b := .rem) ?_); first | (refine SqA.b1 (op_bin rfl rfl rfl rfl (bin_rem (by omega) (by omega) (by first | assumption | rfl))) rfl rfl ?_) | (refine SqA.noG1 rfl rfl ?_)) | ((with_reducible refine id_bin (t := 4) ?_); first | (refine SqA.b1 (op_bin rfl rfl rfl rfl (by first | exact bin_eqlB (by assumption) | exact bin_neqB (by assumption))) rfl rfl ?_) | (refine SqA.a1 TB rfl rfl rfl ?_) | (refine SqA.noG1 rfl rfl ?_)) | ((with_reducible refine id_bin ?_); first | (refine SqA.b1 (op_cmp rfl rfl rfl rfl rfl (by first | exact cmpT (by simp only [cmpP]; assumption) | exact cmpF (by simp only [cmpP]; assumption) | exact cmpT (by simp only [cmpP]; first | done | omega) | exact cmpF (by simp only [cmpP]; first | done | omega) | exact cmpD)) rfl rfl ?_) | (refine SqA.a1 TB rfl rfl rfl ?_) | (refine SqA.b1 (op_neq3 rfl rfl rfl rfl (by first | assumption | rfl)) rfl rfl ?_) | (refine SqA.b1 (op_eql3 rfl rfl rfl rfl (by first | assumption | rfl)) rfl rfl ?_) | (refine SqA.noG1 rfl rfl ?_)) | ((with_reducible refine id_callb (b := .len) ?_); first | (refine SqA.b1 (op_lenT (T := TB) rfl rfl rfl rfl) rfl rfl ?_) | (refine SqA.b1 (op_lenOT (T := TB) rfl rfl rfl rfl) rfl rfl ?_) | (refine SqA.b1 (op_lenNT (T := TB) rfl rfl rfl rfl) rfl rfl ?_) | (refine SqA.b1 (op_lenStr rfl rfl rfl) rfl rfl ?_) | (refine SqA.b1 (op_lenSlT (T := TB) rfl rfl rfl rfl) rfl rfl ?_) | (refine SqA.noG1 rfl rfl ?_)) | ((with_reducible refine id_callb (b := .append) ?_); first | (refine SqA.b2 (op_appT (T := TB) rfl rfl rfl rfl rfl (by first | assumption | rfl) (by (try simp only [List.length_map, List.length_append, List.length_cons, List.length_nil, List.length_take]); omega) (by decide)) rfl rfl ?_) | (refine SqA.b1 (op_app0T (T := TB) rfl rfl rfl rfl rfl (by (try simp only [List.length_map, List.length_append, List.length_cons, List.length_nil, List.length_take]); omega) (by decide)) rfl rfl ?_) | (refine SqA.b1 (op_appFullT (T := TB) rfl rfl rfl rfl rfl (by first | assumption | rfl) (by (try simp only [List.length_map, List.length_append, List.length_cons, List.length_nil, List.length_take]); omega) (by decide) (Nat.succ_pos _)) rfl rfl ?_) | (refine SqA.noG1 rfl rfl ?_)) | ((with_reducible refine id_callb (b := .min) ?_); first | (refine SqA.b1 (op_min rfl rfl rfl rfl (by first | exact if_pos (by omega) | exact if_neg (by omega) | rfl)) rfl rfl ?_) | (refine SqA.noG1 rfl rfl ?_)) | ((with_reducible refine id_callb (b := .max) ?_); first | (refine SqA.b1 (op_max rfl rfl rfl rfl (by first | exact if_pos (by omega) | exact if_neg (by omega) | rfl)) rfl rfl ?_) | (refine SqA.noG1 rfl rfl ?_)) | ((with_reducible refine id_idx ?_); first | (refine SqA.b1 (op_idxT (T := TB) rfl rfl rfl rfl rfl (by assumption) (by first | rfl | omega)) rfl rfl ?_) | (refine SqA.b1 (op_idx3 rfl rfl rfl rfl (by first | rfl | omega) (by omega)) rfl rfl ?_) | (refine SqA.b1 (op_idxSlT (T := TB) rfl rfl rfl rfl rfl (by first | rfl | omega) (by omega) rfl) rfl rfl ?_) | (refine SqA.b1 (op_idx2 rfl rfl rfl rfl (k := 0) rfl (by omega)) rfl rfl ?_) | (refine SqA.b1 (op_idx2 rfl rfl rfl rfl (k := 1) rfl (by omega)) rfl rfl ?_) | (refine SqA.noG1 rfl rfl ?_)) | ((with_reducible refine id_index ?_); first | (refine SqA.b1 (op_index3 rfl rfl rfl rfl (by first | rfl | omega) (by omega) (by first | assumption | rfl) rfl) rfl rfl ?_) | (refine SqA.b1 (op_idxS rfl rfl rfl rfl (by assumption) (by first | rfl | omega)) rfl rfl ?_) | (refine SqA.noG1 rfl rfl ?_)) | ((with_reducible refine id_slice ?_); first | (refine SqA.b1 (op_sliceLoT (T := TB) rfl rfl rfl rfl rfl (by first | decide | omega) (by first | decide | (simp only [List.length_cons, Int.toNat_one]; omega) | omega)) rfl rfl ?_) | (refine SqA.b1 (op_slice3T (T := TB) rfl rfl rfl rfl rfl rfl rfl (by (try simp only [List.length_cons, List.length_nil, List.length_drop, List.length_take, List.length_append]); omega)) rfl rfl ?_) | (refine SqA.b1 (op_slS1 rfl rfl rfl rfl (by first | rfl | omega) (by (try simp only [List.length_cons, List.length_nil, List.length_drop, List.length_take, List.length_append]); omega) (by first | assumption | rfl)) rfl rfl ?_) | (refine SqA.b1 (op_slS2 rfl rfl rfl rfl rfl (by first | rfl | omega) (by first | rfl | omega) (by (try simp only [List.length_cons, List.length_nil, List.length_drop, List.length_take, List.length_append]); omega) (by (try simp only [List.length_cons, List.length_nil, List.length_drop, List.length_take, List.length_append]); omega) (by first | assumption | rfl)) rfl rfl ?_) | (refine SqA.b1 (op_slS0 rfl rfl rfl rfl (by first | rfl | omega) (by (try simp only [List.length_cons, List.length_nil, List.length_drop, List.length_take, List.length_append]); omega) (by first | assumption | rfl)) rfl rfl ?_) | (refine SqA.noG1 rfl rfl ?_)) | ((with_reducible refine id_load ?_); first | (refine SqA.a1 TB rfl rfl rfl ?_) | (refine SqA.a2 TB rfl rfl rfl ?_) | (refine SqA.b1 (op_loadK rfl rfl (rw_of rfl) rfl rfl rfl rfl) rfl rfl ?_) | (refine SqA.b1 (op_load1B rfl rfl (rw_of rfl) rfl rfl (by assumption) rfl rfl) rfl rfl ?_) | (refine SqA.b1 (op_load1I rfl rfl (rw_of rfl) rfl rfl rfl) rfl rfl ?_) | (refine SqA.b1 (op_loadNI rfl rfl (rw_of rfl) rfl rfl rfl rfl rfl) rfl rfl ?_) | (refine SqA.b1 (op_loadP rfl rfl (rw_of rfl) rfl rfl) rfl rfl ?_) | (refine SqA.noG1 rfl rfl ?_)) | ((with_reducible refine id_store ?_); first | (refine SqA.a1 TB rfl rfl rfl ?_) | (refine SqA.a2 TB rfl rfl rfl ?_) | (refine SqA.b1 (op_storeV rfl rfl rfl rfl (rw_of rfl) rfl rfl rfl (by (try simp only [List.length_map, List.length_replicate, List.length_set]); omega) (by first | assumption | rfl) rfl) rfl rfl ?_) | (refine SqA.noG0 rfl rfl ?_)) | ((with_reducible refine id_box ?_); first | (refine SqA.a2 TB rfl rfl rfl ?_) | (refine SqA.noG1 rfl rfl ?_)) | ((with_reducible refine id_alloc ?_); first | (refine SqA.a2 TB rfl rfl rfl ?_) | (refine SqA.b2 (op_alloc3 rfl rfl rfl rfl) rfl rfl ?_) | (refine SqA.noG1 rfl rfl ?_)) | ((with_reducible refine id_build ?_); first | (refine SqA.a1 TB rfl rfl rfl ?_) | (refine SqA.b1 (op_b3 rfl rfl rfl) rfl rfl ?_) | (refine SqA.b1 (op_b2 rfl rfl rfl) rfl rfl ?_) | (refine SqA.noG1 rfl rfl ?_)) | ((with_reducible refine id_move ?_); first | (refine SqA.a1 TB rfl rfl rfl ?_) | (refine SqA.a2 TB rfl rfl rfl ?_) | (refine SqA.noG1 rfl rfl ?_) | (refine SqA.b1 (op_moveK rfl (Or.inl rfl) rfl) rfl rfl ?_)) | ((with_reducible refine id_assign ?_); first | (refine SqA.a1 TB rfl rfl rfl ?_) | (refine SqA.a2 TB rfl rfl rfl ?_) | (refine SqA.noG1 rfl rfl ?_) | (refine SqA.b1 (op_moveK rfl (Or.inr rfl) rfl) rfl rfl ?_)) | ((with_reducible refine id_un ?_); first | (refine SqA.a1 TB rfl rfl rfl ?_) | (refine SqA.noG1 rfl rfl ?_)) | ((with_reducible refine id_fld ?_); first | (refine SqA.a1 TB rfl rfl rfl ?_) | (refine SqA.b1 (op_fldI rfl rfl (fo_of rfl) rfl rfl rfl) rfl rfl ?_) | (refine SqA.noG1 rfl rfl ?_)) | ((with_reducible refine id_extract ?_); first | (refine SqA.a1 TB rfl rfl rfl ?_) | (refine SqA.noG1 rfl rfl ?_)) | ((with_reducible refine id_pick ?_); first | (refine SqA.a1 TB rfl rfl rfl ?_) | (refine SqA.noG1 rfl rfl ?_)) | ((with_reducible refine id_bs ?_); first | (refine SqA.a1 TB rfl rfl rfl ?_) | (refine SqA.noG1 rfl rfl ?_)) | ((with_reducible refine id_call ?_); first | (refine SqA.noG1 rfl rfl ?_)) | ((with_reducible refine id_conv ?_); first | (refine SqA.b1 (op_convU rfl rfl rfl (by omega)) rfl rfl ?_) | (refine SqA.b1 (op_conv8 rfl rfl rfl (by first | assumption | rfl)) rfl rfl ?_) | (refine SqA.b1 (op_s8 rfl rfl rfl) rfl rfl ?_) | (refine SqA.b1 (op_conv32 rfl rfl rfl (by first | assumption | rfl)) rfl rfl ?_) | (refine SqA.b1 (op_s32 rfl rfl rfl (by first | assumption | rfl)) rfl rfl ?_) | (refine SqA.noG1 rfl rfl ?_)) | ((with_reducible refine id_nilc ?_); first | (refine SqA.b1 (op_nilB rfl rfl rfl) rfl rfl ?_) | (refine SqA.b1 (op_nilF rfl rfl rfl) rfl rfl ?_) | (refine SqA.noG1 rfl rfl ?_)) | ((with_reducible refine id_field ?_); first | (refine SqA.b1 (op_fldV rfl rfl ftT0 (rw_of rfl) rfl rfl rfl) rfl rfl ?_) | (refine SqA.b1 (op_fldV rfl rfl ftT1 (rw_of rfl) rfl rfl rfl) rfl rfl ?_) | (refine SqA.b1 (op_fldV rfl rfl ftT2 (rw_of rfl) rfl rfl rfl) rfl rfl ?_) | (refine SqA.noG1 rfl rfl ?_)) | ((with_reducible refine id_mksl ?_); first | (refine SqA.b2 (op_mkInts rfl rfl rfl rfl (by omega) rfl rfl) rfl rfl ?_) | (refine SqA.noG1 rfl rfl ?_)) | ((with_reducible refine id_mkmap ?_); first | (refine SqA.goG (op_mfII (by assumption) rfl rfl rfl rfl rfl) rfl rfl ?_) | (refine SqA.goG (op_mfBS rfl rfl rfl rfl rfl) rfl rfl ?_) | (refine SqA.b2 (op_mkII rfl rfl) rfl rfl ?_) | (refine SqA.b2 (op_mkIB rfl rfl) rfl rfl ?_) | (refine SqA.b2 (op_mkBS rfl rfl) rfl rfl ?_) | (refine SqA.noG1 rfl rfl ?_)) | ((with_reducible refine id_look ?_); first | (refine SqA.b1 (op_lookII rfl rfl rfl rfl rfl rfl rfl (by first | assumption | rfl)) rfl rfl ?_) | (refine SqA.b1 (op_lookIB rfl rfl rfl rfl rfl rfl rfl (by first | assumption | rfl)) rfl rfl ?_) | (refine SqA.b1 (op_lookBS rfl rfl rfl rfl rfl rfl rfl (by first | assumption | rfl)) rfl rfl ?_) | (refine SqA.b1 (op_lfII rfl rfl rfl rfl rfl rfl rfl rfl rfl rfl) rfl rfl ?_) | (refine SqA.b1 (op_lfBS rfl rfl rfl rfl rfl rfl rfl rfl rfl rfl) rfl rfl ?_) | (refine SqA.b1 (op_lnII rfl rfl rfl rfl rfl rfl (by omega) rfl) rfl rfl ?_) | (refine SqA.noG1 rfl rfl ?_)) | ((with_reducible refine id_upd ?_); first | (refine SqA.b1 (op_putII rfl (Or.inl rfl) rfl rfl rfl rfl rfl rfl (by first | assumption | rfl)) rfl rfl ?_) | (refine SqA.b1 (op_putIB rfl (Or.inl rfl) rfl rfl rfl rfl rfl rfl (by first | assumption | rfl)) rfl rfl ?_) | (refine SqA.b1 (op_putBS rfl (Or.inl rfl) rfl rfl rfl rfl rfl rfl (by first | assumption | rfl)) rfl rfl ?_) | (refine SqA.b1 (op_pfII rfl (Or.inl rfl) rfl rfl rfl rfl rfl rfl rfl rfl) rfl rfl ?_) | (refine SqA.b1 (op_pfBS rfl (Or.inl rfl) rfl rfl rfl rfl rfl rfl rfl rfl) rfl rfl ?_) | (refine SqA.noG0 rfl rfl ?_)) | ((with_reducible refine id_ins ?_); first | (refine SqA.b1 (op_putII rfl (Or.inr rfl) rfl rfl rfl rfl rfl rfl (by first | assumption | rfl)) rfl rfl ?_) | (refine SqA.b1 (op_putIB rfl (Or.inr rfl) rfl rfl rfl rfl rfl rfl (by first | assumption | rfl)) rfl rfl ?_) | (refine SqA.b1 (op_putBS rfl (Or.inr rfl) rfl rfl rfl rfl rfl rfl (by first | assumption | rfl)) rfl rfl ?_) | (refine SqA.b1 (op_pfII rfl (Or.inr rfl) rfl rfl rfl rfl rfl rfl rfl rfl) rfl rfl ?_) | (refine SqA.b1 (op_pfBS rfl (Or.inr rfl) rfl rfl rfl rfl rfl rfl rfl rfl) rfl rfl ?_) | (refine SqA.noG0 rfl rfl ?_))))); (with_reducible refine SqA.nilN ?_); (first | (with_reducible refine thenD_n ?_) | (with_reducible refine thenD_ret ?_) | (with_reducible refine thenD_exit ?_) | (with_reducible refine inB_n ?_) | (with_reducible refine inB_ret ?_) | (refine inB_same ?_) | (refine inB_ne rfl ?_)))
              refine dwp_wk (Wk.frzF (t := 12) (j := 12) (fs := [.arr ((vars [] a).map Int.d)]) rfl rfl rfl rfl rfl) ?_
              (refine wlk ?_)
              (refine SqA.b1 (op_idx2B (k := 1) rfl rfl rfl rfl rfl (by decide)) rfl rfl ?_)
              (refine wlk ?_)
              (refine SqA.b1 (op_call none rfl rfl rfl (by kernel_rfl) (FnD.use (g3)) rfl rfl rfl rfl rfl rfl) rfl rfl ?_)
              (refine wlk ?_)
              (refine SqA.b1 (op_mkFn rfl rfl rfl) rfl rfl ?_)
              (refine wlk ?_)
              (refine SqA.b1 (op_call none rfl rfl rfl (by kernel_rfl) (FnD.use (g4)) rfl rfl rfl rfl rfl rfl) rfl rfl ?_)
              (refine wlk ?_)
              (refine SqA.b1 (op_idx2B (k := 1) rfl rfl rfl rfl rfl (by decide)) rfl rfl ?_)
              (refine wlk ?_)
              (refine SqA.b1 (op_call none rfl rfl rfl (by kernel_rfl) (FnD.use (g5)) rfl rfl rfl rfl rfl rfl) rfl rfl ?_)
              (refine wlk ?_)
              (refine SqA.b1 (op_call none rfl rfl rfl (by kernel_rfl) (FnD.use (g6)) rfl rfl rfl rfl rfl rfl) rfl rfl ?_)
              (refine wlk ?_)
              exact ⟨j + 1, ⟨by omega, upto_succ hnj hw htry⟩, fgs, by omega⟩
    · have : j = 2 := by omega
      subst this
      have hwn : firstS (try1 t) (wayOf [(⟨false, xl, xr⟩ : Lt)]) = none := by
        rw [hwo]; exact firstS_none.2 fun w hw => any_upto (l := [((xl, xr) : Tm × Tm), (xr, xl)]) hnj w hw
      (refine wlk ?_)
      exact ⟨k + 1, ⟨by omega, upto_succ hno hx hwn⟩, fgs, by omega⟩
  · have : k = us.length := by omega
    subst this
    have hr : down1 us t = none := firstS_none.2 fun x hx => any_upto hno x hx
    rw [hr]
    (refine wlk ?_)
    refine fin_wk (fun n => Wk.nilArrB (j := 4) (q := 2) rfl rfl rfl) ?_
    (first | (refine finR (.cellN rfl rfl (rw_of rfl) rfl rfl (.tmp rfl .nil)) rfl rfl ?_) | (refine finN (.cellN rfl rfl (rw_of rfl) rfl rfl (.tmp rfl .nil)) rfl rfl ?_))
    rfl
end Go.Proofs.YtmanhdacnkpclaaDoor
