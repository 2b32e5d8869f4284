/- What functions do: which clauses hold of a model; a clause's variables. -/
import Derived.Test.YtmanhdacnkpclaaDoordcH1
import Derived.Test.YtmanhdacnkpclaaDoordcM3
import Derived.Test.YtmanhdacnkpclaaDoordcDd
import Derived.Test.YtmanhdacnkpclaaDoordcCl
/- What functions do: which clauses hold of a model; a clause's variables. -/
namespace Go.Proofs.YtmanhdacnkpclaaDoor
set_option linter.all false
open Go.RowKit

set_option maxHeartbeats 8000000 in
set_option maxRecDepth 100000 in
theorem rsome {s : List Int} {m : Md} {env : List Int} (hm : MOk s m) (he : EOk m env) (hs : wrongSig s = 0) (c : List Lt) (hc : clWf s c) : FnD Tryd.prog 90 [mdA m, lA Int.d env, lA Lt.d c] (.one (bA (some_ m env c))) := by
  refine Fn.of Tryd.func90 rfl Tryd.ntmps90 rfl (Nat.le_of_ble_eq_true rfl) ?_
  refine dwp_len (t := 2) (ds := c.map Lt.d) rfl fun hbl => ?_
  rw [List.length_map] at hbl
  (refine wlk ?_)
  refine dwp_loop (fun k : Nat => [(.t 1, some (.one (lA Int.d env))), (.t 3, some (.one (.c (.ptr 3 0)))), (.b 3, some (.box (mdA m).cells)), (.t 9, some (.one (lA Lt.d c))), (.t 10, some (.one (iA c.length))), (.t 11, some (.one (iA k)))])
    (fun k => k ≤ c.length ∧ ∀ j x, j < k → c[j]? = some x → lit m env x = false) (fun k => c.length - k) 0 ⟨by omega, fun j x h => absurd h (by omega)⟩ fgs ?_
  rintro k ⟨hk, hno⟩
  by_cases hkl : k < c.length
  · obtain ⟨⟨ng, xl, xr⟩, hx⟩ := get_of_lt hkl
    have hxw := hc _ (List.mem_of_getElem? hx)
    dsimp only at hxw
    have h1 := rvalue hm he hs xl hxw.1
    have h2 := rvalue hm he hs xr hxw.2
    by_cases hv : value m env xl = value m env xr
    · cases ng
      · (refine wlk ?_)
        (refine SqA.b1 (op_call none rfl rfl rfl (by kernel_rfl) (FnD.use (h1)) rfl rfl rfl rfl rfl rfl) rfl rfl ?_)
        (refine wlk ?_)
        (refine SqA.b1 (op_call none rfl rfl rfl (by kernel_rfl) (FnD.use (h2)) rfl rfl rfl rfl rfl rfl) rfl rfl ?_)
        (refine wlk ?_)
        (first | (refine finR (.tmp rfl .nil) rfl rfl ?_) | (refine finN (.tmp rfl .nil) rfl rfl ?_))
        exact Xb (b := true) (some_no hx (by simp [lit, hv])).symm
      · (refine wlk ?_)
        (refine SqA.b1 (op_call none rfl rfl rfl (by kernel_rfl) (FnD.use (h1)) rfl rfl rfl rfl rfl rfl) rfl rfl ?_)
        (refine wlk ?_)
        (refine SqA.b1 (op_call none rfl rfl rfl (by kernel_rfl) (FnD.use (h2)) rfl rfl rfl rfl rfl rfl) rfl rfl ?_)
        (refine wlk ?_)
        exact ⟨k + 1, ⟨by omega, upto_succ hno hx (by simp [lit, hv])⟩, fgs, by omega⟩
    · cases ng
      · (refine wlk ?_)
        (refine SqA.b1 (op_call none rfl rfl rfl (by kernel_rfl) (FnD.use (h1)) rfl rfl rfl rfl rfl rfl) rfl rfl ?_)
        (refine wlk ?_)
        (refine SqA.b1 (op_call none rfl rfl rfl (by kernel_rfl) (FnD.use (h2)) rfl rfl rfl rfl rfl rfl) rfl rfl ?_)
        (refine wlk ?_)
        exact ⟨k + 1, ⟨by omega, upto_succ hno hx (by simp [lit, hv])⟩, fgs, by omega⟩
      · (refine wlk ?_)
        (refine SqA.b1 (op_call none rfl rfl rfl (by kernel_rfl) (FnD.use (h1)) rfl rfl rfl rfl rfl rfl) rfl rfl ?_)
        (refine wlk ?_)
        (refine SqA.b1 (op_call none rfl rfl rfl (by kernel_rfl) (FnD.use (h2)) rfl rfl rfl rfl rfl rfl) rfl rfl ?_)
        (refine wlk ?_)
        (first | (refine finR (.tmp rfl .nil) rfl rfl ?_) | (refine finN (.tmp rfl .nil) rfl rfl ?_))
        exact Xb (b := true) (some_no hx (by simp [lit, hv])).symm
  · have : k = c.length := by omega
    subst this
    (refine wlk ?_)
    (first | (refine finR (.tmp rfl .nil) rfl rfl ?_) | (refine finN (.tmp rfl .nil) rfl rfl ?_))
    exact Xb (b := false) (List.any_eq_false.2 fun x hx => by have := any_upto hno x hx; simp [this]).symm

end Go.Proofs.YtmanhdacnkpclaaDoor

/- What functions do: Holds of the document's answer; each term of a clause. -/
namespace Go.Proofs.YtmanhdacnkpclaaDoor
set_option linter.all false
open Go.RowKit

def ivc (e : List Int) : List CV := e.map fun x => .val (.int .i64 x)
theorem ivc_eq (e : List Int) : (e.flatMap fun x => [FC.val (.int .i64 x)]).map FC.cv = ivc e := by
  induction e with
  | nil => rfl
  | cons x e ih => simp only [List.flatMap_cons, List.map_append, ih]; rfl
theorem ivc_len (e : List Int) : (ivc e).length = e.length := by simp [ivc]
theorem ivc_set (e : List Int) (k : Nat) (x : Int) : (ivc e).set k (.val (.int .i64 x)) = ivc (e.set k x) := by simp [ivc, List.map_set]
theorem pow_five {z k : Nat} (h1 : 1 ≤ z) (h8 : z ≤ 8) (hk : k ≤ 5) : 1 ≤ z ^ k ∧ z ^ k ≤ 32768 :=
  ⟨Nat.one_le_pow _ _ h1, Nat.le_trans (Nat.pow_le_pow_left h8 k) (Nat.le_trans (Nat.pow_le_pow_right (by decide) hk) (by decide))⟩
theorem clWf.few {s : List Int} {c : List Lt} (h : clWf s c) : clFew c := h.good.2
set_option maxHeartbeats 16000000 in
set_option maxRecDepth 100000 in
theorem rholds {s : List Int} {m : Md} (hm : MOk s m) (hs : wrongSig s = 0) (c : List Lt) (hc : clWf s c) (hz : clSz c) : FnD Tryd.prog 54 [mdA m, lA Lt.d c] (.one (bA (holds m c))) := by
  have hm1 := hm.one
  have hm8 := hm.eight
  obtain ⟨sz, tb⟩ := m
  dsimp only at hm1 hm8
  obtain ⟨z, rfl⟩ := Int.eq_ofNat_of_zero_le (a := sz) (by omega)
  have hzn : (Md.mk (z : Int) tb).size.toNat = z := Int.toNat_natCast z
  have hall := dgE_all (m := Md.mk (z : Int) tb) (c := c) hzn (by omega) (clVars [] c) [0, 0, 0, 0, 0]
  have hv := rclVars c hc.okv hc.few hz
  have h5 := clVars_five hc
  have hr := clVars_range hc
  have hhold : holds (Md.mk (z : Int) tb) c = allE (Md.mk (z : Int) tb) c [0, 0, 0, 0, 0] (clVars [] c) := rfl
  rw [hhold]
  generalize clVars [] c = vs at *
  refine Fn.of Tryd.func54 rfl Tryd.ntmps54 rfl (Nat.le_of_ble_eq_true rfl) ?_
  (refine wlk ?_)
  (refine SqA.b1 (op_call none rfl rfl rfl (by kernel_rfl) (FnD.use (hv)) rfl rfl rfl rfl rfl rfl) rfl rfl ?_)
  (refine wlk ?_)
  refine dwp_loop (fun k : Nat => [(.t 1, some (.one (lA Lt.d c))), (.t 2, some (.one (.c (.ptr 2 0)))), (.b 2, some (.box (mdA ⟨z, tb⟩).cells)), (.t 5, some (.one (lA Int.d vs))), (.t 6, some (.one (iA ((z ^ k : Nat) : Int)))), (.t 15, some (.one (iA vs.length))), (.t 16, some (.one (iA k)))])
    (fun k => k ≤ vs.length) (fun k => vs.length - k) 0 (by omega) fgs ?_
  intro k hk
  by_cases hkl : k < vs.length
  · have hp := pow_five (z := z) (k := k + 1) (by omega) (by omega) (by omega)
    have hsz : (Md.mk (z : Int) tb).size = (z : Int) := rfl
    have hp2 : ((z ^ k : Nat) : Int) * (Md.mk (z : Int) tb).size = ((z ^ (k + 1) : Nat) : Int) := by rw [Nat.pow_succ]; simp
    (refine wlk ?_)
    refine ⟨k + 1, by omega, ?_, by omega⟩
    rw [← hp2]
    exact fgs
  · have : k = vs.length := by omega
    subst this
    have hp := pow_five (z := z) (k := vs.length) (by omega) (by omega) (by omega)
    generalize hN : z ^ vs.length = N at *
    (refine wlk ?_)
    refine dwp_loop (fun n : Nat => [(.t 1, some (.one (lA Lt.d c))), (.t 2, some (.one (.c (.ptr 2 0)))), (.b 2, some (.box (mdA ⟨z, tb⟩).cells)), (.t 5, some (.one (lA Int.d vs))), (.t 23, some (.one (iA N))), (.t 24, some (.one (iA n)))])
      (fun n => n ≤ N ∧ ∀ j, j < n → some_ ⟨z, tb⟩ (dgE z vs (j, [0, 0, 0, 0, 0])).2 c = true) (fun n => N - n) 0 ⟨by omega, fun j h => absurd h (by omega)⟩ fgs ?_
    rintro n ⟨hn, hno⟩
    by_cases hnl : n < N
    · (refine wlk ?_)
      (refine SqA.b2 (op_mkInts (k := 5) rfl rfl rfl rfl (by decide) rfl rfl) rfl rfl ?_)
      (refine wlk ?_)
      refine dwp_loop (fun j : Nat => [(.t 1, some (.one (lA Lt.d c))), (.t 2, some (.one (.c (.ptr 2 0)))), (.b 2, some (.box (mdA ⟨z, tb⟩).cells)), (.t 5, some (.one (lA Int.d vs))), (.t 23, some (.one (iA N))), (.t 24, some (.one (iA n))),
          (.t 8, some (.one (.c (.sl 27 5)))), (.b 27, some (.box (ivc (dgE z (vs.take j) (n, [0, 0, 0, 0, 0])).2))), (.t 9, some (.one (iA (((dgE z (vs.take j) (n, [0, 0, 0, 0, 0])).1 : Nat) : Int)))), (.t 29, some (.one (lA Int.d vs))), (.t 30, some (.one (iA vs.length))), (.t 31, some (.one (iA j)))])
        (fun j => j ≤ vs.length) (fun j => vs.length - j) 0 (by omega) fgs ?_
      intro j hj
      have hle := dgE_le (z := z) (vs.take j) (n, [0, 0, 0, 0, 0])
      have hlen := dgE_len (z := z) (vs.take j) (n, [0, 0, 0, 0, 0])
      have hlen5 : (dgE z (vs.take j) (n, [0, 0, 0, 0, 0])).2.length = 5 := hlen
      by_cases hjl : j < vs.length
      · obtain ⟨v, hx⟩ := get_of_lt hjl
        have hvr := hr v (List.mem_of_getElem? hx)
        obtain ⟨vn, rfl⟩ := Int.eq_ofNat_of_zero_le (a := v) (by omega)
        have hsn := dgE_snoc (z := z) (p := (n, [0, 0, 0, 0, 0])) hx
        generalize dgE z (vs.take j) (n, [0, 0, 0, 0, 0]) = p at *
        obtain ⟨kk, e⟩ := p
        dsimp only at hle hlen5
        have hrem : (kk : Int) % (z : Int) = ((kk % z : Nat) : Int) := rfl
        have hquo : (kk : Int) / (z : Int) = ((kk / z : Nat) : Int) := rfl
        have hset : (ivc e).set (vn * 1) (.val (.int .i64 ((kk % z : Nat) : Int))) = ivc (e.set vn ((kk % z : Nat) : Int)) := by rw [Nat.mul_one]; exact ivc_set e vn _
        have hil := ivc_len e
        (refine wlk ?_)
        refine ⟨j + 1, by omega, ?_, by omega⟩
        rw [hsn]
        have e1 : (dgE1 z (kk, e) (vn : Int)).1 = kk / z := rfl
        have e2 : (dgE1 z (kk, e) (vn : Int)).2 = e.set vn ((kk % z : Nat) : Int) := by simp [dgE1]
        rw [e1, e2]
        exact fgs
      · have : j = vs.length := by omega
        subst this
        rw [List.take_length] at *
        have he : EOk (Md.mk (z : Int) tb) (dgE z vs (n, [0, 0, 0, 0, 0])).2 := dgE_ok (m := Md.mk (z : Int) tb) (z := z) rfl (by omega) vs (n, [0, 0, 0, 0, 0]) (EOk.zero hm)
        have hcs := rsome hm he hs c hc
        generalize hE : dgE z vs (n, [0, 0, 0, 0, 0]) = p at *
        obtain ⟨kk, e⟩ := p
        dsimp only at hcs hlen5
        refine dwp_wk (Wk.frzSl (f := Int.d) (t := 8) (j := 27) (k := 5) (l := e) rfl rfl (ivc_eq e) hlen5 rfl rfl) ?_
        cases hb : some_ (Md.mk (z : Int) tb) e c
        · rw [hb] at hcs
          (refine wlk ?_)
          (refine SqA.b1 (op_call none rfl rfl rfl (by kernel_rfl) (FnD.use (hcs)) rfl rfl rfl rfl rfl rfl) rfl rfl ?_)
          (refine wlk ?_)
          (first | (refine finR (.tmp rfl .nil) rfl rfl ?_) | (refine finN (.tmp rfl .nil) rfl rfl ?_))
          refine Xb (b := false) (Eq.symm ?_)
          rw [← Bool.not_eq_true, hall]
          intro h
          have := h n hnl
          rw [hE] at this
          rw [hb] at this
          cases this
        · rw [hb] at hcs
          (refine wlk ?_)
          (refine SqA.b1 (op_call none rfl rfl rfl (by kernel_rfl) (FnD.use (hcs)) rfl rfl rfl rfl rfl rfl) rfl rfl ?_)
          (refine wlk ?_)
          refine ⟨n + 1, ⟨by omega, fun j hj => ?_⟩, fgs, by omega⟩
          by_cases hjn : j < n
          · exact hno j hjn
          · have : j = n := by omega
            subst this
            rw [hE]; exact hb
    · have : n = N := by omega
      subst this
      (refine wlk ?_)
      (first | (refine finR (.tmp rfl .nil) rfl rfl ?_) | (refine finN (.tmp rfl .nil) rfl rfl ?_))
      exact Xb (b := true) (hall.2 fun j hj => hno j hj).symm

/-! ## each term of a clause -/
theorem each_snoc {g : Tm → Tm} {c : List Lt} {k : Nat} {x : Lt} (h : c[k]? = some x) : each g (c.take k) ++ [⟨x.neg, g x.left, g x.right⟩] = each g (c.take (k + 1)) := snoc (fun l : Lt => (⟨l.neg, g l.left, g l.right⟩ : Lt)) h
theorem each_len {g : Tm → Tm} {c : List Lt} : (each g c).length = c.length := by simp [each]
end Go.Proofs.YtmanhdacnkpclaaDoor
