/- What functions do: the program's bindings. -/
import Derived.Test.YtmanhdacnkpclaaGreatDoorzdDd
/- What functions do: the program's bindings. -/
namespace Go.Proofs.YtmanhdacnkpclaaGreatDoor
set_option linter.all false
open Go.RowKit

def resF : Option Tm → List A1
  | some u => [tA u, bA true]
  | none => [tA ⟨false, 0, []⟩, bA false]
set_option maxRecDepth 100000 in
theorem bfind (s : List Pr) (n : Int) : FnD Tryz.prog 69 [lA Pr.d s, iA n] (.tup (resF (findS s n))) := by
  refine Fn.of Tryz.func69 rfl Tryz.ntmps69 rfl (Nat.le_of_ble_eq_true rfl) ?_
  refine dwp_len (t := 0) (ds := s.map Pr.d) rfl fun hbl => ?_
  rw [List.length_map] at hbl
  (refine wlk ?_)
  refine dwp_loop (fun k : Nat => [(.t 1, some (.one (iA n))), (.t 8, some (.one (lA Pr.d s))), (.t 9, some (.one (iA s.length))), (.t 10, some (.one (iA k))), (.t 4, some (.one (.c (.ptr 4 0)))),
    (.b 4, some (.box [.val (.bool false), .val (.int .i64 0), .val (.slice none 0 0)]))]) (fun k => k ≤ s.length ∧ ∀ j p, j < k → s[j]? = some p → p.1 ≠ n) (fun k => s.length - k) 0 ⟨by omega, fun j p h => absurd h (by omega)⟩ fgs ?_
  rintro k ⟨hk, hno⟩
  by_cases hkl : k < s.length
  · obtain ⟨x, hx⟩ := get_of_lt hkl
    by_cases hxn : x.1 = n
    · (refine wlk ?_)
      (first | (refine finR (.cellN rfl rfl (rw_of rfl) rfl rfl (.tmp rfl .nil)) rfl rfl ?_) | (refine finN (.cellN rfl rfl (rw_of rfl) rfl rfl (.tmp rfl .nil)) rfl rfl ?_))
      rw [findS_at hno hx hxn]; rfl
    · (refine wlk ?_)
      exact ⟨k + 1, ⟨by omega, upto_succ hno hx hxn⟩, fgs, by omega⟩
  · (refine wlk ?_)
    refine fin_wk (fun n => Wk.nilArrB (j := 4) (q := 2) rfl rfl rfl) ?_
    (first | (refine finR (.cellN rfl rfl (rw_of rfl) rfl rfl (.tmp rfl .nil)) rfl rfl ?_) | (refine finN (.cellN rfl rfl (rw_of rfl) rfl rfl (.tmp rfl .nil)) rfl rfl ?_))
    rw [findS_no hno (by omega)]; rfl

set_option maxHeartbeats 4000000 in
set_option maxRecDepth 100000 in
theorem bapply (s : List Pr) : ∀ t : Tm, t.size ≤ 2000000000000 → FnD Tryz.prog 50 [lA Pr.d s, tA t] (.one (tA (app s t))) := by
  refine Tm.ind ?_
  intro v n l ih hsz
  refine Fn.of Tryz.func50 rfl Tryz.ntmps50 rfl (Nat.le_of_ble_eq_true rfl) ?_
  cases v
  case true =>
    have hc := bfind s n
    have ha := app_var s n l
    generalize findS s n = r at hc ha
    rw [ha]
    cases r <;> ((refine wlk ?_); (refine SqA.b1 (op_call none rfl rfl rfl (by kernel_rfl) (FnD.use (hc)) rfl rfl rfl rfl rfl rfl) rfl rfl ?_); (refine wlk ?_); (first | (refine finR (.cellN rfl rfl (rw_of rfl) rfl rfl .nil) rfl rfl ?_) | (refine finN (.cellN rfl rfl (rw_of rfl) rfl rfl .nil) rfl rfl ?_)); exact rfl)
  case false =>
    have hlen := sizes_len l
    have hsz' : Tm.sizes l ≤ 2000000000000 := by simp [Tm.size] at hsz; omega
    (refine wlk ?_)
    refine dwp_loop (fun k : Nat => [(.t 23, some (.one (lA Tm.d l))), (.t 24, some (.one (iA l.length))), (.t 25, some (.one (iA k))), (.t 0, some (.one (lA Pr.d s))), (.t 3, some (.one (.c (.ptr 3 0)))), (.t 4, some (.one (.c (.ptr 4 0)))),
      (.b 4, some (.box [.val (.bool false), .val (.int .i64 0), .val (.slice none 0 0)])), (.b 3, some (.box (tA ⟨false, n, l⟩).cells)), (.t 7, some (.one (.c (.own 36 3 (((l.take k).map (app s)).map Tm.d)))))])
      (fun k => k ≤ l.length) (fun k => l.length - k) 0 (by omega) ((Wk.nilOwn (d := 7) (E := 36) (m := 3) rfl).trans fgs) ?_
    intro k hk
    by_cases hkl : k < l.length
    · obtain ⟨x, hx⟩ := get_of_lt hkl
      have hsn := snoc (app s) hx
      have hxs := size_at hx
      (refine wlk ?_)
      (refine SqA.b1 (op_call none rfl rfl rfl (by kernel_rfl) (FnD.use (ih x (List.mem_of_getElem? hx) (by omega))) rfl rfl rfl rfl rfl rfl) rfl rfl ?_)
      (refine wlk ?_)
      (refine SqA.b1 (op_bsT (T := TB) (f := Tm.d) [app s x] rfl rfl rfl rfl rfl rfl rfl rfl rfl rfl rfl) rfl rfl ?_)
      (refine wlk ?_)
      exact ⟨k + 1, by omega, fgs, by omega⟩
    · have : k = l.length := by omega
      subst this
      refine dwp_wk (Wk.freezeAt (d := 7) rfl) ?_
      (refine wlk ?_)
      (first | (refine finR (.cellN rfl rfl (rw_of rfl) rfl rfl .nil) rfl rfl ?_) | (refine finN (.cellN rfl rfl (rw_of rfl) rfl rfl .nil) rfl rfl ?_))
      exact Xt (b := ⟨false, n, (l.take l.length).map (app s)⟩) (by simp [app, apps_eq])

set_option maxHeartbeats 4000000 in
set_option maxRecDepth 100000 in
theorem brename (k : Int) (hk0 : 0 ≤ k) (hk1 : k ≤ 1000) : ∀ t : Tm, t.okv = true → t.size ≤ 2000000000000 → FnD Tryz.prog 51 [tA t, iA k] (.one (tA (ren k t))) := by
  refine Tm.ind ?_
  intro v n l ih hok hsz
  refine Fn.of Tryz.func51 rfl Tryz.ntmps51 rfl (Nat.le_of_ble_eq_true rfl) ?_
  cases v
  case true =>
    simp only [Tm.okv, Bool.and_eq_true, decide_eq_true_eq] at hok
    have h0 : (0 : Int) ≤ (Tm.mk true n l).n := hok.1.2
    have h1 : (Tm.mk true n l).n ≤ 1000000 := hok.2
    (refine wlk ?_)
    (first | (refine finR (.cellN rfl rfl (rw_of rfl) rfl rfl .nil) rfl rfl ?_) | (refine finN (.cellN rfl rfl (rw_of rfl) rfl rfl .nil) rfl rfl ?_))
    exact rfl
  case false =>
    simp only [Tm.okv] at hok
    have hll := sizes_len l
    simp only [Tm.size] at hsz
    (refine wlk ?_)
    refine dwp_loop (fun m : Nat => [(.t 1, some (.one (iA k))), (.t 4, some (.one (.c (.ptr 4 0)))), (.b 4, some (.box [.val (.bool false), .val (.int .i64 0), .val (.slice none 0 0)])), (.t 2, some (.one (.c (.ptr 2 0)))), (.b 2, some (.box (tA ⟨false, n, l⟩).cells)),
      (.t 5, some (.one (.c (.own 36 3 (((l.take m).map (ren k)).map Tm.d))))), (.t 17, some (.one (lA Tm.d l))), (.t 18, some (.one (iA l.length))), (.t 19, some (.one (iA m)))])
      (fun m => m ≤ l.length) (fun m => l.length - m) 0 (by omega) ((Wk.nilOwn (d := 5) (E := 36) (m := 3) rfl).trans fgs) ?_
    intro m hm
    by_cases hml : m < l.length
    · obtain ⟨x, hx⟩ := get_of_lt hml
      have hsn := snoc (ren k) hx
      have hxs := size_at hx
      (refine wlk ?_)
      (refine SqA.b1 (op_call none rfl rfl rfl (by kernel_rfl) (FnD.use (ih x (List.mem_of_getElem? hx) (okvs_at hok hx) (by omega))) rfl rfl rfl rfl rfl rfl) rfl rfl ?_)
      (refine wlk ?_)
      (refine SqA.b1 (op_bsT (T := TB) (f := Tm.d) [ren k x] rfl rfl rfl rfl rfl rfl rfl rfl rfl rfl rfl) rfl rfl ?_)
      (refine wlk ?_)
      exact ⟨m + 1, by omega, fgs, by omega⟩
    · have : m = l.length := by omega
      subst this
      refine dwp_wk (Wk.freezeAt (d := 5) rfl) ?_
      (refine wlk ?_)
      (first | (refine finR (.cellN rfl rfl (rw_of rfl) rfl rfl .nil) rfl rfl ?_) | (refine finN (.cellN rfl rfl (rw_of rfl) rfl rfl .nil) rfl rfl ?_))
      exact Xt (b := ⟨false, n, (l.take l.length).map (ren k)⟩) (by simp [ren, rens_eq])

end Go.Proofs.YtmanhdacnkpclaaGreatDoor

/- What functions do: the program's Unify, More, Match. -/
namespace Go.Proofs.YtmanhdacnkpclaaGreatDoor
set_option linter.all false
open Go.RowKit

end Go.Proofs.YtmanhdacnkpclaaGreatDoor
