/- A slice that grows from nothing (slices.Grow), and clauses one behind the other (slices.Concat). -/
import Derived.Test.YtmanhdacnkpclaaDoorq6GLd
import Derived.Test.YtmanhdacnkpclaaDoorq6Cl
import Derived.Lib.AppendZeros
namespace Go.Proofs.YtmanhdacnkpclaaDoor
set_option linter.all false
open Go.RowKit

open Classical in
noncomputable def tagOwn (v : Value) (who : Nat → Tag) : Nat → Tag := fun b => if v.ownBlock = some b then .own (.t 0) 0 0 else who b
/-- from the elder words to the new ones: a slice that is handed over -/
theorem Fn.ofElderOwn {P : Program} {f : FuncId} {args : List A1} {E m : Nat} {ds : List D} (h : ∀ (who : Nat → Tag) (w : World) (vs : List Value), vs.length = args.length → (∀ (i : Nat) (A : A1) (v : Value), args[i]? = some A → vs[i]? = some v → A1m w who (.t i) 0 A v) →
    Calls P f vs.toArray w fun e w' => ∃ v, e = .returned v ∧ Own w' w.heap.size E m (Fz who) v ds ∧ Below w.heap.size w w') : FnD P f args (.one (.c (.own E m ds))) := fun who w vs hfz hbu hin hl ha _ => by
  refine (h who w vs hl ha).mono ?_
  rintro e w' ⟨v, rfl, ho, hb⟩
  have hnew : ∀ k, v.ownBlock = some k → w.heap.size ≤ k ∧ k < w'.heap.size := fun k hk => ho.lt k hk
  have hold : ∀ b, b < w.heap.size → tagOwn v who b = who b := fun b hlt => if_neg fun e => by have := hnew b e; omega
  refine ⟨v, _, [], tagOwn v who, rfl, rfl, rfl, ⟨ho.wide (fun b _ hF => ?_) (Nat.zero_le _), fun k hk => if_pos hk⟩, (fun h => by cases h), ⟨hb.os, hb.tape, hb.output, hb.size, fun b hlt _ => hb.block b hlt, fun b hlt _ => hold b hlt⟩, fun b h => ?_, fun b b' j h h' => ?_⟩
  · have : b < w.heap.size := hfz b (by rw [show who b = .froz from hF]; simp)
    exact (hold b this).trans hF
  · rcases Classical.em (v.ownBlock = some b) with e | e
    · exact (hnew b e).2
    · rw [show tagOwn v who b = who b from if_neg e] at h
      exact Nat.lt_of_lt_of_le (hfz b h) hb.size
  · have key : ∀ b, tagOwn v who b = .bx j → who b = .bx j := fun b h => by
      rcases Classical.em (v.ownBlock = some b) with e | e
      · rw [show tagOwn v who b = .own (.t 0) 0 0 from if_pos e] at h; cases h
      · rw [show tagOwn v who b = who b from if_neg e] at h; exact h
    exact hbu b b' j (key b h) (key b' h')

set_option maxHeartbeats 4000000 in
set_option maxRecDepth 1000000 in
theorem growL (n : Nat) (hn : n ≤ 1000000000) : FnD Tryd.prog 138 [.c (.val (.slice none 0 0)), iA n] (.one (.c (.own 67 7 []))) := by
  refine Fn.ofElderOwn fun who w vs hl ha => ?_
  match vs, hl with
  | [v0, v1], _ =>
    have h0 : v0 = .slice none 0 0 := ha 0 _ v0 rfl rfl
    have h1 : v1 = .int .i64 n := ha 1 _ v1 rfl rfl
    subst h0 h1
    rcases Nat.eq_zero_or_pos n with rfl | hp
    · clear hn ha
      go_enter Tryd.func138, Tryd.ntmps138
      go_wp2
      all_goals (go_ret; exact ⟨_, rfl, Own.nil .., Below.refl _ _⟩)
    · obtain ⟨i0, hi, hz, hs1, hby⟩ := info_parts slClause.info
      have hrun := Lib.run_append_nil_zeros (P := Tryd.prog) w 59 3 59 67 i0 _ .i64 .i64 (by kernel_rfl) (by kernel_rfl) hi hz n hp (by omega) (by omega) (by rw [hby]; omega)
      have hcap := grownCap_le_maxLen w n 0 67 (by simp [maxLen]; omega)
      have hge := grownCap_ge w n 0 67
      have hr : Hid _ := hrun
      clear hrun hi hz hs1 hby ha
      go_enter Tryd.func138, Tryd.ntmps138
      go_wp2_with (at_builtin; refine Lib.wpList_append_run _ rfl _ _ _ _ rfl _ _ rfl rfl _ _ hr.out ?_)
      go_ret
      refine ⟨_, rfl, ⟨[], ⟨rfl, .inr ⟨w.heap.size, grownCap w n 0 67, _, rfl, Nat.le_refl _, heap_alloc_new w _, Nat.zero_le _, hcap, ?_, by simp⟩⟩, rfl, by simp⟩, ⟨rfl, rfl, rfl, by show w.heap.size ≤ (w.heap.push _).size; rw [Array.size_push]; omega, fun k hk => heap_alloc_old w _ hk⟩⟩
      simp only [Array.size_append, size_zeroCells, List.size_toArray, List.length_cons, List.length_nil]
      omega

/-- clauses' lengths -/
def lensL (l : List (List Lt)) : Nat := (l.map List.length).sum
theorem lens_take {l : List (List Lt)} {k : Nat} {x : List Lt} (h : l[k]? = some x) : lensL (l.take (k + 1)) = lensL (l.take k) + x.length := by
  unfold lensL
  rw [List.take_add_one, h]
  simp
theorem lens_le (l : List (List Lt)) (k : Nat) : lensL (l.take k) ≤ lensL l := by
  have h : lensL l = lensL (l.take k) + lensL (l.drop k) := by
    unfold lensL
    rw [← List.sum_append, ← List.map_append, List.take_append_drop]
  omega
theorem flat_take {l : List (List Lt)} {k : Nat} {x : List Lt} (h : l[k]? = some x) : (l.take (k + 1)).flatten = (l.take k).flatten ++ x := by
  rw [List.take_add_one, h]
  simp
theorem flatL_len (l : List (List Lt)) (k : Nat) : (l.take k).flatten.length = lensL (l.take k) := by
  unfold lensL; rw [List.length_flatten]
set_option maxHeartbeats 4000000 in
set_option maxRecDepth 100000 in
theorem pconcat (l : List (List Lt)) (hn : lensL l ≤ 1000000) : FnD Tryd.prog 125 [lA Cl.d l] (.one (.c (.own 67 7 (l.flatten.map Lt.d)))) := by
  refine Fn.of Tryd.func125 rfl Tryd.ntmps125 rfl (Nat.le_of_ble_eq_true rfl) ?_
  refine dwp_len (t := 0) (ds := l.map Cl.d) rfl fun hbl => ?_
  rw [List.length_map] at hbl
  (refine wlk ?_)
  refine dwp_loop (fun k : Nat => [(.t 0, some (.one (lA Cl.d l))), (.t 3, some (.one (iA (lensL (l.take k))))), (.t 9, some (.one (lA Cl.d l))), (.t 10, some (.one (iA l.length))), (.t 11, some (.one (iA k)))])
    (fun k => k ≤ l.length) (fun k => l.length - k) 0 (by omega) fgs ?_
  intro k hk
  by_cases hkl : k < l.length
  · obtain ⟨x, hx⟩ := get_of_lt hkl
    have h1 := lens_take hx
    have h2 := lens_le l (k + 1)
    (refine wlk ?_)
    refine ⟨k + 1, by omega, ?_, by omega⟩
    rw [h1]
    exact fgs
  have hkc : k = l.length := by omega
  subst hkc
  have ht : l.take l.length = l := List.take_length
  rw [ht]
  (refine wlk ?_)
  (refine SqA.b1 (op_call none rfl rfl rfl (by kernel_rfl) (FnD.use (growL (lensL l) (by omega))) rfl rfl rfl rfl rfl rfl) rfl rfl ?_)
  (refine wlk ?_)
  refine dwp_loop (fun k : Nat => [(.t 6, some (.one (.c (.own 67 7 ((l.take k).flatten.map Lt.d))))), (.t 25, some (.one (lA Cl.d l))), (.t 26, some (.one (iA l.length))), (.t 27, some (.one (iA k)))])
    (fun k => k ≤ l.length) (fun k => l.length - k) 0 (by omega) fgs ?_
  intro k hk
  by_cases hkl : k < l.length
  · obtain ⟨x, hx⟩ := get_of_lt hkl
    have h1 := lens_take hx
    have h2 := lens_le l (k + 1)
    have h3 := (flat_take hx).symm
    have h4 := flatL_len l (k + 1)
    (refine wlk ?_)
    exact ⟨k + 1, by omega, fgs, by omega⟩
  have hkc : k = l.length := by omega
  subst hkc
  rw [ht]
  (refine wlk ?_)
  (refine finO (E := _) rfl ?_)
  rfl
end Go.Proofs.YtmanhdacnkpclaaDoor
