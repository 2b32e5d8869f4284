/- slices.Delete of one element: what its code does. -/
import Derived.Test.YtmanhdacnkpclaaGreatzs06
import Derived.Test.YtmanhdacnkpclaaGreatzs13
import Derived.Deep.RegionLaw
import Derived.Test.YtmanhdacnkpclaaGreatzs14
import Derived.Lib.AppendZeros
import Derived.Test.YtmanhdacnkpclaaGreatzs17
import Derived.Test.YtmanhdacnkpclaaGreatzs15
import Derived.Test.YtmanhdacnkpclaaGreatzs16
import Derived.Test.YtmanhdacnkpclaaGreatzs10
import Derived.Test.YtmanhdacnkpclaaGreatzs02
/- slices.Delete of one element: what its code does. -/
namespace Go.Proofs.YtmanhdacnkpclaaGreat
set_option linter.all false
open Go.RowKit
theorem run_clear_k {P : Program} (w : World) (t e ty : TypeId) (z : Value) (ht : P.underlying t = some (.slice e)) (hv : ∀ w, (zeroValue e).run P w = .ok z w) (h1 : ∀ n, ∀ x ∈ (Builtin.zeroCells z.cells n).toList, x.oneCell' = true) (b o n c : Nat) (hn : 0 < n)
    (hc : ∀ j, j < (Builtin.zeroCells z.cells n).toList.length → (w.cell? ⟨b, o + j, none⟩).isSome = true) (hf : ∀ j, j < (Builtin.zeroCells z.cells n).toList.length → w.frozen? ⟨b, o + j, none⟩ = false) :
    (Builtin.clear_ #[t] ty #[.slice (some ⟨b, o, none⟩) n c]).run P w = .ok (.tuple #[]) (w.setCells b o (Builtin.zeroCells z.cells n).toList) := by
  have hst := run_storeCells_cells (P := P) b o (Builtin.zeroCells z.cells n).toList 0 w (by simpa using hc) (by simpa using hf) (h1 n)
  simp only [Nat.add_zero] at hst
  obtain ⟨m, rfl⟩ : ∃ m, n = m + 1 := ⟨n - 1, by omega⟩
  simp [Builtin.clear_, run_underlying ht, hv, hst]
theorem zero_one {cs : Array Value} {m : Nat} (hm : cs.size = m) (h : cs.toList.all (fun x => x.oneCell') = true) (n : Nat) : ∀ x ∈ (Builtin.zeroCells cs n).toList, x.oneCell' = true := fun x hx => by
  simp only [Builtin.zeroCells, Array.toList_map, Array.toList_range, List.mem_map, List.mem_range] at hx
  obtain ⟨i, hi, rfl⟩ := hx
  have hp : 0 < cs.size := by
    rcases Nat.eq_zero_or_pos cs.size with h0 | h0
    · rw [h0] at hi; omega
    · exact h0
  have hlt : i % cs.size < cs.size := Nat.mod_lt _ hp
  rw [getElem!_pos cs _ hlt]
  exact List.all_eq_true.1 h _ (by simp)
theorem cell_of {w : World} {g E : Nat} {cur : Array Value} (h : w.heap[g]? = some (.cells cur E (0, 0))) (k : Nat) (hk : k < cur.size) : w.cell? ⟨g, k, none⟩ = cur[k]? ∧ w.frozen? ⟨g, k, none⟩ = false := by
  constructor
  · simp [World.cell?, h]
  · simp [World.frozen?, h]
set_option maxHeartbeats 4000000 in
set_option maxRecDepth 1000000 in
theorem delL : DelC Tryz.prog 128 77 7 := by
  intro w g n cap i cur hg hlc hcm hcs hone hi
  rw [show ((i : Int) + 1) = ((i + 1 : Nat) : Int) by omega]
  obtain ⟨j, hj⟩ : ∃ j, j = i + 1 := ⟨_, rfl⟩
  rw [← hj]
  have hij : i ≤ j := by omega
  have hne : ¬ (i = j) := by omega
  have hjn : j ≤ n := by omega
  have hmm : cap ≤ 9223372036854775807 := by simpa [maxLen] using hcm
  have hn7 : n * 7 ≤ cap * 7 := Nat.mul_le_mul_right 7 hlc
  have hj7 : j * 7 ≤ n * 7 := Nat.mul_le_mul_right 7 hjn
  have hi7 : j * 7 = i * 7 + 7 := by rw [hj, Nat.add_mul]
  have hd7 : (n - j) * 7 = n * 7 - j * 7 := Nat.sub_mul ..
  obtain ⟨i0, hi0', hz0', hz1', _⟩ := info_parts slClause.info
  have hzv : ∀ w, (zeroValue 77).run Tryz.prog w = .ok (.agg #[.bool false, .bool false, .int .i64 0, .slice none 0 0, .bool false, .int .i64 0, .slice none 0 0]) w := fun w => by simp [zeroValue, typeInfo, hi0', hz0']
  obtain ⟨zc, hzc⟩ : ∃ zc : Value, zc = (.agg #[.bool false, .bool false, .int .i64 0, .slice none 0 0, .bool false, .int .i64 0, .slice none 0 0]) := ⟨_, rfl⟩
  have hi0 : Hid (Tryz.prog.info? 77 = some i0) := hi0'
  have hz1 : Hid (i0.size = 7) := hz1'
  have hone0 : ∀ n, ∀ x ∈ (Builtin.zeroCells (Value.cells (.agg #[.bool false, .bool false, .int .i64 0, .slice none 0 0, .bool false, .int .i64 0, .slice none 0 0])) n).toList, x.oneCell' = true := fun n x hx => zero_one rfl rfl n x hx
  rw [← hzc] at hzv hone0
  have hzl1 : (Builtin.zeroCells zc.cells 1).toList.length = 7 := by
    rw [hzc]
    simp only [Builtin.zeroCells, Array.toList_map, List.length_map, Array.toList_range, List.length_range, Nat.one_mul]
    exact slClause.zsize
  clear hi0' hz0' hz1'
  obtain ⟨news, hnews⟩ : ∃ news, news = (cur.toList.take (n * 7)).drop (j * 7) := ⟨_, rfl⟩
  have hnl : news.length = (n - j) * 7 := by rw [hnews, List.length_drop, List.length_take, Array.length_toList, hcs]; omega
  have hget : ∀ t u, news[t]? = some u → w.drew.cell? ⟨g, j * 7 + t, none⟩ = some u := fun t u hu => by
    have ht : t < (n - j) * 7 := by rw [← hnl]; exact (List.getElem?_eq_some_iff.1 hu).1
    rw [(cell_of (w := w.drew) hg (j * 7 + t) (by omega)).1]
    rw [hnews, List.getElem?_drop, List.getElem?_take, if_pos (by omega), Array.getElem?_toList] at hu
    exact hu
  have hsome : ∀ k, k < cap * 7 → (w.drew.cell? ⟨g, k, none⟩).isSome = true ∧ w.drew.frozen? ⟨g, k, none⟩ = false := fun k hk => by
    obtain ⟨h1, h2⟩ := cell_of (w := w.drew) hg k (by omega)
    rw [h1, h2]
    exact ⟨by rw [Array.getElem?_eq_getElem (by omega)]; exact Option.isSome_some, rfl⟩
  obtain ⟨A, hA, hsrc⟩ : ∃ A : Addr, (if cap = j then some (⟨g, 0, none⟩ : Addr) else some ⟨g, j * 7, none⟩) = some A ∧ Hid (∀ t u, news[t]? = some u → w.drew.cell? (A.add t) = some u) := by
    by_cases h : cap = j
    · refine ⟨⟨g, 0, none⟩, by simp [h], fun t u hu => ?_⟩
      have h0 : news.length = 0 := by have : n - j = 0 := by omega
                                      simp [hnl, this]
      rw [List.length_eq_zero_iff.1 h0] at hu
      simp at hu
    · refine ⟨⟨g, j * 7, none⟩, by simp [h], fun t u hu => ?_⟩
      rw [add_lit]
      exact hget t u hu
  have s1 : Hid (news.length = (n - j) * 7) := hnl
  have s2 : Hid (∀ u ∈ news, u.oneCell' = true) := fun u hu => by
    rw [hnews] at hu
    exact hone u (List.mem_of_mem_drop hu)
  have s3 : Hid (∀ t, t < news.length → (w.drew.cell? ⟨g, 0 + i * 7 + t, none⟩).isSome = true ∧ w.drew.frozen? ⟨g, 0 + i * 7 + t, none⟩ = false) := fun t ht => by
    rw [hnl] at ht
    exact hsome _ (by omega)
  obtain ⟨W1, hW1⟩ : ∃ W1, W1 = w.drew.setCells g (0 + i * 7) news := ⟨_, rfl⟩
  have hg0 : w.drew.heap[g]? = some (.cells cur.toList.toArray 77 (0, 0)) := by
    show w.heap[g]? = _
    simpa using hg
  obtain ⟨a1, a2, a3, a4, a5, a6⟩ := setCells_blk news w.drew g (0 + i * 7) cur.toList 77 hg0
  rw [← hW1] at a1
  obtain ⟨zl, hzl0⟩ : ∃ zl, zl = (Builtin.zeroCells zc.cells 1).toList := ⟨_, rfl⟩
  have hcl : ∀ ty, (Builtin.clear_ #[39] ty #[.slice (some ⟨g, (i + (n - j)) * 7, none⟩) (n - (i + (n - j))) (cap - (i + (n - j)))]).run Tryz.prog W1 = .ok (.tuple #[]) (W1.setCells g ((i + (n - j)) * 7) zl) := fun ty => by
    have e1 : n - (i + (n - j)) = 1 := by omega
    rw [e1, hzl0]
    have hk : ∀ q, q < (Builtin.zeroCells zc.cells 1).toList.length → (i + (n - j)) * 7 + q < (splL cur.toList (0 + i * 7) news).toArray.size := fun q hq => by
      rw [hzl1] at hq
      rw [List.size_toArray, splL_len, Array.length_toList, hcs]
      omega
    exact run_clear_k W1 _ _ ty zc (by kernel_rfl) hzv hone0 g _ 1 _ (by omega) (fun q hq => by
      have := hk q hq
      rw [(cell_of a1 _ this).1, Array.getElem?_eq_getElem this]; rfl) (fun q hq => (cell_of a1 _ (hk q hq)).2)
  have X : Aside (W1 = w.drew.setCells g (0 + i * 7) news) := hW1
  have hW : Hid (W1 = w.drew.setCells g (0 + i * 7) news) := hW1
  have N : Aside (news = (cur.toList.take (n * 7)).drop (j * 7)) := hnews
  have hic : i ≤ cap := by omega
  have hjc : j ≤ cap := by omega
  have J : Aside (j = i + 1) := hj
  clear hj hi7 hd7 hn7 hj7
  (try rw [Nat.mul_one] at hA)
  clear hW1 hget hsome hnews hnl a1 a2 a3 a4 a5 a6 hg0 hcs hone hzv hone0 hzc
  have hzl : Hid (zl.length = 7) := by rw [hzl0]; exact hzl1
  clear hzl1 hzl0 zc
  go_enter Tryz.func128, Tryz.ntmps128
  go_wp2_with fail
  go_region_law (refine step_append_room rfl (.tmp 22) (.tmp 25) 39 rfl 77 i0 7 (by kernel_rfl) hi0.out hz1.out g 0 i cap (by simp [Act.eval, Act.put]) A (n - j) (cap - j) news (by first | (simp [Act.eval, Act.put]; done) | (simp [Act.eval, Act.put]; simpa using hA)) s1.out hsrc.out s2.out (by omega) s3.out ?_; rw [← hW.out])
  go_wp2
  go_ret
  refine ⟨by rw [show i + (n - j) = n - 1 by have := J.out; omega]; rfl, 1, zl, hzl.out, ?_⟩
  have e2 : i + (n - j) = n - 1 := by have := J.out; omega
  rw [e2, X.out, N.out, Nat.zero_add]
  (try simp only [Nat.mul_one])
  rfl
end Go.Proofs.YtmanhdacnkpclaaGreat
/- A slice that grows from nothing (slices.Grow), and clauses one behind the other (slices.Concat). -/
namespace Go.Proofs.YtmanhdacnkpclaaGreat
set_option linter.all false
open Go.RowKit
open Classical in
noncomputable def tagOwn (v : Value) (who : Nat → Tag) : Nat → Tag := fun b => if v.ownBlock = some b then .own (.t 0) 0 0 else who b
theorem Fn.ofElderOwn {P : Program} {f : FuncId} {args : List A1} {E m : Nat} {ds : List D} (h : ∀ (who : Nat → Tag) (w : World) (vs : List Value), vs.length = args.length → (∀ (i : Nat) (A : A1) (v : Value), args[i]? = some A → vs[i]? = some v → A1m w who (.t i) 0 A v) →
    Calls P f vs.toArray w fun e w' => ∃ v, e = .returned v ∧ Own w' w.heap.size E m (Fz who) v ds ∧ Below w.heap.size w w') : FnD P f args (.one (.c (.own E m ds))) := fun who w vs hfz hbu hin hl ha _ => by
  refine (h who w vs hl ha).mono ?_
  rintro e w' ⟨v, rfl, ho, hb⟩
  have hnew : ∀ k, v.ownBlock = some k → w.heap.size ≤ k ∧ k < w'.heap.size := fun k hk => ho.lt k hk
  have hold : ∀ b, b < w.heap.size → tagOwn v who b = who b := fun b hlt => if_neg fun e => by have := hnew b e; omega
  refine ⟨v, _, [], tagOwn v who, rfl, rfl, rfl, ⟨ho.wide (fun b _ hF => ?_) (Nat.zero_le _), fun k hk => if_pos hk⟩, (fun h => by cases h), ⟨hb.os, hb.tape, hb.output, hb.size, fun b hlt _ => hb.block b hlt, fun b hlt _ => hold b hlt⟩, fun b h => ?_, fun b b' j h h' => ?_⟩
  · have : b < w.heap.size := hfz.1 b (by rw [show who b = .froz from hF]; simp)
    exact (hold b this).trans hF
  · rcases Classical.em (v.ownBlock = some b) with e | e
    · exact (hnew b e).2
    · rw [show tagOwn v who b = who b from if_neg e] at h
      exact Nat.lt_of_lt_of_le (hfz.1 b h) hb.size
  · have key : ∀ b, tagOwn v who b = .bx j → who b = .bx j := fun b h => by
      rcases Classical.em (v.ownBlock = some b) with e | e
      · rw [show tagOwn v who b = .own (.t 0) 0 0 from if_pos e] at h; cases h
      · rw [show tagOwn v who b = who b from if_neg e] at h; exact h
    exact hbu b b' j (key b h) (key b' h')
set_option maxHeartbeats 4000000 in
set_option maxRecDepth 1000000 in
theorem growL (n : Nat) (hn : n ≤ 1000000000) : FnD Tryz.prog 144 [.c (.val (.slice none 0 0)), iA n] (.one (.c (.own 77 7 []))) := by
  refine Fn.ofElderOwn fun who w vs hl ha => ?_
  match vs, hl with
  | [v0, v1], _ =>
    have h0 : v0 = .slice none 0 0 := ha 0 _ v0 rfl rfl
    have h1 : v1 = .int .i64 n := ha 1 _ v1 rfl rfl
    subst h0 h1
    rcases Nat.eq_zero_or_pos n with rfl | hp
    · clear hn ha
      go_enter Tryz.func144, Tryz.ntmps144
      go_wp2
      all_goals (go_ret; exact ⟨_, rfl, Own.nil .., Below.refl _ _⟩)
    · obtain ⟨i0, hi, hz, hs1, hby⟩ := info_parts slClause.info
      have hrun := Lib.run_append_nil_zeros (P := Tryz.prog) w 39 3 39 77 i0 _ .i64 .i64 (by kernel_rfl) (by kernel_rfl) hi hz n hp (by omega) (by omega) (by rw [hby]; omega)
      have hcap := grownCap_le_maxLen w n 0 77 (by simp [maxLen]; omega)
      have hge := grownCap_ge w n 0 77
      have hr : Hid _ := hrun
      clear hrun hi hz hs1 hby ha
      go_enter Tryz.func144, Tryz.ntmps144
      go_wp2_with (at_builtin; refine Lib.wpList_append_run _ rfl _ _ _ _ rfl _ _ rfl rfl _ _ hr.out ?_)
      go_ret
      refine ⟨_, rfl, ⟨[], ⟨rfl, .inr ⟨w.heap.size, grownCap w n 0 77, _, rfl, Nat.le_refl _, heap_alloc_new w _, Nat.zero_le _, hcap, ?_, by simp⟩⟩, rfl, by simp⟩, ⟨rfl, rfl, rfl, by show w.heap.size ≤ (w.heap.push _).size; rw [Array.size_push]; omega, fun k hk => heap_alloc_old w _ hk⟩⟩
      simp only [Array.size_append, size_zeroCells, List.size_toArray, List.length_cons, List.length_nil]
      omega
def lensL (l : List (List Lt)) : Nat := (l.map List.length).sum
theorem lens_take {l : List (List Lt)} {k : Nat} {x : List Lt} (h : l[k]? = some x) : lensL (l.take (k + 1)) = lensL (l.take k) + x.length := by
  unfold lensL
  rw [List.take_add_one, h]
  simp
theorem lens_le (l : List (List Lt)) (k : Nat) : lensL (l.take k) ≤ lensL l := by
  have h : lensL l = lensL (l.take k) + lensL (l.drop k) := by
    unfold lensL
    rw [← List.sum_append, ← List.map_append, List.take_append_drop]
  omega
theorem flat_take {l : List (List Lt)} {k : Nat} {x : List Lt} (h : l[k]? = some x) : (l.take (k + 1)).flatten = (l.take k).flatten ++ x := by
  rw [List.take_add_one, h]
  simp
theorem flatL_len (l : List (List Lt)) (k : Nat) : (l.take k).flatten.length = lensL (l.take k) := by
  unfold lensL; rw [List.length_flatten]
set_option maxHeartbeats 4000000 in
set_option maxRecDepth 100000 in
theorem pconcat (l : List (List Lt)) (hn : lensL l ≤ 1000000) : FnD Tryz.prog 131 [lA Cl.d l] (.one (.c (.own 77 7 (l.flatten.map Lt.d)))) := by
  refine Fn.of Tryz.func131 rfl Tryz.ntmps131 rfl (Nat.le_of_ble_eq_true rfl) ?_
  refine dwp_len (t := 0) (ds := l.map Cl.d) rfl fun hbl => ?_
  rw [List.length_map] at hbl
  (refine wlk ?_)
  refine dwp_loop (fun k : Nat => [(.t 0, some (.one (lA Cl.d l))), (.t 3, some (.one (iA (lensL (l.take k))))), (.t 9, some (.one (lA Cl.d l))), (.t 10, some (.one (iA l.length))), (.t 11, some (.one (iA k)))])
    (fun k => k ≤ l.length) (fun k => l.length - k) 0 (by omega) fgs ?_
  intro k hk
  by_cases hkl : k < l.length
  · obtain ⟨x, hx⟩ := get_of_lt hkl
    have h1 := lens_take hx
    have h2 := lens_le l (k + 1)
    (refine wlk ?_)
    refine ⟨k + 1, by omega, ?_, by omega⟩
    rw [h1]
    exact fgs
  have hkc : k = l.length := by omega
  subst hkc
  have ht : l.take l.length = l := List.take_length
  rw [ht]
  (refine wlk ?_)
  (refine SqA.b1 (op_call none rfl rfl rfl (by kernel_rfl) (FnD.use (growL (lensL l) (by omega))) rfl rfl rfl rfl rfl rfl) rfl rfl ?_)
  (refine wlk ?_)
  refine dwp_loop (fun k : Nat => [(.t 6, some (.one (.c (.own 77 7 ((l.take k).flatten.map Lt.d))))), (.t 25, some (.one (lA Cl.d l))), (.t 26, some (.one (iA l.length))), (.t 27, some (.one (iA k)))])
    (fun k => k ≤ l.length) (fun k => l.length - k) 0 (by omega) fgs ?_
  intro k hk
  by_cases hkl : k < l.length
  · obtain ⟨x, hx⟩ := get_of_lt hkl
    have h1 := lens_take hx
    have h2 := lens_le l (k + 1)
    have h3 := (flat_take hx).symm
    have h4 := flatL_len l (k + 1)
    (refine wlk ?_)
    exact ⟨k + 1, by omega, fgs, by omega⟩
  have hkc : k = l.length := by omega
  subst hkc
  rw [ht]
  (refine wlk ?_)
  (refine finO (E := _) rfl ?_)
  rfl
end Go.Proofs.YtmanhdacnkpclaaGreat
/- What functions do: a clause without one of its literals (the program). -/
namespace Go.Proofs.YtmanhdacnkpclaaGreat
set_option linter.all false
open Go.RowKit
theorem map_erase {α β : Type} (f : α → β) (l : List α) (i : Nat) : (l.map f).eraseIdx i = (l.eraseIdx i).map f := by simp [List.eraseIdx_eq_take_drop_succ, List.map_take, List.map_drop]
set_option maxRecDepth 100000 in
theorem pwithout (c : List Lt) (i : Nat) (hi : i < c.length) (hl : c.length ≤ 1000000000) : FnD Tryz.prog 92 [lA Lt.d c, iA i] (.one (.c (.own 77 7 ((c.eraseIdx i).map Lt.d)))) := by
  refine Fn.of Tryz.func92 rfl Tryz.ntmps92 rfl (Nat.le_of_ble_eq_true rfl) ?_
  (refine wlk ?_)
  (refine SqA.b1 (op_call none rfl rfl rfl (by kernel_rfl) (FnD.use (cloneL c hl)) rfl rfl rfl rfl rfl rfl) rfl rfl ?_)
  (refine wlk ?_)
  (refine SqA.b2 (op_del (i := i) rfl rfl rfl (by kernel_rfl) delL rfl (FCs.lenL c) rfl rfl rfl rfl (by rw [List.length_map]; exact hi) (map_erase _ _ _)) rfl rfl ?_)
  (refine wlk ?_)
  (refine finO (E := _) rfl ?_)
  rfl
end Go.Proofs.YtmanhdacnkpclaaGreat
/- What functions do: Resolve, of the program and of the document's answer. -/
namespace Go.Proofs.YtmanhdacnkpclaaGreat
set_option linter.all false
open Go.RowKit
set_option maxHeartbeats 4000000 in
set_option maxRecDepth 100000 in
theorem presolve {S : List Int} {c : List Lt} (h : CG S c) : FnD Tryz.prog 51 [lA Lt.d c] (.tup [lA Cl.d (resolve c).1, bA (resolve c).2]) := by
  have hl4 := h.len
  refine Fn.of Tryz.func51 rfl Tryz.ntmps51 rfl (Nat.le_of_ble_eq_true rfl) ?_
  (refine wlk ?_)
  refine dwp_loop (fun x : Nat × Mk => [(.t 0, some (.one (lA Lt.d c))), (.t 4, some (.one (.c (.ptr 10 0)))), (.b 10, some (.box (mkBox x.2))), (.t 11, some (.one (lA Lt.d c))), (.t 12, some (.one (iA c.length))), (.t 13, some (.one (iA x.1)))])
    (fun x => x.1 ≤ c.length ∧ x.2 = (List.range x.1).foldl (resolve1 c) ([], false)) (fun x => c.length - x.1) (0, [], false) ⟨by simp, rfl⟩ ((Wk.nilOwnB (j := 10) (q := 0) (E := 39) (m := 1) rfl rfl rfl).trans fgs) ?_
  rintro ⟨k, m⟩ ⟨hk, hm⟩
  dsimp only at hk hm ⊢
  by_cases hkl : k < c.length
  · obtain ⟨x, hx⟩ := get_of_lt hkl
    have ho := h.old hx
    have hml := resolve_len c k
    have hnext := range_fold (resolve1 c) ([], false) k
    rw [← hm] at hml hnext
    have hu := bunify ho.1.1 ho.2.1
    cases hs : unify x.left x.right with
    | none =>
      rw [hs] at hu
      have e : resolve1 c m k = m := by unfold resolve1; rw [hx]; simp [hs]
      rw [e] at hnext
      (refine wlk ?_)
      (refine wlC hu ?_)
      (refine wlk ?_)
      exact ⟨(k + 1, m), ⟨by simp only; omega, hnext.symm⟩, fgs, by simp only; omega⟩
    | some s =>
      rw [hs] at hu
      cases hn : x.neg
      · have e : resolve1 c m k = m := by unfold resolve1; rw [hx]; simp [hn]
        rw [e] at hnext
        (refine wlk ?_)
        (refine wlC hu ?_)
        (refine wlk ?_)
        exact ⟨(k + 1, m), ⟨by simp only; omega, hnext.symm⟩, fgs, by simp only; omega⟩
      · have e : resolve1 c m k = addR m s (c.eraseIdx k) := by unfold resolve1; rw [hx]; simp [hn, hs]
        rw [e] at hnext
        have hok := h.resolve hx hs
        (refine wlk ?_)
        (refine wlC hu ?_)
        (refine wlk ?_)
        (refine SqA.b1 (op_call none rfl rfl rfl (by kernel_rfl) (FnD.use (pwithout c k hkl (by omega))) rfl rfl rfl rfl rfl rfl) rfl rfl ?_)
        (refine SqA.b3 (Op1.frzIn (t := 35) rfl (op_call (some (10)) rfl rfl rfl (by kernel_rfl) (FnB.use (padd m s (c.eraseIdx k) hok.sz hok.len hok.okv hok.few hok.sz2 (by omega))) rfl rfl rfl rfl rfl rfl)) rfl rfl ?_)
        (refine wlk ?_)
        exact ⟨(k + 1, addR m s (c.eraseIdx k)), ⟨by simp only; omega, hnext.symm⟩, fgs, by simp only; omega⟩
  · have hkc : k = c.length := by omega
    subst hkc
    refine dwp_wk (Wk.freezeB (j := 10) (q := 0) rfl rfl rfl) ?_
    (refine wlk ?_)
    (refine wfTT ?_)
    rw [hm]
    rfl
set_option maxHeartbeats 4000000 in
set_option maxRecDepth 100000 in
theorem rresolve {S : List Int} {c : List Lt} (h : CG S c) : FnD Tryz.prog 58 [lA Lt.d c] (.tup [lA Cl.d (resolve c).1, bA (resolve c).2]) := by
  have hl4 := h.len
  refine Fn.of Tryz.func58 rfl Tryz.ntmps58 rfl (Nat.le_of_ble_eq_true rfl) ?_
  (refine wlk ?_)
  refine dwp_loop (fun x : Nat × Mk => [(.t 0, some (.one (lA Lt.d c))), (.t 4, some (.one (.c (.ptr 10 0)))), (.b 10, some (.box (mkBox x.2))), (.t 11, some (.one (lA Lt.d c))), (.t 12, some (.one (iA c.length))), (.t 13, some (.one (iA x.1)))])
    (fun x => x.1 ≤ c.length ∧ x.2 = (List.range x.1).foldl (resolve1 c) ([], false)) (fun x => c.length - x.1) (0, [], false) ⟨by simp, rfl⟩ ((Wk.nilOwnB (j := 10) (q := 0) (E := 39) (m := 1) rfl rfl rfl).trans fgs) ?_
  rintro ⟨k, m⟩ ⟨hk, hm⟩
  dsimp only at hk hm ⊢
  by_cases hkl : k < c.length
  · obtain ⟨x, hx⟩ := get_of_lt hkl
    have ho := h.old hx
    have hml := resolve_len c k
    have hnext := range_fold (resolve1 c) ([], false) k
    rw [← hm] at hml hnext
    have hu := runify ho.1.1 ho.2.1
    cases hn : x.neg
    · have e : resolve1 c m k = m := by unfold resolve1; rw [hx]; simp [hn]
      rw [e] at hnext
      (refine wlk ?_)
      exact ⟨(k + 1, m), ⟨by simp only; omega, hnext.symm⟩, fgs, by simp only; omega⟩
    · cases hs : unify x.left x.right with
      | none =>
        rw [hs] at hu
        have e : resolve1 c m k = m := by unfold resolve1; rw [hx]; simp [hs]
        rw [e] at hnext
        (refine wlk ?_)
        (refine wlC hu ?_)
        (refine wlk ?_)
        exact ⟨(k + 1, m), ⟨by simp only; omega, hnext.symm⟩, fgs, by simp only; omega⟩
      | some s =>
        rw [hs] at hu
        have e : resolve1 c m k = addR m s (c.eraseIdx k) := by unfold resolve1; rw [hx]; simp [hn, hs]
        rw [e] at hnext
        have hok := h.resolve hx hs
        (refine wlk ?_)
        (refine wlC hu ?_)
        (refine wlk ?_)
        (refine SqA.b1 (op_call none rfl rfl rfl (by kernel_rfl) (FnD.use (rbut c k hkl (by omega))) rfl rfl rfl rfl rfl rfl) rfl rfl ?_)
        (refine SqA.b2 (op_call (some (10)) rfl rfl rfl (by kernel_rfl) (FnB.use (ladd m s (c.eraseIdx k) (by have := hok.slen; omega) hok.sz hok.len hok.okv hok.few hok.sz2 (by omega))) rfl rfl rfl rfl rfl rfl) rfl rfl ?_)
        (refine wlk ?_)
        exact ⟨(k + 1, addR m s (c.eraseIdx k)), ⟨by simp only; omega, hnext.symm⟩, fgs, by simp only; omega⟩
  · have hkc : k = c.length := by omega
    subst hkc
    refine dwp_wk (Wk.freezeB (j := 10) (q := 0) rfl rfl rfl) ?_
    (refine wlk ?_)
    (refine wfTT ?_)
    rw [hm]
    rfl
end Go.Proofs.YtmanhdacnkpclaaGreat
/- What functions do: Factor, of the program. -/
namespace Go.Proofs.YtmanhdacnkpclaaGreat
set_option linter.all false
open Go.RowKit
theorem ways_len (l : Lt) : (waysL l).length = 2 := rfl
set_option maxHeartbeats 16000000 in
set_option maxRecDepth 100000 in
theorem pfactor {S : List Int} {c : List Lt} (h : CG S c) : FnD Tryz.prog 53 [lA Lt.d c] (.tup [lA Cl.d (factor c).1, bA (factor c).2]) := by
  have hl4 := h.len
  refine Fn.of Tryz.func53 rfl Tryz.ntmps53 rfl (Nat.le_of_ble_eq_true rfl) ?_
  (refine wlk ?_)
  refine dwp_loop (fun x : Nat × Mk => [(.t 0, some (.one (lA Lt.d c))), (.t 4, some (.one (.c (.ptr 14 0)))), (.b 14, some (.box (mkBox x.2))), (.t 16, some (.one (iA c.length))), (.t 17, some (.one (iA x.1)))])
    (fun x => x.1 ≤ c.length ∧ x.2 = (List.range x.1).foldl (factor4 c) ([], false) ∧ x.2.1.length ≤ 100 * x.1) (fun x => c.length - x.1) (0, [], false) ⟨by simp, rfl, by simp⟩ ((Wk.nilOwnB (j := 14) (q := 0) (E := 39) (m := 1) rfl rfl rfl).trans fgs) ?_
  rintro ⟨i, m1⟩ ⟨hk, hm, hb1⟩
  dsimp only at hk hm hb1 ⊢
  by_cases hkl : i < c.length
  rotate_left
  · have hkc : i = c.length := by omega
    subst hkc
    refine dwp_wk (Wk.freezeB (j := 14) (q := 0) rfl rfl rfl) ?_
    (refine wlk ?_)
    (refine wfTT ?_)
    rw [hm]
    rfl
  obtain ⟨⟨xn, xl, xr⟩, hx⟩ := get_of_lt hkl
  have hnext := range_fold (factor4 c) ([], false) i
  rw [← hm] at hnext
  have hf4 : factor4 c m1 i = ((List.range c.length).drop (i + 1)).foldl (factor3 c i ⟨xn, xl, xr⟩) m1 := by unfold factor4; rw [hx]
  rw [hf4] at hnext
  have hel : (c.eraseIdx i).length ≤ 4 := (h.erase i).len
  (refine wlk ?_)
  refine dwp_loop (fun x : Nat × Mk => [(.t 0, some (.one (lA Lt.d c))), (.t 4, some (.one (.c (.ptr 14 0)))), (.b 14, some (.box (mkBox x.2))), (.t 5, some (.one (iA i))), (.t 6, some (.one (iA (i + 1 + x.1 : Nat)))), (.t 16, some (.one (iA c.length))), (.t 17, some (.one (iA i)))])
    (fun y => i + 1 + y.1 ≤ c.length ∧ y.2 = (((List.range c.length).drop (i + 1)).take y.1).foldl (factor3 c i ⟨xn, xl, xr⟩) m1 ∧ y.2.1.length ≤ 100 * i + 10 * y.1) (fun y => c.length - (i + 1 + y.1)) (0, m1) ⟨by simp only; omega, rfl, by simp only; omega⟩ fgs ?_
  rintro ⟨d, m2⟩ ⟨hd, hm2, hb2⟩
  dsimp only at hd hm2 hb2 ⊢
  by_cases hdl : i + 1 + d < c.length
  rotate_left
  · rw [fold_all _ _ (by rw [List.length_drop, List.length_range]; omega)] at hm2
    rw [← hm2] at hnext
    (refine wlk ?_)
    exact ⟨(i + 1, m2), ⟨by simp only; omega, hnext.symm, by simp only; omega⟩, fgs, by simp only; omega⟩
  obtain ⟨⟨yn, yl, yr⟩, hy⟩ := get_of_lt hdl
  have hnext2 := fold_take (factor3 c i ⟨xn, xl, xr⟩) m1 (range_drop hdl)
  rw [← hm2] at hnext2
  cases xn
  rotate_left
  · have hf3 : factor3 c i ⟨true, xl, xr⟩ m2 (i + 1 + d) = m2 := by unfold factor3; rw [hy]; simp
    rw [hf3] at hnext2
    (refine wlk ?_)
    exact ⟨(d + 1, m2), ⟨by simp only; omega, hnext2.symm, by simp only; omega⟩, fgs, by simp only; omega⟩
  cases yn
  rotate_left
  · have hf3 : factor3 c i ⟨false, xl, xr⟩ m2 (i + 1 + d) = m2 := by unfold factor3; rw [hy]; simp
    rw [hf3] at hnext2
    (refine wlk ?_)
    (refine SqA.b1 (op_idxT (T := TB) rfl rfl rfl rfl rfl (hx) (by first | rfl | omega)) rfl rfl ?_)
    (refine wlk ?_)
    exact ⟨(d + 1, m2), ⟨by simp only; omega, hnext2.symm, by simp only; omega⟩, fgs, by simp only; omega⟩
  have hf3 : factor3 c i ⟨false, xl, xr⟩ m2 (i + 1 + d) = (waysL ⟨false, xl, xr⟩).foldl (factor2 (c.eraseIdx i) ⟨false, yl, yr⟩) m2 := by unfold factor3; rw [hy]; simp
  rw [hf3] at hnext2
  have hwl := ways_len ⟨false, xl, xr⟩
  have hwy := ways_len ⟨false, yl, yr⟩
  (refine wlk ?_)
  (refine SqA.b1 (op_idxT (T := TB) rfl rfl rfl rfl rfl (hx) (by first | rfl | omega)) rfl rfl ?_)
  (refine wlk ?_)
  (refine SqA.b1 (op_idxT (T := TB) rfl rfl rfl rfl rfl (hx) (by first | rfl | omega)) rfl rfl ?_)
  (refine wlk ?_)
  (refine SqA.b1 (op_call none rfl rfl rfl (by kernel_rfl) (FnD.use (pways ⟨false, xl, xr⟩)) rfl rfl rfl rfl rfl rfl) rfl rfl ?_)
  (refine wlk ?_)
  refine dwp_loop (fun z : Nat × Mk => [(.t 0, some (.one (lA Lt.d c))), (.t 4, some (.one (.c (.ptr 14 0)))), (.b 14, some (.box (mkBox z.2))), (.t 5, some (.one (iA i))), (.t 6, some (.one (iA (i + 1 + d : Nat)))), (.t 16, some (.one (iA c.length))), (.t 17, some (.one (iA i))),
      (.t 44, some (.one (lA Tw.d (waysL ⟨false, xl, xr⟩)))), (.t 45, some (.one (iA (waysL ⟨false, xl, xr⟩).length))), (.t 46, some (.one (iA z.1)))])
    (fun z => z.1 ≤ 2 ∧ z.2 = ((waysL ⟨false, xl, xr⟩).take z.1).foldl (factor2 (c.eraseIdx i) ⟨false, yl, yr⟩) m2 ∧ z.2.1.length ≤ 100 * i + 10 * d + 2 * z.1) (fun z => 2 - z.1) (0, m2) ⟨by simp only; omega, rfl, by simp only; omega⟩ fgs ?_
  rintro ⟨p, m3⟩ ⟨hp, hm3, hb3⟩
  dsimp only at hp hm3 hb3 ⊢
  by_cases hpl : p < 2
  rotate_left
  · rw [fold_all _ _ (by omega)] at hm3
    rw [← hm3] at hnext2
    (refine wlk ?_)
    exact ⟨(d + 1, m3), ⟨by simp only; omega, hnext2.symm, by simp only; omega⟩, fgs, by simp only; omega⟩
  obtain ⟨⟨a1, a2⟩, ha⟩ := get_of_lt (s := waysL ⟨false, xl, xr⟩) (k := p) (by omega)
  have hnext3 := fold_take (factor2 (c.eraseIdx i) ⟨false, yl, yr⟩) m2 ha
  rw [← hm3] at hnext3
  have hf2 : factor2 (c.eraseIdx i) ⟨false, yl, yr⟩ m3 (a1, a2) = (waysL ⟨false, yl, yr⟩).foldl (factor1 (c.eraseIdx i) (a1, a2)) m3 := rfl
  rw [hf2] at hnext3
  (refine wlk ?_)
  (refine SqA.b1 (op_call none rfl rfl rfl (by kernel_rfl) (FnD.use (pways ⟨false, yl, yr⟩)) rfl rfl rfl rfl rfl rfl) rfl rfl ?_)
  (refine wlk ?_)
  refine dwp_loop (fun z : Nat × Mk => [(.t 0, some (.one (lA Lt.d c))), (.t 4, some (.one (.c (.ptr 14 0)))), (.b 14, some (.box (mkBox z.2))), (.t 5, some (.one (iA i))), (.t 6, some (.one (iA (i + 1 + d : Nat)))), (.t 16, some (.one (iA c.length))), (.t 17, some (.one (iA i))),
      (.t 44, some (.one (lA Tw.d (waysL ⟨false, xl, xr⟩)))), (.t 45, some (.one (iA (waysL ⟨false, xl, xr⟩).length))), (.t 46, some (.one (iA p))), (.t 8, some (.one (.c (.ptr 8 0)))), (.b 8, some (.box ((tA a1).cells ++ (tA a2).cells))), (.t 54, some (.one (lA Tw.d (waysL ⟨false, yl, yr⟩)))), (.t 55, some (.one (iA (waysL ⟨false, yl, yr⟩).length))), (.t 56, some (.one (iA z.1)))])
    (fun z => z.1 ≤ 2 ∧ z.2 = ((waysL ⟨false, yl, yr⟩).take z.1).foldl (factor1 (c.eraseIdx i) (a1, a2)) m3 ∧ z.2.1.length ≤ 100 * i + 10 * d + 2 * p + z.1) (fun z => 2 - z.1) (0, m3) ⟨by simp only; omega, rfl, by simp only; omega⟩ fgs ?_
  rintro ⟨q, m4⟩ ⟨hq, hm4, hb4⟩
  dsimp only at hq hm4 hb4 ⊢
  by_cases hql : q < 2
  rotate_left
  · rw [fold_all _ _ (by omega)] at hm4
    rw [← hm4] at hnext3
    (refine wlk ?_)
    exact ⟨(p + 1, m4), ⟨by simp only; omega, hnext3.symm, by simp only; omega⟩, fgs, by simp only; omega⟩
  obtain ⟨⟨b1, b2⟩, hb⟩ := get_of_lt (s := waysL ⟨false, yl, yr⟩) (k := q) (by omega)
  have hnext4 := fold_take (factor1 (c.eraseIdx i) (a1, a2)) m3 hb
  rw [← hm4] at hnext4
  have oa := h.way hx (List.mem_of_getElem? ha)
  have ob := h.way hy (List.mem_of_getElem? hb)
  have hu := bunify oa.1.1 ob.1.1
  dsimp only at hu
  have hlen4 := factor1_len (c.eraseIdx i) (a1, a2) m4 (b1, b2)
  cases hs : unify a1 b1 with
  | none =>
    rw [hs] at hu
    have hf1 : factor1 (c.eraseIdx i) (a1, a2) m4 (b1, b2) = m4 := by unfold factor1; simp [hs]
    rw [hf1] at hnext4
    (refine wlk ?_)
    (refine SqA.b1 (op_idx2B (k := 0) rfl rfl rfl rfl rfl (by decide)) rfl rfl ?_)
    (refine wlk ?_)
    (refine SqA.b1 (op_idx2B (k := 0) rfl rfl rfl rfl rfl (by decide)) rfl rfl ?_)
    (refine wlk ?_)
    (refine wlC hu ?_)
    (refine wlk ?_)
    exact ⟨(q + 1, m4), ⟨by simp only; omega, hnext4.symm, by simp only; omega⟩, fgs, by simp only; omega⟩
  | some s =>
    rw [hs] at hu
    have hf1 : factor1 (c.eraseIdx i) (a1, a2) m4 (b1, b2) = addR m4 s (c.eraseIdx i ++ [⟨true, a2, b2⟩]) := by unfold factor1; simp [hs]
    rw [hf1] at hnext4 hlen4
    have hok := h.factor hx hy (List.mem_of_getElem? ha) (List.mem_of_getElem? hb) hs
    dsimp only at hok
    (refine wlk ?_)
    (refine SqA.b1 (op_idx2B (k := 0) rfl rfl rfl rfl rfl (by decide)) rfl rfl ?_)
    (refine wlk ?_)
    (refine SqA.b1 (op_idx2B (k := 0) rfl rfl rfl rfl rfl (by decide)) rfl rfl ?_)
    (refine wlk ?_)
    (refine wlC hu ?_)
    (refine wlk ?_)
    (refine SqA.b1 (op_call none rfl rfl rfl (by kernel_rfl) (FnD.use (pwithout c i hkl (by omega))) rfl rfl rfl rfl rfl rfl) rfl rfl ?_)
    (refine wlk ?_)
    (refine SqA.b1 (op_idx2B (k := 1) rfl rfl rfl rfl rfl (by decide)) rfl rfl ?_)
    (refine wlk ?_)
    (refine SqA.b1 (op_idx2B (k := 1) rfl rfl rfl rfl rfl (by decide)) rfl rfl ?_)
    (refine wlk ?_)
    (refine SqA.b1 (op_bsT (T := TB) (f := Lt.d) [(⟨true, a2, b2⟩ : Lt)] rfl rfl rfl rfl rfl rfl rfl rfl rfl rfl rfl) rfl rfl ?_)
    (refine wlk ?_)
    (refine SqA.b3 (Op1.frzIn (t := 80) rfl (op_call (some (14)) rfl rfl rfl (by kernel_rfl) (FnB.use (padd m4 s (c.eraseIdx i ++ [⟨true, a2, b2⟩]) hok.sz hok.len hok.okv hok.few hok.sz2 (by omega))) rfl rfl rfl rfl rfl rfl)) rfl rfl ?_)
    (refine wlk ?_)
    exact ⟨(q + 1, addR m4 s (c.eraseIdx i ++ [⟨true, a2, b2⟩])), ⟨by simp only; omega, hnext4.symm, by simp only; omega⟩, fgs, by simp only; omega⟩
end Go.Proofs.YtmanhdacnkpclaaGreat
/- What functions do: a literal said into another clause's. -/
namespace Go.Proofs.YtmanhdacnkpclaaGreat
set_option linter.all false
open Go.RowKit
abbrev twA (p : Tm × Tm) : A1 := .agg [.val (.bool p.1.var), .val (.int .i64 p.1.n), .arr (p.1.args.map Tm.d), .val (.bool p.2.var), .val (.int .i64 p.2.n), .arr (p.2.args.map Tm.d)]
abbrev ltG : Lt → List FC := fun p => [.val (.bool p.neg), .val (.bool p.left.var), .val (.int .i64 p.left.n), .arr (p.left.args.map Tm.d), .val (.bool p.right.var), .val (.int .i64 p.right.n), .arr (p.right.args.map Tm.d)]
set_option maxHeartbeats 16000000 in
set_option maxRecDepth 100000 in
theorem pinto {S : List Int} {c d : List Lt} (h : CG S c) (hd : CG S d) {i j : Nat} {x : Lt} {a : Tm × Tm} (hx : c[i]? = some x) (ha : a ∈ waysL x) (hj : j < d.length) (m : Mk) (hm : m.1.length ≤ 100000) :
    FnB Tryz.prog 96 [.c (.ptr EXT 0), twA a, lA Lt.d (c.eraseIdx i), lA Lt.d d, iA j] (mkBox m) (.tup []) (mkBox (sup3 a (c.eraseIdx i) d m j)) := by
  obtain ⟨a1, a2⟩ := a
  have hdl := hd.len
  have hel := (h.erase i).len
  obtain ⟨y, hy⟩ := get_of_lt hj
  have oa := h.way hx ha
  dsimp only at oa
  have hs3 : sup3 (a1, a2) (c.eraseIdx i) d m j = [false, true].foldl (sup2 (a1, a2) (c.eraseIdx i) d j y) m := by unfold sup3; rw [hy]
  rw [hs3]
  refine Fn.of Tryz.func96 rfl Tryz.ntmps96 rfl (Nat.le_of_ble_eq_true rfl) ?_
  (refine wlk ?_)
  (refine SqA.b1 (op_call none rfl rfl rfl (by kernel_rfl) (FnD.use (pways y)) rfl rfl rfl rfl rfl rfl) rfl rfl ?_)
  (refine wlk ?_)
  refine dwp_loop (fun z : Nat × Mk => [(.t 0, some (.one (.c (.ptr EXT 0)))), (.b EXT, some (.box (mkBox z.2))), (.t 2, some (.one (lA Lt.d (c.eraseIdx i)))), (.t 3, some (.one (lA Lt.d d))), (.t 4, some (.one (iA j))), (.t 6, some (.one (.c (.ptr 6 0)))), (.b 6, some (.box ((tA a1).cells ++ (tA a2).cells))),
      (.t 24, some (.one (lA Tw.d (waysL y)))), (.t 25, some (.one (iA (waysL y).length))), (.t 26, some (.one (iA z.1)))])
    (fun z => z.1 ≤ 2 ∧ z.2 = ([false, true].take z.1).foldl (sup2 (a1, a2) (c.eraseIdx i) d j y) m ∧ z.2.1.length ≤ 100000 + 12 * z.1) (fun z => 2 - z.1) (0, m) ⟨by simp only; omega, rfl, by simp only; omega⟩ fgs ?_
  rintro ⟨s, m1⟩ ⟨hs2, hm1, hb1⟩
  dsimp only at hs2 hm1 hb1 ⊢
  have hwl : (waysL y).length = 2 := rfl
  by_cases hsl : s < 2
  rotate_left
  · have : s = 2 := by omega
    subst this
    (refine wlk ?_)
    (refine wbU ?_)
    exact XB rfl (by rw [hm1]; rfl)
  obtain ⟨side, hside, hw, hsd⟩ := side_at hsl y
  have hnext := fold_take (sup2 (a1, a2) (c.eraseIdx i) d j y) m hside
  rw [← hm1] at hnext
  have ow := hd.turn hy side
  have hs2' : sup2 (a1, a2) (c.eraseIdx i) d j y m1 side = (places (turnL side y).left).foldl (sup1 (a1, a2) (c.eraseIdx i) d j y side ((turnL side y).left, (turnL side y).right)) m1 := rfl
  rw [hs2'] at hnext
  have hpl := places_len (turnL side y).left
  have hok := fun p s hp hs => CG.sup (side := side) (p := p) (s := s) h hd hx hy ha hp hs
  unfold supCl at hok
  dsimp only at hok
  clear hs2' hside
  generalize hW1 : (turnL side y).left = w1 at *
  generalize hW2 : (turnL side y).right = w2 at *
  have hz1 := ow.1.1.size
  (refine wlk ?_)
  (refine SqA.b1 (op_idx2B (k := 0) rfl rfl rfl rfl rfl (by decide)) rfl rfl ?_)
  (refine wlk ?_)
  (refine SqA.b1 (op_call none rfl rfl rfl (by kernel_rfl) (FnD.use (pplaces w1 (by omega))) rfl rfl rfl rfl rfl rfl) rfl rfl ?_)
  (refine wlk ?_)
  refine dwp_loop (fun z : Nat × Mk => [(.t 0, some (.one (.c (.ptr EXT 0)))), (.b EXT, some (.box (mkBox z.2))), (.t 2, some (.one (lA Lt.d (c.eraseIdx i)))), (.t 3, some (.one (lA Lt.d d))), (.t 4, some (.one (iA j))), (.t 6, some (.one (.c (.ptr 6 0)))), (.b 6, some (.box ((tA a1).cells ++ (tA a2).cells))),
      (.t 24, some (.one (lA Tw.d (waysL y)))), (.t 25, some (.one (iA (waysL y).length))), (.t 26, some (.one (iA s))), (.t 10, some (.one (iA s))), (.t 11, some (.one (.c (.ptr 11 0)))), (.b 11, some (.box ((tA w1).cells ++ (tA w2).cells))), (.t 33, some (.one (lA Is.d (places w1)))), (.t 34, some (.one (iA (places w1).length))), (.t 35, some (.one (iA z.1)))])
    (fun z => z.1 ≤ (places w1).length ∧ z.2 = ((places w1).take z.1).foldl (sup1 (a1, a2) (c.eraseIdx i) d j y side (w1, w2)) m1 ∧ z.2.1.length ≤ 100000 + 12 * s + z.1) (fun z => (places w1).length - z.1) (0, m1) ⟨by simp only; omega, rfl, by simp only; omega⟩ fgs ?_
  rintro ⟨q, m2⟩ ⟨hq, hm2, hb2⟩
  dsimp only at hq hm2 hb2 ⊢
  by_cases hql : q < (places w1).length
  rotate_left
  · rw [fold_all _ _ (by omega)] at hm2
    rw [← hm2] at hnext
    (refine wlk ?_)
    exact ⟨(s + 1, m2), ⟨by simp only; omega, hnext.symm, by simp only; omega⟩, fgs, by simp only; omega⟩
  obtain ⟨p, hp⟩ := get_of_lt hql
  have hpm := List.mem_of_getElem? hp
  have hnext2 := fold_take (sup1 (a1, a2) (c.eraseIdx i) d j y side (w1, w2)) m1 hp
  rw [← hm2] at hnext2
  have hlen2 := sup1_len (a1, a2) (c.eraseIdx i) d j y side (w1, w2) m2 p
  have oat := ow.1.1.at ow.1.2 hpm
  have hu := bunify oa.1.1 oat
  have hat := pat p w1
  cases hs : unify a1 (at_ w1 p).1 with
  | none =>
    rw [hs] at hu
    have hf1 : sup1 (a1, a2) (c.eraseIdx i) d j y side (w1, w2) m2 p = m2 := by unfold sup1; simp [hs]
    rw [hf1] at hnext2
    (refine wlk ?_)
    (refine SqA.b1 (op_idx2B (k := 0) rfl rfl rfl rfl rfl (by decide)) rfl rfl ?_)
    (refine wlk ?_)
    (refine wlC hat ?_)
    (refine wlk ?_)
    (refine SqA.b1 (op_idx2B (k := 0) rfl rfl rfl rfl rfl (by decide)) rfl rfl ?_)
    (refine wlk ?_)
    (refine wlC hu ?_)
    (refine wlk ?_)
    exact ⟨(q + 1, m2), ⟨by simp only; omega, hnext2.symm, by simp only; omega⟩, fgs, by simp only; omega⟩
  | some sb =>
    rw [hs] at hu
    have u1 := uok_of oa.1.1 oat hs oa.1.1
    have u2 := uok_of oa.1.1 oat hs oa.2.1
    have u3 := uok_of oa.1.1 oat hs ow.1.1
    have u4 := uok_of oa.1.1 oat hs ow.2.1
    have z1 := oa.1.1.size
    have z2 := oa.2.1.size
    have z4 := ow.2.1.size
    have g1 := bapply sb a1 (by omega)
    have g2 := bapply sb a2 (by omega)
    have g3 := bapply sb w1 (by omega)
    have g4 := bapply sb w2 (by omega)
    have k1 := pcompare (app sb a1) (app sb a2) (by omega) (by omega) u1.2 u2.2
    have k2 := pcompare (app sb w1) (app sb w2) (by omega) (by omega) u3.2 u4.2
    have l1 := compare_less u1.2 u2.2
    have l2 := compare_less u3.2 u4.2
    by_cases c1 : compare (app sb a1) (app sb a2) = 1
    · have hf1 : sup1 (a1, a2) (c.eraseIdx i) d j y side (w1, w2) m2 p = m2 := by unfold sup1; simp [hs, l1.1 c1]
      rw [hf1] at hnext2
      (refine wlk ?_)
      (refine SqA.b1 (op_idx2B (k := 0) rfl rfl rfl rfl rfl (by decide)) rfl rfl ?_)
      (refine wlk ?_)
      (refine wlC hat ?_)
      (refine wlk ?_)
      (refine SqA.b1 (op_idx2B (k := 0) rfl rfl rfl rfl rfl (by decide)) rfl rfl ?_)
      (refine wlk ?_)
      (refine wlC hu ?_)
      (refine wlk ?_)
      (refine SqA.b1 (op_idx2B (k := 0) rfl rfl rfl rfl rfl (by decide)) rfl rfl ?_)
      (refine wlk ?_)
      (refine wlC g1 ?_)
      (refine wlk ?_)
      (refine SqA.b1 (op_idx2B (k := 1) rfl rfl rfl rfl rfl (by decide)) rfl rfl ?_)
      (refine wlk ?_)
      (refine wlC g2 ?_)
      (refine wlk ?_)
      (refine wlC k1 ?_)
      (refine wlk ?_)
      exact ⟨(q + 1, m2), ⟨by simp only; omega, hnext2.symm, by simp only; omega⟩, fgs, by simp only; omega⟩
    by_cases c2 : compare (app sb w1) (app sb w2) = 1
    · have hf1 : sup1 (a1, a2) (c.eraseIdx i) d j y side (w1, w2) m2 p = m2 := by unfold sup1; simp [hs, l2.1 c2]
      rw [hf1] at hnext2
      (refine wlk ?_)
      (refine SqA.b1 (op_idx2B (k := 0) rfl rfl rfl rfl rfl (by decide)) rfl rfl ?_)
      (refine wlk ?_)
      (refine wlC hat ?_)
      (refine wlk ?_)
      (refine SqA.b1 (op_idx2B (k := 0) rfl rfl rfl rfl rfl (by decide)) rfl rfl ?_)
      (refine wlk ?_)
      (refine wlC hu ?_)
      (refine wlk ?_)
      (refine SqA.b1 (op_idx2B (k := 0) rfl rfl rfl rfl rfl (by decide)) rfl rfl ?_)
      (refine wlk ?_)
      (refine wlC g1 ?_)
      (refine wlk ?_)
      (refine SqA.b1 (op_idx2B (k := 1) rfl rfl rfl rfl rfl (by decide)) rfl rfl ?_)
      (refine wlk ?_)
      (refine wlC g2 ?_)
      (refine wlk ?_)
      (refine wlC k1 ?_)
      (refine wlk ?_)
      (refine SqA.b1 (op_idx2B (k := 0) rfl rfl rfl rfl rfl (by decide)) rfl rfl ?_)
      (refine wlk ?_)
      (refine wlC g3 ?_)
      (refine wlk ?_)
      (refine SqA.b1 (op_idx2B (k := 1) rfl rfl rfl rfl rfl (by decide)) rfl rfl ?_)
      (refine wlk ?_)
      (refine wlC g4 ?_)
      (refine wlk ?_)
      (refine wlC k2 ?_)
      (refine wlk ?_)
      exact ⟨(q + 1, m2), ⟨by simp only; omega, hnext2.symm, by simp only; omega⟩, fgs, by simp only; omega⟩
    · have n1 : above (app sb a2) (app sb a1) = false := by
        cases e : above (app sb a2) (app sb a1)
        · rfl
        · exact absurd (l1.2 e) c1
      have n2 : above (app sb w2) (app sb w1) = false := by
        cases e : above (app sb w2) (app sb w1)
        · rfl
        · exact absurd (l2.2 e) c2
      have hf1 : sup1 (a1, a2) (c.eraseIdx i) d j y side (w1, w2) m2 p = addR m2 sb (c.eraseIdx i ++ d.set j (turnL side ⟨y.neg, put w1 p a2, w2⟩)) := by unfold sup1; simp [hs, n1, n2]
      rw [hf1] at hnext2 hlen2
      have hok := hok p sb hpm hs
      have hput := pput a2 p w1 (by omega)
      have hsl : (d.set j (turnL side ⟨y.neg, put w1 p a2, w2⟩)).length = d.length := List.length_set ..
      have hfl : [c.eraseIdx i, d.set j (turnL side ⟨y.neg, put w1 p a2, w2⟩)].flatten = c.eraseIdx i ++ d.set j (turnL side ⟨y.neg, put w1 p a2, w2⟩) := by simp
      have hcc := pconcat [c.eraseIdx i, d.set j (turnL side ⟨y.neg, put w1 p a2, w2⟩)] (by simp [lensL]; omega)
      rw [hfl] at hcc
      have hadd := padd m2 sb (c.eraseIdx i ++ d.set j (turnL side ⟨y.neg, put w1 p a2, w2⟩)) hok.sz hok.len hok.okv hok.few hok.sz2 (by omega)
      have hcl := cloneL d (by omega)
      rcases hsd with ⟨rfl, rfl⟩ | ⟨rfl, rfl⟩
      · (refine wlk ?_)
        (refine SqA.b1 (op_idx2B (k := 0) rfl rfl rfl rfl rfl (by decide)) rfl rfl ?_)
        (refine wlk ?_)
        (refine wlC hat ?_)
        (refine wlk ?_)
        (refine SqA.b1 (op_idx2B (k := 0) rfl rfl rfl rfl rfl (by decide)) rfl rfl ?_)
        (refine wlk ?_)
        (refine wlC hu ?_)
        (refine wlk ?_)
        (refine SqA.b1 (op_idx2B (k := 0) rfl rfl rfl rfl rfl (by decide)) rfl rfl ?_)
        (refine wlk ?_)
        (refine wlC g1 ?_)
        (refine wlk ?_)
        (refine SqA.b1 (op_idx2B (k := 1) rfl rfl rfl rfl rfl (by decide)) rfl rfl ?_)
        (refine wlk ?_)
        (refine wlC g2 ?_)
        (refine wlk ?_)
        (refine wlC k1 ?_)
        (refine wlk ?_)
        (refine SqA.b1 (op_idx2B (k := 0) rfl rfl rfl rfl rfl (by decide)) rfl rfl ?_)
        (refine wlk ?_)
        (refine wlC g3 ?_)
        (refine wlk ?_)
        (refine SqA.b1 (op_idx2B (k := 1) rfl rfl rfl rfl rfl (by decide)) rfl rfl ?_)
        (refine wlk ?_)
        (refine wlC g4 ?_)
        (refine wlk ?_)
        (refine wlC k2 ?_)
        (refine wlk ?_)
        (refine SqA.b1 (op_idx2B (k := 0) rfl rfl rfl rfl rfl (by decide)) rfl rfl ?_)
        (refine wlk ?_)
        (refine SqA.b1 (op_idx2B (k := 1) rfl rfl rfl rfl rfl (by decide)) rfl rfl ?_)
        (refine wlk ?_)
        (refine wlC hput ?_)
        (refine wlk ?_)
        (refine SqA.b1 (op_idx2B (k := 1) rfl rfl rfl rfl rfl (by decide)) rfl rfl ?_)
        (refine wlk ?_)
        (refine wlC hcl ?_)
        (refine wlE ?_)
        refine dwp_wk (σ' := [(.t 0, some (.one (.c (.ptr EXT 0)))), (.b EXT, some (.box (mkBox m2))), (.t 2, some (.one (lA Lt.d (c.eraseIdx i)))), (.t 3, some (.one (lA Lt.d d))), (.t 4, some (.one (iA j))), (.t 6, some (.one (.c (.ptr 6 0)))), (.b 6, some (.box ((tA a1).cells ++ (tA a2).cells))),
          (.t 24, some (.one (lA Tw.d (waysL y)))), (.t 25, some (.one (iA (waysL y).length))), (.t 26, some (.one (iA (1 : Nat)))), (.t 10, some (.one (iA (1 : Nat)))), (.t 11, some (.one (.c (.ptr 11 0)))), (.b 11, some (.box ((tA w1).cells ++ (tA w2).cells))), (.t 33, some (.one (lA Is.d (places w1)))), (.t 34, some (.one (iA (places w1).length))), (.t 35, some (.one (iA q))),
          (.t 16, some (.one (lA Pr.d sb))), (.t 18, some (.one (.c (.ptr 18 0)))), (.b 18, some (.box (ltA (turnL true ⟨y.neg, put w1 p a2, w2⟩)).cells)), (.t 19, some (.one (.c (.own 77 7 (d.map Lt.d)))))]) fgs ?_
        refine dwp_ownEls (f := Lt.d) (g := ltG) (t := 19) rfl (by omega) rfl rfl rfl rfl fun e => ?_
        (refine wlk ?_)
        (refine SqA.b1 (op_storeEl0 (g := ltG) (m := 7) (fun _ => rfl) (turnL true ⟨y.neg, put w1 p a2, w2⟩) rfl rfl (rw_of rfl) rfl rfl rfl rfl rfl rfl rfl rfl hj rfl) rfl rfl ?_)
        (refine wlE ?_)
        refine dwp_wk (Wk.frzSlG (f := Lt.d) (g := ltG) (t := 19) (j := 19) (k := d.length) (l := d.set j (turnL true ⟨y.neg, put w1 p a2, w2⟩)) rfl rfl (els_take _ _) hsl rfl rfl) ?_
        (refine wlk ?_)
        (refine SqA.b1 (op_bsT (T := TB) (f := Cl.d) [c.eraseIdx i, d.set j (turnL true ⟨y.neg, put w1 p a2, w2⟩)] rfl rfl rfl rfl rfl rfl rfl rfl rfl rfl rfl) rfl rfl ?_)
        (refine wlk ?_)
        (refine wlC hcc ?_)
        (refine SqA.b3 (Op1.frzIn (t := 112) rfl (op_call (some (EXT)) rfl rfl rfl (by kernel_rfl) (FnB.use (hadd)) rfl rfl rfl rfl rfl rfl)) rfl rfl ?_)
        (refine wlk ?_)
        exact ⟨(q + 1, addR m2 sb (c.eraseIdx i ++ d.set j (turnL true ⟨y.neg, put w1 p a2, w2⟩))), ⟨by simp only; omega, hnext2.symm, by simp only; omega⟩, fgs, by simp only; omega⟩
      · (refine wlk ?_)
        (refine SqA.b1 (op_idx2B (k := 0) rfl rfl rfl rfl rfl (by decide)) rfl rfl ?_)
        (refine wlk ?_)
        (refine wlC hat ?_)
        (refine wlk ?_)
        (refine SqA.b1 (op_idx2B (k := 0) rfl rfl rfl rfl rfl (by decide)) rfl rfl ?_)
        (refine wlk ?_)
        (refine wlC hu ?_)
        (refine wlk ?_)
        (refine SqA.b1 (op_idx2B (k := 0) rfl rfl rfl rfl rfl (by decide)) rfl rfl ?_)
        (refine wlk ?_)
        (refine wlC g1 ?_)
        (refine wlk ?_)
        (refine SqA.b1 (op_idx2B (k := 1) rfl rfl rfl rfl rfl (by decide)) rfl rfl ?_)
        (refine wlk ?_)
        (refine wlC g2 ?_)
        (refine wlk ?_)
        (refine wlC k1 ?_)
        (refine wlk ?_)
        (refine SqA.b1 (op_idx2B (k := 0) rfl rfl rfl rfl rfl (by decide)) rfl rfl ?_)
        (refine wlk ?_)
        (refine wlC g3 ?_)
        (refine wlk ?_)
        (refine SqA.b1 (op_idx2B (k := 1) rfl rfl rfl rfl rfl (by decide)) rfl rfl ?_)
        (refine wlk ?_)
        (refine wlC g4 ?_)
        (refine wlk ?_)
        (refine wlC k2 ?_)
        (refine wlk ?_)
        (refine SqA.b1 (op_idx2B (k := 0) rfl rfl rfl rfl rfl (by decide)) rfl rfl ?_)
        (refine wlk ?_)
        (refine SqA.b1 (op_idx2B (k := 1) rfl rfl rfl rfl rfl (by decide)) rfl rfl ?_)
        (refine wlk ?_)
        (refine wlC hput ?_)
        (refine wlk ?_)
        (refine SqA.b1 (op_idx2B (k := 1) rfl rfl rfl rfl rfl (by decide)) rfl rfl ?_)
        (refine wlk ?_)
        (refine wlC hcl ?_)
        (refine wlE ?_)
        refine dwp_wk (σ' := [(.t 0, some (.one (.c (.ptr EXT 0)))), (.b EXT, some (.box (mkBox m2))), (.t 2, some (.one (lA Lt.d (c.eraseIdx i)))), (.t 3, some (.one (lA Lt.d d))), (.t 4, some (.one (iA j))), (.t 6, some (.one (.c (.ptr 6 0)))), (.b 6, some (.box ((tA a1).cells ++ (tA a2).cells))),
          (.t 24, some (.one (lA Tw.d (waysL y)))), (.t 25, some (.one (iA (waysL y).length))), (.t 26, some (.one (iA (0 : Nat)))), (.t 10, some (.one (iA (0 : Nat)))), (.t 11, some (.one (.c (.ptr 11 0)))), (.b 11, some (.box ((tA w1).cells ++ (tA w2).cells))), (.t 33, some (.one (lA Is.d (places w1)))), (.t 34, some (.one (iA (places w1).length))), (.t 35, some (.one (iA q))),
          (.t 16, some (.one (lA Pr.d sb))), (.t 18, some (.one (.c (.ptr 18 0)))), (.b 18, some (.box (ltA (turnL false ⟨y.neg, put w1 p a2, w2⟩)).cells)), (.t 19, some (.one (.c (.own 77 7 (d.map Lt.d)))))]) fgs ?_
        refine dwp_ownEls (f := Lt.d) (g := ltG) (t := 19) rfl (by omega) rfl rfl rfl rfl fun e => ?_
        (refine wlk ?_)
        (refine SqA.b1 (op_storeEl0 (g := ltG) (m := 7) (fun _ => rfl) (turnL false ⟨y.neg, put w1 p a2, w2⟩) rfl rfl (rw_of rfl) rfl rfl rfl rfl rfl rfl rfl rfl hj rfl) rfl rfl ?_)
        (refine wlE ?_)
        refine dwp_wk (Wk.frzSlG (f := Lt.d) (g := ltG) (t := 19) (j := 19) (k := d.length) (l := d.set j (turnL false ⟨y.neg, put w1 p a2, w2⟩)) rfl rfl (els_take _ _) hsl rfl rfl) ?_
        (refine wlk ?_)
        (refine SqA.b1 (op_bsT (T := TB) (f := Cl.d) [c.eraseIdx i, d.set j (turnL false ⟨y.neg, put w1 p a2, w2⟩)] rfl rfl rfl rfl rfl rfl rfl rfl rfl rfl rfl) rfl rfl ?_)
        (refine wlk ?_)
        (refine wlC hcc ?_)
        (refine SqA.b3 (Op1.frzIn (t := 112) rfl (op_call (some (EXT)) rfl rfl rfl (by kernel_rfl) (FnB.use (hadd)) rfl rfl rfl rfl rfl rfl)) rfl rfl ?_)
        (refine wlk ?_)
        exact ⟨(q + 1, addR m2 sb (c.eraseIdx i ++ d.set j (turnL false ⟨y.neg, put w1 p a2, w2⟩))), ⟨by simp only; omega, hnext2.symm, by simp only; omega⟩, fgs, by simp only; omega⟩
end Go.Proofs.YtmanhdacnkpclaaGreat
/- What functions do: Sup, of the program. -/
namespace Go.Proofs.YtmanhdacnkpclaaGreat
set_option linter.all false
open Go.RowKit
set_option maxHeartbeats 16000000 in
set_option maxRecDepth 100000 in
theorem psup {S : List Int} {c d : List Lt} (h : CG S c) (h0 : COk S d) : FnD Tryz.prog 54 [lA Lt.d c, lA Lt.d d] (.tup [lA Cl.d (sup c d).1, bA (sup c d).2]) := by
  have hl4 := h.len
  have hl5 := h0.len
  have hren := prenameC 5 (by decide) (by decide) d (by omega) (fun l hl => by have := h0.size l hl; omega) h0.wf.ar.okv
  have hsup : sup c d = supD c (each (ren 5) d) := rfl
  rw [hsup]
  have hd := h0.cgr
  clear hsup
  generalize each (ren 5) d = d' at *
  have hld := hd.len
  refine Fn.of Tryz.func54 rfl Tryz.ntmps54 rfl (Nat.le_of_ble_eq_true rfl) ?_
  (refine wlk ?_)
  (refine wlC hren ?_)
  (refine wlk ?_)
  refine dwp_loop (fun x : Nat × Mk => [(.t 0, some (.one (lA Lt.d c))), (.t 1, some (.one (lA Lt.d d'))), (.t 6, some (.one (.c (.ptr 13 0)))), (.b 13, some (.box (mkBox x.2))), (.t 16, some (.one (lA Lt.d c))), (.t 17, some (.one (iA c.length))), (.t 18, some (.one (iA x.1)))])
    (fun x => x.1 ≤ c.length ∧ x.2 = (List.range x.1).foldl (sup5 c d') ([], false) ∧ x.2.1.length ≤ 1000 * x.1) (fun x => c.length - x.1) (0, [], false) ⟨by simp, rfl, by simp⟩ ((Wk.nilOwnB (j := 13) (q := 0) (E := 39) (m := 1) rfl rfl rfl).trans fgs) ?_
  rintro ⟨i, m1⟩ ⟨hk, hm, hb1⟩
  dsimp only at hk hm hb1 ⊢
  by_cases hkl : i < c.length
  rotate_left
  · have hkc : i = c.length := by omega
    subst hkc
    refine dwp_wk (Wk.freezeB (j := 13) (q := 0) rfl rfl rfl) ?_
    (refine wlk ?_)
    (refine wfTT ?_)
    rw [hm]
    rfl
  obtain ⟨x, hx⟩ := get_of_lt hkl
  have hnext := range_fold (sup5 c d') ([], false) i
  rw [← hm] at hnext
  cases hxn : x.neg
  rotate_left
  · have hf5 : sup5 c d' m1 i = m1 := by unfold sup5; rw [hx]; simp [hxn]
    rw [hf5] at hnext
    (refine wlk ?_)
    exact ⟨(i + 1, m1), ⟨by simp only; omega, hnext.symm, by simp only; omega⟩, fgs, by simp only; omega⟩
  have hf5 : sup5 c d' m1 i = (waysL x).foldl (sup4 (c.eraseIdx i) d') m1 := by unfold sup5; rw [hx]; simp [hxn]
  rw [hf5] at hnext
  have hwl : (waysL x).length = 2 := rfl
  (refine wlk ?_)
  (refine SqA.b1 (op_call none rfl rfl rfl (by kernel_rfl) (FnD.use (pways x)) rfl rfl rfl rfl rfl rfl) rfl rfl ?_)
  (refine wlk ?_)
  refine dwp_loop (fun z : Nat × Mk => [(.t 0, some (.one (lA Lt.d c))), (.t 1, some (.one (lA Lt.d d'))), (.t 6, some (.one (.c (.ptr 13 0)))), (.b 13, some (.box (mkBox z.2))), (.t 7, some (.one (iA i))), (.t 16, some (.one (lA Lt.d c))), (.t 17, some (.one (iA c.length))), (.t 18, some (.one (iA i))),
      (.t 26, some (.one (lA Tw.d (waysL x)))), (.t 27, some (.one (iA (waysL x).length))), (.t 28, some (.one (iA z.1)))])
    (fun z => z.1 ≤ 2 ∧ z.2 = ((waysL x).take z.1).foldl (sup4 (c.eraseIdx i) d') m1 ∧ z.2.1.length ≤ 1000 * i + 100 * z.1) (fun z => 2 - z.1) (0, m1) ⟨by simp only; omega, rfl, by simp only; omega⟩ fgs ?_
  rintro ⟨p, m2⟩ ⟨hp, hm2, hb2⟩
  dsimp only at hp hm2 hb2 ⊢
  by_cases hpl : p < 2
  rotate_left
  · rw [fold_all _ _ (by omega)] at hm2
    rw [← hm2] at hnext
    (refine wlk ?_)
    exact ⟨(i + 1, m2), ⟨by simp only; omega, hnext.symm, by simp only; omega⟩, fgs, by simp only; omega⟩
  obtain ⟨⟨a1, a2⟩, ha⟩ := get_of_lt (s := waysL x) (k := p) (by omega)
  have hnext2 := fold_take (sup4 (c.eraseIdx i) d') m1 ha
  rw [← hm2] at hnext2
  cases hav : a1.var
  rotate_left
  · have hf4 : sup4 (c.eraseIdx i) d' m2 (a1, a2) = m2 := by unfold sup4; simp [hav]
    rw [hf4] at hnext2
    (refine wlk ?_)
    (refine SqA.b1 (op_idx2B (k := 0) rfl rfl rfl rfl rfl (by decide)) rfl rfl ?_)
    (refine wlk ?_)
    exact ⟨(p + 1, m2), ⟨by simp only; omega, hnext2.symm, by simp only; omega⟩, fgs, by simp only; omega⟩
  have hf4 : sup4 (c.eraseIdx i) d' m2 (a1, a2) = (List.range d'.length).foldl (sup3 (a1, a2) (c.eraseIdx i) d') m2 := by unfold sup4; simp [hav]
  rw [hf4] at hnext2
  (refine wlk ?_)
  (refine SqA.b1 (op_idx2B (k := 0) rfl rfl rfl rfl rfl (by decide)) rfl rfl ?_)
  (refine wlk ?_)
  refine dwp_loop (fun z : Nat × Mk => [(.t 0, some (.one (lA Lt.d c))), (.t 1, some (.one (lA Lt.d d'))), (.t 6, some (.one (.c (.ptr 13 0)))), (.b 13, some (.box (mkBox z.2))), (.t 7, some (.one (iA i))), (.t 16, some (.one (lA Lt.d c))), (.t 17, some (.one (iA c.length))), (.t 18, some (.one (iA i))),
      (.t 26, some (.one (lA Tw.d (waysL x)))), (.t 27, some (.one (iA (waysL x).length))), (.t 28, some (.one (iA p))), (.t 10, some (.one (.c (.ptr 10 0)))), (.b 10, some (.box ((tA a1).cells ++ (tA a2).cells))), (.t 36, some (.one (iA d'.length))), (.t 37, some (.one (iA z.1)))])
    (fun z => z.1 ≤ d'.length ∧ z.2 = (List.range z.1).foldl (sup3 (a1, a2) (c.eraseIdx i) d') m2 ∧ z.2.1.length ≤ 1000 * i + 100 * p + 24 * z.1) (fun z => d'.length - z.1) (0, m2) ⟨by simp only; omega, rfl, by simp only; omega⟩ fgs ?_
  rintro ⟨j, m3⟩ ⟨hj, hm3, hb3⟩
  dsimp only at hj hm3 hb3 ⊢
  by_cases hjl : j < d'.length
  rotate_left
  · have hjc : j = d'.length := by omega
    subst hjc
    rw [← hm3] at hnext2
    (refine wlk ?_)
    exact ⟨(p + 1, m3), ⟨by simp only; omega, hnext2.symm, by simp only; omega⟩, fgs, by simp only; omega⟩
  have hnext3 := range_fold (sup3 (a1, a2) (c.eraseIdx i) d') m2 j
  rw [← hm3] at hnext3
  have hlen3 := sup3_len hd (a1, a2) (c.eraseIdx i) m3 j
  (refine wlk ?_)
  (refine SqA.b1 (op_call none rfl rfl rfl (by kernel_rfl) (FnD.use (pwithout c i hkl (by omega))) rfl rfl rfl rfl rfl rfl) rfl rfl ?_)
  (refine wlk ?_)
  (refine SqA.b3 (Op1.frzIn (t := 44) rfl (op_call (some (13)) rfl rfl rfl (by kernel_rfl) (FnB.use (pinto (a := (a1, a2)) h hd hx (List.mem_of_getElem? ha) hjl m3 (by omega))) rfl rfl rfl rfl rfl rfl)) rfl rfl ?_)
  (refine wlk ?_)
  exact ⟨(j + 1, sup3 (a1, a2) (c.eraseIdx i) d' m3 j), ⟨by simp only; omega, hnext3.symm, by simp only; omega⟩, fgs, by simp only; omega⟩
end Go.Proofs.YtmanhdacnkpclaaGreat
namespace Go.Proofs.YtmanhdacnkpclaaGreat
set_option linter.all false
set_option maxRecDepth 1000000
set_option maxHeartbeats 32000000
open Go.RowKit
section
variable {P : Program} {n : Nat} {σ : St}
theorem dwp_mid {α : Type} {c rest : Code} {Q : Exit → St → Prop} (I : α → St) (J : α → Prop) (h1 : dwp P n c (fun e σ' => e = .normal ∧ ∃ x, J x ∧ Wk n σ' (I x)) σ) (h2 : ∀ x, J x → dwp P n rest Q (I x)) : dwp P n c (thenD (dwp P n rest Q) Q) σ :=
  fun C who a w hr => wp_mono (h1 C who a w hr) fun e a' w' ⟨who', σ', hr', he, x, hJ, hw⟩ => by
    subst he
    obtain ⟨who2, hr2⟩ := hw C who' a' w' hr'
    exact ⟨who', σ', hr', fun C3 who3 a3 w3 hr3 => by
      obtain ⟨who4, hr4⟩ := hw C3 who3 a3 w3 hr3
      exact h2 x hJ C3 who4 a3 w3 hr4⟩
end
theorem come1_cases {p : Pf} {rule : Int} {frm : List Int} {c : List Lt} {C : Pf → Prop} (h1 : C p) (h2 : 120 ≤ p.steps.length → C ⟨p.sig, p.steps, p.active, p.wait, p.found, true⟩)
    (h3 : C ⟨p.sig, p.steps ++ [⟨rule, frm, c⟩], p.active, p.wait ++ [(p.steps.length : Int)], if c.length = 0 ∧ p.found < 0 then (p.steps.length : Int) else p.found, p.lost⟩) : C (come1 rule frm p c) := by
  by_cases hs : 0 ≤ p.found ∨ waits p c = true ∨ known p c = true
  · rw [come1_skip hs]; exact h1
  · by_cases h120 : 120 ≤ p.steps.length
    · rw [come1_full hs h120, stepP_full h120]; exact h2 h120
    · rw [come1_in2 hs h120]; exact h3
theorem come1_active {p : Pf} {rule : Int} {frm : List Int} {c : List Lt} : (come1 rule frm p c).active = p.active ∧ (come1 rule frm p c).sig = p.sig :=
  come1_cases (C := fun q => q.active = p.active ∧ q.sig = p.sig) ⟨rfl, rfl⟩ (fun _ => ⟨rfl, rfl⟩) ⟨rfl, rfl⟩
theorem come_ok {S : List Int} {p : Pf} (h : PfGo S p) (rule : Int) (frm : List Int) {m : Mk} (hm : ∀ c ∈ m.1, COk S c) : PfGo S (come p rule frm m) ∧ (come p rule frm m).active = p.active := by
  have h0 : PfGo S { p with lost := p.lost || m.2 } := ⟨⟨h.ok.len, h.ok.cok, h.ok.act, h.ok.wai⟩, h.aw⟩
  exact foldl_keep (P := fun q : Pf => PfGo S q ∧ q.active = p.active) _ _ ⟨h0, rfl⟩ fun q c hc ⟨h1, h2⟩ => ⟨come1_ok h1 rule frm (hm c hc), come1_active.1.trans h2⟩
theorem come_at {p : Pf} {rule : Int} {frm : List Int} {m : Mk} (i : Nat) (x : Sp) (h : p.steps[i]? = some x) : (come p rule frm m).steps[i]? = some x :=
  foldl_keep (P := fun q : Pf => q.steps[i]? = some x) _ _ h fun q c _ h => come1_cases (C := fun q : Pf => q.steps[i]? = some x) h (fun _ => h) (by
    have hlt := (List.getElem?_eq_some_iff.1 h).1
    show (q.steps ++ _)[i]? = some x
    rw [List.getElem?_append_left hlt]; exact h)
theorem units_sz {S : List Int} {p : Pf} (h : PfOk S p) : UsSz S ((unitsK p).map (clAt p)) := by
  have hk : ∀ u ∈ (unitsK p).map (clAt p), unit u = true ∧ COk S u := fun u hu => by
    obtain ⟨k, hk, rfl⟩ := List.mem_map.1 hu
    obtain ⟨h1, h2⟩ := List.mem_filter.1 hk
    obtain ⟨i, _, _, e, hc⟩ := h.at (h.act k h1)
    exact ⟨h2, by rw [e]; exact hc⟩
  exact ⟨⟨fun u hu => (hk u hu).1, fun u hu => (hk u hu).2.wf⟩, fun u hu => (hk u hu).2.size⟩
end Go.Proofs.YtmanhdacnkpclaaGreat
namespace Go.Proofs.YtmanhdacnkpclaaGreat
set_option linter.all false
set_option maxRecDepth 1000000
set_option maxHeartbeats 32000000
def splitGo (t : List UInt8) : Nat → Nat → Nat → List (List UInt8) → List (List UInt8)
  | 0, _, fr, parts => parts ++ [t.drop fr]
  | f + 1, i, fr, parts => if i + 3 ≤ t.length then (if (t.drop i).take 3 = [32, 124, 32] then splitGo t f (i + 3) (i + 3) (parts ++ [(t.drop fr).take (i - fr)]) else splitGo t f (i + 1) fr parts) else parts ++ [t.drop fr]
def splitB (t : List UInt8) : List (List UInt8) := splitGo t (t.length + 1) 0 0 []
def eqAt : List UInt8 → Nat
  | [] => 0
  | c :: l => if c.toNat = 61 then 0 else eqAt l + 1
def Lt.zero : Lt := ⟨false, Tm.zero, Tm.zero⟩
def negEnd (l : List UInt8) : Bool := match l.getLast? with
  | some c => decide (c.toNat = 33)
  | none => false
def parseLit (s : List Int) (p : List UInt8) : Lt × Int :=
  let k := eqAt p
  if k = p.length then (Lt.zero, 2) else
  let left := p.take k
  let neg := negEnd left
  let l := if neg then left.take (k - 1) else left
  let a := parseTm s l
  if a.2 ≠ 0 then (Lt.zero, a.2) else
  let b := parseTm s (p.drop (k + 1))
  if b.2 ≠ 0 then (Lt.zero, b.2) else (⟨neg, a.1, b.1⟩, 0)
def parseLits (s : List Int) : List (List UInt8) → List Lt × Int
  | [] => ([], 0)
  | p :: ps => let x := parseLit s p
    if x.2 ≠ 0 then ([], x.2) else
    let r := parseLits s ps
    if r.2 ≠ 0 then ([], r.2) else (x.1 :: r.1, 0)
def clauseParse (s : List Int) (text : List UInt8) : List Lt × Int :=
  if wrongSig s ≠ 0 then ([], wrongSig s) else if text = [91, 93] then ([], 0) else
  if 4 < (splitB text).length then ([], 5) else parseLits s (splitB text)
theorem parseLits_ok {s : List Int} : ∀ {ps : List (List UInt8)} {k : Nat}, k ≤ ps.length → (∀ j p, j < k → ps[j]? = some p → (parseLit s p).2 = 0) → parseLits s ps = let r := parseLits s (ps.drop k); if r.2 ≠ 0 then ([], r.2) else ((ps.take k).map (fun p => (parseLit s p).1) ++ r.1, 0)
  | ps, 0, _, _ => by
    have key : ∀ ps, (parseLits s ps).2 ≠ 0 → parseLits s ps = ([], (parseLits s ps).2) := by
      intro ps h
      cases ps with
      | nil => exact absurd rfl h
      | cons p ps =>
        simp only [parseLits] at h ⊢
        split
        · rfl
        · split
          · rfl
          · rename_i h1 h2; simp only [h1, h2, if_false] at h; exact absurd rfl h
    simp only [List.drop_zero, List.take_zero, List.map_nil, List.nil_append]
    split
    · rename_i h; exact key ps h
    · rename_i h
      simp only [ne_eq, Decidable.not_not] at h
      exact Prod.ext rfl h
  | [], k + 1, h, _ => by simp at h
  | p :: ps, k + 1, h, hp => by
    have h0 := hp 0 p (by omega) rfl
    have ih := parseLits_ok (s := s) (ps := ps) (k := k) (by simpa using h) fun j q hj hq => hp (j + 1) q (by omega) (by simpa using hq)
    simp only [parseLits, h0, ne_eq, not_true_eq_false, if_false, List.drop_succ_cons, List.take_succ_cons, List.map_cons]
    rw [ih]
    simp only
    split
    · rename_i h1; simp only [ne_eq] at h1; simp [h1]
    · simp
theorem splitGo_len (t : List UInt8) : ∀ (f i fr : Nat) (parts : List (List UInt8)), ∀ q ∈ splitGo t f i fr parts, q ∈ parts ∨ q.length ≤ t.length
  | 0, i, fr, parts, q, hq => by
    simp only [splitGo, List.mem_append, List.mem_singleton] at hq
    rcases hq with h | rfl
    · exact .inl h
    · right; simp
  | f + 1, i, fr, parts, q, hq => by
    simp only [splitGo] at hq
    split at hq
    · split at hq
      · rcases splitGo_len t f _ _ _ q hq with h | h
        · rcases List.mem_append.1 h with h | h
          · exact .inl h
          · simp only [List.mem_singleton] at h; subst h; right; simp; omega
        · exact .inr h
      · exact splitGo_len t f _ _ _ q hq
    · simp only [List.mem_append, List.mem_singleton] at hq
      rcases hq with h | rfl
      · exact .inl h
      · right; simp
theorem splitB_len {t : List UInt8} : ∀ q ∈ splitB t, q.length ≤ t.length := fun q hq => by
  rcases splitGo_len t _ _ _ _ q hq with h | h
  · cases h
  · exact h
theorem parseLits_bad {s : List Int} {ps : List (List UInt8)} {k : Nat} {p : List UInt8} {e : Int} (h : ∀ j p, j < k → ps[j]? = some p → (parseLit s p).2 = 0) (hp : ps[k]? = some p) (he : (parseLit s p).2 = e) (h0 : e ≠ 0) : parseLits s ps = ([], e) := by
  have hk := (List.getElem?_eq_some_iff.1 hp).1
  rw [parseLits_ok (Nat.le_of_lt hk) h]
  have : ps.drop k = p :: ps.drop (k + 1) := by
    obtain ⟨_, e⟩ := List.getElem?_eq_some_iff.1 hp
    rw [← e]; exact List.drop_eq_getElem_cons hk
  rw [this]
  simp [parseLits, he, h0]
end Go.Proofs.YtmanhdacnkpclaaGreat
