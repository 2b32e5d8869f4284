/- slices.Delete of one element: what its code does. -/
import Derived.Test.YtmanhdacnkpclaaDoorq6GL
import Derived.Test.YtmanhdacnkpclaaDoorq6Eb
import Derived.Deep.RegionLaw
namespace Go.Proofs.YtmanhdacnkpclaaDoor
set_option linter.all false
open Go.RowKit

theorem run_clear_k {P : Program} (w : World) (t e ty : TypeId) (z : Value) (ht : P.underlying t = some (.slice e)) (hv : ∀ w, (zeroValue e).run P w = .ok z w) (h1 : ∀ n, ∀ x ∈ (Builtin.zeroCells z.cells n).toList, x.oneCell' = true) (b o n c : Nat) (hn : 0 < n)
    (hc : ∀ j, j < (Builtin.zeroCells z.cells n).toList.length → (w.cell? ⟨b, o + j, none⟩).isSome = true) (hf : ∀ j, j < (Builtin.zeroCells z.cells n).toList.length → w.frozen? ⟨b, o + j, none⟩ = false) :
    (Builtin.clear_ #[t] ty #[.slice (some ⟨b, o, none⟩) n c]).run P w = .ok (.tuple #[]) (w.setCells b o (Builtin.zeroCells z.cells n).toList) := by
  have hst := run_storeCells_cells (P := P) b o (Builtin.zeroCells z.cells n).toList 0 w (by simpa using hc) (by simpa using hf) (h1 n)
  simp only [Nat.add_zero] at hst
  obtain ⟨m, rfl⟩ : ∃ m, n = m + 1 := ⟨n - 1, by omega⟩
  simp [Builtin.clear_, run_underlying ht, hv, hst]
theorem zero_one {cs : Array Value} {m : Nat} (hm : cs.size = m) (h : cs.toList.all (fun x => x.oneCell') = true) (n : Nat) : ∀ x ∈ (Builtin.zeroCells cs n).toList, x.oneCell' = true := fun x hx => by
  simp only [Builtin.zeroCells, Array.toList_map, Array.toList_range, List.mem_map, List.mem_range] at hx
  obtain ⟨i, hi, rfl⟩ := hx
  have hp : 0 < cs.size := by
    rcases Nat.eq_zero_or_pos cs.size with h0 | h0
    · rw [h0] at hi; omega
    · exact h0
  have hlt : i % cs.size < cs.size := Nat.mod_lt _ hp
  rw [getElem!_pos cs _ hlt]
  exact List.all_eq_true.1 h _ (by simp)
theorem cell_of {w : World} {g E : Nat} {cur : Array Value} (h : w.heap[g]? = some (.cells cur E (0, 0))) (k : Nat) (hk : k < cur.size) : w.cell? ⟨g, k, none⟩ = cur[k]? ∧ w.frozen? ⟨g, k, none⟩ = false := by
  constructor
  · simp [World.cell?, h]
  · simp [World.frozen?, h]

set_option maxHeartbeats 4000000 in
set_option maxRecDepth 1000000 in
theorem delL : DelC Tryd.prog 123 67 7 := by
  intro w g n cap i cur hg hlc hcm hcs hone hi
  rw [show ((i : Int) + 1) = ((i + 1 : Nat) : Int) by omega]
  obtain ⟨j, hj⟩ : ∃ j, j = i + 1 := ⟨_, rfl⟩
  rw [← hj]
  have hij : i ≤ j := by omega
  have hne : ¬ (i = j) := by omega
  have hjn : j ≤ n := by omega
  have hmm : cap ≤ 9223372036854775807 := by simpa [maxLen] using hcm
  have hn7 : n * 7 ≤ cap * 7 := Nat.mul_le_mul_right 7 hlc
  have hj7 : j * 7 ≤ n * 7 := Nat.mul_le_mul_right 7 hjn
  have hi7 : j * 7 = i * 7 + 7 := by rw [hj, Nat.add_mul]
  have hd7 : (n - j) * 7 = n * 7 - j * 7 := Nat.sub_mul ..
  obtain ⟨i0, hi0', hz0', hz1', _⟩ := info_parts slClause.info
  have hzv : ∀ w, (zeroValue 67).run Tryd.prog w = .ok (.agg #[.bool false, .bool false, .int .i64 0, .slice none 0 0, .bool false, .int .i64 0, .slice none 0 0]) w := fun w => by simp [zeroValue, typeInfo, hi0', hz0']
  obtain ⟨zc, hzc⟩ : ∃ zc : Value, zc = (.agg #[.bool false, .bool false, .int .i64 0, .slice none 0 0, .bool false, .int .i64 0, .slice none 0 0]) := ⟨_, rfl⟩
  have hi0 : Hid (Tryd.prog.info? 67 = some i0) := hi0'
  have hz1 : Hid (i0.size = 7) := hz1'
  have hone0 : ∀ n, ∀ x ∈ (Builtin.zeroCells (Value.cells (.agg #[.bool false, .bool false, .int .i64 0, .slice none 0 0, .bool false, .int .i64 0, .slice none 0 0])) n).toList, x.oneCell' = true := fun n x hx => zero_one rfl rfl n x hx
  rw [← hzc] at hzv hone0
  have hzl1 : (Builtin.zeroCells zc.cells 1).toList.length = 7 := by
    rw [hzc]
    simp only [Builtin.zeroCells, Array.toList_map, List.length_map, Array.toList_range, List.length_range, Nat.one_mul]
    exact slClause.zsize
  clear hi0' hz0' hz1'
  obtain ⟨news, hnews⟩ : ∃ news, news = (cur.toList.take (n * 7)).drop (j * 7) := ⟨_, rfl⟩
  have hnl : news.length = (n - j) * 7 := by rw [hnews, List.length_drop, List.length_take, Array.length_toList, hcs]; omega
  have hget : ∀ t u, news[t]? = some u → w.drew.cell? ⟨g, j * 7 + t, none⟩ = some u := fun t u hu => by
    have ht : t < (n - j) * 7 := by rw [← hnl]; exact (List.getElem?_eq_some_iff.1 hu).1
    rw [(cell_of (w := w.drew) hg (j * 7 + t) (by omega)).1]
    rw [hnews, List.getElem?_drop, List.getElem?_take, if_pos (by omega), Array.getElem?_toList] at hu
    exact hu
  have hsome : ∀ k, k < cap * 7 → (w.drew.cell? ⟨g, k, none⟩).isSome = true ∧ w.drew.frozen? ⟨g, k, none⟩ = false := fun k hk => by
    obtain ⟨h1, h2⟩ := cell_of (w := w.drew) hg k (by omega)
    rw [h1, h2]
    exact ⟨by rw [Array.getElem?_eq_getElem (by omega)]; exact Option.isSome_some, rfl⟩
  obtain ⟨A, hA, hsrc⟩ : ∃ A : Addr, (if cap = j then some (⟨g, 0, none⟩ : Addr) else some ⟨g, j * 7, none⟩) = some A ∧ Hid (∀ t u, news[t]? = some u → w.drew.cell? (A.add t) = some u) := by
    by_cases h : cap = j
    · refine ⟨⟨g, 0, none⟩, by simp [h], fun t u hu => ?_⟩
      have h0 : news.length = 0 := by have : n - j = 0 := by omega
                                      simp [hnl, this]
      rw [List.length_eq_zero_iff.1 h0] at hu
      simp at hu
    · refine ⟨⟨g, j * 7, none⟩, by simp [h], fun t u hu => ?_⟩
      rw [add_lit]
      exact hget t u hu
  have s1 : Hid (news.length = (n - j) * 7) := hnl
  have s2 : Hid (∀ u ∈ news, u.oneCell' = true) := fun u hu => by
    rw [hnews] at hu
    exact hone u (List.mem_of_mem_drop hu)
  have s3 : Hid (∀ t, t < news.length → (w.drew.cell? ⟨g, 0 + i * 7 + t, none⟩).isSome = true ∧ w.drew.frozen? ⟨g, 0 + i * 7 + t, none⟩ = false) := fun t ht => by
    rw [hnl] at ht
    exact hsome _ (by omega)
  obtain ⟨W1, hW1⟩ : ∃ W1, W1 = w.drew.setCells g (0 + i * 7) news := ⟨_, rfl⟩
  have hg0 : w.drew.heap[g]? = some (.cells cur.toList.toArray 67 (0, 0)) := by
    show w.heap[g]? = _
    simpa using hg
  obtain ⟨a1, a2, a3, a4, a5, a6⟩ := setCells_blk news w.drew g (0 + i * 7) cur.toList 67 hg0
  rw [← hW1] at a1
  obtain ⟨zl, hzl0⟩ : ∃ zl, zl = (Builtin.zeroCells zc.cells 1).toList := ⟨_, rfl⟩
  have hcl : ∀ ty, (Builtin.clear_ #[59] ty #[.slice (some ⟨g, (i + (n - j)) * 7, none⟩) (n - (i + (n - j))) (cap - (i + (n - j)))]).run Tryd.prog W1 = .ok (.tuple #[]) (W1.setCells g ((i + (n - j)) * 7) zl) := fun ty => by
    have e1 : n - (i + (n - j)) = 1 := by omega
    rw [e1, hzl0]
    have hk : ∀ q, q < (Builtin.zeroCells zc.cells 1).toList.length → (i + (n - j)) * 7 + q < (splL cur.toList (0 + i * 7) news).toArray.size := fun q hq => by
      rw [hzl1] at hq
      rw [List.size_toArray, splL_len, Array.length_toList, hcs]
      omega
    exact run_clear_k W1 _ _ ty zc (by kernel_rfl) hzv hone0 g _ 1 _ (by omega) (fun q hq => by
      have := hk q hq
      rw [(cell_of a1 _ this).1, Array.getElem?_eq_getElem this]; rfl) (fun q hq => (cell_of a1 _ (hk q hq)).2)
  have X : Aside (W1 = w.drew.setCells g (0 + i * 7) news) := hW1
  have hW : Hid (W1 = w.drew.setCells g (0 + i * 7) news) := hW1
  have N : Aside (news = (cur.toList.take (n * 7)).drop (j * 7)) := hnews
  have hic : i ≤ cap := by omega
  have hjc : j ≤ cap := by omega
  have J : Aside (j = i + 1) := hj
  clear hj hi7 hd7 hn7 hj7
  (try rw [Nat.mul_one] at hA)
  clear hW1 hget hsome hnews hnl a1 a2 a3 a4 a5 a6 hg0 hcs hone hzv hone0 hzc
  have hzl : Hid (zl.length = 7) := by rw [hzl0]; exact hzl1
  clear hzl1 hzl0 zc
  go_enter Tryd.func123, Tryd.ntmps123
  go_wp2_with fail
  go_region_law (refine step_append_room rfl (.tmp 22) (.tmp 25) 59 rfl 67 i0 7 (by kernel_rfl) hi0.out hz1.out g 0 i cap (by simp [Act.eval, Act.put]) A (n - j) (cap - j) news (by first | (simp [Act.eval, Act.put]; done) | (simp [Act.eval, Act.put]; simpa using hA)) s1.out hsrc.out s2.out (by omega) s3.out ?_; rw [← hW.out])
  go_wp2
  go_ret
  refine ⟨by rw [show i + (n - j) = n - 1 by have := J.out; omega]; rfl, 1, zl, hzl.out, ?_⟩
  have e2 : i + (n - j) = n - 1 := by have := J.out; omega
  rw [e2, X.out, N.out, Nat.zero_add]
  (try simp only [Nat.mul_one])
  rfl
end Go.Proofs.YtmanhdacnkpclaaDoor
