/- What is asked of clauses that a maker takes in, plainly: sizes and numbers, of right clauses. -/
import Derived.Test.YtmanhdacnkpclaaDoorq6Rt
import Derived.Test.YtmanhdacnkpclaaDoorq6Cl
import Derived.Test.YtmanhdacnkpclaaDoorq6Pb1
import Derived.Test.YtmanhdacnkpclaaDoorq6T0
namespace Go.Proofs.YtmanhdacnkpclaaDoor
set_option linter.all false
open Go.RowKit

theorem UInv.asize24 {root : Tm} {s : List Pr} {todo : List (Tm × Tm)} (h : UInv root s todo) {t : Tm} (hk : t.okv = true) (hf : Go.Proofs.YtmanhdacnkpclaaDoor.few t) (hz : t.size ≤ 24) : (app s t).size ≤ 1486016741376 := by
  have h1 : (app s t).size ≤ t.size * 12 ^ 10 := by
    refine size_app_le (Nat.pow_pos (by omega)) t hk fun n hn => ?_
    obtain ⟨h0, h9⟩ := hf n hn
    obtain ⟨w, rfl⟩ := Int.eq_ofNat_of_zero_le h0
    refine Nat.le_trans (h.gsize _ w rfl) (Nat.pow_le_pow_right (by omega) ?_)
    have := cnt_full (p := fun x => decide ((appV s (x : Int)).size < (appV s w).size)) (k := 10) (i := w) (by omega) (by simp)
    omega
  have h2 : t.size * 12 ^ 10 ≤ 24 * 12 ^ 10 := Nat.mul_le_mul_right _ hz
  omega
/-- what the makers' contracts ask -/
structure AddOk (s : List Pr) (c : List Lt) : Prop where
  slen : s.length ≤ 1000000
  sz : clSz c
  len : c.length ≤ 1000
  okv : clOkv (each (app s) c)
  few : clFew (each (app s) c)
  sz2 : clSz (each (app s) c)
theorem addOk_of {S : List Int} {a b : Tm} {s : List Pr} {c : List Lt} (ha : Old a) (hb : Old b) (ga : a.ar S = true) (gb : b.ar S = true) (hs : unify a b = some s) (hc : clGood S c) (hl : c.length ≤ 1000) (hz : ∀ l ∈ c, l.left.size ≤ 24 ∧ l.right.size ≤ 24) : AddOk s c := by
  have hi := unifyF_inv _ _ _ s (UInv.start ha hb) hs
  have har := unify_ar ga ha.few gb hb.few hs
  have hg := hc.each har.1 har.2
  refine ⟨unify_len ha hb hs, fun l h => ?_, hl, hg.1.okv, hg.2, fun l h => ?_⟩
  · have := hz l h; omega
  · simp only [each, List.mem_map] at h
    obtain ⟨k, hk, rfl⟩ := h
    have h1 := hi.asize24 (hc.1.okv k hk).1 (hc.2 k hk).1 (hz k hk).1
    have h2 := hi.asize24 (hc.1.okv k hk).2 (hc.2 k hk).2 (hz k hk).2
    simp only
    omega
theorem uok_of {a b : Tm} {s : List Pr} (ha : Old a) (hb : Old b) (hs : unify a b = some s) {t : Tm} (ht : Old t) : (app s t).size ≤ 1486016741376 ∧ (app s t).okv = true := by
  have hi := unifyF_inv _ _ _ s (UInv.start ha hb) hs
  exact ⟨hi.asize24 ht.okv ht.few (by have := ht.size; omega), app_okv hi.idem.1 t ht.okv⟩
/-- clauses of which others come -/
structure CG (S : List Int) (c : List Lt) : Prop where
  len : c.length ≤ 4
  good : clGood S c
  size : ∀ l ∈ c, l.left.size ≤ 12 ∧ l.right.size ≤ 12
theorem COk.cg {S : List Int} {c : List Lt} (h : COk S c) : CG S c := ⟨h.len, h.wf.good, h.size⟩
theorem COk.cgr {S : List Int} {c : List Lt} (h : COk S c) : CG S (each (ren 5) c) := by
  refine ⟨by simp [each]; exact h.len, h.wf.ren, fun l hl => ?_⟩
  simp only [each, List.mem_map] at hl
  obtain ⟨k, hk, rfl⟩ := hl
  have := h.size k hk
  simp only [size_ren]
  exact this
theorem CG.old {S : List Int} {c : List Lt} (h : CG S c) {i : Nat} {l : Lt} (hl : c[i]? = some l) : (Old l.left ∧ l.left.ar S = true) ∧ (Old l.right ∧ l.right.ar S = true) := by
  have hm := List.mem_of_getElem? hl
  have h1 := h.good.at hl
  have h2 := h.size l hm
  exact ⟨⟨⟨Tm.ar_okv _ h1.1.1, h2.1, h1.1.2⟩, h1.1.1⟩, ⟨Tm.ar_okv _ h1.2.1, h2.2, h1.2.2⟩, h1.2.1⟩
theorem CG.way {S : List Int} {c : List Lt} (h : CG S c) {i : Nat} {l : Lt} (hl : c[i]? = some l) {a : Tm × Tm} (ha : a ∈ waysL l) : (Old a.1 ∧ a.1.ar S = true) ∧ (Old a.2 ∧ a.2.ar S = true) := by
  have := h.old hl
  rcases ways_mem ha with rfl | rfl
  · exact this
  · exact this.symm
theorem CG.erase {S : List Int} {c : List Lt} (h : CG S c) (i : Nat) : CG S (c.eraseIdx i) :=
  ⟨Nat.le_trans (List.length_eraseIdx_le ..) h.len, h.good.sub fun l hl => List.mem_of_mem_eraseIdx hl, fun l hl => h.size l (List.mem_of_mem_eraseIdx hl)⟩
theorem CG.resolve {S : List Int} {c : List Lt} (h : CG S c) {i : Nat} {l : Lt} {s : List Pr} (hl : c[i]? = some l) (hs : unify l.left l.right = some s) : AddOk s (c.eraseIdx i) := by
  have ho := h.old hl
  have he := h.erase i
  refine addOk_of ho.1.1 ho.2.1 ho.1.2 ho.2.2 hs he.good (by have := he.len; omega) fun l hl => ?_
  have := he.size l hl
  omega
theorem CG.factor {S : List Int} {c : List Lt} (h : CG S c) {i j : Nat} {x y : Lt} {a b : Tm × Tm} {s : List Pr} (hx : c[i]? = some x) (hy : c[j]? = some y) (ha : a ∈ waysL x) (hb : b ∈ waysL y) (hs : unify a.1 b.1 = some s) : AddOk s (c.eraseIdx i ++ [⟨true, a.2, b.2⟩]) := by
  have o1 := h.way hx ha
  have o2 := h.way hy hb
  have he := h.erase i
  refine addOk_of o1.1.1 o2.1.1 o1.1.2 o2.1.2 hs (factor_good h.good hx hy ha hb) (by have := he.len; simp; omega) fun l hl => ?_
  rcases List.mem_append.1 hl with hl | hl
  · have := he.size l hl; omega
  · simp only [List.mem_singleton] at hl
    subst hl
    have h1 := o1.2.1.size
    have h2 := o2.2.1.size
    simp only
    omega
theorem CG.sup {S : List Int} {c d : List Lt} (h : CG S c) (hd : CG S d) {i j : Nat} {x y : Lt} {a : Tm × Tm} {side : Bool} {p : List Int} {s : List Pr} (hx : c[i]? = some x) (hy : d[j]? = some y) (ha : a ∈ waysL x) (hp : p ∈ places (turnL side y).left)
    (hs : unify a.1 (at_ (turnL side y).left p).1 = some s) : AddOk s (supCl c d i j y a side p) := by
  have o1 := h.way hx ha
  have gy := turn_good hd.good hy side
  have hso : (turnL side y).left.size ≤ 12 ∧ (turnL side y).right.size ≤ 12 := by
    have := hd.size y (List.mem_of_getElem? hy)
    cases side
    · exact this
    · exact this.symm
  have hk : (turnL side y).left.okv = true := Tm.ar_okv _ gy.1.1
  have hat := at_place p (turnL side y).left hk hp
  have oat : Old (at_ (turnL side y).left p).1 := ⟨hat.2.2.1, by have := hat.2.2.2.2; omega, few_at hk gy.1.2 hp⟩
  have he := h.erase i
  refine addOk_of o1.1.1 oat o1.1.2 (at_ar p _ gy.1.1 hp) hs (supCl_good h.good hd.good hx hy ha hp) (by have := he.len; have := hd.len; simp [supCl]; omega) fun l hl => ?_
  rcases List.mem_append.1 hl with hl | hl
  · have := he.size l hl; omega
  · rcases List.mem_or_eq_of_mem_set hl with hl | rfl
    · have := hd.size l hl; omega
    · have h1 := size_put p (turnL side y).left a.2 hp
      have h2 := o1.2.1.size
      cases side
      · exact ⟨by show (put (turnL false y).left p a.2).size ≤ 24; omega, by show (turnL false y).right.size ≤ 24; omega⟩
      · exact ⟨by show (turnL true y).right.size ≤ 24; omega, by show (put (turnL true y).left p a.2).size ≤ 24; omega⟩
theorem addR_len (m : Mk) (s : List Pr) (c : List Lt) : (addR m s c).1.length ≤ m.1.length + 1 := by
  unfold addR
  split
  split
  · simp only; omega
  · split
    · split
      · omega
      · simp
    · omega
theorem sup1_len (a : Tm × Tm) (rest d : List Lt) (j : Nat) (y : Lt) (side : Bool) (w : Tm × Tm) (m : Mk) (p : List Int) : (sup1 a rest d j y side w m p).1.length ≤ m.1.length + 1 := by
  unfold sup1
  split
  · omega
  · split
    · omega
    · exact addR_len ..
theorem CG.turn {S : List Int} {c : List Lt} (h : CG S c) {i : Nat} {l : Lt} (hl : c[i]? = some l) (b : Bool) : (Old (turnL b l).left ∧ (turnL b l).left.ar S = true) ∧ (Old (turnL b l).right ∧ (turnL b l).right.ar S = true) := by
  have := h.old hl
  cases b
  · exact this
  · exact this.symm
theorem Old.at {S : List Int} {t : Tm} {p : List Int} (h : Old t) (ha : t.ar S = true) (hp : p ∈ places t) : Old (at_ t p).1 := by
  have hat := at_place p t h.okv hp
  exact ⟨hat.2.2.1, by have := hat.2.2.2.2; have := h.size; omega, few_at h.okv h.few hp⟩
theorem foldl_len {α : Type} {f : Mk → α → Mk} (hf : ∀ m a, (f m a).1.length ≤ m.1.length + 1) : ∀ (l : List α) (m : Mk), (l.foldl f m).1.length ≤ m.1.length + l.length
  | [], m => by simp
  | a :: l, m => by
    have h1 := foldl_len hf l (f m a)
    have h2 := hf m a
    simp only [List.foldl_cons, List.length_cons]
    omega
theorem sup2_len {S : List Int} {d : List Lt} (hd : CG S d) (a : Tm × Tm) (rest : List Lt) {j : Nat} {y : Lt} (hy : d[j]? = some y) (m : Mk) (side : Bool) : (sup2 a rest d j y m side).1.length ≤ m.1.length + 12 := by
  have h1 := foldl_len (fun m p => sup1_len a rest d j y side ((turnL side y).left, (turnL side y).right) m p) (places (turnL side y).left) m
  have h2 := places_len (turnL side y).left
  have h3 := (hd.turn hy side).1.1.size
  unfold sup2
  omega
theorem sup3_len {S : List Int} {d : List Lt} (hd : CG S d) (a : Tm × Tm) (rest : List Lt) (m : Mk) (j : Nat) : (sup3 a rest d m j).1.length ≤ m.1.length + 24 := by
  unfold sup3
  split
  · omega
  · rename_i y hy
    have h1 := sup2_len hd a rest hy m false
    have h2 := sup2_len hd a rest hy (sup2 a rest d j y m false) true
    simp only [List.foldl_cons, List.foldl_nil]
    omega
theorem side_at {s : Nat} (hs : s < 2) (y : Lt) : ∃ side : Bool, [false, true][s]? = some side ∧ (waysL y)[s]? = some ((turnL side y).left, (turnL side y).right) ∧ ((s = 1 ∧ side = true) ∨ (s = 0 ∧ side = false)) := by
  rcases (show s = 0 ∨ s = 1 by omega) with rfl | rfl
  · exact ⟨false, rfl, rfl, .inr ⟨rfl, rfl⟩⟩
  · exact ⟨true, rfl, rfl, .inl ⟨rfl, rfl⟩⟩
/-- folds over the first numbers, one by one -/
theorem range_fold {β : Type} (f : β → Nat → β) (b : β) (k : Nat) : (List.range (k + 1)).foldl f b = f ((List.range k).foldl f b) k := by
  rw [List.range_succ, List.foldl_append]; rfl
theorem fold_take {α β : Type} (f : β → α → β) (b : β) {l : List α} {k : Nat} {a : α} (h : l[k]? = some a) : (l.take (k + 1)).foldl f b = f ((l.take k).foldl f b) a := by
  rw [List.take_add_one, h, List.foldl_append]; rfl
theorem fold_all {α β : Type} (f : β → α → β) (b : β) {l : List α} {k : Nat} (h : l.length ≤ k) : (l.take k).foldl f b = l.foldl f b := by rw [List.take_of_length_le h]
theorem range_drop {n i d : Nat} (h : i + d < n) : ((List.range n).drop i)[d]? = some (i + d) := by
  rw [List.getElem?_drop, List.getElem?_range h]
theorem factor1_len (rest : List Lt) (a : Tm × Tm) (m : Mk) (b : Tm × Tm) : (factor1 rest a m b).1.length ≤ m.1.length + 1 := by
  unfold factor1
  split
  · exact addR_len ..
  · omega
theorem resolve1_len (c : List Lt) (m : Mk) (i : Nat) : (resolve1 c m i).1.length ≤ m.1.length + 1 := by
  unfold resolve1
  split
  · omega
  · split
    · split
      · exact addR_len ..
      · omega
    · omega
theorem resolve_len (c : List Lt) (k : Nat) : ((List.range k).foldl (resolve1 c) (([], false) : Mk)).1.length ≤ k := by
  induction k with
  | zero => simp
  | succ k ih => rw [range_fold]; have := resolve1_len c ((List.range k).foldl (resolve1 c) ([], false)) k; omega
theorem foldl_lenQ {α : Type} {f : Mk → α → Mk} {q : Nat} : ∀ (l : List α) (m : Mk), (∀ m a, (f m a).1.length ≤ m.1.length + q) → (l.foldl f m).1.length ≤ m.1.length + q * l.length
  | [], m, _ => by simp
  | a :: l, m, hf => by
    have h1 := foldl_lenQ l (f m a) hf
    have h2 := hf m a
    simp only [List.foldl_cons, List.length_cons, Nat.mul_add, Nat.mul_one]
    omega
theorem factor_len {c : List Lt} (h4 : c.length ≤ 4) : (factor c).1.length ≤ 1000 := by
  have f2 : ∀ (rest : List Lt) (y : Lt) (m : Mk) (a : Tm × Tm), (factor2 rest y m a).1.length ≤ m.1.length + 2 := fun rest y m a => by
    have := foldl_lenQ (q := 1) (waysL y) m (fun m b => factor1_len rest a m b)
    simpa [factor2, waysL] using this
  have f3 : ∀ (i : Nat) (x : Lt) (m : Mk) (j : Nat), (factor3 c i x m j).1.length ≤ m.1.length + 4 := fun i x m j => by
    unfold factor3
    split
    · omega
    · split
      · omega
      · rename_i y _ _
        have := foldl_lenQ (q := 2) (waysL x) m (f2 (c.eraseIdx i) y)
        simpa [waysL] using this
  have f4 : ∀ (m : Mk) (i : Nat), (factor4 c m i).1.length ≤ m.1.length + 16 := fun m i => by
    unfold factor4
    split
    · omega
    · rename_i x _
      have := foldl_lenQ (q := 4) ((List.range c.length).drop (i + 1)) m (f3 i x)
      rw [List.length_drop, List.length_range] at this
      omega
  have := foldl_lenQ (q := 16) (List.range c.length) (([], false) : Mk) f4
  rw [List.length_range] at this
  simp only [List.length_nil] at this
  unfold factor
  omega
theorem sup_len {S : List Int} {c d : List Lt} (h4 : c.length ≤ 4) (hd : COk S d) : (sup c d).1.length ≤ 1000 := by
  have hg := hd.cgr
  have hl := hg.len
  have s4 : ∀ (rest : List Lt) (m : Mk) (a : Tm × Tm), (sup4 rest (each (ren 5) d) m a).1.length ≤ m.1.length + 96 := fun rest m a => by
    unfold sup4
    split
    · omega
    · have := foldl_lenQ (q := 24) (List.range (each (ren 5) d).length) m (fun m j => sup3_len hg a rest m j)
      rw [List.length_range] at this
      omega
  have s5 : ∀ (m : Mk) (i : Nat), (sup5 c (each (ren 5) d) m i).1.length ≤ m.1.length + 192 := fun m i => by
    unfold sup5
    split
    · omega
    · split
      · omega
      · rename_i l _ _
        have := foldl_lenQ (q := 96) (waysL l) m (s4 (c.eraseIdx i))
        simpa [waysL] using this
  have := foldl_lenQ (q := 192) (List.range c.length) (([], false) : Mk) s5
  rw [List.length_range] at this
  simp only [List.length_nil] at this
  unfold sup supD
  omega
end Go.Proofs.YtmanhdacnkpclaaDoor
