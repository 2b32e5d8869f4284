/- Models, plainly. -/
import Derived.Test.YtmanhdacnkpclaaDoordcPa1
/- Models, plainly. -/
namespace Go.Proofs.YtmanhdacnkpclaaDoor
set_option linter.unusedVariables false
set_option linter.unusedSimpArgs false

/-- a model -/
structure Md where
  size : Int
  tables : List (List Int)
/-- so many things, for so many arguments -/
def want (z : Int) (n : Int) : Int := z ^ n.toNat
def wrongRow (z : Int) (row : List Int) (n : Int) : Int := if (row.length : Int) ≠ want z n then 5 else if row.any (fun x => decide (x < 0 ∨ z ≤ x)) then 3 else 0
def wrongRows (z : Int) (tabs : List (List Int)) : Nat → List Int → Int
  | _, [] => 0
  | f, n :: s => if wrongRow z (tabs.getD f []) n = 0 then wrongRows z tabs (f + 1) s else wrongRow z (tabs.getD f []) n
def wrongModel (s : List Int) (m : Md) : Int := if m.size < 1 ∨ 8 < m.size ∨ m.tables.length ≠ s.length then 5 else wrongRows m.size m.tables 0 s
theorem wrongRows_all {z : Int} {tabs : List (List Int)} : ∀ {s : List Int} {f : Nat}, wrongRows z tabs f s = 0 → ∀ (k : Nat) (n : Int), s[k]? = some n → wrongRow z (tabs.getD (f + k) []) n = 0
  | [], _, _, k, n, h => by simp at h
  | m :: s, f, h, 0, n, hn => by
    simp at hn; subst hn
    simp only [wrongRows] at h
    split at h
    · assumption
    · rename_i h1; exact absurd h h1
  | m :: s, f, h, k + 1, n, hn => by
    simp only [wrongRows] at h
    split at h
    · have := wrongRows_all h k n (by simpa using hn)
      rw [show f + (k + 1) = f + 1 + k by omega]; exact this
    · rename_i h1; exact absurd h h1
theorem wrongRows_no {z : Int} {tabs : List (List Int)} : ∀ {s : List Int} {f k : Nat} {n : Int}, (∀ (j : Nat) (n : Int), j < k → s[j]? = some n → wrongRow z (tabs.getD (f + j) []) n = 0) → s[k]? = some n → wrongRow z (tabs.getD (f + k) []) n ≠ 0 → wrongRows z tabs f s = wrongRow z (tabs.getD (f + k) []) n
  | [], _, _, _, _, h, _ => by simp at h
  | m :: s, f, 0, n, _, h, hn => by
    simp at h; subst h
    simp only [wrongRows]
    rw [Nat.add_zero] at hn
    rw [if_neg hn, Nat.add_zero]
  | m :: s, f, k + 1, n, h0, h, hn => by
    simp only [wrongRows]
    have h00 := h0 0 m (by omega) rfl
    rw [Nat.add_zero] at h00
    rw [if_pos h00, wrongRows_no (k := k) (n := n) (fun j n hj hn => by rw [show f + 1 + j = f + (j + 1) by omega]; exact h0 (j + 1) n (by omega) (by simpa using hn)) (by simpa using h) (by rw [show f + 1 + k = f + (k + 1) by omega]; exact hn)]
    rw [show f + 1 + k = f + (k + 1) by omega]
theorem wrongRows_yes {z : Int} {tabs : List (List Int)} : ∀ {s : List Int} {f : Nat}, (∀ (j : Nat) (n : Int), j < s.length → s[j]? = some n → wrongRow z (tabs.getD (f + j) []) n = 0) → wrongRows z tabs f s = 0
  | [], _, _ => rfl
  | m :: s, f, h => by
    simp only [wrongRows]
    have h00 := h 0 m (by simp) rfl
    rw [Nat.add_zero] at h00
    rw [if_pos h00, wrongRows_yes fun j n hj hn => by rw [show f + 1 + j = f + (j + 1) by omega]; exact h (j + 1) n (by simp; omega) (by simpa using hn)]

mutual
/-- which thing a term is -/
def value (m : Md) (env : List Int) : Tm → Int
  | ⟨true, n, _⟩ => env.getD n.toNat 0
  | ⟨false, n, l⟩ => (m.tables.getD n.toNat []).getD (values m env 0 l).toNat 0
def values (m : Md) (env : List Int) : Int → List Tm → Int
  | at_, [] => at_
  | at_, a :: l => values m env (at_ * m.size + value m env a) l
end
theorem values_snoc (m : Md) (env : List Int) : ∀ (l : List Tm) (i : Int) (x : Tm), values m env i (l ++ [x]) = values m env i l * m.size + value m env x
  | [], i, x => rfl
  | a :: l, i, x => by simp only [List.cons_append, values]; exact values_snoc m env l _ x
/-- does a literal hold? -/
def lit (m : Md) (env : List Int) (l : Lt) : Bool := (value m env l.left == value m env l.right) != l.neg
def some_ (m : Md) (env : List Int) (c : List Lt) : Bool := c.any (lit m env)
/-- what is right with a model -/
structure MOk (s : List Int) (m : Md) : Prop where
  one : 1 ≤ m.size
  eight : m.size ≤ 8
  len : m.tables.length = s.length
  row : ∀ (f : Nat) (n : Int), s[f]? = some n → ((m.tables.getD f []).length : Int) = want m.size n ∧ ∀ x ∈ m.tables.getD f [], 0 ≤ x ∧ x < m.size
theorem MOk.of {s : List Int} {m : Md} (h : wrongModel s m = 0) : MOk s m := by
  unfold wrongModel at h
  split at h
  · cases h
  · rename_i h1
    refine ⟨by omega, by omega, by omega, fun f n hf => ?_⟩
    have := wrongRows_all h f n hf
    rw [Nat.zero_add] at this
    unfold wrongRow at this
    split at this
    · cases this
    · split at this
      · cases this
      · rename_i h2 h3
        refine ⟨by simpa using h2, fun x hx => ?_⟩
        simp only [Bool.not_eq_true] at h3
        have := List.any_eq_false.1 h3 x hx
        simp only [decide_eq_true_eq] at this
        omega
/-- things for variables -/
structure EOk (m : Md) (env : List Int) : Prop where
  len : env.length = 5
  mem : ∀ x ∈ env, 0 ≤ x ∧ x < m.size
theorem EOk.at {m : Md} {env : List Int} (h : EOk m env) {n : Int} (h0 : 0 ≤ n) (h4 : n ≤ 4) : 0 ≤ env.getD n.toNat 0 ∧ env.getD n.toNat 0 < m.size := by
  have := h.len
  have hn : n.toNat < env.length := by omega
  rw [List.getD_eq_getElem?_getD, List.getElem?_eq_getElem hn]
  exact h.mem _ (List.getElem_mem hn)
mutual
theorem value_ok {s : List Int} {m : Md} {env : List Int} (hm : MOk s m) (he : EOk m env) : ∀ t : Tm, t.wf s = true → 0 ≤ value m env t ∧ value m env t < m.size
  | ⟨true, n, l⟩, h => by
    simp only [Tm.wf, Bool.and_eq_true, List.isEmpty_iff, decide_eq_true_eq] at h
    exact he.at h.1.2 h.2
  | ⟨false, n, l⟩, h => by
    simp only [Tm.wf, Bool.and_eq_true, decide_eq_true_eq] at h
    obtain ⟨⟨⟨h0, h1⟩, h2⟩, h3⟩ := h
    have hn : n.toNat < s.length := by omega
    obtain ⟨g1, g2⟩ := hm.row n.toNat s[n.toNat] (List.getElem?_eq_getElem hn)
    rw [List.getD_eq_getElem?_getD, List.getElem?_eq_getElem hn] at h2
    simp only [Option.getD_some] at h2
    have g3 := values_ok hm he l h3 0 0 (by omega) (by simp)
    rw [Nat.zero_add] at g3
    have h4 : want m.size s[n.toNat] = m.size ^ l.length := by unfold want; congr 1; omega
    rw [h4] at g1
    have hlt : (values m env 0 l).toNat < (m.tables.getD n.toNat []).length := by omega
    simp only [value]
    have : (m.tables.getD n.toNat []).getD (values m env 0 l).toNat 0 = (m.tables.getD n.toNat [])[(values m env 0 l).toNat] := by
      generalize m.tables.getD n.toNat [] = row at *
      rw [List.getD_eq_getElem?_getD, List.getElem?_eq_getElem hlt]; rfl
    rw [this]
    exact g2 _ (List.getElem_mem hlt)
theorem values_ok {s : List Int} {m : Md} {env : List Int} (hm : MOk s m) (he : EOk m env) : ∀ l : List Tm, Tm.wfs s l = true → ∀ (i : Int) (k : Nat), 0 ≤ i → i < m.size ^ k → 0 ≤ values m env i l ∧ values m env i l < m.size ^ (k + l.length)
  | [], _, i, k, h0, h1 => ⟨h0, h1⟩
  | a :: l, h, i, k, h0, h1 => by
    simp only [Tm.wfs, Bool.and_eq_true] at h
    obtain ⟨g0, g1⟩ := value_ok hm he a h.1
    have hs := hm.one
    have e : m.size ^ (k + 1) = m.size ^ k * m.size := Int.pow_succ ..
    have h2 : (i + 1) * m.size ≤ m.size ^ k * m.size := Int.mul_le_mul_of_nonneg_right (by omega) (by omega)
    have h3 : 0 ≤ i * m.size := Int.mul_nonneg h0 (by omega)
    rw [Int.add_mul, Int.one_mul] at h2
    obtain ⟨r0, r1⟩ := values_ok hm he l h.2 (i * m.size + value m env a) (k + 1) (by omega) (by omega)
    refine ⟨r0, ?_⟩
    simp only [values, List.length_cons]
    rw [show k + (l.length + 1) = k + 1 + l.length by omega]
    exact r1
end
def clWf (s : List Int) (c : List Lt) : Prop := ∀ l ∈ c, l.left.wf s = true ∧ l.right.wf s = true

/-- clauses' variables -/
def clVars : List Int → List Lt → List Int
  | acc, [] => acc
  | acc, l :: c => clVars (vars (vars acc l.left) l.right) c
/-- bindings of variables, one by one -/
def allE (m : Md) (c : List Lt) : List Int → List Int → Bool
  | env, [] => some_ m env c
  | env, v :: vs => (List.range m.size.toNat).all fun x => allE m c (env.set v.toNat (x : Int)) vs
def holds (m : Md) (c : List Lt) : Bool := allE m c [0, 0, 0, 0, 0] (clVars [] c)

/-- things that agree where it counts -/
def agree (e e' : List Int) (t : Tm) : Prop := ∀ v, times v t ≠ 0 → e.getD v.toNat 0 = e'.getD v.toNat 0
mutual
theorem value_agree {m : Md} {e e' : List Int} : ∀ t : Tm, t.okv = true → agree e e' t → value m e t = value m e' t
  | ⟨true, n, l⟩, hk, h => by
    simp only [value]
    exact h n (by simp [times])
  | ⟨false, n, l⟩, hk, h => by
    simp only [Tm.okv] at hk
    simp only [value]
    rw [values_agree l hk (fun a ha v hv => h v fun h0 => hv (times_sub ha h0)) 0]
theorem values_agree {m : Md} {e e' : List Int} : ∀ l : List Tm, Tm.okvs l = true → (∀ a ∈ l, agree e e' a) → ∀ i, values m e i l = values m e' i l
  | [], _, _, _ => rfl
  | a :: l, hk, h, i => by
    simp only [Tm.okvs, Bool.and_eq_true] at hk
    simp only [values]
    rw [value_agree a hk.1 (h a (by simp)), values_agree l hk.2 (fun b hb => h b (by simp [hb]))]
end
theorem mem_clVars_old {x : Int} : ∀ (c : List Lt) (acc : List Int), x ∈ acc → x ∈ clVars acc c
  | [], _, h => h
  | l :: c, _, h => mem_clVars_old c _ (vars_mem_old x l.right _ (vars_mem_old x l.left _ h))
theorem mem_clVars {x : Int} : ∀ (c : List Lt) (acc : List Int), (∀ l ∈ c, l.left.okv = true ∧ l.right.okv = true) → ∀ l ∈ c, (times x l.left ≠ 0 ∨ times x l.right ≠ 0) → x ∈ clVars acc c
  | [], _, _, l, hl, _ => by cases hl
  | k :: c, acc, hk, l, hl, hx => by
    have hk1 := hk k (by simp)
    rcases List.mem_cons.1 hl with rfl | hl
    · refine mem_clVars_old c _ ?_
      rcases hx with hx | hx
      · exact vars_mem_old x l.right _ (times_mem x l.left acc hk1.1 hx).1
      · exact (times_mem x l.right _ hk1.2 hx).1
    · exact mem_clVars c _ (fun a ha => hk a (by simp [ha])) l hl hx
mutual
theorem vars_sub (x : Int) : ∀ (t : Tm) (l : List Int), x ∈ vars l t → x ∈ l ∨ times x t ≠ 0
  | ⟨true, n, r⟩, l, h => by
    simp only [vars] at h
    split at h
    · exact .inl h
    · rcases List.mem_append.1 h with h | h
      · exact .inl h
      · simp only [List.mem_singleton] at h; subst h; right; simp [times]
  | ⟨false, n, r⟩, l, h => by
    simp only [vars] at h
    rcases varss_sub x r l h with h | h
    · exact .inl h
    · right; simpa [times] using h
theorem varss_sub (x : Int) : ∀ (r : List Tm) (l : List Int), x ∈ varss l r → x ∈ l ∨ timess x r ≠ 0
  | [], l, h => .inl h
  | a :: r, l, h => by
    simp only [varss] at h
    rcases varss_sub x r _ h with h | h
    · rcases vars_sub x a l h with h | h
      · exact .inl h
      · right; simp only [timess]; omega
    · right; simp only [timess]; omega
end
theorem clVars_sub {x : Int} : ∀ (c : List Lt) (acc : List Int), x ∈ clVars acc c → x ∈ acc ∨ ∃ l ∈ c, times x l.left ≠ 0 ∨ times x l.right ≠ 0
  | [], _, h => .inl h
  | l :: c, acc, h => by
    rcases clVars_sub c _ h with h | ⟨k, hk, h⟩
    · rcases vars_sub x l.right _ h with h | h
      · rcases vars_sub x l.left _ h with h | h
        · exact .inl h
        · exact .inr ⟨l, by simp, .inl h⟩
      · exact .inr ⟨l, by simp, .inr h⟩
    · exact .inr ⟨k, by simp [hk], h⟩
theorem times_wf {s : List Int} {t : Tm} (h : t.wf s = true) {v : Int} (hv : times v t ≠ 0) : 0 ≤ v ∧ v ≤ 4 := by
  have key : ∀ t : Tm, t.wf s = true → times v t ≠ 0 → 0 ≤ v ∧ v ≤ 4 := by
    refine Tm.ind ?_
    intro b n l ih h hv
    cases b
    · simp only [Tm.wf, Bool.and_eq_true] at h
      simp only [times, Bool.false_and, Bool.false_eq_true, if_false, Nat.zero_add] at hv
      obtain ⟨a, ha, hv⟩ := timess_pos hv
      exact ih a ha (Tm.wfs_iff.1 h.2 a ha) hv
    · simp only [Tm.wf, Bool.and_eq_true, List.isEmpty_iff, decide_eq_true_eq] at h
      obtain ⟨⟨rfl, h0⟩, h4⟩ := h
      have : n = v := by
        rcases Decidable.em (n = v) with h1 | h1
        · exact h1
        · simp [times, timess, h1] at hv
      omega
  exact key t h hv
theorem some_agree {m : Md} {e e' : List Int} {c : List Lt} (hk : ∀ l ∈ c, l.left.okv = true ∧ l.right.okv = true) (h : ∀ l ∈ c, agree e e' l.left ∧ agree e e' l.right) : some_ m e c = some_ m e' c := by
  unfold some_
  induction c with
  | nil => rfl
  | cons l c ih =>
    simp only [List.any_cons]
    rw [ih (fun a ha => hk a (by simp [ha])) (fun a ha => h a (by simp [ha]))]
    congr 1
    unfold lit
    rw [value_agree _ (hk l (by simp)).1 (h l (by simp)).1, value_agree _ (hk l (by simp)).2 (h l (by simp)).2]

theorem EOk.set {m : Md} {env : List Int} (h : EOk m env) {i : Nat} {x : Int} (h0 : 0 ≤ x) (h1 : x < m.size) : EOk m (env.set i x) := by
  refine ⟨by rw [List.length_set]; exact h.len, fun y hy => ?_⟩
  rcases List.mem_or_eq_of_mem_set hy with hy | rfl
  · exact h.mem y hy
  · exact ⟨h0, h1⟩
theorem allE_iff {m : Md} {c : List Lt} : ∀ (vs : List Int) (env : List Int), EOk m env → (∀ v ∈ vs, 0 ≤ v ∧ v ≤ 4) →
    (allE m c env vs = true ↔ ∀ env', EOk m env' → (∀ j : Nat, ¬ ((j : Int) ∈ vs) → env'.getD j 0 = env.getD j 0) → some_ m env' c = true)
  | [], env, he, _ => by
    simp only [allE]
    constructor
    · intro h env' he' hj
      have : env' = env := by
        apply List.ext_getElem (by rw [he.len, he'.len])
        intro i h1 h2
        have := hj i (by simp)
        rw [List.getD_eq_getElem?_getD, List.getD_eq_getElem?_getD, List.getElem?_eq_getElem h1, List.getElem?_eq_getElem h2] at this
        simpa using this
      rw [this]; exact h
    · intro h; exact h env he fun _ _ => rfl
  | v :: vs, env, he, hv => by
    have hv0 := hv v (by simp)
    have hvs : ∀ v ∈ vs, 0 ≤ v ∧ v ≤ 4 := fun v h => hv v (by simp [h])
    obtain ⟨k, rfl⟩ := Int.eq_ofNat_of_zero_le hv0.1
    simp only [allE, List.all_eq_true, List.mem_range, Int.toNat_natCast]
    constructor
    · intro h env' he' hj
      have hk := he'.at hv0.1 hv0.2
      rw [Int.toNat_natCast] at hk
      obtain ⟨x, hx⟩ := Int.eq_ofNat_of_zero_le hk.1
      have h1 := h x (by omega)
      refine (allE_iff vs _ (he.set (i := k) (x := (x : Int)) (by omega) (by omega)) hvs).1 h1 env' he' fun j hjv => ?_
      rcases Decidable.em (j = k) with rfl | hne
      · rw [hx, List.getD_eq_getElem?_getD, List.getElem?_set_self (by rw [he.len]; omega)]; rfl
      · rw [hj j (by simp; exact ⟨by omega, hjv⟩), List.getD_eq_getElem?_getD, List.getD_eq_getElem?_getD, List.getElem?_set_ne (Ne.symm hne)]
    · intro h x hx
      refine (allE_iff vs _ (he.set (i := k) (x := (x : Int)) (by omega) (by omega)) hvs).2 fun env' he' hj => h env' he' fun j hjv => ?_
      have hne : j ≠ k := fun e => hjv (by rw [e]; simp)
      rw [hj j fun hm => hjv (by simp [hm]), List.getD_eq_getElem?_getD, List.getD_eq_getElem?_getD, List.getElem?_set_ne (Ne.symm hne)]
theorem EOk.zero {s : List Int} {m : Md} (hm : MOk s m) : EOk m [0, 0, 0, 0, 0] := by
  have := hm.one
  refine ⟨rfl, fun x hx => ?_⟩
  simp at hx; subst hx; omega
theorem clWf.okv {s : List Int} {c : List Lt} (h : clWf s c) : ∀ l ∈ c, l.left.okv = true ∧ l.right.okv = true := fun l hl => ⟨Tm.wf_okv _ (h l hl).1, Tm.wf_okv _ (h l hl).2⟩
theorem clVars_range {s : List Int} {c : List Lt} (h : clWf s c) : ∀ v ∈ clVars [] c, 0 ≤ v ∧ v ≤ 4 := fun v hv => by
  rcases clVars_sub c [] hv with hv | ⟨l, hl, hv | hv⟩
  · cases hv
  · exact times_wf (h l hl).1 hv
  · exact times_wf (h l hl).2 hv
/-- whatever its variables are -/
theorem holds_iff {s : List Int} {m : Md} {c : List Lt} (hm : MOk s m) (hc : clWf s c) : holds m c = true ↔ ∀ env, EOk m env → some_ m env c = true := by
  unfold holds
  rw [allE_iff _ _ (EOk.zero hm) (clVars_range hc)]
  constructor
  · intro h env he
    -- the part of env that counts
    let env' : List Int := (List.range 5).map fun (j : Nat) => if (j : Int) ∈ clVars [] c then env.getD j 0 else 0
    have hone := hm.one
    have hg : ∀ j : Nat, j < 5 → env'.getD j 0 = if (j : Int) ∈ clVars [] c then env.getD j 0 else 0 := fun j hj => by
      simp only [env', List.getD_eq_getElem?_getD, List.getElem?_map, List.getElem?_range hj, Option.map_some, Option.getD_some]
    have he' : EOk m env' := by
      refine ⟨by simp [env'], fun x hx => ?_⟩
      simp only [env', List.mem_map, List.mem_range] at hx
      obtain ⟨j, hj, rfl⟩ := hx
      split
      · have := he.at (n := (j : Int)) (by omega) (by omega); simpa using this
      · omega
    have h1 := h env' he' fun j hj => by
      rcases Nat.lt_or_ge j 5 with h5 | h5
      · rw [hg j h5, if_neg hj]
        rcases (show j = 0 ∨ j = 1 ∨ j = 2 ∨ j = 3 ∨ j = 4 by omega) with rfl | rfl | rfl | rfl | rfl <;> rfl
      · rw [List.getD_eq_getElem?_getD, List.getD_eq_getElem?_getD, List.getElem?_eq_none (by simp [env']; omega), List.getElem?_eq_none (by simp; omega)]
    rw [← h1]
    have hag : ∀ v, 0 ≤ v ∧ v ≤ 4 → v ∈ clVars [] c → env.getD v.toNat 0 = env'.getD v.toNat 0 := fun v hv hm => by
      rw [hg v.toNat (by omega), if_pos (by rw [Int.toNat_of_nonneg hv.1]; exact hm)]
    refine some_agree hc.okv fun l hl => ⟨fun v hv => ?_, fun v hv => ?_⟩
    · exact hag v (times_wf (hc l hl).1 hv) (mem_clVars c [] hc.okv l hl (.inl hv))
    · exact hag v (times_wf (hc l hl).2 hv) (mem_clVars c [] hc.okv l hl (.inr hv))
  · intro h env' he' _; exact h env' he'

/-- terms of clauses -/
def each (f : Tm → Tm) (c : List Lt) : List Lt := c.map fun l => ⟨l.neg, f l.left, f l.right⟩
def subWf (s : List Int) (by_ : List Pr) : Prop := ∀ p ∈ by_, p.2.wf s = true
theorem appV_wf {s : List Int} {by_ : List Pr} (h : subWf s by_) {v : Int} (h0 : 0 ≤ v) (h4 : v ≤ 4) : (appV by_ v).wf s = true := by
  unfold appV
  rw [app_var]
  cases hf : findS by_ v with
  | none => simp [Tm.wf, h0, h4]
  | some u => obtain ⟨p, hp, _, rfl⟩ := findS_mem hf; exact h p hp
mutual
theorem app_wf {s : List Int} {by_ : List Pr} (h : subWf s by_) : ∀ t : Tm, t.wf s = true → (app by_ t).wf s = true
  | ⟨true, n, l⟩, hk => by
    simp only [Tm.wf, Bool.and_eq_true, List.isEmpty_iff, decide_eq_true_eq] at hk
    obtain ⟨⟨rfl, h0⟩, h4⟩ := hk
    exact appV_wf h h0 h4
  | ⟨false, n, l⟩, hk => by
    simp only [Tm.wf, Bool.and_eq_true, decide_eq_true_eq] at hk
    rw [app_sym]
    simp only [Tm.wf, Bool.and_eq_true, decide_eq_true_eq, List.length_map]
    exact ⟨hk.1, apps_wf h l hk.2⟩
theorem apps_wf {s : List Int} {by_ : List Pr} (h : subWf s by_) : ∀ l : List Tm, Tm.wfs s l = true → Tm.wfs s (l.map (app by_)) = true
  | [], _ => rfl
  | a :: l, hk => by
    simp only [Tm.wfs, Bool.and_eq_true] at hk
    simp only [List.map_cons, Tm.wfs, app_wf h a hk.1, apps_wf h l hk.2, Bool.and_self]
end
theorem lit_not (m : Md) (e : List Int) (l : Lt) : lit m e ⟨!l.neg, l.left, l.right⟩ = !lit m e l := by
  unfold lit
  cases l.neg <;> cases (value m e l.left == value m e l.right) <;> rfl
theorem holds_or {s : List Int} {m : Md} {l : Lt} (hm : MOk s m) (hl : clWf s [l]) : holds m [l, ⟨!l.neg, l.left, l.right⟩] = true := by
  have hl' := hl l (by simp)
  rw [holds_iff hm (by intro k hk; simp only [List.mem_cons, List.not_mem_nil, or_false] at hk; rcases hk with rfl | rfl <;> exact hl')]
  intro env he
  simp only [some_, List.any_cons, List.any_nil, Bool.or_false, lit_not]
  cases lit m env l <;> rfl
end Go.Proofs.YtmanhdacnkpclaaDoor

/- Models, plainly: things for all variables. -/
namespace Go.Proofs.YtmanhdacnkpclaaDoor
set_option linter.unusedVariables false
set_option linter.unusedSimpArgs false

mutual
def valueF (m : Md) (e : Int → Int) : Tm → Int
  | ⟨true, n, _⟩ => e n
  | ⟨false, n, l⟩ => (m.tables.getD n.toNat []).getD (valuesF m e 0 l).toNat 0
def valuesF (m : Md) (e : Int → Int) : Int → List Tm → Int
  | at_, [] => at_
  | at_, a :: l => valuesF m e (at_ * m.size + valueF m e a) l
end
mutual
theorem value_F (m : Md) (env : List Int) : ∀ t : Tm, value m env t = valueF m (fun v => env.getD v.toNat 0) t
  | ⟨true, n, l⟩ => rfl
  | ⟨false, n, l⟩ => by simp only [value, valueF, values_F m env l]
theorem values_F (m : Md) (env : List Int) : ∀ (l : List Tm) (i : Int), values m env i l = valuesF m (fun v => env.getD v.toNat 0) i l
  | [], _ => rfl
  | a :: l, i => by simp only [values, valuesF, value_F m env a, values_F m env l]
end
def litF (m : Md) (e : Int → Int) (l : Lt) : Bool := (valueF m e l.left == valueF m e l.right) != l.neg
def someF (m : Md) (e : Int → Int) (c : List Lt) : Bool := c.any (litF m e)
theorem some_F (m : Md) (env : List Int) (c : List Lt) : some_ m env c = someF m (fun v => env.getD v.toNat 0) c := by
  unfold some_ someF
  congr 1
  funext l
  unfold lit litF
  rw [value_F, value_F]
mutual
/-- each symbol with its arguments -/
def Tm.ar (s : List Int) : Tm → Bool
  | ⟨true, n, l⟩ => l.isEmpty && decide (0 ≤ n) && decide (n ≤ 1000000)
  | ⟨false, n, l⟩ => decide (0 ≤ n) && decide (n < (s.length : Int)) && decide ((l.length : Int) = s.getD n.toNat 0) && Tm.ars s l
def Tm.ars (s : List Int) : List Tm → Bool
  | [] => true
  | a :: l => Tm.ar s a && Tm.ars s l
end
theorem Tm.ars_iff {s : List Int} : ∀ {l : List Tm}, Tm.ars s l = true ↔ ∀ t ∈ l, t.ar s = true
  | [] => by simp [Tm.ars]
  | a :: l => by simp [Tm.ars, Tm.ars_iff (l := l)]
mutual
theorem Tm.ar_okv {s : List Int} : ∀ (t : Tm), t.ar s = true → t.okv = true
  | ⟨true, n, l⟩, h => h
  | ⟨false, n, l⟩, h => by
    simp only [Tm.ar, Tm.okv, Bool.and_eq_true] at h ⊢
    exact Tm.ars_okvs l h.2
theorem Tm.ars_okvs {s : List Int} : ∀ (l : List Tm), Tm.ars s l = true → Tm.okvs l = true
  | [], _ => rfl
  | a :: l, h => by
    simp only [Tm.ars, Tm.okvs, Bool.and_eq_true] at h ⊢
    exact ⟨Tm.ar_okv a h.1, Tm.ars_okvs l h.2⟩
end
mutual
theorem Tm.wf_ar {s : List Int} : ∀ (t : Tm), t.wf s = true → t.ar s = true
  | ⟨true, n, l⟩, h => by
    simp only [Tm.wf, Tm.ar, Bool.and_eq_true, decide_eq_true_eq] at h ⊢
    exact ⟨h.1, by omega⟩
  | ⟨false, n, l⟩, h => by
    simp only [Tm.wf, Tm.ar, Bool.and_eq_true] at h ⊢
    exact ⟨h.1, Tm.wfs_ars l h.2⟩
theorem Tm.wfs_ars {s : List Int} : ∀ (l : List Tm), Tm.wfs s l = true → Tm.ars s l = true
  | [], _ => rfl
  | a :: l, h => by
    simp only [Tm.wfs, Tm.ars, Bool.and_eq_true] at h ⊢
    exact ⟨Tm.wf_ar a h.1, Tm.wfs_ars l h.2⟩
end
theorem Tm.ar_wf {s : List Int} : ∀ t : Tm, t.ar s = true → (∀ v, times v t ≠ 0 → v ≤ 4) → t.wf s = true := by
  refine Tm.ind ?_
  intro b n l ih h hv
  cases b
  · simp only [Tm.wf, Tm.ar, Bool.and_eq_true] at h ⊢
    exact ⟨h.1, Tm.wfs_iff.2 fun a ha => ih a ha (Tm.ars_iff.1 h.2 a ha) fun v hv' => hv v fun h0 => hv' (times_sub ha h0)⟩
  · simp only [Tm.wf, Tm.ar, Bool.and_eq_true, decide_eq_true_eq] at h ⊢
    exact ⟨h.1, hv n (by simp [times])⟩
/-- things in the model -/
def FOk (m : Md) (e : Int → Int) : Prop := ∀ v, 0 ≤ e v ∧ e v < m.size
mutual
theorem valueF_ok {s : List Int} {m : Md} {e : Int → Int} (hm : MOk s m) (he : FOk m e) : ∀ t : Tm, t.ar s = true → 0 ≤ valueF m e t ∧ valueF m e t < m.size
  | ⟨true, n, l⟩, h => he n
  | ⟨false, n, l⟩, h => by
    simp only [Tm.ar, Bool.and_eq_true, decide_eq_true_eq] at h
    obtain ⟨⟨⟨h0, h1⟩, h2⟩, h3⟩ := h
    have hn : n.toNat < s.length := by omega
    obtain ⟨g1, g2⟩ := hm.row n.toNat s[n.toNat] (List.getElem?_eq_getElem hn)
    rw [List.getD_eq_getElem?_getD, List.getElem?_eq_getElem hn] at h2
    simp only [Option.getD_some] at h2
    have g3 := valuesF_ok hm he l h3 0 0 (by omega) (by simp)
    rw [Nat.zero_add] at g3
    have h4 : want m.size s[n.toNat] = m.size ^ l.length := by unfold want; congr 1; omega
    rw [h4] at g1
    have hlt : (valuesF m e 0 l).toNat < (m.tables.getD n.toNat []).length := by omega
    simp only [valueF]
    have : (m.tables.getD n.toNat []).getD (valuesF m e 0 l).toNat 0 = (m.tables.getD n.toNat [])[(valuesF m e 0 l).toNat] := by
      generalize m.tables.getD n.toNat [] = row at *
      rw [List.getD_eq_getElem?_getD, List.getElem?_eq_getElem hlt]; rfl
    rw [this]
    exact g2 _ (List.getElem_mem hlt)
theorem valuesF_ok {s : List Int} {m : Md} {e : Int → Int} (hm : MOk s m) (he : FOk m e) : ∀ l : List Tm, Tm.ars s l = true → ∀ (i : Int) (k : Nat), 0 ≤ i → i < m.size ^ k → 0 ≤ valuesF m e i l ∧ valuesF m e i l < m.size ^ (k + l.length)
  | [], _, i, k, h0, h1 => ⟨h0, h1⟩
  | a :: l, h, i, k, h0, h1 => by
    simp only [Tm.ars, Bool.and_eq_true] at h
    obtain ⟨g0, g1⟩ := valueF_ok hm he a h.1
    have hs := hm.one
    have e : m.size ^ (k + 1) = m.size ^ k * m.size := Int.pow_succ ..
    have h2 : (i + 1) * m.size ≤ m.size ^ k * m.size := Int.mul_le_mul_of_nonneg_right (by omega) (by omega)
    have h3 : 0 ≤ i * m.size := Int.mul_nonneg h0 (by omega)
    rw [Int.add_mul, Int.one_mul] at h2
    obtain ⟨r0, r1⟩ := valuesF_ok hm he l h.2 (i * m.size + valueF m ‹_› a) (k + 1) (by omega) (by omega)
    refine ⟨r0, ?_⟩
    simp only [valuesF, List.length_cons]
    rw [show k + (l.length + 1) = k + 1 + l.length by omega]
    exact r1
end
mutual
theorem valueF_app {m : Md} {by_ : List Pr} {e : Int → Int} : ∀ t : Tm, t.okv = true → valueF m e (app by_ t) = valueF m (fun v => valueF m e (appV by_ v)) t
  | ⟨true, n, l⟩, hk => by
    simp only [Tm.okv, Bool.and_eq_true, List.isEmpty_iff] at hk
    obtain ⟨⟨rfl, _⟩, _⟩ := hk
    simp only [valueF]; rfl
  | ⟨false, n, l⟩, hk => by
    simp only [Tm.okv] at hk
    rw [app_sym]
    simp only [valueF]
    rw [valuesF_app l hk]
theorem valuesF_app {m : Md} {by_ : List Pr} {e : Int → Int} : ∀ l : List Tm, Tm.okvs l = true → ∀ i, valuesF m e i (l.map (app by_)) = valuesF m (fun v => valueF m e (appV by_ v)) i l
  | [], _, _ => rfl
  | a :: l, hk, i => by
    simp only [Tm.okvs, Bool.and_eq_true] at hk
    simp only [List.map_cons, valuesF]
    rw [valueF_app a hk.1, valuesF_app l hk.2]
end
mutual
theorem valueF_agree {m : Md} {e e' : Int → Int} : ∀ t : Tm, (∀ v, times v t ≠ 0 → e v = e' v) → valueF m e t = valueF m e' t
  | ⟨true, n, l⟩, h => by
    simp only [valueF]
    exact h n (by simp [times])
  | ⟨false, n, l⟩, h => by
    simp only [valueF]
    rw [valuesF_agree l (fun a ha v hv => h v fun h0 => hv (times_sub ha h0)) 0]
theorem valuesF_agree {m : Md} {e e' : Int → Int} : ∀ l : List Tm, (∀ a ∈ l, ∀ v, times v a ≠ 0 → e v = e' v) → ∀ i, valuesF m e i l = valuesF m e' i l
  | [], _, _ => rfl
  | a :: l, h, i => by
    simp only [valuesF]
    rw [valueF_agree a (h a (by simp)), valuesF_agree l (fun b hb => h b (by simp [hb]))]
end
/-- holds, whatever the variables are -/
def validF (m : Md) (c : List Lt) : Prop := ∀ e, FOk m e → someF m e c = true
theorem someF_agree {m : Md} {e e' : Int → Int} {c : List Lt} (h : ∀ l ∈ c, ∀ v, (times v l.left ≠ 0 ∨ times v l.right ≠ 0) → e v = e' v) : someF m e c = someF m e' c := by
  unfold someF
  induction c with
  | nil => rfl
  | cons l c ih =>
    simp only [List.any_cons]
    rw [ih fun a ha => h a (by simp [ha])]
    congr 1
    unfold litF
    rw [valueF_agree l.left fun v hv => h l (by simp) v (.inl hv), valueF_agree l.right fun v hv => h l (by simp) v (.inr hv)]
theorem holds_iffF {s : List Int} {m : Md} {c : List Lt} (hm : MOk s m) (hc : clWf s c) : holds m c = true ↔ validF m c := by
  rw [holds_iff hm hc]
  have hone := hm.one
  constructor
  · intro h e he
    have h1 := h ((List.range 5).map fun (j : Nat) => e (j : Int)) ⟨by simp, fun x hx => by
      simp only [List.mem_map] at hx
      obtain ⟨j, _, rfl⟩ := hx
      exact he _⟩
    rw [some_F] at h1
    rw [← h1]
    refine someF_agree fun l hl v hv => ?_
    have hr : 0 ≤ v ∧ v ≤ 4 := by
      rcases hv with hv | hv
      · exact times_wf (hc l hl).1 hv
      · exact times_wf (hc l hl).2 hv
    have : v.toNat < 5 := by omega
    simp only [List.getD_eq_getElem?_getD, List.getElem?_map, List.getElem?_range this, Option.map_some, Option.getD_some]
    rw [Int.toNat_of_nonneg hr.1]
  · intro h env he
    rw [some_F]
    refine h _ fun v => ?_
    rcases Nat.lt_or_ge v.toNat 5 with h5 | h5
    · rw [List.getD_eq_getElem?_getD, List.getElem?_eq_getElem (by rw [he.len]; exact h5)]
      exact he.mem _ (List.getElem_mem _)
    · rw [List.getD_eq_getElem?_getD, List.getElem?_eq_none (by rw [he.len]; exact h5)]
      simp only [Option.getD_none]; omega
def clAr (s : List Int) (c : List Lt) : Prop := ∀ l ∈ c, l.left.ar s = true ∧ l.right.ar s = true
def clOkv (c : List Lt) : Prop := ∀ l ∈ c, l.left.okv = true ∧ l.right.okv = true
def subAr (s : List Int) (by_ : List Pr) : Prop := ∀ p ∈ by_, p.2.ar s = true
theorem clWf.ar {s : List Int} {c : List Lt} (h : clWf s c) : clAr s c := fun l hl => ⟨Tm.wf_ar _ (h l hl).1, Tm.wf_ar _ (h l hl).2⟩
theorem clAr.okv {s : List Int} {c : List Lt} (h : clAr s c) : clOkv c := fun l hl => ⟨Tm.ar_okv _ (h l hl).1, Tm.ar_okv _ (h l hl).2⟩
theorem appV_val {s : List Int} {m : Md} {by_ : List Pr} (hm : MOk s m) (hb : subAr s by_) {e : Int → Int} (he : FOk m e) : FOk m fun v => valueF m e (appV by_ v) := fun v => by
  simp only [appV]
  rw [app_var]
  cases hf : findS by_ v with
  | none => exact he v
  | some u => obtain ⟨p, hp, _, rfl⟩ := findS_mem hf; exact valueF_ok hm he _ (hb p hp)
theorem someF_by {m : Md} {by_ : List Pr} {e : Int → Int} {c : List Lt} (hc : clOkv c) : someF m e (each (app by_) c) = someF m (fun v => valueF m e (appV by_ v)) c := by
  unfold someF each
  induction c with
  | nil => rfl
  | cons l c ih =>
    simp only [List.map_cons, List.any_cons]
    rw [ih fun a ha => hc a (by simp [ha])]
    congr 1
    unfold litF
    have hl := hc l (by simp)
    simp only [valueF_app _ hl.1, valueF_app _ hl.2]
theorem validF_by {s : List Int} {m : Md} {by_ : List Pr} {c : List Lt} (hm : MOk s m) (hb : subAr s by_) (hc : clOkv c) (h : validF m c) : validF m (each (app by_) c) := fun e he => by
  rw [someF_by hc]
  exact h _ (appV_val hm hb he)
mutual
theorem app_ar {s : List Int} {by_ : List Pr} (h : subAr s by_) : ∀ t : Tm, t.ar s = true → (app by_ t).ar s = true
  | ⟨true, n, l⟩, hk => by
    rw [app_var]
    cases hf : findS by_ n with
    | none => exact hk
    | some u => obtain ⟨p, hp, _, rfl⟩ := findS_mem hf; exact h p hp
  | ⟨false, n, l⟩, hk => by
    simp only [Tm.ar, Bool.and_eq_true, decide_eq_true_eq] at hk
    rw [app_sym]
    simp only [Tm.ar, Bool.and_eq_true, decide_eq_true_eq, List.length_map]
    exact ⟨hk.1, apps_ar h l hk.2⟩
theorem apps_ar {s : List Int} {by_ : List Pr} (h : subAr s by_) : ∀ l : List Tm, Tm.ars s l = true → Tm.ars s (l.map (app by_)) = true
  | [], _ => rfl
  | a :: l, hk => by
    simp only [Tm.ars, Bool.and_eq_true] at hk
    simp only [List.map_cons, Tm.ars, app_ar h a hk.1, apps_ar h l hk.2, Bool.and_self]
end
end Go.Proofs.YtmanhdacnkpclaaDoor

/- Clauses as they are kept, plainly. -/
namespace Go.Proofs.YtmanhdacnkpclaaDoor
set_option linter.unusedVariables false
set_option linter.unusedSimpArgs false

/-- the upper one of two terms left -/
def orient1 (l : Lt) : Lt := if above l.right l.left then ⟨l.neg, l.right, l.left⟩ else l
/-- none: it always holds -/
def orients : List Lt → Option (List Lt)
  | [] => some []
  | l :: c => if l.left.same l.right then (if l.neg then orients c else none) else match orients c with
    | some o => some (orient1 l :: o)
    | none => none
/-- variables numbered as they are come to -/
def numbF : Nat → List Int → List Pr
  | _, [] => []
  | i, v :: vs => (v, ⟨true, (i : Int), []⟩) :: numbF (i + 1) vs
def numb (vs : List Int) : List Pr := numbF 0 vs
def like (a b : Lt) : Bool := (a.left.same b.left && a.right.same b.right) || (a.left.same b.right && a.right.same b.left)
def hasS (once : List Lt) (l : Lt) : Bool := once.any fun y => like l y && (y.neg == l.neg)
def hasN (once : List Lt) (l : Lt) : Bool := once.any fun y => like l y && (y.neg != l.neg)
def dedup : List Lt → List Lt → Option (List Lt)
  | once, [] => some once
  | once, l :: c => if hasS once l then dedup once c else if hasN once l then none else dedup (once ++ [l]) c
def bigCl (d : List Lt) : Bool := d.any fun l => decide (12 < l.left.size ∨ 12 < l.right.size)
def norm (c : List Lt) : List Lt × Int := match orients c with
  | none => ([], 6)
  | some o => match dedup [] (each (app (numb (clVars [] o))) o) with
    | none => ([], 6)
    | some d => if 4 < d.length ∨ 5 < (clVars [] o).length ∨ bigCl d = true then ([], 4) else (d, 0)

/- orients -/
theorem litF_neg {m : Md} {e : Int → Int} {l : Lt} (h : l.left.same l.right = true) : litF m e l = !l.neg := by
  have := (Tm.same_iff _ _).1 h
  unfold litF
  rw [this]; cases l.neg <;> simp
theorem litF_orient (m : Md) (e : Int → Int) (l : Lt) : litF m e (orient1 l) = litF m e l := by
  unfold orient1
  split
  · unfold litF
    simp only
    rw [Bool.eq_iff_iff]
    cases l.neg
    · simp only [bne_iff_ne, ne_eq, beq_iff_eq, Bool.not_eq_false]
      exact eq_comm
    · simp only [bne_iff_ne, ne_eq, beq_iff_eq]
      exact not_congr eq_comm
  · rfl
theorem orients_some : ∀ {c o : List Lt}, orients c = some o → ∀ m e, someF m e o = someF m e c
  | [], o, h, m, e => by simp only [orients] at h; injection h with h; subst h; rfl
  | l :: c, o, h, m, e => by
    simp only [orients] at h
    split at h
    · rename_i hs
      split at h
      · rename_i hn
        have := orients_some h m e
        rw [this]
        show someF m e c = (litF m e l || someF m e c)
        rw [litF_neg hs, hn]; rfl
      · cases h
    · split at h
      · rename_i o' ho
        injection h with h; subst h
        have := orients_some ho m e
        show (litF m e (orient1 l) || someF m e o') = (litF m e l || someF m e c)
        rw [this, litF_orient]
      · cases h
theorem orients_none : ∀ {c : List Lt}, orients c = none → ∀ m e, someF m e c = true
  | [], h, m, e => by simp [orients] at h
  | l :: c, h, m, e => by
    show (litF m e l || someF m e c) = true
    simp only [orients] at h
    split at h
    · rename_i hs
      split at h
      · rw [orients_none h m e, Bool.or_true]
      · rename_i hn
        rw [litF_neg hs]; simp only [Bool.not_eq_true] at hn; rw [hn]; rfl
    · split at h
      · cases h
      · rename_i ho
        rw [orients_none ho m e, Bool.or_true]
/-- as literals stand -/
def Ori (l : Lt) : Prop := l.left ≠ l.right ∧ above l.right l.left = false
theorem orient1_ori {l : Lt} (hk : l.left.okv = true ∧ l.right.okv = true) (h : l.left.same l.right = false) : Ori (orient1 l) := by
  have hne : l.left ≠ l.right := fun e => by rw [(Tm.same_iff _ _).2 e] at h; cases h
  unfold orient1
  split
  · rename_i ha
    exact ⟨Ne.symm hne, above_asymm hk.2 hk.1 ha⟩
  · rename_i ha
    exact ⟨hne, by simpa using ha⟩
theorem orients_mem : ∀ {c o : List Lt}, orients c = some o → ∀ l ∈ o, ∃ k ∈ c, k.left.same k.right = false ∧ l = orient1 k
  | [], o, h, l, hl => by simp only [orients] at h; injection h with h; subst h; cases hl
  | k :: c, o, h, l, hl => by
    simp only [orients] at h
    split at h
    · split at h
      · obtain ⟨j, hj, h2⟩ := orients_mem h l hl; exact ⟨j, by simp [hj], h2⟩
      · cases h
    · rename_i hs
      split at h
      · rename_i o' ho
        injection h with h; subst h
        rcases List.mem_cons.1 hl with rfl | hl
        · exact ⟨k, by simp, by simpa using hs, rfl⟩
        · obtain ⟨j, hj, h2⟩ := orients_mem ho l hl; exact ⟨j, by simp [hj], h2⟩
      · cases h
theorem orients_len : ∀ {c o : List Lt}, orients c = some o → o.length ≤ c.length
  | [], o, h => by simp only [orients] at h; injection h with h; subst h; simp
  | k :: c, o, h => by
    simp only [orients] at h
    split at h
    · split at h
      · have := orients_len h; simp; omega
      · cases h
    · split at h
      · rename_i o' ho
        injection h with h; subst h
        have := orients_len ho; simp; omega
      · cases h
theorem orient1_two (l : Lt) : (orient1 l).left = l.left ∧ (orient1 l).right = l.right ∨ (orient1 l).left = l.right ∧ (orient1 l).right = l.left := by
  unfold orient1; split <;> simp
theorem orients_id : ∀ {d : List Lt}, (∀ l ∈ d, Ori l) → orients d = some d
  | [], _ => rfl
  | l :: d, h => by
    obtain ⟨h1, h2⟩ := h l (by simp)
    simp only [orients]
    rw [same_false h1, orients_id fun k hk => h k (by simp [hk])]
    simp [orient1, h2]

/- dedup -/
theorem like_iff {a b : Lt} : like a b = true ↔ (a.left = b.left ∧ a.right = b.right) ∨ (a.left = b.right ∧ a.right = b.left) := by
  simp [like, Tm.same_iff]
theorem litF_like {m : Md} {e : Int → Int} {a b : Lt} (h : like a b = true) : litF m e a = if a.neg = b.neg then litF m e b else !litF m e b := by
  have h1 : (valueF m e a.left == valueF m e a.right) = (valueF m e b.left == valueF m e b.right) := by
    rcases like_iff.1 h with ⟨h1, h2⟩ | ⟨h1, h2⟩
    · rw [h1, h2]
    · rw [h1, h2, Bool.eq_iff_iff]; simp only [beq_iff_eq]; exact eq_comm
  unfold litF
  rw [h1]
  cases a.neg <;> cases b.neg <;> cases (valueF m e b.left == valueF m e b.right) <;> rfl
theorem dedup_some : ∀ {c once d : List Lt}, dedup once c = some d → ∀ m e, someF m e d = (someF m e once || someF m e c)
  | [], once, d, h, m, e => by simp only [dedup] at h; injection h with h; subst h; simp [someF]
  | l :: c, once, d, h, m, e => by
    simp only [dedup] at h
    show _ = (someF m e once || (litF m e l || someF m e c))
    split at h
    · rename_i hs
      rw [dedup_some h m e]
      simp only [hasS, List.any_eq_true, Bool.and_eq_true, beq_iff_eq] at hs
      obtain ⟨y, hy, hly, hn⟩ := hs
      have h1 : litF m e l = litF m e y := by rw [litF_like hly, if_pos hn.symm]
      cases hl : litF m e l
      · simp
      · have : someF m e once = true := List.any_eq_true.2 ⟨y, hy, by rw [← h1, hl]⟩
        simp [this]
    · split at h
      · cases h
      · rw [dedup_some h m e]
        simp only [someF, List.any_append, List.any_cons, List.any_nil, Bool.or_false, Bool.or_assoc]
theorem dedup_none : ∀ {c once : List Lt}, dedup once c = none → ∀ m e, (someF m e once || someF m e c) = true
  | [], once, h, m, e => by simp [dedup] at h
  | l :: c, once, h, m, e => by
    simp only [dedup] at h
    show (someF m e once || (litF m e l || someF m e c)) = true
    split at h
    · have := dedup_none h m e
      simp only [Bool.or_eq_true] at this ⊢
      rcases this with h | h
      · exact .inl h
      · exact .inr (.inr h)
    · split at h
      · rename_i hn
        simp only [hasN, List.any_eq_true, Bool.and_eq_true, bne_iff_ne, ne_eq] at hn
        obtain ⟨y, hy, hly, hn⟩ := hn
        have h1 := litF_like (m := m) (e := e) hly
        rw [if_neg (fun h => hn h.symm)] at h1
        cases hl : litF m e y
        · rw [h1, hl]; simp
        · have : someF m e once = true := List.any_eq_true.2 ⟨y, hy, hl⟩
          simp [this]
      · have := dedup_none h m e
        simp only [someF, List.any_append, List.any_cons, List.any_nil, Bool.or_false, Bool.or_assoc] at this
        exact this
theorem dedup_mem : ∀ {c once d : List Lt}, dedup once c = some d → ∀ l ∈ d, l ∈ once ∨ l ∈ c
  | [], once, d, h, l, hl => by simp only [dedup] at h; injection h with h; subst h; exact .inl hl
  | k :: c, once, d, h, l, hl => by
    simp only [dedup] at h
    split at h
    · rcases dedup_mem h l hl with h | h
      · exact .inl h
      · exact .inr (by simp [h])
    · split at h
      · cases h
      · rcases dedup_mem h l hl with h | h
        · rcases List.mem_append.1 h with h | h
          · exact .inl h
          · simp only [List.mem_singleton] at h; subst h; exact .inr (by simp)
        · exact .inr (by simp [h])
theorem dedup_len : ∀ {c once d : List Lt}, dedup once c = some d → d.length ≤ once.length + c.length
  | [], once, d, h => by simp only [dedup] at h; injection h with h; subst h; simp
  | k :: c, once, d, h => by
    simp only [dedup] at h
    split at h
    · have := dedup_len h; simp; omega
    · split at h
      · cases h
      · have := dedup_len h; simp at this ⊢; omega
/-- no two alike -/
def Lone (d : List Lt) : Prop := d.Pairwise fun a b => like b a = false
theorem dedup_lone : ∀ {c once d : List Lt}, Lone once → dedup once c = some d → Lone d
  | [], once, d, hl, h => by simp only [dedup] at h; injection h with h; subst h; exact hl
  | k :: c, once, d, hl, h => by
    simp only [dedup] at h
    split at h
    · exact dedup_lone hl h
    · rename_i h1
      split at h
      · cases h
      · rename_i h2
        refine dedup_lone ?_ h
        refine List.pairwise_append.2 ⟨hl, by simp, fun a ha b hb => ?_⟩
        simp only [List.mem_singleton] at hb
        subst hb
        cases hk : like b a
        · rfl
        · cases hn : (a.neg == b.neg)
          · exact absurd (List.any_eq_true.2 ⟨a, ha, by simp only [hk, Bool.true_and, bne, hn]; rfl⟩) h2
          · exact absurd (List.any_eq_true.2 ⟨a, ha, by simp only [hk, hn, Bool.and_self]⟩) h1
theorem dedup_id : ∀ {c once : List Lt}, Lone (once ++ c) → dedup once c = some (once ++ c)
  | [], once, _ => by simp [dedup]
  | k :: c, once, h => by
    have hk : ∀ y ∈ once, like k y = false := fun y hy => (List.pairwise_append.1 h).2.2 y hy k (by simp)
    have h1 : hasS once k = false := by
      unfold hasS; rw [List.any_eq_false]; intro y hy; rw [hk y hy]; simp
    have h2 : hasN once k = false := by
      unfold hasN; rw [List.any_eq_false]; intro y hy; rw [hk y hy]; simp
    simp only [dedup, h1, h2, Bool.false_eq_true, if_false]
    rw [dedup_id (by rw [List.append_assoc]; exact h), List.append_assoc]; rfl

/- variables of clauses -/
mutual
theorem vars_had : ∀ (t : Tm) (l : List Int), t.okv = true → (∀ v, times v t ≠ 0 → v ∈ l) → vars l t = l
  | ⟨true, n, r⟩, l, _, h => by
    simp only [vars]
    rw [if_pos (h n (by simp [times]))]
  | ⟨false, n, r⟩, l, hk, h => by
    simp only [Tm.okv] at hk
    simp only [vars]
    exact varss_had r l hk fun v hv => h v (by simpa [times] using hv)
theorem varss_had : ∀ (r : List Tm) (l : List Int), Tm.okvs r = true → (∀ v, timess v r ≠ 0 → v ∈ l) → varss l r = l
  | [], _, _, _ => rfl
  | a :: r, l, hk, h => by
    simp only [Tm.okvs, Bool.and_eq_true] at hk
    simp only [varss]
    rw [vars_had a l hk.1 fun v hv => h v (by simp only [timess]; omega)]
    exact varss_had r l hk.2 fun v hv => h v (by simp only [timess]; omega)
end
theorem clVars_append : ∀ (c d : List Lt) (acc : List Int), clVars acc (c ++ d) = clVars (clVars acc c) d
  | [], _, _ => rfl
  | l :: c, d, acc => by simp only [List.cons_append, clVars]; exact clVars_append c d _
theorem clVars_nodup : ∀ (c : List Lt) (acc : List Int), acc.Nodup → (clVars acc c).Nodup
  | [], _, h => h
  | _ :: c, _, h => clVars_nodup c _ (vars_nodup _ _ (vars_nodup _ _ h))
theorem clVars_dedup : ∀ {c once d : List Lt}, clOkv once → clOkv c → dedup once c = some d → clVars [] d = clVars [] (once ++ c)
  | [], once, d, _, _, h => by simp only [dedup] at h; injection h with h; subst h; simp
  | l :: c, once, d, ho, hc, h => by
    have hl := hc l (by simp)
    have hc' : clOkv c := fun k hk => hc k (by simp [hk])
    simp only [dedup] at h
    split at h
    · rename_i hs
      rw [clVars_dedup ho hc' h, clVars_append, clVars_append]
      simp only [clVars]
      simp only [hasS, List.any_eq_true, Bool.and_eq_true] at hs
      obtain ⟨y, hy, hly, _⟩ := hs
      have hin : ∀ v, (times v y.left ≠ 0 ∨ times v y.right ≠ 0) → v ∈ clVars [] once := fun v hv => mem_clVars once [] ho y hy hv
      have h1 : ∀ v, times v l.left ≠ 0 → v ∈ clVars [] once := fun v hv => by
        rcases like_iff.1 hly with ⟨e1, e2⟩ | ⟨e1, e2⟩
        · exact hin v (.inl (e1 ▸ hv))
        · exact hin v (.inr (e1 ▸ hv))
      have h2 : ∀ v, times v l.right ≠ 0 → v ∈ clVars [] once := fun v hv => by
        rcases like_iff.1 hly with ⟨e1, e2⟩ | ⟨e1, e2⟩
        · exact hin v (.inr (e2 ▸ hv))
        · exact hin v (.inl (e2 ▸ hv))
      rw [vars_had _ _ hl.1 h1, vars_had _ _ hl.2 h2]
    · split at h
      · cases h
      · rw [clVars_dedup (fun k hk => by
          rcases List.mem_append.1 hk with hk | hk
          · exact ho k hk
          · simp only [List.mem_singleton] at hk; subst hk; exact hl) hc' h]
        rw [List.append_assoc]; rfl

/- numbering -/
theorem numbF_find : ∀ (vs : List Int) (i : Nat) (v : Int), findS (numbF i vs) v = (vs.idxOf? v).map fun k => ⟨true, ((i + k : Nat) : Int), []⟩
  | [], i, v => rfl
  | a :: vs, i, v => by
    simp only [numbF, findS, List.idxOf?_cons]
    rcases Decidable.em (a = v) with rfl | h
    · simp
    · have : (a == v) = false := by simpa using h
      rw [if_neg h, this]
      rw [numbF_find vs (i + 1) v]
      cases List.idxOf? v vs with
      | none => rfl
      | some k => simp; omega
theorem idxOf_get : ∀ {vs : List Int} {v : Int} {k : Nat}, vs.idxOf? v = some k → vs[k]? = some v
  | [], _, _, h => by simp at h
  | a :: vs, v, k, h => by
    rw [List.idxOf?_cons] at h
    split at h
    · rename_i e; injection h with h; subst h; simp at e; simp [e]
    · cases hh : vs.idxOf? v with
      | none => rw [hh] at h; cases h
      | some j =>
        rw [hh] at h
        simp at h
        subst h
        simpa using idxOf_get hh
theorem idxOf_mem {vs : List Int} {v : Int} (h : v ∈ vs) : ∃ k, vs.idxOf? v = some k := by
  cases hh : vs.idxOf? v with
  | none => rw [List.idxOf?_eq_none_iff] at hh; exact absurd h hh
  | some k => exact ⟨k, rfl⟩
theorem numb_at {vs : List Int} {v : Int} (h : v ∈ vs) : ∃ k : Nat, vs[k]? = some v ∧ k < vs.length ∧ appV (numb vs) v = ⟨true, (k : Int), []⟩ := by
  obtain ⟨k, hk⟩ := idxOf_mem h
  have h1 := idxOf_get hk
  refine ⟨k, h1, (List.getElem?_eq_some_iff.1 h1).1, ?_⟩
  unfold appV numb
  rw [app_var, numbF_find, hk]
  simp
/-- the numbers' variables -/
def back (vs : List Int) : List Pr := (List.range vs.length).map fun (k : Nat) => ((k : Int), ⟨true, vs.getD k 0, []⟩)
theorem findS_fn {f : Nat → Tm} : ∀ (l : List Nat) (k : Nat), k ∈ l → findS (l.map fun (k : Nat) => ((k : Int), f k)) (k : Int) = some (f k)
  | [], _, h => by cases h
  | a :: l, k, h => by
    simp only [List.map_cons, findS]
    rcases Decidable.em (a = k) with rfl | hne
    · simp
    · rw [if_neg (by omega)]
      exact findS_fn l k (by simpa [Ne.symm hne] using h)
theorem back_at {vs : List Int} {k : Nat} {v : Int} (h : vs[k]? = some v) : appV (back vs) (k : Int) = ⟨true, v, []⟩ := by
  have hk := (List.getElem?_eq_some_iff.1 h).1
  unfold appV back
  rw [app_var, findS_fn (f := fun k => ⟨true, vs.getD k 0, []⟩) _ k (by simpa using hk)]
  simp [List.getD, h]
/-- variables turned, and back -/
theorem back_numb {vs : List Int} : ∀ t : Tm, t.okv = true → (∀ v, times v t ≠ 0 → v ∈ vs) → app (back vs) (app (numb vs) t) = t := by
  refine Tm.ind ?_
  intro b n l ih hk h
  cases b
  · simp only [Tm.okv] at hk
    rw [app_sym, app_sym, List.map_map]
    congr 1
    have : ∀ a ∈ l, (app (back vs) ∘ app (numb vs)) a = id a := fun a ha => ih a ha ((Tm.okvs_iff l).1 hk a ha) fun v hv => h v fun h0 => hv (times_sub ha h0)
    rw [List.map_congr_left this]; simp
  · simp only [Tm.okv, Bool.and_eq_true, List.isEmpty_iff] at hk
    obtain ⟨⟨rfl, _⟩, _⟩ := hk
    obtain ⟨k, h1, h2, h3⟩ := numb_at (h n (by simp [times]))
    show app (back vs) (appV (numb vs) n) = _
    rw [h3]
    exact back_at h1
theorem numb_ar (s : List Int) {vs : List Int} (hv : vs.length ≤ 1000000) : subAr s (numb vs) := by
  have : ∀ (vs : List Int) (i : Nat), i + vs.length ≤ 1000000 → subAr s (numbF i vs) := by
    intro vs
    induction vs with
    | nil => intro i _ p hp; cases hp
    | cons a vs ih =>
      intro i hi p hp
      simp only [List.length_cons] at hi
      simp only [numbF, List.mem_cons] at hp
      rcases hp with rfl | hp
      · simp [Tm.ar]; omega
      · exact ih (i + 1) (by omega) p hp
  exact this vs 0 (by omega)
theorem numb_okv {vs : List Int} (hv : vs.length ≤ 1000000) : ∀ p ∈ numb vs, p.2.okv = true := fun p hp => Tm.ar_okv _ (numb_ar [] hv p hp)
theorem back_ar (s : List Int) {vs : List Int} (hv : ∀ v ∈ vs, 0 ≤ v ∧ v ≤ 1000000) : subAr s (back vs) := fun p hp => by
  simp only [back, List.mem_map, List.mem_range] at hp
  obtain ⟨k, hk, rfl⟩ := hp
  have h1 : vs.getD k 0 = vs[k] := by simp [List.getD, List.getElem?_eq_getElem hk]
  have := hv vs[k] (List.getElem_mem hk)
  simp only [Tm.ar, h1]
  simp; omega
theorem back_okv {vs : List Int} (hv : ∀ v ∈ vs, 0 ≤ v ∧ v ≤ 1000000) : ∀ p ∈ back vs, p.2.okv = true := fun p hp => Tm.ar_okv _ (back_ar [] hv p hp)
theorem size_numb {vs : List Int} : ∀ t : Tm, t.okv = true → (∀ v, times v t ≠ 0 → v ∈ vs) → (app (numb vs) t).size = t.size := by
  refine Tm.ind ?_
  intro b n l ih hk h
  cases b
  · simp only [Tm.okv] at hk
    rw [app_sym]
    simp only [Tm.size]
    congr 1
    have key : ∀ l : List Tm, (∀ a ∈ l, (app (numb vs) a).size = a.size) → Tm.sizes (l.map (app (numb vs))) = Tm.sizes l := by
      intro l
      induction l with
      | nil => intro _; rfl
      | cons a l ih => intro h; simp only [List.map_cons, Tm.sizes, h a (by simp), ih fun b hb => h b (by simp [hb])]
    exact key l fun a ha => ih a ha ((Tm.okvs_iff l).1 hk a ha) fun v hv => h v fun h0 => hv (times_sub ha h0)
  · simp only [Tm.okv, Bool.and_eq_true, List.isEmpty_iff] at hk
    obtain ⟨⟨rfl, _⟩, _⟩ := hk
    obtain ⟨k, h1, h2, h3⟩ := numb_at (h n (by simp [times]))
    show (appV (numb vs) n).size = _
    rw [h3]; rfl
theorem nodup_le : ∀ (n : Nat) (L : List Int), L.Nodup → (∀ x ∈ L, 0 ≤ x ∧ x < n) → L.length ≤ n
  | 0, L, _, h => by
    cases L with
    | nil => simp
    | cons a L => have := h a (by simp); omega
  | n + 1, L, hd, h => by
    rcases Classical.em ((n : Int) ∈ L) with hm | hm
    · have h1 := nodup_le n (L.erase (n : Int)) (hd.erase _) fun x hx => by
        rw [hd.mem_erase_iff] at hx
        have := h x hx.2
        have := hx.1
        omega
      rw [List.length_erase_of_mem hm] at h1
      omega
    · have h1 := nodup_le n L hd fun x hx => by
        have := h x hx
        have : x ≠ (n : Int) := fun e => hm (e ▸ hx)
        omega
      omega
end Go.Proofs.YtmanhdacnkpclaaDoor

/- Clauses as they are kept, plainly: what is kept tells the same, and is kept as it is. -/
namespace Go.Proofs.YtmanhdacnkpclaaDoor
set_option linter.unusedVariables false
set_option linter.unusedSimpArgs false

def clFew (c : List Lt) : Prop := ∀ l ∈ c, few l.left ∧ few l.right
theorem orients_okv {c o : List Lt} (h : orients c = some o) (hc : clOkv c) : clOkv o := fun l hl => by
  obtain ⟨k, hk, _, rfl⟩ := orients_mem h l hl
  rcases orient1_two k with ⟨h1, h2⟩ | ⟨h1, h2⟩ <;> rw [h1, h2]
  · exact hc k hk
  · exact (hc k hk).symm
theorem orients_few {c o : List Lt} (h : orients c = some o) (hc : clFew c) : clFew o := fun l hl => by
  obtain ⟨k, hk, _, rfl⟩ := orients_mem h l hl
  rcases orient1_two k with ⟨h1, h2⟩ | ⟨h1, h2⟩ <;> rw [h1, h2]
  · exact hc k hk
  · exact (hc k hk).symm
theorem orients_ar {s : List Int} {c o : List Lt} (h : orients c = some o) (hc : clAr s c) : clAr s o := fun l hl => by
  obtain ⟨k, hk, _, rfl⟩ := orients_mem h l hl
  rcases orient1_two k with ⟨h1, h2⟩ | ⟨h1, h2⟩ <;> rw [h1, h2]
  · exact hc k hk
  · exact (hc k hk).symm
theorem orients_ori {c o : List Lt} (h : orients c = some o) (hc : clOkv c) : ∀ l ∈ o, Ori l := fun l hl => by
  obtain ⟨k, hk, h1, rfl⟩ := orients_mem h l hl
  exact orient1_ori (hc k hk) h1
theorem clVars_few {c : List Lt} (h : clFew c) : ∀ v ∈ clVars [] c, 0 ≤ v ∧ v ≤ 9 := fun v hv => by
  rcases clVars_sub c [] hv with hv | ⟨l, hl, hv | hv⟩
  · cases hv
  · exact (h l hl).1 v hv
  · exact (h l hl).2 v hv
theorem clVars_ten {c : List Lt} (h : clFew c) : (clVars [] c).length ≤ 10 := nodup_le 10 _ (clVars_nodup c [] List.nodup_nil) fun x hx => by
  have := clVars_few h x hx; omega
theorem each_each {f g : Tm → Tm} {c : List Lt} : each f (each g c) = each (fun t => f (g t)) c := by simp [each, List.map_map, Function.comp_def]
theorem each_id {f : Tm → Tm} {c : List Lt} (h : ∀ l ∈ c, f l.left = l.left ∧ f l.right = l.right) : each f c = c := by
  unfold each
  have : ∀ l ∈ c, (fun l : Lt => (⟨l.neg, f l.left, f l.right⟩ : Lt)) l = id l := fun l hl => by
    obtain ⟨h1, h2⟩ := h l hl
    simp only [h1, h2, id]
  rw [List.map_congr_left this]; simp
theorem back_each {c : List Lt} (hk : clOkv c) : each (app (back (clVars [] c))) (each (app (numb (clVars [] c))) c) = c := by
  rw [each_each]
  exact each_id fun l hl => ⟨back_numb _ (hk l hl).1 fun v hv => mem_clVars c [] hk l hl (.inl hv), back_numb _ (hk l hl).2 fun v hv => mem_clVars c [] hk l hl (.inr hv)⟩
theorem each_okv {by_ : List Pr} (h : ∀ p ∈ by_, p.2.okv = true) {c : List Lt} (hc : clOkv c) : clOkv (each (app by_) c) := fun l hl => by
  simp only [each, List.mem_map] at hl
  obtain ⟨k, hk, rfl⟩ := hl
  exact ⟨app_okv h _ (hc k hk).1, app_okv h _ (hc k hk).2⟩
theorem valid_numb {s : List Int} {m : Md} {o : List Lt} (hm : MOk s m) (hk : clOkv o) (hf : clFew o) : validF m (each (app (numb (clVars [] o))) o) ↔ validF m o := by
  have h10 := clVars_ten hf
  constructor
  · intro h
    have h1 := validF_by (by_ := back (clVars [] o)) hm (back_ar s fun v hv => by have := clVars_few hf v hv; omega) (each_okv (numb_okv (by omega)) hk) h
    rwa [back_each hk] at h1
  · exact validF_by hm (numb_ar s (by omega)) hk

/-- numbers of variables -/
def ix (vs : List Int) (v : Int) : Int := (((vs.idxOf? v).getD 0 : Nat) : Int)
theorem ix_numb {vs : List Int} {v : Int} (h : v ∈ vs) : appV (numb vs) v = ⟨true, ix vs v, []⟩ := by
  obtain ⟨k, hk⟩ := idxOf_mem h
  unfold appV numb ix
  rw [app_var, numbF_find, hk]
  simp
theorem ix_inj {vs : List Int} {v w : Int} (hv : v ∈ vs) (hw : w ∈ vs) (h : ix vs v = ix vs w) : v = w := by
  obtain ⟨k, hk⟩ := idxOf_mem hv
  obtain ⟨j, hj⟩ := idxOf_mem hw
  unfold ix at h
  rw [hk, hj] at h
  simp only [Option.getD_some] at h
  have : k = j := by omega
  subst this
  have h1 := idxOf_get hk
  rw [idxOf_get hj] at h1
  injection h1 with h1; exact h1.symm
mutual
theorem vars_ix {vs : List Int} : ∀ (t : Tm) (acc : List Int), t.okv = true → (∀ v, times v t ≠ 0 → v ∈ vs) → (∀ v ∈ acc, v ∈ vs) → vars (acc.map (ix vs)) (app (numb vs) t) = (vars acc t).map (ix vs)
  | ⟨true, n, l⟩, acc, hk, ht, ha => by
    simp only [Tm.okv, Bool.and_eq_true, List.isEmpty_iff] at hk
    obtain ⟨⟨rfl, _⟩, _⟩ := hk
    have hn := ht n (by simp [times])
    show vars _ (appV (numb vs) n) = _
    rw [ix_numb hn]
    simp only [vars]
    have : (ix vs n ∈ acc.map (ix vs)) ↔ n ∈ acc := by
      constructor
      · intro h
        obtain ⟨w, hw, e⟩ := List.mem_map.1 h
        rw [← ix_inj (ha w hw) hn e]; exact hw
      · exact fun h => List.mem_map.2 ⟨n, h, rfl⟩
    rcases Classical.em (n ∈ acc) with h | h
    · rw [if_pos (this.2 h), if_pos h]
    · rw [if_neg (fun h' => h (this.1 h')), if_neg h]; simp
  | ⟨false, n, l⟩, acc, hk, ht, ha => by
    simp only [Tm.okv] at hk
    rw [app_sym]
    simp only [vars]
    exact varss_ix l acc hk (fun v hv => ht v (by simpa [times] using hv)) ha
theorem varss_ix {vs : List Int} : ∀ (l : List Tm) (acc : List Int), Tm.okvs l = true → (∀ v, timess v l ≠ 0 → v ∈ vs) → (∀ v ∈ acc, v ∈ vs) → varss (acc.map (ix vs)) (l.map (app (numb vs))) = (varss acc l).map (ix vs)
  | [], _, _, _, _ => rfl
  | a :: l, acc, hk, ht, ha => by
    simp only [Tm.okvs, Bool.and_eq_true] at hk
    simp only [List.map_cons, varss]
    rw [vars_ix a acc hk.1 (fun v hv => ht v (by simp only [timess]; omega)) ha]
    refine varss_ix l _ hk.2 (fun v hv => ht v (by simp only [timess]; omega)) fun v hv => ?_
    rcases vars_sub v a acc hv with h | h
    · exact ha v h
    · exact ht v (by simp only [timess]; omega)
end
theorem clVars_ix {vs : List Int} : ∀ (c : List Lt) (acc : List Int), clOkv c → (∀ l ∈ c, ∀ v, (times v l.left ≠ 0 ∨ times v l.right ≠ 0) → v ∈ vs) → (∀ v ∈ acc, v ∈ vs) → clVars (acc.map (ix vs)) (each (app (numb vs)) c) = (clVars acc c).map (ix vs)
  | [], _, _, _, _ => rfl
  | l :: c, acc, hk, ht, ha => by
    have hl := hk l (by simp)
    have h1 : ∀ v ∈ vars acc l.left, v ∈ vs := fun v hv => by
      rcases vars_sub v _ acc hv with h | h
      · exact ha v h
      · exact ht l (by simp) v (.inl h)
    have h2 : ∀ v ∈ vars (vars acc l.left) l.right, v ∈ vs := fun v hv => by
      rcases vars_sub v _ _ hv with h | h
      · exact h1 v h
      · exact ht l (by simp) v (.inr h)
    show clVars (vars (vars (acc.map (ix vs)) (app (numb vs) l.left)) (app (numb vs) l.right)) (each (app (numb vs)) c) = _
    rw [vars_ix l.left acc hl.1 (fun v hv => ht l (by simp) v (.inl hv)) ha, vars_ix l.right _ hl.2 (fun v hv => ht l (by simp) v (.inr hv)) h1]
    exact clVars_ix c _ (fun k hk' => hk k (by simp [hk'])) (fun k hk' => ht k (by simp [hk'])) h2
theorem nodup_get {L : List Int} (hd : L.Nodup) {i j : Nat} {hi : i < L.length} {hj : j < L.length} (h : L[i] = L[j]) : i = j := by
  have hp := List.pairwise_iff_getElem.1 hd
  rcases Nat.lt_trichotomy i j with h1 | h1 | h1
  · exact absurd h (hp i j hi hj h1)
  · exact h1
  · exact absurd h.symm (hp j i hj hi h1)
theorem ix_self {vs : List Int} (hd : vs.Nodup) {k : Nat} (hk : k < vs.length) : ix vs vs[k] = (k : Int) := by
  obtain ⟨j, hj⟩ := idxOf_mem (List.getElem_mem hk)
  have h1 := idxOf_get hj
  obtain ⟨hjl, h2⟩ := List.getElem?_eq_some_iff.1 h1
  have : j = k := nodup_get hd h2
  unfold ix
  rw [hj]; simp [this]
def count (n : Nat) : List Int := (List.range n).map fun (k : Nat) => (k : Int)
theorem ix_all {vs : List Int} (hd : vs.Nodup) : vs.map (ix vs) = count vs.length := by
  apply List.ext_getElem
  · simp [count]
  · intro i h1 h2
    simp only [count, List.getElem_map, List.getElem_range]
    rw [List.length_map] at h1
    exact ix_self hd h1
theorem count_mem {n : Nat} {v : Int} : v ∈ count n ↔ 0 ≤ v ∧ v < n := by
  simp only [count, List.mem_map, List.mem_range]
  constructor
  · rintro ⟨k, hk, rfl⟩; omega
  · rintro ⟨h0, h1⟩; exact ⟨v.toNat, by omega, by omega⟩
theorem count_nodup (n : Nat) : (count n).Nodup := by
  refine List.pairwise_iff_getElem.2 fun i j hi hj hij => ?_
  simp only [count, List.getElem_map, List.getElem_range]
  omega
theorem numb_count {n : Nat} {v : Int} (h : v ∈ count n) : appV (numb (count n)) v = ⟨true, v, []⟩ := by
  rw [ix_numb h]
  obtain ⟨h0, h1⟩ := count_mem.1 h
  have hk : v.toNat < (count n).length := by simp [count]; omega
  have := ix_self (count_nodup n) hk
  have e : (count n)[v.toNat] = v := by simp [count]; omega
  rw [e] at this
  rw [this]
  congr 1
  omega
theorem app_count {n : Nat} : ∀ t : Tm, t.okv = true → (∀ v, times v t ≠ 0 → v ∈ count n) → app (numb (count n)) t = t := by
  refine Tm.ind ?_
  intro b k l ih hk h
  cases b
  · simp only [Tm.okv] at hk
    rw [app_sym]
    congr 1
    have : ∀ a ∈ l, app (numb (count n)) a = id a := fun a ha => ih a ha ((Tm.okvs_iff l).1 hk a ha) fun v hv => h v fun h0 => hv (times_sub ha h0)
    rw [List.map_congr_left this]; simp
  · simp only [Tm.okv, Bool.and_eq_true, List.isEmpty_iff] at hk
    obtain ⟨⟨rfl, _⟩, _⟩ := hk
    exact numb_count (h k (by simp [times]))
theorem bigCl_no {d : List Lt} (h : bigCl d = false) : ∀ l ∈ d, l.left.size ≤ 12 ∧ l.right.size ≤ 12 := fun l hl => by
  have := List.any_eq_false.1 h l hl
  simp only [decide_eq_true_eq] at this
  omega
theorem numb_var {vs : List Int} {t : Tm} (hk : t.okv = true) (ht : ∀ v, times v t ≠ 0 → v ∈ vs) {w : Int} (hw : times w (app (numb vs) t) ≠ 0) : 0 ≤ w ∧ w < vs.length := by
  rcases Classical.em (0 ≤ w ∧ w < vs.length) with h | h
  · exact h
  · refine absurd (times_app_zero t hk fun n hn => ?_) hw
    obtain ⟨k, h1, h2, h3⟩ := numb_at (ht n hn)
    rw [h3]
    have : (k : Int) ≠ w := fun e => h (by omega)
    simp [times, timess, this]

structure NormOk (c d : List Lt) : Prop where
  len : d.length ≤ 4
  size : ∀ l ∈ d, l.left.size ≤ 12 ∧ l.right.size ≤ 12
  again : norm d = (d, 0)
  wf : ∀ s, clAr s c → clWf s d
  valid : ∀ s m, MOk s m → (validF m c ↔ validF m d)
theorem norm_ok {c d : List Lt} (hk : clOkv c) (hf : clFew c) (h : norm c = (d, 0)) : NormOk c d := by
  unfold norm at h
  split at h
  · cases h
  · rename_i o ho
    split at h
    · cases h
    · rename_i d' hd
      split at h
      · cases h
      · rename_i hb
        injection h with h _
        subst h
        simp only [not_or, Bool.not_eq_true] at hb
        obtain ⟨hb1, hb2, hb3⟩ := hb
        have ko := orients_okv ho hk
        have fo := orients_few ho hf
        have h10 := clVars_ten fo
        have hnd := clVars_nodup o [] List.nodup_nil
        have hin : ∀ l ∈ o, ∀ v, (times v l.left ≠ 0 ∨ times v l.right ≠ 0) → v ∈ clVars [] o := fun l hl v hv => mem_clVars o [] ko l hl hv
        have hmem : ∀ l ∈ d', ∃ k ∈ o, l = ⟨k.neg, app (numb (clVars [] o)) k.left, app (numb (clVars [] o)) k.right⟩ := fun l hl => by
          rcases dedup_mem hd l hl with h | h
          · cases h
          · simp only [each, List.mem_map] at h
            obtain ⟨k, hk, e⟩ := h
            exact ⟨k, hk, e.symm⟩
        have ke : clOkv (each (app (numb (clVars [] o))) o) := each_okv (numb_okv (by omega)) ko
        have kd : clOkv d' := fun l hl => by
          rcases dedup_mem hd l hl with h | h
          · cases h
          · exact ke l h
        have hcv : clVars [] d' = count (clVars [] o).length := by
          rw [clVars_dedup (by intro l hl; cases hl) ke hd, List.nil_append]
          have := clVars_ix (vs := clVars [] o) o [] ko hin (by intro v hv; cases hv)
          rw [List.map_nil] at this
          rw [this, ix_all hnd]
        have hori : ∀ l ∈ d', Ori l := fun l hl => by
          obtain ⟨k, hk', rfl⟩ := hmem l hl
          obtain ⟨h1, h2⟩ := orients_ori ho hk k hk'
          have b1 := back_numb k.left (ko k hk').1 fun v hv => hin k hk' v (.inl hv)
          have b2 := back_numb k.right (ko k hk').2 fun v hv => hin k hk' v (.inr hv)
          refine ⟨fun e => h1 ?_, ?_⟩
          · simp only at e
            rw [← b1, ← b2, e]
          · simp only
            cases ha : above (app (numb (clVars [] o)) k.right) (app (numb (clVars [] o)) k.left)
            · rfl
            · have := above_app (σ := back (clVars [] o)) (back_okv fun v hv => by have := clVars_few fo v hv; omega) _ _ (app_okv (numb_okv (by omega)) _ (ko k hk').2) (app_okv (numb_okv (by omega)) _ (ko k hk').1) ha
              rw [b1, b2, h2] at this; cases this
        have hlone : Lone d' := dedup_lone List.Pairwise.nil hd
        refine ⟨by omega, bigCl_no hb3, ?_, fun s hs l hl => ?_, fun s m hm => ?_⟩
        · unfold norm
          rw [orients_id hori]
          simp only
          rw [hcv]
          have hself : each (app (numb (count (clVars [] o).length))) d' = d' := each_id fun l hl => by
            have kl := kd l hl
            have hv : ∀ v, (times v l.left ≠ 0 ∨ times v l.right ≠ 0) → v ∈ count (clVars [] o).length := fun v hv => by
              rw [← hcv]; exact mem_clVars d' [] kd l hl hv
            exact ⟨app_count _ kl.1 fun v h => hv v (.inl h), app_count _ kl.2 fun v h => hv v (.inr h)⟩
          rw [hself, dedup_id (once := []) hlone, List.nil_append]
          simp only
          rw [if_neg]
          simp only [not_or, Bool.not_eq_true]
          exact ⟨hb1, by simp [count]; omega, hb3⟩
        · have ha := orients_ar ho hs
          obtain ⟨k, hk', rfl⟩ := hmem l hl
          have hn := numb_ar s (vs := clVars [] o) (by omega)
          refine ⟨Tm.ar_wf _ (app_ar hn _ (ha k hk').1) fun v hv => ?_, Tm.ar_wf _ (app_ar hn _ (ha k hk').2) fun v hv => ?_⟩
          · have := numb_var (ko k hk').1 (fun v hv => hin k hk' v (.inl hv)) hv; omega
          · have := numb_var (ko k hk').2 (fun v hv => hin k hk' v (.inr hv)) hv; omega
        · have h1 : validF m c ↔ validF m o := by
            unfold validF
            constructor
            · intro h e he; rw [orients_some ho]; exact h e he
            · intro h e he; rw [← orients_some ho]; exact h e he
          have h2 : validF m d' ↔ validF m (each (app (numb (clVars [] o))) o) := by
            unfold validF
            constructor
            · intro h e he
              have := h e he
              rw [dedup_some hd] at this
              simpa [someF] using this
            · intro h e he
              rw [dedup_some hd]
              have := h e he
              simp [this]
          rw [h1, h2, valid_numb hm ko fo]
theorem norm_none {c d : List Lt} (hk : clOkv c) (hf : clFew c) (h : norm c = (d, 6)) {s : List Int} {m : Md} (hm : MOk s m) : validF m c := by
  unfold norm at h
  split at h
  · rename_i ho
    exact fun e _ => orients_none ho m e
  · rename_i o ho
    have ko := orients_okv ho hk
    have fo := orients_few ho hf
    split at h
    · rename_i hd
      have h1 : validF m (each (app (numb (clVars [] o))) o) := fun e _ => by
        have := dedup_none hd m e
        simpa [someF] using this
      have h2 := (valid_numb hm ko fo).1 h1
      intro e he
      rw [← orients_some ho]; exact h2 e he
    · split at h <;> cases h
theorem norm_code (c : List Lt) : (norm c).2 = 0 ∨ (norm c).2 = 4 ∧ (norm c).1 = [] ∨ (norm c).2 = 6 ∧ (norm c).1 = [] := by
  unfold norm
  split
  · exact .inr (.inr ⟨rfl, rfl⟩)
  · split
    · exact .inr (.inr ⟨rfl, rfl⟩)
    · split
      · exact .inr (.inl ⟨rfl, rfl⟩)
      · exact .inl rfl
/-- a right clause is not too much -/
theorem norm_fits {s : List Int} {c : List Lt} (hc : clWf s c) (h4 : c.length ≤ 4) (hz : ∀ l ∈ c, l.left.size ≤ 12 ∧ l.right.size ≤ 12) : (norm c).2 ≠ 4 := by
  have hk := hc.ar.okv
  unfold norm
  split
  · simp
  · rename_i o ho
    split
    · simp
    · rename_i d hd
      have ko := orients_okv ho hk
      have l1 := orients_len ho
      have l2 := dedup_len hd
      simp only [each, List.length_map, List.length_nil] at l2
      have hv : (clVars [] o).length ≤ 5 := nodup_le 5 _ (clVars_nodup o [] List.nodup_nil) fun x hx => by
        have hw : clWf s o := fun l hl => by
          obtain ⟨k, hk, _, rfl⟩ := orients_mem ho l hl
          rcases orient1_two k with ⟨h1, h2⟩ | ⟨h1, h2⟩ <;> rw [h1, h2]
          · exact hc k hk
          · exact (hc k hk).symm
        have := clVars_range hw x hx; omega
      have hb : bigCl d = false := by
        unfold bigCl
        rw [List.any_eq_false]
        intro l hl
        rcases dedup_mem hd l hl with h | h
        · cases h
        · simp only [each, List.mem_map] at h
          obtain ⟨k, hk', rfl⟩ := h
          obtain ⟨j, hj, _, rfl⟩ := orients_mem ho k hk'
          have e1 := size_numb (vs := clVars [] o) _ (ko _ hk').1 fun v hv => mem_clVars o [] ko _ hk' (.inl hv)
          have e2 := size_numb (vs := clVars [] o) _ (ko _ hk').2 fun v hv => mem_clVars o [] ko _ hk' (.inr hv)
          have := hz j hj
          simp only [decide_eq_true_eq, e1, e2]
          rcases orient1_two j with ⟨h1, h2⟩ | ⟨h1, h2⟩ <;> rw [h1, h2] <;> omega
      rw [if_neg (by simp only [not_or, hb, Bool.false_eq_true]; exact ⟨by omega, by omega, fun h => h⟩)]
      simp
end Go.Proofs.YtmanhdacnkpclaaDoor

/- Clauses that come of others, plainly. -/
namespace Go.Proofs.YtmanhdacnkpclaaDoor
set_option linter.unusedVariables false
set_option linter.unusedSimpArgs false

def Lt.same (a b : Lt) : Bool := a.neg == b.neg && (a.left.same b.left && a.right.same b.right)
theorem Lt.same_iff {a b : Lt} : a.same b = true ↔ a = b := by
  obtain ⟨n, l, r⟩ := a
  obtain ⟨n', l', r'⟩ := b
  simp [Lt.same, Tm.same_iff]
def clSame : List Lt → List Lt → Bool
  | [], [] => true
  | a :: l, b :: l' => a.same b && clSame l l'
  | _, _ => false
theorem clSame_iff : ∀ {a b : List Lt}, clSame a b = true ↔ a = b
  | [], [] => by simp [clSame]
  | a :: l, b :: l' => by simp [clSame, Lt.same_iff, clSame_iff (a := l)]
  | [], _ :: _ => by simp [clSame]
  | _ :: _, [] => by simp [clSame]
abbrev Mk := List (List Lt) × Bool
def addR (m : Mk) (s : List Pr) (c : List Lt) : Mk := match norm (each (app s) c) with
  | (n, e) => if e = 4 then (m.1, true) else if e = 0 then (if m.1.any fun x => clSame x n then m else (m.1 ++ [n], m.2)) else m
def resolve1 (c : List Lt) (m : Mk) (i : Nat) : Mk := match c[i]? with
  | none => m
  | some l => if l.neg then (match unify l.left l.right with | some s => addR m s (c.eraseIdx i) | none => m) else m
def resolve (c : List Lt) : Mk := (List.range c.length).foldl (resolve1 c) ([], false)
mutual
def ren (k : Int) : Tm → Tm
  | ⟨true, n, l⟩ => ⟨true, n + k, l⟩
  | ⟨false, n, l⟩ => ⟨false, n, rens k l⟩
def rens (k : Int) : List Tm → List Tm
  | [] => []
  | a :: l => ren k a :: rens k l
end
theorem rens_eq (k : Int) : ∀ l, rens k l = l.map (ren k)
  | [] => rfl
  | a :: l => by simp [rens, rens_eq k l]
/-- clauses of symbols, with few variables -/
def clGood (S : List Int) (c : List Lt) : Prop := clAr S c ∧ clFew c
theorem clWf.good {S : List Int} {c : List Lt} (h : clWf S c) : clGood S c := ⟨h.ar, fun l hl => ⟨fun v hv => by have := times_wf (h l hl).1 hv; omega, fun v hv => by have := times_wf (h l hl).2 hv; omega⟩⟩
end Go.Proofs.YtmanhdacnkpclaaDoor

/- Simpler clauses, plainly: what units make of terms. -/
namespace Go.Proofs.YtmanhdacnkpclaaDoor
set_option linter.unusedVariables false
set_option linter.unusedSimpArgs false

end Go.Proofs.YtmanhdacnkpclaaDoor

/- What is wrong with clauses, plainly. -/
namespace Go.Proofs.YtmanhdacnkpclaaDoor
set_option linter.all false
open Go.RowKit

def wrongLits (s : List Int) : List Lt → Int
  | [] => 0
  | l :: c => if wrong s l.left = 0 then (if wrong s l.right = 0 then wrongLits s c else wrong s l.right) else wrong s l.left
def wrongCl (s : List Int) (c : List Lt) : Int := if 4 < c.length then 5 else wrongLits s c
theorem wrongLits_no {s : List Int} : ∀ {c : List Lt} {k : Nat} {x : Lt}, (∀ j y, j < k → c[j]? = some y → wrong s y.left = 0 ∧ wrong s y.right = 0) → c[k]? = some x → wrongLits s c = wrongLits s (x :: c.drop (k + 1))
  | [], k, x, _, hx => by simp at hx
  | y :: c, 0, x, _, hx => by simp at hx; subst hx; simp
  | y :: c, k + 1, x, h, hx => by
    have h0 := h 0 y (by omega) rfl
    have := wrongLits_no (s := s) (c := c) (k := k) (x := x) (fun j z hj hz => h (j + 1) z (by omega) (by simpa using hz)) (by simpa using hx)
    simp only [wrongLits, h0.1, h0.2, if_true, List.drop_succ_cons] at this ⊢
    exact this
theorem wrongLits_yes {s : List Int} : ∀ {c : List Lt}, (∀ j y, j < c.length → c[j]? = some y → wrong s y.left = 0 ∧ wrong s y.right = 0) → wrongLits s c = 0
  | [], _ => rfl
  | y :: c, h => by
    have h0 := h 0 y (by simp) rfl
    have := wrongLits_yes (s := s) (c := c) (fun j z hj hz => h (j + 1) z (by simp; omega) (by simpa using hz))
    simp only [wrongLits, h0.1, h0.2, if_true, this]

theorem wrongLits_all {s : List Int} : ∀ {c : List Lt}, wrongLits s c = 0 → ∀ q ∈ c, wrong s q.left = 0 ∧ wrong s q.right = 0
  | [], _, q, hq => by cases hq
  | y :: c, h, q, hq => by
    simp only [wrongLits] at h
    split at h
    · rename_i h1
      split at h
      · rename_i h2
        rcases List.mem_cons.1 hq with rfl | hq
        · exact ⟨h1, h2⟩
        · exact wrongLits_all h q hq
      · rename_i h2; exact absurd h h2
    · rename_i h1; exact absurd h h1
mutual
theorem walk_wf {s : List Int} : ∀ (t : Tm) (d : Int), t.wf s = true → d + t.size ≤ 13 → walk s t d = 0
  | ⟨true, n, l⟩, d, h, hd => by
    simp only [Tm.wf, Bool.and_eq_true, decide_eq_true_eq, List.isEmpty_iff] at h
    simp only [Tm.size] at hd
    obtain ⟨⟨rfl, h0⟩, h1⟩ := h
    simp only [walk]
    rw [if_neg (by omega), if_pos trivial, if_neg (by omega)]; rfl
  | ⟨false, n, l⟩, d, h, hd => by
    simp only [Tm.wf, Bool.and_eq_true, decide_eq_true_eq] at h
    simp only [Tm.size] at hd
    obtain ⟨⟨⟨h0, h1⟩, h2⟩, h3⟩ := h
    simp only [walk]
    rw [if_neg (by omega), if_neg (by simp), if_neg (by omega), if_pos h2]
    exact walks_wf l (d + 1) h3 (by omega)
theorem walks_wf {s : List Int} : ∀ (l : List Tm) (d : Int), Tm.wfs s l = true → d + Tm.sizes l ≤ 13 → walks s l d = 0
  | [], _, _, _ => rfl
  | a :: l, d, h, hd => by
    simp only [Tm.wfs, Bool.and_eq_true] at h
    simp only [Tm.sizes] at hd
    simp only [walks]
    rw [if_pos (walk_wf a d h.1 (by omega))]
    exact walks_wf l d h.2 (by omega)
end
theorem wrong_wf {s : List Int} {t : Tm} (h : t.wf s = true) (hz : t.size ≤ 12) : wrong s t = 0 := by
  unfold wrong
  rw [if_pos (walk_wf t 1 h (by omega)), if_neg]
  have h0 := Nat.zero_le t.size
  have : Go.RowKit.wrap64 (t.size : Int) = t.size := by unfold Go.RowKit.wrap64; omega
  rw [this]
  omega
/-- a right clause -/
structure COk (S : List Int) (c : List Lt) : Prop where
  len : c.length ≤ 4
  wf : clWf S c
  size : ∀ l ∈ c, l.left.size ≤ 12 ∧ l.right.size ≤ 12
theorem cok_of {S : List Int} {c : List Lt} (hs : wrongSig S = 0) (h : wrongCl S c = 0) : COk S c := by
  unfold wrongCl at h
  split at h
  · cases h
  · rename_i h4
    have hall := wrongLits_all h
    refine ⟨by omega, fun l hl => ?_, fun l hl => ?_⟩
    · exact ⟨wf_of S _ 1 (rightT hs (hall l hl).1).2.2, wf_of S _ 1 (rightT hs (hall l hl).2).2.2⟩
    · exact ⟨(rightT hs (hall l hl).1).1, (rightT hs (hall l hl).2).1⟩
theorem COk.wrong {S : List Int} {c : List Lt} (h : COk S c) : wrongCl S c = 0 := by
  unfold wrongCl
  rw [if_neg (by have := h.len; omega)]
  refine wrongLits_yes fun j y _ hy => ?_
  have hm := List.mem_of_getElem? hy
  exact ⟨wrong_wf (h.wf y hm).1 (h.size y hm).1, wrong_wf (h.wf y hm).2 (h.size y hm).2⟩
end Go.Proofs.YtmanhdacnkpclaaDoor
