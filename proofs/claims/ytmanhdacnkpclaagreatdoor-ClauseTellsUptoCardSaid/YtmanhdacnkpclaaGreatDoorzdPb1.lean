/- Models, plainly. -/
import Derived.Test.YtmanhdacnkpclaaGreatDoorzdPa1
/- Models, plainly. -/
namespace Go.Proofs.YtmanhdacnkpclaaGreatDoor
set_option linter.unusedVariables false
set_option linter.unusedSimpArgs false

/-- a model -/
structure Md where
  size : Int
  tables : List (List Int)
/-- so many things, for so many arguments -/
def want (z : Int) (n : Int) : Int := z ^ n.toNat
def wrongRow (z : Int) (row : List Int) (n : Int) : Int := if (row.length : Int) ≠ want z n then 5 else if row.any (fun x => decide (x < 0 ∨ z ≤ x)) then 3 else 0
def wrongRows (z : Int) (tabs : List (List Int)) : Nat → List Int → Int
  | _, [] => 0
  | f, n :: s => if wrongRow z (tabs.getD f []) n = 0 then wrongRows z tabs (f + 1) s else wrongRow z (tabs.getD f []) n
theorem wrongRows_no {z : Int} {tabs : List (List Int)} : ∀ {s : List Int} {f k : Nat} {n : Int}, (∀ (j : Nat) (n : Int), j < k → s[j]? = some n → wrongRow z (tabs.getD (f + j) []) n = 0) → s[k]? = some n → wrongRow z (tabs.getD (f + k) []) n ≠ 0 → wrongRows z tabs f s = wrongRow z (tabs.getD (f + k) []) n
  | [], _, _, _, _, h, _ => by simp at h
  | m :: s, f, 0, n, _, h, hn => by
    simp at h; subst h
    simp only [wrongRows]
    rw [Nat.add_zero] at hn
    rw [if_neg hn, Nat.add_zero]
  | m :: s, f, k + 1, n, h0, h, hn => by
    simp only [wrongRows]
    have h00 := h0 0 m (by omega) rfl
    rw [Nat.add_zero] at h00
    rw [if_pos h00, wrongRows_no (k := k) (n := n) (fun j n hj hn => by rw [show f + 1 + j = f + (j + 1) by omega]; exact h0 (j + 1) n (by omega) (by simpa using hn)) (by simpa using h) (by rw [show f + 1 + k = f + (k + 1) by omega]; exact hn)]
    rw [show f + 1 + k = f + (k + 1) by omega]
mutual
/-- which thing a term is -/
def value (m : Md) (env : List Int) : Tm → Int
  | ⟨true, n, _⟩ => env.getD n.toNat 0
  | ⟨false, n, l⟩ => (m.tables.getD n.toNat []).getD (values m env 0 l).toNat 0
def values (m : Md) (env : List Int) : Int → List Tm → Int
  | at_, [] => at_
  | at_, a :: l => values m env (at_ * m.size + value m env a) l
end
/-- does a literal hold? -/
def lit (m : Md) (env : List Int) (l : Lt) : Bool := (value m env l.left == value m env l.right) != l.neg
def some_ (m : Md) (env : List Int) (c : List Lt) : Bool := c.any (lit m env)
/-- what is right with a model -/
structure MOk (s : List Int) (m : Md) : Prop where
  one : 1 ≤ m.size
  eight : m.size ≤ 8
  len : m.tables.length = s.length
  row : ∀ (f : Nat) (n : Int), s[f]? = some n → ((m.tables.getD f []).length : Int) = want m.size n ∧ ∀ x ∈ m.tables.getD f [], 0 ≤ x ∧ x < m.size
/-- things for variables -/
structure EOk (m : Md) (env : List Int) : Prop where
  len : env.length = 5
  mem : ∀ x ∈ env, 0 ≤ x ∧ x < m.size
theorem EOk.at {m : Md} {env : List Int} (h : EOk m env) {n : Int} (h0 : 0 ≤ n) (h4 : n ≤ 4) : 0 ≤ env.getD n.toNat 0 ∧ env.getD n.toNat 0 < m.size := by
  have := h.len
  have hn : n.toNat < env.length := by omega
  rw [List.getD_eq_getElem?_getD, List.getElem?_eq_getElem hn]
  exact h.mem _ (List.getElem_mem hn)
mutual
theorem value_ok {s : List Int} {m : Md} {env : List Int} (hm : MOk s m) (he : EOk m env) : ∀ t : Tm, t.wf s = true → 0 ≤ value m env t ∧ value m env t < m.size
  | ⟨true, n, l⟩, h => by
    simp only [Tm.wf, Bool.and_eq_true, List.isEmpty_iff, decide_eq_true_eq] at h
    exact he.at h.1.2 h.2
  | ⟨false, n, l⟩, h => by
    simp only [Tm.wf, Bool.and_eq_true, decide_eq_true_eq] at h
    obtain ⟨⟨⟨h0, h1⟩, h2⟩, h3⟩ := h
    have hn : n.toNat < s.length := by omega
    obtain ⟨g1, g2⟩ := hm.row n.toNat s[n.toNat] (List.getElem?_eq_getElem hn)
    rw [List.getD_eq_getElem?_getD, List.getElem?_eq_getElem hn] at h2
    simp only [Option.getD_some] at h2
    have g3 := values_ok hm he l h3 0 0 (by omega) (by simp)
    rw [Nat.zero_add] at g3
    have h4 : want m.size s[n.toNat] = m.size ^ l.length := by unfold want; congr 1; omega
    rw [h4] at g1
    have hlt : (values m env 0 l).toNat < (m.tables.getD n.toNat []).length := by omega
    simp only [value]
    have : (m.tables.getD n.toNat []).getD (values m env 0 l).toNat 0 = (m.tables.getD n.toNat [])[(values m env 0 l).toNat] := by
      generalize m.tables.getD n.toNat [] = row at *
      rw [List.getD_eq_getElem?_getD, List.getElem?_eq_getElem hlt]; rfl
    rw [this]
    exact g2 _ (List.getElem_mem hlt)
theorem values_ok {s : List Int} {m : Md} {env : List Int} (hm : MOk s m) (he : EOk m env) : ∀ l : List Tm, Tm.wfs s l = true → ∀ (i : Int) (k : Nat), 0 ≤ i → i < m.size ^ k → 0 ≤ values m env i l ∧ values m env i l < m.size ^ (k + l.length)
  | [], _, i, k, h0, h1 => ⟨h0, h1⟩
  | a :: l, h, i, k, h0, h1 => by
    simp only [Tm.wfs, Bool.and_eq_true] at h
    obtain ⟨g0, g1⟩ := value_ok hm he a h.1
    have hs := hm.one
    have e : m.size ^ (k + 1) = m.size ^ k * m.size := Int.pow_succ ..
    have h2 : (i + 1) * m.size ≤ m.size ^ k * m.size := Int.mul_le_mul_of_nonneg_right (by omega) (by omega)
    have h3 : 0 ≤ i * m.size := Int.mul_nonneg h0 (by omega)
    rw [Int.add_mul, Int.one_mul] at h2
    obtain ⟨r0, r1⟩ := values_ok hm he l h.2 (i * m.size + value m env a) (k + 1) (by omega) (by omega)
    refine ⟨r0, ?_⟩
    simp only [values, List.length_cons]
    rw [show k + (l.length + 1) = k + 1 + l.length by omega]
    exact r1
end
def clWf (s : List Int) (c : List Lt) : Prop := ∀ l ∈ c, l.left.wf s = true ∧ l.right.wf s = true

/-- clauses' variables -/
def clVars : List Int → List Lt → List Int
  | acc, [] => acc
  | acc, l :: c => clVars (vars (vars acc l.left) l.right) c
/-- bindings of variables, one by one -/
def allE (m : Md) (c : List Lt) : List Int → List Int → Bool
  | env, [] => some_ m env c
  | env, v :: vs => (List.range m.size.toNat).all fun x => allE m c (env.set v.toNat (x : Int)) vs
def holds (m : Md) (c : List Lt) : Bool := allE m c [0, 0, 0, 0, 0] (clVars [] c)

theorem mem_clVars_old {x : Int} : ∀ (c : List Lt) (acc : List Int), x ∈ acc → x ∈ clVars acc c
  | [], _, h => h
  | l :: c, _, h => mem_clVars_old c _ (vars_mem_old x l.right _ (vars_mem_old x l.left _ h))
theorem mem_clVars {x : Int} : ∀ (c : List Lt) (acc : List Int), (∀ l ∈ c, l.left.okv = true ∧ l.right.okv = true) → ∀ l ∈ c, (times x l.left ≠ 0 ∨ times x l.right ≠ 0) → x ∈ clVars acc c
  | [], _, _, l, hl, _ => by cases hl
  | k :: c, acc, hk, l, hl, hx => by
    have hk1 := hk k (by simp)
    rcases List.mem_cons.1 hl with rfl | hl
    · refine mem_clVars_old c _ ?_
      rcases hx with hx | hx
      · exact vars_mem_old x l.right _ (times_mem x l.left acc hk1.1 hx).1
      · exact (times_mem x l.right _ hk1.2 hx).1
    · exact mem_clVars c _ (fun a ha => hk a (by simp [ha])) l hl hx
mutual
theorem vars_sub (x : Int) : ∀ (t : Tm) (l : List Int), x ∈ vars l t → x ∈ l ∨ times x t ≠ 0
  | ⟨true, n, r⟩, l, h => by
    simp only [vars] at h
    split at h
    · exact .inl h
    · rcases List.mem_append.1 h with h | h
      · exact .inl h
      · simp only [List.mem_singleton] at h; subst h; right; simp [times]
  | ⟨false, n, r⟩, l, h => by
    simp only [vars] at h
    rcases varss_sub x r l h with h | h
    · exact .inl h
    · right; simpa [times] using h
theorem varss_sub (x : Int) : ∀ (r : List Tm) (l : List Int), x ∈ varss l r → x ∈ l ∨ timess x r ≠ 0
  | [], l, h => .inl h
  | a :: r, l, h => by
    simp only [varss] at h
    rcases varss_sub x r _ h with h | h
    · rcases vars_sub x a l h with h | h
      · exact .inl h
      · right; simp only [timess]; omega
    · right; simp only [timess]; omega
end
theorem clVars_sub {x : Int} : ∀ (c : List Lt) (acc : List Int), x ∈ clVars acc c → x ∈ acc ∨ ∃ l ∈ c, times x l.left ≠ 0 ∨ times x l.right ≠ 0
  | [], _, h => .inl h
  | l :: c, acc, h => by
    rcases clVars_sub c _ h with h | ⟨k, hk, h⟩
    · rcases vars_sub x l.right _ h with h | h
      · rcases vars_sub x l.left _ h with h | h
        · exact .inl h
        · exact .inr ⟨l, by simp, .inl h⟩
      · exact .inr ⟨l, by simp, .inr h⟩
    · exact .inr ⟨k, by simp [hk], h⟩
theorem times_wf {s : List Int} {t : Tm} (h : t.wf s = true) {v : Int} (hv : times v t ≠ 0) : 0 ≤ v ∧ v ≤ 4 := by
  have key : ∀ t : Tm, t.wf s = true → times v t ≠ 0 → 0 ≤ v ∧ v ≤ 4 := by
    refine Tm.ind ?_
    intro b n l ih h hv
    cases b
    · simp only [Tm.wf, Bool.and_eq_true] at h
      simp only [times, Bool.false_and, Bool.false_eq_true, if_false, Nat.zero_add] at hv
      obtain ⟨a, ha, hv⟩ := timess_pos hv
      exact ih a ha (Tm.wfs_iff.1 h.2 a ha) hv
    · simp only [Tm.wf, Bool.and_eq_true, List.isEmpty_iff, decide_eq_true_eq] at h
      obtain ⟨⟨rfl, h0⟩, h4⟩ := h
      have : n = v := by
        rcases Decidable.em (n = v) with h1 | h1
        · exact h1
        · simp [times, timess, h1] at hv
      omega
  exact key t h hv
/-- terms of clauses -/
def each (f : Tm → Tm) (c : List Lt) : List Lt := c.map fun l => ⟨l.neg, f l.left, f l.right⟩
def subWf (s : List Int) (by_ : List Pr) : Prop := ∀ p ∈ by_, p.2.wf s = true
theorem appV_wf {s : List Int} {by_ : List Pr} (h : subWf s by_) {v : Int} (h0 : 0 ≤ v) (h4 : v ≤ 4) : (appV by_ v).wf s = true := by
  unfold appV
  rw [app_var]
  cases hf : findS by_ v with
  | none => simp [Tm.wf, h0, h4]
  | some u => obtain ⟨p, hp, _, rfl⟩ := findS_mem hf; exact h p hp
mutual
theorem app_wf {s : List Int} {by_ : List Pr} (h : subWf s by_) : ∀ t : Tm, t.wf s = true → (app by_ t).wf s = true
  | ⟨true, n, l⟩, hk => by
    simp only [Tm.wf, Bool.and_eq_true, List.isEmpty_iff, decide_eq_true_eq] at hk
    obtain ⟨⟨rfl, h0⟩, h4⟩ := hk
    exact appV_wf h h0 h4
  | ⟨false, n, l⟩, hk => by
    simp only [Tm.wf, Bool.and_eq_true, decide_eq_true_eq] at hk
    rw [app_sym]
    simp only [Tm.wf, Bool.and_eq_true, decide_eq_true_eq, List.length_map]
    exact ⟨hk.1, apps_wf h l hk.2⟩
theorem apps_wf {s : List Int} {by_ : List Pr} (h : subWf s by_) : ∀ l : List Tm, Tm.wfs s l = true → Tm.wfs s (l.map (app by_)) = true
  | [], _ => rfl
  | a :: l, hk => by
    simp only [Tm.wfs, Bool.and_eq_true] at hk
    simp only [List.map_cons, Tm.wfs, app_wf h a hk.1, apps_wf h l hk.2, Bool.and_self]
end
end Go.Proofs.YtmanhdacnkpclaaGreatDoor

/- Models, plainly: things for all variables. -/
namespace Go.Proofs.YtmanhdacnkpclaaGreatDoor
set_option linter.unusedVariables false
set_option linter.unusedSimpArgs false

mutual
/-- each symbol with its arguments -/
def Tm.ar (s : List Int) : Tm → Bool
  | ⟨true, n, l⟩ => l.isEmpty && decide (0 ≤ n) && decide (n ≤ 1000000)
  | ⟨false, n, l⟩ => decide (0 ≤ n) && decide (n < (s.length : Int)) && decide ((l.length : Int) = s.getD n.toNat 0) && Tm.ars s l
def Tm.ars (s : List Int) : List Tm → Bool
  | [] => true
  | a :: l => Tm.ar s a && Tm.ars s l
end
theorem Tm.ars_iff {s : List Int} : ∀ {l : List Tm}, Tm.ars s l = true ↔ ∀ t ∈ l, t.ar s = true
  | [] => by simp [Tm.ars]
  | a :: l => by simp [Tm.ars, Tm.ars_iff (l := l)]
mutual
theorem Tm.ar_okv {s : List Int} : ∀ (t : Tm), t.ar s = true → t.okv = true
  | ⟨true, n, l⟩, h => h
  | ⟨false, n, l⟩, h => by
    simp only [Tm.ar, Tm.okv, Bool.and_eq_true] at h ⊢
    exact Tm.ars_okvs l h.2
theorem Tm.ars_okvs {s : List Int} : ∀ (l : List Tm), Tm.ars s l = true → Tm.okvs l = true
  | [], _ => rfl
  | a :: l, h => by
    simp only [Tm.ars, Tm.okvs, Bool.and_eq_true] at h ⊢
    exact ⟨Tm.ar_okv a h.1, Tm.ars_okvs l h.2⟩
end
mutual
theorem Tm.wf_ar {s : List Int} : ∀ (t : Tm), t.wf s = true → t.ar s = true
  | ⟨true, n, l⟩, h => by
    simp only [Tm.wf, Tm.ar, Bool.and_eq_true, decide_eq_true_eq] at h ⊢
    exact ⟨h.1, by omega⟩
  | ⟨false, n, l⟩, h => by
    simp only [Tm.wf, Tm.ar, Bool.and_eq_true] at h ⊢
    exact ⟨h.1, Tm.wfs_ars l h.2⟩
theorem Tm.wfs_ars {s : List Int} : ∀ (l : List Tm), Tm.wfs s l = true → Tm.ars s l = true
  | [], _ => rfl
  | a :: l, h => by
    simp only [Tm.wfs, Tm.ars, Bool.and_eq_true] at h ⊢
    exact ⟨Tm.wf_ar a h.1, Tm.wfs_ars l h.2⟩
end
def clAr (s : List Int) (c : List Lt) : Prop := ∀ l ∈ c, l.left.ar s = true ∧ l.right.ar s = true
def clOkv (c : List Lt) : Prop := ∀ l ∈ c, l.left.okv = true ∧ l.right.okv = true
theorem clWf.ar {s : List Int} {c : List Lt} (h : clWf s c) : clAr s c := fun l hl => ⟨Tm.wf_ar _ (h l hl).1, Tm.wf_ar _ (h l hl).2⟩
theorem clAr.okv {s : List Int} {c : List Lt} (h : clAr s c) : clOkv c := fun l hl => ⟨Tm.ar_okv _ (h l hl).1, Tm.ar_okv _ (h l hl).2⟩
end Go.Proofs.YtmanhdacnkpclaaGreatDoor

/- Clauses as they are kept, plainly. -/
namespace Go.Proofs.YtmanhdacnkpclaaGreatDoor
set_option linter.unusedVariables false
set_option linter.unusedSimpArgs false

/-- the upper one of two terms left -/
def orient1 (l : Lt) : Lt := if above l.right l.left then ⟨l.neg, l.right, l.left⟩ else l
/-- none: it always holds -/
def orients : List Lt → Option (List Lt)
  | [] => some []
  | l :: c => if l.left.same l.right then (if l.neg then orients c else none) else match orients c with
    | some o => some (orient1 l :: o)
    | none => none
/-- variables numbered as they are come to -/
def numbF : Nat → List Int → List Pr
  | _, [] => []
  | i, v :: vs => (v, ⟨true, (i : Int), []⟩) :: numbF (i + 1) vs
def numb (vs : List Int) : List Pr := numbF 0 vs
def like (a b : Lt) : Bool := (a.left.same b.left && a.right.same b.right) || (a.left.same b.right && a.right.same b.left)
def hasS (once : List Lt) (l : Lt) : Bool := once.any fun y => like l y && (y.neg == l.neg)
def hasN (once : List Lt) (l : Lt) : Bool := once.any fun y => like l y && (y.neg != l.neg)
def dedup : List Lt → List Lt → Option (List Lt)
  | once, [] => some once
  | once, l :: c => if hasS once l then dedup once c else if hasN once l then none else dedup (once ++ [l]) c
def bigCl (d : List Lt) : Bool := d.any fun l => decide (12 < l.left.size ∨ 12 < l.right.size)
def norm (c : List Lt) : List Lt × Int := match orients c with
  | none => ([], 6)
  | some o => match dedup [] (each (app (numb (clVars [] o))) o) with
    | none => ([], 6)
    | some d => if 4 < d.length ∨ 5 < (clVars [] o).length ∨ bigCl d = true then ([], 4) else (d, 0)

theorem orients_mem : ∀ {c o : List Lt}, orients c = some o → ∀ l ∈ o, ∃ k ∈ c, k.left.same k.right = false ∧ l = orient1 k
  | [], o, h, l, hl => by simp only [orients] at h; injection h with h; subst h; cases hl
  | k :: c, o, h, l, hl => by
    simp only [orients] at h
    split at h
    · split at h
      · obtain ⟨j, hj, h2⟩ := orients_mem h l hl; exact ⟨j, by simp [hj], h2⟩
      · cases h
    · rename_i hs
      split at h
      · rename_i o' ho
        injection h with h; subst h
        rcases List.mem_cons.1 hl with rfl | hl
        · exact ⟨k, by simp, by simpa using hs, rfl⟩
        · obtain ⟨j, hj, h2⟩ := orients_mem ho l hl; exact ⟨j, by simp [hj], h2⟩
      · cases h
theorem orients_len : ∀ {c o : List Lt}, orients c = some o → o.length ≤ c.length
  | [], o, h => by simp only [orients] at h; injection h with h; subst h; simp
  | k :: c, o, h => by
    simp only [orients] at h
    split at h
    · split at h
      · have := orients_len h; simp; omega
      · cases h
    · split at h
      · rename_i o' ho
        injection h with h; subst h
        have := orients_len ho; simp; omega
      · cases h
theorem orient1_two (l : Lt) : (orient1 l).left = l.left ∧ (orient1 l).right = l.right ∨ (orient1 l).left = l.right ∧ (orient1 l).right = l.left := by
  unfold orient1; split <;> simp
/- dedup -/
theorem like_iff {a b : Lt} : like a b = true ↔ (a.left = b.left ∧ a.right = b.right) ∨ (a.left = b.right ∧ a.right = b.left) := by
  simp [like, Tm.same_iff]
theorem dedup_mem : ∀ {c once d : List Lt}, dedup once c = some d → ∀ l ∈ d, l ∈ once ∨ l ∈ c
  | [], once, d, h, l, hl => by simp only [dedup] at h; injection h with h; subst h; exact .inl hl
  | k :: c, once, d, h, l, hl => by
    simp only [dedup] at h
    split at h
    · rcases dedup_mem h l hl with h | h
      · exact .inl h
      · exact .inr (by simp [h])
    · split at h
      · cases h
      · rcases dedup_mem h l hl with h | h
        · rcases List.mem_append.1 h with h | h
          · exact .inl h
          · simp only [List.mem_singleton] at h; subst h; exact .inr (by simp)
        · exact .inr (by simp [h])
theorem dedup_len : ∀ {c once d : List Lt}, dedup once c = some d → d.length ≤ once.length + c.length
  | [], once, d, h => by simp only [dedup] at h; injection h with h; subst h; simp
  | k :: c, once, d, h => by
    simp only [dedup] at h
    split at h
    · have := dedup_len h; simp; omega
    · split at h
      · cases h
      · have := dedup_len h; simp at this ⊢; omega
/-- no two alike -/
def Lone (d : List Lt) : Prop := d.Pairwise fun a b => like b a = false
theorem dedup_lone : ∀ {c once d : List Lt}, Lone once → dedup once c = some d → Lone d
  | [], once, d, hl, h => by simp only [dedup] at h; injection h with h; subst h; exact hl
  | k :: c, once, d, hl, h => by
    simp only [dedup] at h
    split at h
    · exact dedup_lone hl h
    · rename_i h1
      split at h
      · cases h
      · rename_i h2
        refine dedup_lone ?_ h
        refine List.pairwise_append.2 ⟨hl, by simp, fun a ha b hb => ?_⟩
        simp only [List.mem_singleton] at hb
        subst hb
        cases hk : like b a
        · rfl
        · cases hn : (a.neg == b.neg)
          · exact absurd (List.any_eq_true.2 ⟨a, ha, by simp only [hk, Bool.true_and, bne, hn]; rfl⟩) h2
          · exact absurd (List.any_eq_true.2 ⟨a, ha, by simp only [hk, hn, Bool.and_self]⟩) h1
theorem clVars_append : ∀ (c d : List Lt) (acc : List Int), clVars acc (c ++ d) = clVars (clVars acc c) d
  | [], _, _ => rfl
  | l :: c, d, acc => by simp only [List.cons_append, clVars]; exact clVars_append c d _
theorem clVars_nodup : ∀ (c : List Lt) (acc : List Int), acc.Nodup → (clVars acc c).Nodup
  | [], _, h => h
  | _ :: c, _, h => clVars_nodup c _ (vars_nodup _ _ (vars_nodup _ _ h))
/- numbering -/
theorem numbF_find : ∀ (vs : List Int) (i : Nat) (v : Int), findS (numbF i vs) v = (vs.idxOf? v).map fun k => ⟨true, ((i + k : Nat) : Int), []⟩
  | [], i, v => rfl
  | a :: vs, i, v => by
    simp only [numbF, findS, List.idxOf?_cons]
    rcases Decidable.em (a = v) with rfl | h
    · simp
    · have : (a == v) = false := by simpa using h
      rw [if_neg h, this]
      rw [numbF_find vs (i + 1) v]
      cases List.idxOf? v vs with
      | none => rfl
      | some k => simp; omega
theorem idxOf_get : ∀ {vs : List Int} {v : Int} {k : Nat}, vs.idxOf? v = some k → vs[k]? = some v
  | [], _, _, h => by simp at h
  | a :: vs, v, k, h => by
    rw [List.idxOf?_cons] at h
    split at h
    · rename_i e; injection h with h; subst h; simp at e; simp [e]
    · cases hh : vs.idxOf? v with
      | none => rw [hh] at h; cases h
      | some j =>
        rw [hh] at h
        simp at h
        subst h
        simpa using idxOf_get hh
theorem idxOf_mem {vs : List Int} {v : Int} (h : v ∈ vs) : ∃ k, vs.idxOf? v = some k := by
  cases hh : vs.idxOf? v with
  | none => rw [List.idxOf?_eq_none_iff] at hh; exact absurd h hh
  | some k => exact ⟨k, rfl⟩
theorem numb_at {vs : List Int} {v : Int} (h : v ∈ vs) : ∃ k : Nat, vs[k]? = some v ∧ k < vs.length ∧ appV (numb vs) v = ⟨true, (k : Int), []⟩ := by
  obtain ⟨k, hk⟩ := idxOf_mem h
  have h1 := idxOf_get hk
  refine ⟨k, h1, (List.getElem?_eq_some_iff.1 h1).1, ?_⟩
  unfold appV numb
  rw [app_var, numbF_find, hk]
  simp
/-- the numbers' variables -/
def back (vs : List Int) : List Pr := (List.range vs.length).map fun (k : Nat) => ((k : Int), ⟨true, vs.getD k 0, []⟩)
theorem size_numb {vs : List Int} : ∀ t : Tm, t.okv = true → (∀ v, times v t ≠ 0 → v ∈ vs) → (app (numb vs) t).size = t.size := by
  refine Tm.ind ?_
  intro b n l ih hk h
  cases b
  · simp only [Tm.okv] at hk
    rw [app_sym]
    simp only [Tm.size]
    congr 1
    have key : ∀ l : List Tm, (∀ a ∈ l, (app (numb vs) a).size = a.size) → Tm.sizes (l.map (app (numb vs))) = Tm.sizes l := by
      intro l
      induction l with
      | nil => intro _; rfl
      | cons a l ih => intro h; simp only [List.map_cons, Tm.sizes, h a (by simp), ih fun b hb => h b (by simp [hb])]
    exact key l fun a ha => ih a ha ((Tm.okvs_iff l).1 hk a ha) fun v hv => h v fun h0 => hv (times_sub ha h0)
  · simp only [Tm.okv, Bool.and_eq_true, List.isEmpty_iff] at hk
    obtain ⟨⟨rfl, _⟩, _⟩ := hk
    obtain ⟨k, h1, h2, h3⟩ := numb_at (h n (by simp [times]))
    show (appV (numb vs) n).size = _
    rw [h3]; rfl
theorem nodup_le : ∀ (n : Nat) (L : List Int), L.Nodup → (∀ x ∈ L, 0 ≤ x ∧ x < n) → L.length ≤ n
  | 0, L, _, h => by
    cases L with
    | nil => simp
    | cons a L => have := h a (by simp); omega
  | n + 1, L, hd, h => by
    rcases Classical.em ((n : Int) ∈ L) with hm | hm
    · have h1 := nodup_le n (L.erase (n : Int)) (hd.erase _) fun x hx => by
        rw [hd.mem_erase_iff] at hx
        have := h x hx.2
        have := hx.1
        omega
      rw [List.length_erase_of_mem hm] at h1
      omega
    · have h1 := nodup_le n L hd fun x hx => by
        have := h x hx
        have : x ≠ (n : Int) := fun e => hm (e ▸ hx)
        omega
      omega
end Go.Proofs.YtmanhdacnkpclaaGreatDoor

/- Clauses as they are kept, plainly: what is kept tells the same, and is kept as it is. -/
namespace Go.Proofs.YtmanhdacnkpclaaGreatDoor
set_option linter.unusedVariables false
set_option linter.unusedSimpArgs false

def clFew (c : List Lt) : Prop := ∀ l ∈ c, few l.left ∧ few l.right
theorem orients_okv {c o : List Lt} (h : orients c = some o) (hc : clOkv c) : clOkv o := fun l hl => by
  obtain ⟨k, hk, _, rfl⟩ := orients_mem h l hl
  rcases orient1_two k with ⟨h1, h2⟩ | ⟨h1, h2⟩ <;> rw [h1, h2]
  · exact hc k hk
  · exact (hc k hk).symm
theorem orients_few {c o : List Lt} (h : orients c = some o) (hc : clFew c) : clFew o := fun l hl => by
  obtain ⟨k, hk, _, rfl⟩ := orients_mem h l hl
  rcases orient1_two k with ⟨h1, h2⟩ | ⟨h1, h2⟩ <;> rw [h1, h2]
  · exact hc k hk
  · exact (hc k hk).symm
theorem clVars_few {c : List Lt} (h : clFew c) : ∀ v ∈ clVars [] c, 0 ≤ v ∧ v ≤ 9 := fun v hv => by
  rcases clVars_sub c [] hv with hv | ⟨l, hl, hv | hv⟩
  · cases hv
  · exact (h l hl).1 v hv
  · exact (h l hl).2 v hv
theorem clVars_ten {c : List Lt} (h : clFew c) : (clVars [] c).length ≤ 10 := nodup_le 10 _ (clVars_nodup c [] List.nodup_nil) fun x hx => by
  have := clVars_few h x hx; omega
/-- numbers of variables -/
def ix (vs : List Int) (v : Int) : Int := (((vs.idxOf? v).getD 0 : Nat) : Int)
def count (n : Nat) : List Int := (List.range n).map fun (k : Nat) => (k : Int)
end Go.Proofs.YtmanhdacnkpclaaGreatDoor

/- Clauses that come of others, plainly. -/
namespace Go.Proofs.YtmanhdacnkpclaaGreatDoor
set_option linter.unusedVariables false
set_option linter.unusedSimpArgs false

def Lt.same (a b : Lt) : Bool := a.neg == b.neg && (a.left.same b.left && a.right.same b.right)
theorem Lt.same_iff {a b : Lt} : a.same b = true ↔ a = b := by
  obtain ⟨n, l, r⟩ := a
  obtain ⟨n', l', r'⟩ := b
  simp [Lt.same, Tm.same_iff]
def clSame : List Lt → List Lt → Bool
  | [], [] => true
  | a :: l, b :: l' => a.same b && clSame l l'
  | _, _ => false
theorem clSame_iff : ∀ {a b : List Lt}, clSame a b = true ↔ a = b
  | [], [] => by simp [clSame]
  | a :: l, b :: l' => by simp [clSame, Lt.same_iff, clSame_iff (a := l)]
  | [], _ :: _ => by simp [clSame]
  | _ :: _, [] => by simp [clSame]
abbrev Mk := List (List Lt) × Bool
def addR (m : Mk) (s : List Pr) (c : List Lt) : Mk := match norm (each (app s) c) with
  | (n, e) => if e = 4 then (m.1, true) else if e = 0 then (if m.1.any fun x => clSame x n then m else (m.1 ++ [n], m.2)) else m
def resolve1 (c : List Lt) (m : Mk) (i : Nat) : Mk := match c[i]? with
  | none => m
  | some l => if l.neg then (match unify l.left l.right with | some s => addR m s (c.eraseIdx i) | none => m) else m
def resolve (c : List Lt) : Mk := (List.range c.length).foldl (resolve1 c) ([], false)
mutual
def ren (k : Int) : Tm → Tm
  | ⟨true, n, l⟩ => ⟨true, n + k, l⟩
  | ⟨false, n, l⟩ => ⟨false, n, rens k l⟩
def rens (k : Int) : List Tm → List Tm
  | [] => []
  | a :: l => ren k a :: rens k l
end
theorem rens_eq (k : Int) : ∀ l, rens k l = l.map (ren k)
  | [] => rfl
  | a :: l => by simp [rens, rens_eq k l]
end Go.Proofs.YtmanhdacnkpclaaGreatDoor

/- Simpler clauses, plainly: what units make of terms. -/
namespace Go.Proofs.YtmanhdacnkpclaaGreatDoor
set_option linter.unusedVariables false
set_option linter.unusedSimpArgs false

end Go.Proofs.YtmanhdacnkpclaaGreatDoor

/- What is wrong with clauses, plainly. -/
namespace Go.Proofs.YtmanhdacnkpclaaGreatDoor
set_option linter.all false
open Go.RowKit

def wrongLits (s : List Int) : List Lt → Int
  | [] => 0
  | l :: c => if wrong s l.left = 0 then (if wrong s l.right = 0 then wrongLits s c else wrong s l.right) else wrong s l.left
def wrongCl (s : List Int) (c : List Lt) : Int := if 4 < c.length then 5 else wrongLits s c
theorem wrongLits_no {s : List Int} : ∀ {c : List Lt} {k : Nat} {x : Lt}, (∀ j y, j < k → c[j]? = some y → wrong s y.left = 0 ∧ wrong s y.right = 0) → c[k]? = some x → wrongLits s c = wrongLits s (x :: c.drop (k + 1))
  | [], k, x, _, hx => by simp at hx
  | y :: c, 0, x, _, hx => by simp at hx; subst hx; simp
  | y :: c, k + 1, x, h, hx => by
    have h0 := h 0 y (by omega) rfl
    have := wrongLits_no (s := s) (c := c) (k := k) (x := x) (fun j z hj hz => h (j + 1) z (by omega) (by simpa using hz)) (by simpa using hx)
    simp only [wrongLits, h0.1, h0.2, if_true, List.drop_succ_cons] at this ⊢
    exact this
theorem wrongLits_yes {s : List Int} : ∀ {c : List Lt}, (∀ j y, j < c.length → c[j]? = some y → wrong s y.left = 0 ∧ wrong s y.right = 0) → wrongLits s c = 0
  | [], _ => rfl
  | y :: c, h => by
    have h0 := h 0 y (by simp) rfl
    have := wrongLits_yes (s := s) (c := c) (fun j z hj hz => h (j + 1) z (by simp; omega) (by simpa using hz))
    simp only [wrongLits, h0.1, h0.2, if_true, this]

theorem wrongLits_all {s : List Int} : ∀ {c : List Lt}, wrongLits s c = 0 → ∀ q ∈ c, wrong s q.left = 0 ∧ wrong s q.right = 0
  | [], _, q, hq => by cases hq
  | y :: c, h, q, hq => by
    simp only [wrongLits] at h
    split at h
    · rename_i h1
      split at h
      · rename_i h2
        rcases List.mem_cons.1 hq with rfl | hq
        · exact ⟨h1, h2⟩
        · exact wrongLits_all h q hq
      · rename_i h2; exact absurd h h2
    · rename_i h1; exact absurd h h1
/-- a right clause -/
structure COk (S : List Int) (c : List Lt) : Prop where
  len : c.length ≤ 4
  wf : clWf S c
  size : ∀ l ∈ c, l.left.size ≤ 12 ∧ l.right.size ≤ 12
theorem cok_of {S : List Int} {c : List Lt} (hs : wrongSig S = 0) (h : wrongCl S c = 0) : COk S c := by
  unfold wrongCl at h
  split at h
  · cases h
  · rename_i h4
    have hall := wrongLits_all h
    refine ⟨by omega, fun l hl => ?_, fun l hl => ?_⟩
    · exact ⟨wf_of S _ 1 (rightT hs (hall l hl).1).2.2, wf_of S _ 1 (rightT hs (hall l hl).2).2.2⟩
    · exact ⟨(rightT hs (hall l hl).1).1, (rightT hs (hall l hl).2).1⟩
end Go.Proofs.YtmanhdacnkpclaaGreatDoor
