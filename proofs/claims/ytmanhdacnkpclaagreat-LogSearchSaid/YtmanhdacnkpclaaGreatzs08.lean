/- Models, plainly. -/
import Derived.Test.YtmanhdacnkpclaaGreatzs07
/- Models, plainly. -/
namespace Go.Proofs.YtmanhdacnkpclaaGreat
set_option linter.unusedVariables false
set_option linter.unusedSimpArgs false
structure Md where
  size : Int
  tables : List (List Int)
def want (z : Int) (n : Int) : Int := z ^ n.toNat
def wrongRow (z : Int) (row : List Int) (n : Int) : Int := if (row.length : Int) ≠ want z n then 5 else if row.any (fun x => decide (x < 0 ∨ z ≤ x)) then 3 else 0
def wrongRows (z : Int) (tabs : List (List Int)) : Nat → List Int → Int
  | _, [] => 0
  | f, n :: s => if wrongRow z (tabs.getD f []) n = 0 then wrongRows z tabs (f + 1) s else wrongRow z (tabs.getD f []) n
theorem wrongRows_no {z : Int} {tabs : List (List Int)} : ∀ {s : List Int} {f k : Nat} {n : Int}, (∀ (j : Nat) (n : Int), j < k → s[j]? = some n → wrongRow z (tabs.getD (f + j) []) n = 0) → s[k]? = some n → wrongRow z (tabs.getD (f + k) []) n ≠ 0 → wrongRows z tabs f s = wrongRow z (tabs.getD (f + k) []) n
  | [], _, _, _, _, h, _ => by simp at h
  | m :: s, f, 0, n, _, h, hn => by
    simp at h; subst h
    simp only [wrongRows]
    rw [Nat.add_zero] at hn
    rw [if_neg hn, Nat.add_zero]
  | m :: s, f, k + 1, n, h0, h, hn => by
    simp only [wrongRows]
    have h00 := h0 0 m (by omega) rfl
    rw [Nat.add_zero] at h00
    rw [if_pos h00, wrongRows_no (k := k) (n := n) (fun j n hj hn => by rw [show f + 1 + j = f + (j + 1) by omega]; exact h0 (j + 1) n (by omega) (by simpa using hn)) (by simpa using h) (by rw [show f + 1 + k = f + (k + 1) by omega]; exact hn)]
    rw [show f + 1 + k = f + (k + 1) by omega]
mutual
def value (m : Md) (env : List Int) : Tm → Int
  | ⟨true, n, _⟩ => env.getD n.toNat 0
  | ⟨false, n, l⟩ => (m.tables.getD n.toNat []).getD (values m env 0 l).toNat 0
def values (m : Md) (env : List Int) : Int → List Tm → Int
  | at_, [] => at_
  | at_, a :: l => values m env (at_ * m.size + value m env a) l
end
def lit (m : Md) (env : List Int) (l : Lt) : Bool := (value m env l.left == value m env l.right) != l.neg
def some_ (m : Md) (env : List Int) (c : List Lt) : Bool := c.any (lit m env)
structure MOk (s : List Int) (m : Md) : Prop where
  one : 1 ≤ m.size
  eight : m.size ≤ 8
  len : m.tables.length = s.length
  row : ∀ (f : Nat) (n : Int), s[f]? = some n → ((m.tables.getD f []).length : Int) = want m.size n ∧ ∀ x ∈ m.tables.getD f [], 0 ≤ x ∧ x < m.size
structure EOk (m : Md) (env : List Int) : Prop where
  len : env.length = 5
  mem : ∀ x ∈ env, 0 ≤ x ∧ x < m.size
theorem EOk.at {m : Md} {env : List Int} (h : EOk m env) {n : Int} (h0 : 0 ≤ n) (h4 : n ≤ 4) : 0 ≤ env.getD n.toNat 0 ∧ env.getD n.toNat 0 < m.size := by
  have := h.len
  have hn : n.toNat < env.length := by omega
  rw [List.getD_eq_getElem?_getD, List.getElem?_eq_getElem hn]
  exact h.mem _ (List.getElem_mem hn)
mutual
theorem value_ok {s : List Int} {m : Md} {env : List Int} (hm : MOk s m) (he : EOk m env) : ∀ t : Tm, t.wf s = true → 0 ≤ value m env t ∧ value m env t < m.size
  | ⟨true, n, l⟩, h => by
    simp only [Tm.wf, Bool.and_eq_true, List.isEmpty_iff, decide_eq_true_eq] at h
    exact he.at h.1.2 h.2
  | ⟨false, n, l⟩, h => by
    simp only [Tm.wf, Bool.and_eq_true, decide_eq_true_eq] at h
    obtain ⟨⟨⟨h0, h1⟩, h2⟩, h3⟩ := h
    have hn : n.toNat < s.length := by omega
    obtain ⟨g1, g2⟩ := hm.row n.toNat s[n.toNat] (List.getElem?_eq_getElem hn)
    rw [List.getD_eq_getElem?_getD, List.getElem?_eq_getElem hn] at h2
    simp only [Option.getD_some] at h2
    have g3 := values_ok hm he l h3 0 0 (by omega) (by simp)
    rw [Nat.zero_add] at g3
    have h4 : want m.size s[n.toNat] = m.size ^ l.length := by unfold want; congr 1; omega
    rw [h4] at g1
    have hlt : (values m env 0 l).toNat < (m.tables.getD n.toNat []).length := by omega
    simp only [value]
    have : (m.tables.getD n.toNat []).getD (values m env 0 l).toNat 0 = (m.tables.getD n.toNat [])[(values m env 0 l).toNat] := by
      generalize m.tables.getD n.toNat [] = row at *
      rw [List.getD_eq_getElem?_getD, List.getElem?_eq_getElem hlt]; rfl
    rw [this]
    exact g2 _ (List.getElem_mem hlt)
theorem values_ok {s : List Int} {m : Md} {env : List Int} (hm : MOk s m) (he : EOk m env) : ∀ l : List Tm, Tm.wfs s l = true → ∀ (i : Int) (k : Nat), 0 ≤ i → i < m.size ^ k → 0 ≤ values m env i l ∧ values m env i l < m.size ^ (k + l.length)
  | [], _, i, k, h0, h1 => ⟨h0, h1⟩
  | a :: l, h, i, k, h0, h1 => by
    simp only [Tm.wfs, Bool.and_eq_true] at h
    obtain ⟨g0, g1⟩ := value_ok hm he a h.1
    have hs := hm.one
    have e : m.size ^ (k + 1) = m.size ^ k * m.size := Int.pow_succ ..
    have h2 : (i + 1) * m.size ≤ m.size ^ k * m.size := Int.mul_le_mul_of_nonneg_right (by omega) (by omega)
    have h3 : 0 ≤ i * m.size := Int.mul_nonneg h0 (by omega)
    rw [Int.add_mul, Int.one_mul] at h2
    obtain ⟨r0, r1⟩ := values_ok hm he l h.2 (i * m.size + value m env a) (k + 1) (by omega) (by omega)
    refine ⟨r0, ?_⟩
    simp only [values, List.length_cons]
    rw [show k + (l.length + 1) = k + 1 + l.length by omega]
    exact r1
end
def clWf (s : List Int) (c : List Lt) : Prop := ∀ l ∈ c, l.left.wf s = true ∧ l.right.wf s = true
def clVars : List Int → List Lt → List Int
  | acc, [] => acc
  | acc, l :: c => clVars (vars (vars acc l.left) l.right) c
def allE (m : Md) (c : List Lt) : List Int → List Int → Bool
  | env, [] => some_ m env c
  | env, v :: vs => (List.range m.size.toNat).all fun x => allE m c (env.set v.toNat (x : Int)) vs
def holds (m : Md) (c : List Lt) : Bool := allE m c [0, 0, 0, 0, 0] (clVars [] c)
def agree (e e' : List Int) (t : Tm) : Prop := ∀ v, times v t ≠ 0 → e.getD v.toNat 0 = e'.getD v.toNat 0
mutual
theorem value_agree {m : Md} {e e' : List Int} : ∀ t : Tm, t.okv = true → agree e e' t → value m e t = value m e' t
  | ⟨true, n, l⟩, hk, h => by
    simp only [value]
    exact h n (by simp [times])
  | ⟨false, n, l⟩, hk, h => by
    simp only [Tm.okv] at hk
    simp only [value]
    rw [values_agree l hk (fun a ha v hv => h v fun h0 => hv (times_sub ha h0)) 0]
theorem values_agree {m : Md} {e e' : List Int} : ∀ l : List Tm, Tm.okvs l = true → (∀ a ∈ l, agree e e' a) → ∀ i, values m e i l = values m e' i l
  | [], _, _, _ => rfl
  | a :: l, hk, h, i => by
    simp only [Tm.okvs, Bool.and_eq_true] at hk
    simp only [values]
    rw [value_agree a hk.1 (h a (by simp)), values_agree l hk.2 (fun b hb => h b (by simp [hb]))]
end
theorem mem_clVars_old {x : Int} : ∀ (c : List Lt) (acc : List Int), x ∈ acc → x ∈ clVars acc c
  | [], _, h => h
  | l :: c, _, h => mem_clVars_old c _ (vars_mem_old x l.right _ (vars_mem_old x l.left _ h))
theorem mem_clVars {x : Int} : ∀ (c : List Lt) (acc : List Int), (∀ l ∈ c, l.left.okv = true ∧ l.right.okv = true) → ∀ l ∈ c, (times x l.left ≠ 0 ∨ times x l.right ≠ 0) → x ∈ clVars acc c
  | [], _, _, l, hl, _ => by cases hl
  | k :: c, acc, hk, l, hl, hx => by
    have hk1 := hk k (by simp)
    rcases List.mem_cons.1 hl with rfl | hl
    · refine mem_clVars_old c _ ?_
      rcases hx with hx | hx
      · exact vars_mem_old x l.right _ (times_mem x l.left acc hk1.1 hx).1
      · exact (times_mem x l.right _ hk1.2 hx).1
    · exact mem_clVars c _ (fun a ha => hk a (by simp [ha])) l hl hx
mutual
theorem vars_sub (x : Int) : ∀ (t : Tm) (l : List Int), x ∈ vars l t → x ∈ l ∨ times x t ≠ 0
  | ⟨true, n, r⟩, l, h => by
    simp only [vars] at h
    split at h
    · exact .inl h
    · rcases List.mem_append.1 h with h | h
      · exact .inl h
      · simp only [List.mem_singleton] at h; subst h; right; simp [times]
  | ⟨false, n, r⟩, l, h => by
    simp only [vars] at h
    rcases varss_sub x r l h with h | h
    · exact .inl h
    · right; simpa [times] using h
theorem varss_sub (x : Int) : ∀ (r : List Tm) (l : List Int), x ∈ varss l r → x ∈ l ∨ timess x r ≠ 0
  | [], l, h => .inl h
  | a :: r, l, h => by
    simp only [varss] at h
    rcases varss_sub x r _ h with h | h
    · rcases vars_sub x a l h with h | h
      · exact .inl h
      · right; simp only [timess]; omega
    · right; simp only [timess]; omega
end
theorem clVars_sub {x : Int} : ∀ (c : List Lt) (acc : List Int), x ∈ clVars acc c → x ∈ acc ∨ ∃ l ∈ c, times x l.left ≠ 0 ∨ times x l.right ≠ 0
  | [], _, h => .inl h
  | l :: c, acc, h => by
    rcases clVars_sub c _ h with h | ⟨k, hk, h⟩
    · rcases vars_sub x l.right _ h with h | h
      · rcases vars_sub x l.left _ h with h | h
        · exact .inl h
        · exact .inr ⟨l, by simp, .inl h⟩
      · exact .inr ⟨l, by simp, .inr h⟩
    · exact .inr ⟨k, by simp [hk], h⟩
theorem times_wf {s : List Int} {t : Tm} (h : t.wf s = true) {v : Int} (hv : times v t ≠ 0) : 0 ≤ v ∧ v ≤ 4 := by
  have key : ∀ t : Tm, t.wf s = true → times v t ≠ 0 → 0 ≤ v ∧ v ≤ 4 := by
    refine Tm.ind ?_
    intro b n l ih h hv
    cases b
    · simp only [Tm.wf, Bool.and_eq_true] at h
      simp only [times, Bool.false_and, Bool.false_eq_true, if_false, Nat.zero_add] at hv
      obtain ⟨a, ha, hv⟩ := timess_pos hv
      exact ih a ha (Tm.wfs_iff.1 h.2 a ha) hv
    · simp only [Tm.wf, Bool.and_eq_true, List.isEmpty_iff, decide_eq_true_eq] at h
      obtain ⟨⟨rfl, h0⟩, h4⟩ := h
      have : n = v := by
        rcases Decidable.em (n = v) with h1 | h1
        · exact h1
        · simp [times, timess, h1] at hv
      omega
  exact key t h hv
theorem some_agree {m : Md} {e e' : List Int} {c : List Lt} (hk : ∀ l ∈ c, l.left.okv = true ∧ l.right.okv = true) (h : ∀ l ∈ c, agree e e' l.left ∧ agree e e' l.right) : some_ m e c = some_ m e' c := by
  unfold some_
  induction c with
  | nil => rfl
  | cons l c ih =>
    simp only [List.any_cons]
    rw [ih (fun a ha => hk a (by simp [ha])) (fun a ha => h a (by simp [ha]))]
    congr 1
    unfold lit
    rw [value_agree _ (hk l (by simp)).1 (h l (by simp)).1, value_agree _ (hk l (by simp)).2 (h l (by simp)).2]
theorem EOk.set {m : Md} {env : List Int} (h : EOk m env) {i : Nat} {x : Int} (h0 : 0 ≤ x) (h1 : x < m.size) : EOk m (env.set i x) := by
  refine ⟨by rw [List.length_set]; exact h.len, fun y hy => ?_⟩
  rcases List.mem_or_eq_of_mem_set hy with hy | rfl
  · exact h.mem y hy
  · exact ⟨h0, h1⟩
theorem allE_iff {m : Md} {c : List Lt} : ∀ (vs : List Int) (env : List Int), EOk m env → (∀ v ∈ vs, 0 ≤ v ∧ v ≤ 4) →
    (allE m c env vs = true ↔ ∀ env', EOk m env' → (∀ j : Nat, ¬ ((j : Int) ∈ vs) → env'.getD j 0 = env.getD j 0) → some_ m env' c = true)
  | [], env, he, _ => by
    simp only [allE]
    constructor
    · intro h env' he' hj
      have : env' = env := by
        apply List.ext_getElem (by rw [he.len, he'.len])
        intro i h1 h2
        have := hj i (by simp)
        rw [List.getD_eq_getElem?_getD, List.getD_eq_getElem?_getD, List.getElem?_eq_getElem h1, List.getElem?_eq_getElem h2] at this
        simpa using this
      rw [this]; exact h
    · intro h; exact h env he fun _ _ => rfl
  | v :: vs, env, he, hv => by
    have hv0 := hv v (by simp)
    have hvs : ∀ v ∈ vs, 0 ≤ v ∧ v ≤ 4 := fun v h => hv v (by simp [h])
    obtain ⟨k, rfl⟩ := Int.eq_ofNat_of_zero_le hv0.1
    simp only [allE, List.all_eq_true, List.mem_range, Int.toNat_natCast]
    constructor
    · intro h env' he' hj
      have hk := he'.at hv0.1 hv0.2
      rw [Int.toNat_natCast] at hk
      obtain ⟨x, hx⟩ := Int.eq_ofNat_of_zero_le hk.1
      have h1 := h x (by omega)
      refine (allE_iff vs _ (he.set (i := k) (x := (x : Int)) (by omega) (by omega)) hvs).1 h1 env' he' fun j hjv => ?_
      rcases Decidable.em (j = k) with rfl | hne
      · rw [hx, List.getD_eq_getElem?_getD, List.getElem?_set_self (by rw [he.len]; omega)]; rfl
      · rw [hj j (by simp; exact ⟨by omega, hjv⟩), List.getD_eq_getElem?_getD, List.getD_eq_getElem?_getD, List.getElem?_set_ne (Ne.symm hne)]
    · intro h x hx
      refine (allE_iff vs _ (he.set (i := k) (x := (x : Int)) (by omega) (by omega)) hvs).2 fun env' he' hj => h env' he' fun j hjv => ?_
      have hne : j ≠ k := fun e => hjv (by rw [e]; simp)
      rw [hj j fun hm => hjv (by simp [hm]), List.getD_eq_getElem?_getD, List.getD_eq_getElem?_getD, List.getElem?_set_ne (Ne.symm hne)]
theorem EOk.zero {s : List Int} {m : Md} (hm : MOk s m) : EOk m [0, 0, 0, 0, 0] := by
  have := hm.one
  refine ⟨rfl, fun x hx => ?_⟩
  simp at hx; subst hx; omega
theorem clWf.okv {s : List Int} {c : List Lt} (h : clWf s c) : ∀ l ∈ c, l.left.okv = true ∧ l.right.okv = true := fun l hl => ⟨Tm.wf_okv _ (h l hl).1, Tm.wf_okv _ (h l hl).2⟩
theorem clVars_range {s : List Int} {c : List Lt} (h : clWf s c) : ∀ v ∈ clVars [] c, 0 ≤ v ∧ v ≤ 4 := fun v hv => by
  rcases clVars_sub c [] hv with hv | ⟨l, hl, hv | hv⟩
  · cases hv
  · exact times_wf (h l hl).1 hv
  · exact times_wf (h l hl).2 hv
theorem holds_iff {s : List Int} {m : Md} {c : List Lt} (hm : MOk s m) (hc : clWf s c) : holds m c = true ↔ ∀ env, EOk m env → some_ m env c = true := by
  unfold holds
  rw [allE_iff _ _ (EOk.zero hm) (clVars_range hc)]
  constructor
  · intro h env he
    -- the part of env that counts
    let env' : List Int := (List.range 5).map fun (j : Nat) => if (j : Int) ∈ clVars [] c then env.getD j 0 else 0
    have hone := hm.one
    have hg : ∀ j : Nat, j < 5 → env'.getD j 0 = if (j : Int) ∈ clVars [] c then env.getD j 0 else 0 := fun j hj => by
      simp only [env', List.getD_eq_getElem?_getD, List.getElem?_map, List.getElem?_range hj, Option.map_some, Option.getD_some]
    have he' : EOk m env' := by
      refine ⟨by simp [env'], fun x hx => ?_⟩
      simp only [env', List.mem_map, List.mem_range] at hx
      obtain ⟨j, hj, rfl⟩ := hx
      split
      · have := he.at (n := (j : Int)) (by omega) (by omega); simpa using this
      · omega
    have h1 := h env' he' fun j hj => by
      rcases Nat.lt_or_ge j 5 with h5 | h5
      · rw [hg j h5, if_neg hj]
        rcases (show j = 0 ∨ j = 1 ∨ j = 2 ∨ j = 3 ∨ j = 4 by omega) with rfl | rfl | rfl | rfl | rfl <;> rfl
      · rw [List.getD_eq_getElem?_getD, List.getD_eq_getElem?_getD, List.getElem?_eq_none (by simp [env']; omega), List.getElem?_eq_none (by simp; omega)]
    rw [← h1]
    have hag : ∀ v, 0 ≤ v ∧ v ≤ 4 → v ∈ clVars [] c → env.getD v.toNat 0 = env'.getD v.toNat 0 := fun v hv hm => by
      rw [hg v.toNat (by omega), if_pos (by rw [Int.toNat_of_nonneg hv.1]; exact hm)]
    refine some_agree hc.okv fun l hl => ⟨fun v hv => ?_, fun v hv => ?_⟩
    · exact hag v (times_wf (hc l hl).1 hv) (mem_clVars c [] hc.okv l hl (.inl hv))
    · exact hag v (times_wf (hc l hl).2 hv) (mem_clVars c [] hc.okv l hl (.inr hv))
  · intro h env' he' _; exact h env' he'
def each (f : Tm → Tm) (c : List Lt) : List Lt := c.map fun l => ⟨l.neg, f l.left, f l.right⟩
def subWf (s : List Int) (by_ : List Pr) : Prop := ∀ p ∈ by_, p.2.wf s = true
theorem appV_wf {s : List Int} {by_ : List Pr} (h : subWf s by_) {v : Int} (h0 : 0 ≤ v) (h4 : v ≤ 4) : (appV by_ v).wf s = true := by
  unfold appV
  rw [app_var]
  cases hf : findS by_ v with
  | none => simp [Tm.wf, h0, h4]
  | some u => obtain ⟨p, hp, _, rfl⟩ := findS_mem hf; exact h p hp
mutual
theorem app_wf {s : List Int} {by_ : List Pr} (h : subWf s by_) : ∀ t : Tm, t.wf s = true → (app by_ t).wf s = true
  | ⟨true, n, l⟩, hk => by
    simp only [Tm.wf, Bool.and_eq_true, List.isEmpty_iff, decide_eq_true_eq] at hk
    obtain ⟨⟨rfl, h0⟩, h4⟩ := hk
    exact appV_wf h h0 h4
  | ⟨false, n, l⟩, hk => by
    simp only [Tm.wf, Bool.and_eq_true, decide_eq_true_eq] at hk
    rw [app_sym]
    simp only [Tm.wf, Bool.and_eq_true, decide_eq_true_eq, List.length_map]
    exact ⟨hk.1, apps_wf h l hk.2⟩
theorem apps_wf {s : List Int} {by_ : List Pr} (h : subWf s by_) : ∀ l : List Tm, Tm.wfs s l = true → Tm.wfs s (l.map (app by_)) = true
  | [], _ => rfl
  | a :: l, hk => by
    simp only [Tm.wfs, Bool.and_eq_true] at hk
    simp only [List.map_cons, Tm.wfs, app_wf h a hk.1, apps_wf h l hk.2, Bool.and_self]
end
theorem lit_not (m : Md) (e : List Int) (l : Lt) : lit m e ⟨!l.neg, l.left, l.right⟩ = !lit m e l := by
  unfold lit
  cases l.neg <;> cases (value m e l.left == value m e l.right) <;> rfl
theorem holds_or {s : List Int} {m : Md} {l : Lt} (hm : MOk s m) (hl : clWf s [l]) : holds m [l, ⟨!l.neg, l.left, l.right⟩] = true := by
  have hl' := hl l (by simp)
  rw [holds_iff hm (by intro k hk; simp only [List.mem_cons, List.not_mem_nil, or_false] at hk; rcases hk with rfl | rfl <;> exact hl')]
  intro env he
  simp only [some_, List.any_cons, List.any_nil, Bool.or_false, lit_not]
  cases lit m env l <;> rfl
end Go.Proofs.YtmanhdacnkpclaaGreat
/- Models, plainly: things for all variables. -/
namespace Go.Proofs.YtmanhdacnkpclaaGreat
set_option linter.unusedVariables false
set_option linter.unusedSimpArgs false
mutual
def valueF (m : Md) (e : Int → Int) : Tm → Int
  | ⟨true, n, _⟩ => e n
  | ⟨false, n, l⟩ => (m.tables.getD n.toNat []).getD (valuesF m e 0 l).toNat 0
def valuesF (m : Md) (e : Int → Int) : Int → List Tm → Int
  | at_, [] => at_
  | at_, a :: l => valuesF m e (at_ * m.size + valueF m e a) l
end
def litF (m : Md) (e : Int → Int) (l : Lt) : Bool := (valueF m e l.left == valueF m e l.right) != l.neg
def someF (m : Md) (e : Int → Int) (c : List Lt) : Bool := c.any (litF m e)
mutual
def Tm.ar (s : List Int) : Tm → Bool
  | ⟨true, n, l⟩ => l.isEmpty && decide (0 ≤ n) && decide (n ≤ 1000000)
  | ⟨false, n, l⟩ => decide (0 ≤ n) && decide (n < (s.length : Int)) && decide ((l.length : Int) = s.getD n.toNat 0) && Tm.ars s l
def Tm.ars (s : List Int) : List Tm → Bool
  | [] => true
  | a :: l => Tm.ar s a && Tm.ars s l
end
theorem Tm.ars_iff {s : List Int} : ∀ {l : List Tm}, Tm.ars s l = true ↔ ∀ t ∈ l, t.ar s = true
  | [] => by simp [Tm.ars]
  | a :: l => by simp [Tm.ars, Tm.ars_iff (l := l)]
mutual
theorem Tm.ar_okv {s : List Int} : ∀ (t : Tm), t.ar s = true → t.okv = true
  | ⟨true, n, l⟩, h => h
  | ⟨false, n, l⟩, h => by
    simp only [Tm.ar, Tm.okv, Bool.and_eq_true] at h ⊢
    exact Tm.ars_okvs l h.2
theorem Tm.ars_okvs {s : List Int} : ∀ (l : List Tm), Tm.ars s l = true → Tm.okvs l = true
  | [], _ => rfl
  | a :: l, h => by
    simp only [Tm.ars, Tm.okvs, Bool.and_eq_true] at h ⊢
    exact ⟨Tm.ar_okv a h.1, Tm.ars_okvs l h.2⟩
end
mutual
theorem Tm.wf_ar {s : List Int} : ∀ (t : Tm), t.wf s = true → t.ar s = true
  | ⟨true, n, l⟩, h => by
    simp only [Tm.wf, Tm.ar, Bool.and_eq_true, decide_eq_true_eq] at h ⊢
    exact ⟨h.1, by omega⟩
  | ⟨false, n, l⟩, h => by
    simp only [Tm.wf, Tm.ar, Bool.and_eq_true] at h ⊢
    exact ⟨h.1, Tm.wfs_ars l h.2⟩
theorem Tm.wfs_ars {s : List Int} : ∀ (l : List Tm), Tm.wfs s l = true → Tm.ars s l = true
  | [], _ => rfl
  | a :: l, h => by
    simp only [Tm.wfs, Tm.ars, Bool.and_eq_true] at h ⊢
    exact ⟨Tm.wf_ar a h.1, Tm.wfs_ars l h.2⟩
end
theorem Tm.ar_wf {s : List Int} : ∀ t : Tm, t.ar s = true → (∀ v, times v t ≠ 0 → v ≤ 4) → t.wf s = true := by
  refine Tm.ind ?_
  intro b n l ih h hv
  cases b
  · simp only [Tm.wf, Tm.ar, Bool.and_eq_true] at h ⊢
    exact ⟨h.1, Tm.wfs_iff.2 fun a ha => ih a ha (Tm.ars_iff.1 h.2 a ha) fun v hv' => hv v fun h0 => hv' (times_sub ha h0)⟩
  · simp only [Tm.wf, Tm.ar, Bool.and_eq_true, decide_eq_true_eq] at h ⊢
    exact ⟨h.1, hv n (by simp [times])⟩
def FOk (m : Md) (e : Int → Int) : Prop := ∀ v, 0 ≤ e v ∧ e v < m.size
mutual
theorem valueF_ok {s : List Int} {m : Md} {e : Int → Int} (hm : MOk s m) (he : FOk m e) : ∀ t : Tm, t.ar s = true → 0 ≤ valueF m e t ∧ valueF m e t < m.size
  | ⟨true, n, l⟩, h => he n
  | ⟨false, n, l⟩, h => by
    simp only [Tm.ar, Bool.and_eq_true, decide_eq_true_eq] at h
    obtain ⟨⟨⟨h0, h1⟩, h2⟩, h3⟩ := h
    have hn : n.toNat < s.length := by omega
    obtain ⟨g1, g2⟩ := hm.row n.toNat s[n.toNat] (List.getElem?_eq_getElem hn)
    rw [List.getD_eq_getElem?_getD, List.getElem?_eq_getElem hn] at h2
    simp only [Option.getD_some] at h2
    have g3 := valuesF_ok hm he l h3 0 0 (by omega) (by simp)
    rw [Nat.zero_add] at g3
    have h4 : want m.size s[n.toNat] = m.size ^ l.length := by unfold want; congr 1; omega
    rw [h4] at g1
    have hlt : (valuesF m e 0 l).toNat < (m.tables.getD n.toNat []).length := by omega
    simp only [valueF]
    have : (m.tables.getD n.toNat []).getD (valuesF m e 0 l).toNat 0 = (m.tables.getD n.toNat [])[(valuesF m e 0 l).toNat] := by
      generalize m.tables.getD n.toNat [] = row at *
      rw [List.getD_eq_getElem?_getD, List.getElem?_eq_getElem hlt]; rfl
    rw [this]
    exact g2 _ (List.getElem_mem hlt)
theorem valuesF_ok {s : List Int} {m : Md} {e : Int → Int} (hm : MOk s m) (he : FOk m e) : ∀ l : List Tm, Tm.ars s l = true → ∀ (i : Int) (k : Nat), 0 ≤ i → i < m.size ^ k → 0 ≤ valuesF m e i l ∧ valuesF m e i l < m.size ^ (k + l.length)
  | [], _, i, k, h0, h1 => ⟨h0, h1⟩
  | a :: l, h, i, k, h0, h1 => by
    simp only [Tm.ars, Bool.and_eq_true] at h
    obtain ⟨g0, g1⟩ := valueF_ok hm he a h.1
    have hs := hm.one
    have e : m.size ^ (k + 1) = m.size ^ k * m.size := Int.pow_succ ..
    have h2 : (i + 1) * m.size ≤ m.size ^ k * m.size := Int.mul_le_mul_of_nonneg_right (by omega) (by omega)
    have h3 : 0 ≤ i * m.size := Int.mul_nonneg h0 (by omega)
    rw [Int.add_mul, Int.one_mul] at h2
    obtain ⟨r0, r1⟩ := valuesF_ok hm he l h.2 (i * m.size + valueF m ‹_› a) (k + 1) (by omega) (by omega)
    refine ⟨r0, ?_⟩
    simp only [valuesF, List.length_cons]
    rw [show k + (l.length + 1) = k + 1 + l.length by omega]
    exact r1
end
mutual
theorem valueF_app {m : Md} {by_ : List Pr} {e : Int → Int} : ∀ t : Tm, t.okv = true → valueF m e (app by_ t) = valueF m (fun v => valueF m e (appV by_ v)) t
  | ⟨true, n, l⟩, hk => by
    simp only [Tm.okv, Bool.and_eq_true, List.isEmpty_iff] at hk
    obtain ⟨⟨rfl, _⟩, _⟩ := hk
    simp only [valueF]; rfl
  | ⟨false, n, l⟩, hk => by
    simp only [Tm.okv] at hk
    rw [app_sym]
    simp only [valueF]
    rw [valuesF_app l hk]
theorem valuesF_app {m : Md} {by_ : List Pr} {e : Int → Int} : ∀ l : List Tm, Tm.okvs l = true → ∀ i, valuesF m e i (l.map (app by_)) = valuesF m (fun v => valueF m e (appV by_ v)) i l
  | [], _, _ => rfl
  | a :: l, hk, i => by
    simp only [Tm.okvs, Bool.and_eq_true] at hk
    simp only [List.map_cons, valuesF]
    rw [valueF_app a hk.1, valuesF_app l hk.2]
end
def validF (m : Md) (c : List Lt) : Prop := ∀ e, FOk m e → someF m e c = true
def clAr (s : List Int) (c : List Lt) : Prop := ∀ l ∈ c, l.left.ar s = true ∧ l.right.ar s = true
def clOkv (c : List Lt) : Prop := ∀ l ∈ c, l.left.okv = true ∧ l.right.okv = true
def subAr (s : List Int) (by_ : List Pr) : Prop := ∀ p ∈ by_, p.2.ar s = true
theorem clWf.ar {s : List Int} {c : List Lt} (h : clWf s c) : clAr s c := fun l hl => ⟨Tm.wf_ar _ (h l hl).1, Tm.wf_ar _ (h l hl).2⟩
theorem clAr.okv {s : List Int} {c : List Lt} (h : clAr s c) : clOkv c := fun l hl => ⟨Tm.ar_okv _ (h l hl).1, Tm.ar_okv _ (h l hl).2⟩
theorem appV_val {s : List Int} {m : Md} {by_ : List Pr} (hm : MOk s m) (hb : subAr s by_) {e : Int → Int} (he : FOk m e) : FOk m fun v => valueF m e (appV by_ v) := fun v => by
  simp only [appV]
  rw [app_var]
  cases hf : findS by_ v with
  | none => exact he v
  | some u => obtain ⟨p, hp, _, rfl⟩ := findS_mem hf; exact valueF_ok hm he _ (hb p hp)
theorem someF_by {m : Md} {by_ : List Pr} {e : Int → Int} {c : List Lt} (hc : clOkv c) : someF m e (each (app by_) c) = someF m (fun v => valueF m e (appV by_ v)) c := by
  unfold someF each
  induction c with
  | nil => rfl
  | cons l c ih =>
    simp only [List.map_cons, List.any_cons]
    rw [ih fun a ha => hc a (by simp [ha])]
    congr 1
    unfold litF
    have hl := hc l (by simp)
    simp only [valueF_app _ hl.1, valueF_app _ hl.2]
theorem validF_by {s : List Int} {m : Md} {by_ : List Pr} {c : List Lt} (hm : MOk s m) (hb : subAr s by_) (hc : clOkv c) (h : validF m c) : validF m (each (app by_) c) := fun e he => by
  rw [someF_by hc]
  exact h _ (appV_val hm hb he)
mutual
theorem app_ar {s : List Int} {by_ : List Pr} (h : subAr s by_) : ∀ t : Tm, t.ar s = true → (app by_ t).ar s = true
  | ⟨true, n, l⟩, hk => by
    rw [app_var]
    cases hf : findS by_ n with
    | none => exact hk
    | some u => obtain ⟨p, hp, _, rfl⟩ := findS_mem hf; exact h p hp
  | ⟨false, n, l⟩, hk => by
    simp only [Tm.ar, Bool.and_eq_true, decide_eq_true_eq] at hk
    rw [app_sym]
    simp only [Tm.ar, Bool.and_eq_true, decide_eq_true_eq, List.length_map]
    exact ⟨hk.1, apps_ar h l hk.2⟩
theorem apps_ar {s : List Int} {by_ : List Pr} (h : subAr s by_) : ∀ l : List Tm, Tm.ars s l = true → Tm.ars s (l.map (app by_)) = true
  | [], _ => rfl
  | a :: l, hk => by
    simp only [Tm.ars, Bool.and_eq_true] at hk
    simp only [List.map_cons, Tm.ars, app_ar h a hk.1, apps_ar h l hk.2, Bool.and_self]
end
theorem each_ar {s : List Int} {by_ : List Pr} (h : subAr s by_) {c : List Lt} (hc : clAr s c) : clAr s (each (app by_) c) := fun l hl => by
  simp only [each, List.mem_map] at hl
  obtain ⟨k, hk, rfl⟩ := hl
  exact ⟨app_ar h _ (hc k hk).1, app_ar h _ (hc k hk).2⟩
end Go.Proofs.YtmanhdacnkpclaaGreat
/- Clauses as they are kept, plainly. -/
namespace Go.Proofs.YtmanhdacnkpclaaGreat
set_option linter.unusedVariables false
set_option linter.unusedSimpArgs false
def orient1 (l : Lt) : Lt := if above l.right l.left then ⟨l.neg, l.right, l.left⟩ else l
def orients : List Lt → Option (List Lt)
  | [] => some []
  | l :: c => if l.left.same l.right then (if l.neg then orients c else none) else match orients c with
    | some o => some (orient1 l :: o)
    | none => none
def numbF : Nat → List Int → List Pr
  | _, [] => []
  | i, v :: vs => (v, ⟨true, (i : Int), []⟩) :: numbF (i + 1) vs
def numb (vs : List Int) : List Pr := numbF 0 vs
def like (a b : Lt) : Bool := (a.left.same b.left && a.right.same b.right) || (a.left.same b.right && a.right.same b.left)
def hasS (once : List Lt) (l : Lt) : Bool := once.any fun y => like l y && (y.neg == l.neg)
def hasN (once : List Lt) (l : Lt) : Bool := once.any fun y => like l y && (y.neg != l.neg)
def dedup : List Lt → List Lt → Option (List Lt)
  | once, [] => some once
  | once, l :: c => if hasS once l then dedup once c else if hasN once l then none else dedup (once ++ [l]) c
def bigCl (d : List Lt) : Bool := d.any fun l => decide (12 < l.left.size ∨ 12 < l.right.size)
def norm (c : List Lt) : List Lt × Int := match orients c with
  | none => ([], 6)
  | some o => match dedup [] (each (app (numb (clVars [] o))) o) with
    | none => ([], 6)
    | some d => if 4 < d.length ∨ 5 < (clVars [] o).length ∨ bigCl d = true then ([], 4) else (d, 0)
/- orients -/
theorem litF_neg {m : Md} {e : Int → Int} {l : Lt} (h : l.left.same l.right = true) : litF m e l = !l.neg := by
  have := (Tm.same_iff _ _).1 h
  unfold litF
  rw [this]; cases l.neg <;> simp
theorem litF_orient (m : Md) (e : Int → Int) (l : Lt) : litF m e (orient1 l) = litF m e l := by
  unfold orient1
  split
  · unfold litF
    simp only
    rw [Bool.eq_iff_iff]
    cases l.neg
    · simp only [bne_iff_ne, ne_eq, beq_iff_eq, Bool.not_eq_false]
      exact eq_comm
    · simp only [bne_iff_ne, ne_eq, beq_iff_eq]
      exact not_congr eq_comm
  · rfl
theorem orients_some : ∀ {c o : List Lt}, orients c = some o → ∀ m e, someF m e o = someF m e c
  | [], o, h, m, e => by simp only [orients] at h; injection h with h; subst h; rfl
  | l :: c, o, h, m, e => by
    simp only [orients] at h
    split at h
    · rename_i hs
      split at h
      · rename_i hn
        have := orients_some h m e
        rw [this]
        show someF m e c = (litF m e l || someF m e c)
        rw [litF_neg hs, hn]; rfl
      · cases h
    · split at h
      · rename_i o' ho
        injection h with h; subst h
        have := orients_some ho m e
        show (litF m e (orient1 l) || someF m e o') = (litF m e l || someF m e c)
        rw [this, litF_orient]
      · cases h
def Ori (l : Lt) : Prop := l.left ≠ l.right ∧ above l.right l.left = false
theorem orient1_ori {l : Lt} (hk : l.left.okv = true ∧ l.right.okv = true) (h : l.left.same l.right = false) : Ori (orient1 l) := by
  have hne : l.left ≠ l.right := fun e => by rw [(Tm.same_iff _ _).2 e] at h; cases h
  unfold orient1
  split
  · rename_i ha
    exact ⟨Ne.symm hne, above_asymm hk.2 hk.1 ha⟩
  · rename_i ha
    exact ⟨hne, by simpa using ha⟩
theorem orients_mem : ∀ {c o : List Lt}, orients c = some o → ∀ l ∈ o, ∃ k ∈ c, k.left.same k.right = false ∧ l = orient1 k
  | [], o, h, l, hl => by simp only [orients] at h; injection h with h; subst h; cases hl
  | k :: c, o, h, l, hl => by
    simp only [orients] at h
    split at h
    · split at h
      · obtain ⟨j, hj, h2⟩ := orients_mem h l hl; exact ⟨j, by simp [hj], h2⟩
      · cases h
    · rename_i hs
      split at h
      · rename_i o' ho
        injection h with h; subst h
        rcases List.mem_cons.1 hl with rfl | hl
        · exact ⟨k, by simp, by simpa using hs, rfl⟩
        · obtain ⟨j, hj, h2⟩ := orients_mem ho l hl; exact ⟨j, by simp [hj], h2⟩
      · cases h
theorem orients_len : ∀ {c o : List Lt}, orients c = some o → o.length ≤ c.length
  | [], o, h => by simp only [orients] at h; injection h with h; subst h; simp
  | k :: c, o, h => by
    simp only [orients] at h
    split at h
    · split at h
      · have := orients_len h; simp; omega
      · cases h
    · split at h
      · rename_i o' ho
        injection h with h; subst h
        have := orients_len ho; simp; omega
      · cases h
theorem orient1_two (l : Lt) : (orient1 l).left = l.left ∧ (orient1 l).right = l.right ∨ (orient1 l).left = l.right ∧ (orient1 l).right = l.left := by
  unfold orient1; split <;> simp
theorem orients_id : ∀ {d : List Lt}, (∀ l ∈ d, Ori l) → orients d = some d
  | [], _ => rfl
  | l :: d, h => by
    obtain ⟨h1, h2⟩ := h l (by simp)
    simp only [orients]
    rw [same_false h1, orients_id fun k hk => h k (by simp [hk])]
    simp [orient1, h2]
/- dedup -/
theorem like_iff {a b : Lt} : like a b = true ↔ (a.left = b.left ∧ a.right = b.right) ∨ (a.left = b.right ∧ a.right = b.left) := by
  simp [like, Tm.same_iff]
theorem litF_like {m : Md} {e : Int → Int} {a b : Lt} (h : like a b = true) : litF m e a = if a.neg = b.neg then litF m e b else !litF m e b := by
  have h1 : (valueF m e a.left == valueF m e a.right) = (valueF m e b.left == valueF m e b.right) := by
    rcases like_iff.1 h with ⟨h1, h2⟩ | ⟨h1, h2⟩
    · rw [h1, h2]
    · rw [h1, h2, Bool.eq_iff_iff]; simp only [beq_iff_eq]; exact eq_comm
  unfold litF
  rw [h1]
  cases a.neg <;> cases b.neg <;> cases (valueF m e b.left == valueF m e b.right) <;> rfl
theorem dedup_some : ∀ {c once d : List Lt}, dedup once c = some d → ∀ m e, someF m e d = (someF m e once || someF m e c)
  | [], once, d, h, m, e => by simp only [dedup] at h; injection h with h; subst h; simp [someF]
  | l :: c, once, d, h, m, e => by
    simp only [dedup] at h
    show _ = (someF m e once || (litF m e l || someF m e c))
    split at h
    · rename_i hs
      rw [dedup_some h m e]
      simp only [hasS, List.any_eq_true, Bool.and_eq_true, beq_iff_eq] at hs
      obtain ⟨y, hy, hly, hn⟩ := hs
      have h1 : litF m e l = litF m e y := by rw [litF_like hly, if_pos hn.symm]
      cases hl : litF m e l
      · simp
      · have : someF m e once = true := List.any_eq_true.2 ⟨y, hy, by rw [← h1, hl]⟩
        simp [this]
    · split at h
      · cases h
      · rw [dedup_some h m e]
        simp only [someF, List.any_append, List.any_cons, List.any_nil, Bool.or_false, Bool.or_assoc]
theorem dedup_mem : ∀ {c once d : List Lt}, dedup once c = some d → ∀ l ∈ d, l ∈ once ∨ l ∈ c
  | [], once, d, h, l, hl => by simp only [dedup] at h; injection h with h; subst h; exact .inl hl
  | k :: c, once, d, h, l, hl => by
    simp only [dedup] at h
    split at h
    · rcases dedup_mem h l hl with h | h
      · exact .inl h
      · exact .inr (by simp [h])
    · split at h
      · cases h
      · rcases dedup_mem h l hl with h | h
        · rcases List.mem_append.1 h with h | h
          · exact .inl h
          · simp only [List.mem_singleton] at h; subst h; exact .inr (by simp)
        · exact .inr (by simp [h])
theorem dedup_len : ∀ {c once d : List Lt}, dedup once c = some d → d.length ≤ once.length + c.length
  | [], once, d, h => by simp only [dedup] at h; injection h with h; subst h; simp
  | k :: c, once, d, h => by
    simp only [dedup] at h
    split at h
    · have := dedup_len h; simp; omega
    · split at h
      · cases h
      · have := dedup_len h; simp at this ⊢; omega
def Lone (d : List Lt) : Prop := d.Pairwise fun a b => like b a = false
theorem dedup_lone : ∀ {c once d : List Lt}, Lone once → dedup once c = some d → Lone d
  | [], once, d, hl, h => by simp only [dedup] at h; injection h with h; subst h; exact hl
  | k :: c, once, d, hl, h => by
    simp only [dedup] at h
    split at h
    · exact dedup_lone hl h
    · rename_i h1
      split at h
      · cases h
      · rename_i h2
        refine dedup_lone ?_ h
        refine List.pairwise_append.2 ⟨hl, by simp, fun a ha b hb => ?_⟩
        simp only [List.mem_singleton] at hb
        subst hb
        cases hk : like b a
        · rfl
        · cases hn : (a.neg == b.neg)
          · exact absurd (List.any_eq_true.2 ⟨a, ha, by simp only [hk, Bool.true_and, bne, hn]; rfl⟩) h2
          · exact absurd (List.any_eq_true.2 ⟨a, ha, by simp only [hk, hn, Bool.and_self]⟩) h1
theorem dedup_id : ∀ {c once : List Lt}, Lone (once ++ c) → dedup once c = some (once ++ c)
  | [], once, _ => by simp [dedup]
  | k :: c, once, h => by
    have hk : ∀ y ∈ once, like k y = false := fun y hy => (List.pairwise_append.1 h).2.2 y hy k (by simp)
    have h1 : hasS once k = false := by
      unfold hasS; rw [List.any_eq_false]; intro y hy; rw [hk y hy]; simp
    have h2 : hasN once k = false := by
      unfold hasN; rw [List.any_eq_false]; intro y hy; rw [hk y hy]; simp
    simp only [dedup, h1, h2, Bool.false_eq_true, if_false]
    rw [dedup_id (by rw [List.append_assoc]; exact h), List.append_assoc]; rfl
/- variables of clauses -/
mutual
theorem vars_had : ∀ (t : Tm) (l : List Int), t.okv = true → (∀ v, times v t ≠ 0 → v ∈ l) → vars l t = l
  | ⟨true, n, r⟩, l, _, h => by
    simp only [vars]
    rw [if_pos (h n (by simp [times]))]
  | ⟨false, n, r⟩, l, hk, h => by
    simp only [Tm.okv] at hk
    simp only [vars]
    exact varss_had r l hk fun v hv => h v (by simpa [times] using hv)
theorem varss_had : ∀ (r : List Tm) (l : List Int), Tm.okvs r = true → (∀ v, timess v r ≠ 0 → v ∈ l) → varss l r = l
  | [], _, _, _ => rfl
  | a :: r, l, hk, h => by
    simp only [Tm.okvs, Bool.and_eq_true] at hk
    simp only [varss]
    rw [vars_had a l hk.1 fun v hv => h v (by simp only [timess]; omega)]
    exact varss_had r l hk.2 fun v hv => h v (by simp only [timess]; omega)
end
theorem clVars_append : ∀ (c d : List Lt) (acc : List Int), clVars acc (c ++ d) = clVars (clVars acc c) d
  | [], _, _ => rfl
  | l :: c, d, acc => by simp only [List.cons_append, clVars]; exact clVars_append c d _
theorem clVars_nodup : ∀ (c : List Lt) (acc : List Int), acc.Nodup → (clVars acc c).Nodup
  | [], _, h => h
  | _ :: c, _, h => clVars_nodup c _ (vars_nodup _ _ (vars_nodup _ _ h))
theorem clVars_dedup : ∀ {c once d : List Lt}, clOkv once → clOkv c → dedup once c = some d → clVars [] d = clVars [] (once ++ c)
  | [], once, d, _, _, h => by simp only [dedup] at h; injection h with h; subst h; simp
  | l :: c, once, d, ho, hc, h => by
    have hl := hc l (by simp)
    have hc' : clOkv c := fun k hk => hc k (by simp [hk])
    simp only [dedup] at h
    split at h
    · rename_i hs
      rw [clVars_dedup ho hc' h, clVars_append, clVars_append]
      simp only [clVars]
      simp only [hasS, List.any_eq_true, Bool.and_eq_true] at hs
      obtain ⟨y, hy, hly, _⟩ := hs
      have hin : ∀ v, (times v y.left ≠ 0 ∨ times v y.right ≠ 0) → v ∈ clVars [] once := fun v hv => mem_clVars once [] ho y hy hv
      have h1 : ∀ v, times v l.left ≠ 0 → v ∈ clVars [] once := fun v hv => by
        rcases like_iff.1 hly with ⟨e1, e2⟩ | ⟨e1, e2⟩
        · exact hin v (.inl (e1 ▸ hv))
        · exact hin v (.inr (e1 ▸ hv))
      have h2 : ∀ v, times v l.right ≠ 0 → v ∈ clVars [] once := fun v hv => by
        rcases like_iff.1 hly with ⟨e1, e2⟩ | ⟨e1, e2⟩
        · exact hin v (.inr (e2 ▸ hv))
        · exact hin v (.inl (e2 ▸ hv))
      rw [vars_had _ _ hl.1 h1, vars_had _ _ hl.2 h2]
    · split at h
      · cases h
      · rw [clVars_dedup (fun k hk => by
          rcases List.mem_append.1 hk with hk | hk
          · exact ho k hk
          · simp only [List.mem_singleton] at hk; subst hk; exact hl) hc' h]
        rw [List.append_assoc]; rfl
/- numbering -/
theorem numbF_find : ∀ (vs : List Int) (i : Nat) (v : Int), findS (numbF i vs) v = (vs.idxOf? v).map fun k => ⟨true, ((i + k : Nat) : Int), []⟩
  | [], i, v => rfl
  | a :: vs, i, v => by
    simp only [numbF, findS, List.idxOf?_cons]
    rcases Decidable.em (a = v) with rfl | h
    · simp
    · have : (a == v) = false := by simpa using h
      rw [if_neg h, this]
      rw [numbF_find vs (i + 1) v]
      cases List.idxOf? v vs with
      | none => rfl
      | some k => simp; omega
theorem idxOf_get : ∀ {vs : List Int} {v : Int} {k : Nat}, vs.idxOf? v = some k → vs[k]? = some v
  | [], _, _, h => by simp at h
  | a :: vs, v, k, h => by
    rw [List.idxOf?_cons] at h
    split at h
    · rename_i e; injection h with h; subst h; simp at e; simp [e]
    · cases hh : vs.idxOf? v with
      | none => rw [hh] at h; cases h
      | some j =>
        rw [hh] at h
        simp at h
        subst h
        simpa using idxOf_get hh
theorem idxOf_mem {vs : List Int} {v : Int} (h : v ∈ vs) : ∃ k, vs.idxOf? v = some k := by
  cases hh : vs.idxOf? v with
  | none => rw [List.idxOf?_eq_none_iff] at hh; exact absurd h hh
  | some k => exact ⟨k, rfl⟩
theorem numb_at {vs : List Int} {v : Int} (h : v ∈ vs) : ∃ k : Nat, vs[k]? = some v ∧ k < vs.length ∧ appV (numb vs) v = ⟨true, (k : Int), []⟩ := by
  obtain ⟨k, hk⟩ := idxOf_mem h
  have h1 := idxOf_get hk
  refine ⟨k, h1, (List.getElem?_eq_some_iff.1 h1).1, ?_⟩
  unfold appV numb
  rw [app_var, numbF_find, hk]
  simp
def back (vs : List Int) : List Pr := (List.range vs.length).map fun (k : Nat) => ((k : Int), ⟨true, vs.getD k 0, []⟩)
theorem findS_fn {f : Nat → Tm} : ∀ (l : List Nat) (k : Nat), k ∈ l → findS (l.map fun (k : Nat) => ((k : Int), f k)) (k : Int) = some (f k)
  | [], _, h => by cases h
  | a :: l, k, h => by
    simp only [List.map_cons, findS]
    rcases Decidable.em (a = k) with rfl | hne
    · simp
    · rw [if_neg (by omega)]
      exact findS_fn l k (by simpa [Ne.symm hne] using h)
theorem back_at {vs : List Int} {k : Nat} {v : Int} (h : vs[k]? = some v) : appV (back vs) (k : Int) = ⟨true, v, []⟩ := by
  have hk := (List.getElem?_eq_some_iff.1 h).1
  unfold appV back
  rw [app_var, findS_fn (f := fun k => ⟨true, vs.getD k 0, []⟩) _ k (by simpa using hk)]
  simp [List.getD, h]
theorem back_numb {vs : List Int} : ∀ t : Tm, t.okv = true → (∀ v, times v t ≠ 0 → v ∈ vs) → app (back vs) (app (numb vs) t) = t := by
  refine Tm.ind ?_
  intro b n l ih hk h
  cases b
  · simp only [Tm.okv] at hk
    rw [app_sym, app_sym, List.map_map]
    congr 1
    have : ∀ a ∈ l, (app (back vs) ∘ app (numb vs)) a = id a := fun a ha => ih a ha ((Tm.okvs_iff l).1 hk a ha) fun v hv => h v fun h0 => hv (times_sub ha h0)
    rw [List.map_congr_left this]; simp
  · simp only [Tm.okv, Bool.and_eq_true, List.isEmpty_iff] at hk
    obtain ⟨⟨rfl, _⟩, _⟩ := hk
    obtain ⟨k, h1, h2, h3⟩ := numb_at (h n (by simp [times]))
    show app (back vs) (appV (numb vs) n) = _
    rw [h3]
    exact back_at h1
theorem numb_ar (s : List Int) {vs : List Int} (hv : vs.length ≤ 1000000) : subAr s (numb vs) := by
  have : ∀ (vs : List Int) (i : Nat), i + vs.length ≤ 1000000 → subAr s (numbF i vs) := by
    intro vs
    induction vs with
    | nil => intro i _ p hp; cases hp
    | cons a vs ih =>
      intro i hi p hp
      simp only [List.length_cons] at hi
      simp only [numbF, List.mem_cons] at hp
      rcases hp with rfl | hp
      · simp [Tm.ar]; omega
      · exact ih (i + 1) (by omega) p hp
  exact this vs 0 (by omega)
theorem numb_okv {vs : List Int} (hv : vs.length ≤ 1000000) : ∀ p ∈ numb vs, p.2.okv = true := fun p hp => Tm.ar_okv _ (numb_ar [] hv p hp)
theorem back_ar (s : List Int) {vs : List Int} (hv : ∀ v ∈ vs, 0 ≤ v ∧ v ≤ 1000000) : subAr s (back vs) := fun p hp => by
  simp only [back, List.mem_map, List.mem_range] at hp
  obtain ⟨k, hk, rfl⟩ := hp
  have h1 : vs.getD k 0 = vs[k] := by simp [List.getD, List.getElem?_eq_getElem hk]
  have := hv vs[k] (List.getElem_mem hk)
  simp only [Tm.ar, h1]
  simp; omega
theorem back_okv {vs : List Int} (hv : ∀ v ∈ vs, 0 ≤ v ∧ v ≤ 1000000) : ∀ p ∈ back vs, p.2.okv = true := fun p hp => Tm.ar_okv _ (back_ar [] hv p hp)
theorem size_numb {vs : List Int} : ∀ t : Tm, t.okv = true → (∀ v, times v t ≠ 0 → v ∈ vs) → (app (numb vs) t).size = t.size := by
  refine Tm.ind ?_
  intro b n l ih hk h
  cases b
  · simp only [Tm.okv] at hk
    rw [app_sym]
    simp only [Tm.size]
    congr 1
    have key : ∀ l : List Tm, (∀ a ∈ l, (app (numb vs) a).size = a.size) → Tm.sizes (l.map (app (numb vs))) = Tm.sizes l := by
      intro l
      induction l with
      | nil => intro _; rfl
      | cons a l ih => intro h; simp only [List.map_cons, Tm.sizes, h a (by simp), ih fun b hb => h b (by simp [hb])]
    exact key l fun a ha => ih a ha ((Tm.okvs_iff l).1 hk a ha) fun v hv => h v fun h0 => hv (times_sub ha h0)
  · simp only [Tm.okv, Bool.and_eq_true, List.isEmpty_iff] at hk
    obtain ⟨⟨rfl, _⟩, _⟩ := hk
    obtain ⟨k, h1, h2, h3⟩ := numb_at (h n (by simp [times]))
    show (appV (numb vs) n).size = _
    rw [h3]; rfl
theorem nodup_le : ∀ (n : Nat) (L : List Int), L.Nodup → (∀ x ∈ L, 0 ≤ x ∧ x < n) → L.length ≤ n
  | 0, L, _, h => by
    cases L with
    | nil => simp
    | cons a L => have := h a (by simp); omega
  | n + 1, L, hd, h => by
    rcases Classical.em ((n : Int) ∈ L) with hm | hm
    · have h1 := nodup_le n (L.erase (n : Int)) (hd.erase _) fun x hx => by
        rw [hd.mem_erase_iff] at hx
        have := h x hx.2
        have := hx.1
        omega
      rw [List.length_erase_of_mem hm] at h1
      omega
    · have h1 := nodup_le n L hd fun x hx => by
        have := h x hx
        have : x ≠ (n : Int) := fun e => hm (e ▸ hx)
        omega
      omega
end Go.Proofs.YtmanhdacnkpclaaGreat
/- Clauses as they are kept, plainly: what is kept tells the same, and is kept as it is. -/
namespace Go.Proofs.YtmanhdacnkpclaaGreat
set_option linter.unusedVariables false
set_option linter.unusedSimpArgs false
def clFew (c : List Lt) : Prop := ∀ l ∈ c, few l.left ∧ few l.right
theorem orients_okv {c o : List Lt} (h : orients c = some o) (hc : clOkv c) : clOkv o := fun l hl => by
  obtain ⟨k, hk, _, rfl⟩ := orients_mem h l hl
  rcases orient1_two k with ⟨h1, h2⟩ | ⟨h1, h2⟩ <;> rw [h1, h2]
  · exact hc k hk
  · exact (hc k hk).symm
theorem orients_few {c o : List Lt} (h : orients c = some o) (hc : clFew c) : clFew o := fun l hl => by
  obtain ⟨k, hk, _, rfl⟩ := orients_mem h l hl
  rcases orient1_two k with ⟨h1, h2⟩ | ⟨h1, h2⟩ <;> rw [h1, h2]
  · exact hc k hk
  · exact (hc k hk).symm
theorem orients_ar {s : List Int} {c o : List Lt} (h : orients c = some o) (hc : clAr s c) : clAr s o := fun l hl => by
  obtain ⟨k, hk, _, rfl⟩ := orients_mem h l hl
  rcases orient1_two k with ⟨h1, h2⟩ | ⟨h1, h2⟩ <;> rw [h1, h2]
  · exact hc k hk
  · exact (hc k hk).symm
theorem orients_ori {c o : List Lt} (h : orients c = some o) (hc : clOkv c) : ∀ l ∈ o, Ori l := fun l hl => by
  obtain ⟨k, hk, h1, rfl⟩ := orients_mem h l hl
  exact orient1_ori (hc k hk) h1
theorem clVars_few {c : List Lt} (h : clFew c) : ∀ v ∈ clVars [] c, 0 ≤ v ∧ v ≤ 9 := fun v hv => by
  rcases clVars_sub c [] hv with hv | ⟨l, hl, hv | hv⟩
  · cases hv
  · exact (h l hl).1 v hv
  · exact (h l hl).2 v hv
theorem clVars_ten {c : List Lt} (h : clFew c) : (clVars [] c).length ≤ 10 := nodup_le 10 _ (clVars_nodup c [] List.nodup_nil) fun x hx => by
  have := clVars_few h x hx; omega
theorem each_each {f g : Tm → Tm} {c : List Lt} : each f (each g c) = each (fun t => f (g t)) c := by simp [each, List.map_map, Function.comp_def]
theorem each_id {f : Tm → Tm} {c : List Lt} (h : ∀ l ∈ c, f l.left = l.left ∧ f l.right = l.right) : each f c = c := by
  unfold each
  have : ∀ l ∈ c, (fun l : Lt => (⟨l.neg, f l.left, f l.right⟩ : Lt)) l = id l := fun l hl => by
    obtain ⟨h1, h2⟩ := h l hl
    simp only [h1, h2, id]
  rw [List.map_congr_left this]; simp
theorem back_each {c : List Lt} (hk : clOkv c) : each (app (back (clVars [] c))) (each (app (numb (clVars [] c))) c) = c := by
  rw [each_each]
  exact each_id fun l hl => ⟨back_numb _ (hk l hl).1 fun v hv => mem_clVars c [] hk l hl (.inl hv), back_numb _ (hk l hl).2 fun v hv => mem_clVars c [] hk l hl (.inr hv)⟩
theorem each_okv {by_ : List Pr} (h : ∀ p ∈ by_, p.2.okv = true) {c : List Lt} (hc : clOkv c) : clOkv (each (app by_) c) := fun l hl => by
  simp only [each, List.mem_map] at hl
  obtain ⟨k, hk, rfl⟩ := hl
  exact ⟨app_okv h _ (hc k hk).1, app_okv h _ (hc k hk).2⟩
theorem valid_numb {s : List Int} {m : Md} {o : List Lt} (hm : MOk s m) (hk : clOkv o) (hf : clFew o) : validF m (each (app (numb (clVars [] o))) o) ↔ validF m o := by
  have h10 := clVars_ten hf
  constructor
  · intro h
    have h1 := validF_by (by_ := back (clVars [] o)) hm (back_ar s fun v hv => by have := clVars_few hf v hv; omega) (each_okv (numb_okv (by omega)) hk) h
    rwa [back_each hk] at h1
  · exact validF_by hm (numb_ar s (by omega)) hk
def ix (vs : List Int) (v : Int) : Int := (((vs.idxOf? v).getD 0 : Nat) : Int)
theorem ix_numb {vs : List Int} {v : Int} (h : v ∈ vs) : appV (numb vs) v = ⟨true, ix vs v, []⟩ := by
  obtain ⟨k, hk⟩ := idxOf_mem h
  unfold appV numb ix
  rw [app_var, numbF_find, hk]
  simp
theorem ix_inj {vs : List Int} {v w : Int} (hv : v ∈ vs) (hw : w ∈ vs) (h : ix vs v = ix vs w) : v = w := by
  obtain ⟨k, hk⟩ := idxOf_mem hv
  obtain ⟨j, hj⟩ := idxOf_mem hw
  unfold ix at h
  rw [hk, hj] at h
  simp only [Option.getD_some] at h
  have : k = j := by omega
  subst this
  have h1 := idxOf_get hk
  rw [idxOf_get hj] at h1
  injection h1 with h1; exact h1.symm
mutual
theorem vars_ix {vs : List Int} : ∀ (t : Tm) (acc : List Int), t.okv = true → (∀ v, times v t ≠ 0 → v ∈ vs) → (∀ v ∈ acc, v ∈ vs) → vars (acc.map (ix vs)) (app (numb vs) t) = (vars acc t).map (ix vs)
  | ⟨true, n, l⟩, acc, hk, ht, ha => by
    simp only [Tm.okv, Bool.and_eq_true, List.isEmpty_iff] at hk
    obtain ⟨⟨rfl, _⟩, _⟩ := hk
    have hn := ht n (by simp [times])
    show vars _ (appV (numb vs) n) = _
    rw [ix_numb hn]
    simp only [vars]
    have : (ix vs n ∈ acc.map (ix vs)) ↔ n ∈ acc := by
      constructor
      · intro h
        obtain ⟨w, hw, e⟩ := List.mem_map.1 h
        rw [← ix_inj (ha w hw) hn e]; exact hw
      · exact fun h => List.mem_map.2 ⟨n, h, rfl⟩
    rcases Classical.em (n ∈ acc) with h | h
    · rw [if_pos (this.2 h), if_pos h]
    · rw [if_neg (fun h' => h (this.1 h')), if_neg h]; simp
  | ⟨false, n, l⟩, acc, hk, ht, ha => by
    simp only [Tm.okv] at hk
    rw [app_sym]
    simp only [vars]
    exact varss_ix l acc hk (fun v hv => ht v (by simpa [times] using hv)) ha
theorem varss_ix {vs : List Int} : ∀ (l : List Tm) (acc : List Int), Tm.okvs l = true → (∀ v, timess v l ≠ 0 → v ∈ vs) → (∀ v ∈ acc, v ∈ vs) → varss (acc.map (ix vs)) (l.map (app (numb vs))) = (varss acc l).map (ix vs)
  | [], _, _, _, _ => rfl
  | a :: l, acc, hk, ht, ha => by
    simp only [Tm.okvs, Bool.and_eq_true] at hk
    simp only [List.map_cons, varss]
    rw [vars_ix a acc hk.1 (fun v hv => ht v (by simp only [timess]; omega)) ha]
    refine varss_ix l _ hk.2 (fun v hv => ht v (by simp only [timess]; omega)) fun v hv => ?_
    rcases vars_sub v a acc hv with h | h
    · exact ha v h
    · exact ht v (by simp only [timess]; omega)
end
theorem clVars_ix {vs : List Int} : ∀ (c : List Lt) (acc : List Int), clOkv c → (∀ l ∈ c, ∀ v, (times v l.left ≠ 0 ∨ times v l.right ≠ 0) → v ∈ vs) → (∀ v ∈ acc, v ∈ vs) → clVars (acc.map (ix vs)) (each (app (numb vs)) c) = (clVars acc c).map (ix vs)
  | [], _, _, _, _ => rfl
  | l :: c, acc, hk, ht, ha => by
    have hl := hk l (by simp)
    have h1 : ∀ v ∈ vars acc l.left, v ∈ vs := fun v hv => by
      rcases vars_sub v _ acc hv with h | h
      · exact ha v h
      · exact ht l (by simp) v (.inl h)
    have h2 : ∀ v ∈ vars (vars acc l.left) l.right, v ∈ vs := fun v hv => by
      rcases vars_sub v _ _ hv with h | h
      · exact h1 v h
      · exact ht l (by simp) v (.inr h)
    show clVars (vars (vars (acc.map (ix vs)) (app (numb vs) l.left)) (app (numb vs) l.right)) (each (app (numb vs)) c) = _
    rw [vars_ix l.left acc hl.1 (fun v hv => ht l (by simp) v (.inl hv)) ha, vars_ix l.right _ hl.2 (fun v hv => ht l (by simp) v (.inr hv)) h1]
    exact clVars_ix c _ (fun k hk' => hk k (by simp [hk'])) (fun k hk' => ht k (by simp [hk'])) h2
theorem nodup_get {L : List Int} (hd : L.Nodup) {i j : Nat} {hi : i < L.length} {hj : j < L.length} (h : L[i] = L[j]) : i = j := by
  have hp := List.pairwise_iff_getElem.1 hd
  rcases Nat.lt_trichotomy i j with h1 | h1 | h1
  · exact absurd h (hp i j hi hj h1)
  · exact h1
  · exact absurd h.symm (hp j i hj hi h1)
theorem ix_self {vs : List Int} (hd : vs.Nodup) {k : Nat} (hk : k < vs.length) : ix vs vs[k] = (k : Int) := by
  obtain ⟨j, hj⟩ := idxOf_mem (List.getElem_mem hk)
  have h1 := idxOf_get hj
  obtain ⟨hjl, h2⟩ := List.getElem?_eq_some_iff.1 h1
  have : j = k := nodup_get hd h2
  unfold ix
  rw [hj]; simp [this]
def count (n : Nat) : List Int := (List.range n).map fun (k : Nat) => (k : Int)
theorem ix_all {vs : List Int} (hd : vs.Nodup) : vs.map (ix vs) = count vs.length := by
  apply List.ext_getElem
  · simp [count]
  · intro i h1 h2
    simp only [count, List.getElem_map, List.getElem_range]
    rw [List.length_map] at h1
    exact ix_self hd h1
theorem count_mem {n : Nat} {v : Int} : v ∈ count n ↔ 0 ≤ v ∧ v < n := by
  simp only [count, List.mem_map, List.mem_range]
  constructor
  · rintro ⟨k, hk, rfl⟩; omega
  · rintro ⟨h0, h1⟩; exact ⟨v.toNat, by omega, by omega⟩
theorem count_nodup (n : Nat) : (count n).Nodup := by
  refine List.pairwise_iff_getElem.2 fun i j hi hj hij => ?_
  simp only [count, List.getElem_map, List.getElem_range]
  omega
theorem numb_count {n : Nat} {v : Int} (h : v ∈ count n) : appV (numb (count n)) v = ⟨true, v, []⟩ := by
  rw [ix_numb h]
  obtain ⟨h0, h1⟩ := count_mem.1 h
  have hk : v.toNat < (count n).length := by simp [count]; omega
  have := ix_self (count_nodup n) hk
  have e : (count n)[v.toNat] = v := by simp [count]; omega
  rw [e] at this
  rw [this]
  congr 1
  omega
theorem app_count {n : Nat} : ∀ t : Tm, t.okv = true → (∀ v, times v t ≠ 0 → v ∈ count n) → app (numb (count n)) t = t := by
  refine Tm.ind ?_
  intro b k l ih hk h
  cases b
  · simp only [Tm.okv] at hk
    rw [app_sym]
    congr 1
    have : ∀ a ∈ l, app (numb (count n)) a = id a := fun a ha => ih a ha ((Tm.okvs_iff l).1 hk a ha) fun v hv => h v fun h0 => hv (times_sub ha h0)
    rw [List.map_congr_left this]; simp
  · simp only [Tm.okv, Bool.and_eq_true, List.isEmpty_iff] at hk
    obtain ⟨⟨rfl, _⟩, _⟩ := hk
    exact numb_count (h k (by simp [times]))
theorem bigCl_no {d : List Lt} (h : bigCl d = false) : ∀ l ∈ d, l.left.size ≤ 12 ∧ l.right.size ≤ 12 := fun l hl => by
  have := List.any_eq_false.1 h l hl
  simp only [decide_eq_true_eq] at this
  omega
theorem numb_var {vs : List Int} {t : Tm} (hk : t.okv = true) (ht : ∀ v, times v t ≠ 0 → v ∈ vs) {w : Int} (hw : times w (app (numb vs) t) ≠ 0) : 0 ≤ w ∧ w < vs.length := by
  rcases Classical.em (0 ≤ w ∧ w < vs.length) with h | h
  · exact h
  · refine absurd (times_app_zero t hk fun n hn => ?_) hw
    obtain ⟨k, h1, h2, h3⟩ := numb_at (ht n hn)
    rw [h3]
    have : (k : Int) ≠ w := fun e => h (by omega)
    simp [times, timess, this]
structure NormOk (c d : List Lt) : Prop where
  len : d.length ≤ 4
  size : ∀ l ∈ d, l.left.size ≤ 12 ∧ l.right.size ≤ 12
  again : norm d = (d, 0)
  wf : ∀ s, clAr s c → clWf s d
  valid : ∀ s m, MOk s m → (validF m c ↔ validF m d)
theorem norm_ok {c d : List Lt} (hk : clOkv c) (hf : clFew c) (h : norm c = (d, 0)) : NormOk c d := by
  unfold norm at h
  split at h
  · cases h
  · rename_i o ho
    split at h
    · cases h
    · rename_i d' hd
      split at h
      · cases h
      · rename_i hb
        injection h with h _
        subst h
        simp only [not_or, Bool.not_eq_true] at hb
        obtain ⟨hb1, hb2, hb3⟩ := hb
        have ko := orients_okv ho hk
        have fo := orients_few ho hf
        have h10 := clVars_ten fo
        have hnd := clVars_nodup o [] List.nodup_nil
        have hin : ∀ l ∈ o, ∀ v, (times v l.left ≠ 0 ∨ times v l.right ≠ 0) → v ∈ clVars [] o := fun l hl v hv => mem_clVars o [] ko l hl hv
        have hmem : ∀ l ∈ d', ∃ k ∈ o, l = ⟨k.neg, app (numb (clVars [] o)) k.left, app (numb (clVars [] o)) k.right⟩ := fun l hl => by
          rcases dedup_mem hd l hl with h | h
          · cases h
          · simp only [each, List.mem_map] at h
            obtain ⟨k, hk, e⟩ := h
            exact ⟨k, hk, e.symm⟩
        have ke : clOkv (each (app (numb (clVars [] o))) o) := each_okv (numb_okv (by omega)) ko
        have kd : clOkv d' := fun l hl => by
          rcases dedup_mem hd l hl with h | h
          · cases h
          · exact ke l h
        have hcv : clVars [] d' = count (clVars [] o).length := by
          rw [clVars_dedup (by intro l hl; cases hl) ke hd, List.nil_append]
          have := clVars_ix (vs := clVars [] o) o [] ko hin (by intro v hv; cases hv)
          rw [List.map_nil] at this
          rw [this, ix_all hnd]
        have hori : ∀ l ∈ d', Ori l := fun l hl => by
          obtain ⟨k, hk', rfl⟩ := hmem l hl
          obtain ⟨h1, h2⟩ := orients_ori ho hk k hk'
          have b1 := back_numb k.left (ko k hk').1 fun v hv => hin k hk' v (.inl hv)
          have b2 := back_numb k.right (ko k hk').2 fun v hv => hin k hk' v (.inr hv)
          refine ⟨fun e => h1 ?_, ?_⟩
          · simp only at e
            rw [← b1, ← b2, e]
          · simp only
            cases ha : above (app (numb (clVars [] o)) k.right) (app (numb (clVars [] o)) k.left)
            · rfl
            · have := above_app (σ := back (clVars [] o)) (back_okv fun v hv => by have := clVars_few fo v hv; omega) _ _ (app_okv (numb_okv (by omega)) _ (ko k hk').2) (app_okv (numb_okv (by omega)) _ (ko k hk').1) ha
              rw [b1, b2, h2] at this; cases this
        have hlone : Lone d' := dedup_lone List.Pairwise.nil hd
        refine ⟨by omega, bigCl_no hb3, ?_, fun s hs l hl => ?_, fun s m hm => ?_⟩
        · unfold norm
          rw [orients_id hori]
          simp only
          rw [hcv]
          have hself : each (app (numb (count (clVars [] o).length))) d' = d' := each_id fun l hl => by
            have kl := kd l hl
            have hv : ∀ v, (times v l.left ≠ 0 ∨ times v l.right ≠ 0) → v ∈ count (clVars [] o).length := fun v hv => by
              rw [← hcv]; exact mem_clVars d' [] kd l hl hv
            exact ⟨app_count _ kl.1 fun v h => hv v (.inl h), app_count _ kl.2 fun v h => hv v (.inr h)⟩
          rw [hself, dedup_id (once := []) hlone, List.nil_append]
          simp only
          rw [if_neg]
          simp only [not_or, Bool.not_eq_true]
          exact ⟨hb1, by simp [count]; omega, hb3⟩
        · have ha := orients_ar ho hs
          obtain ⟨k, hk', rfl⟩ := hmem l hl
          have hn := numb_ar s (vs := clVars [] o) (by omega)
          refine ⟨Tm.ar_wf _ (app_ar hn _ (ha k hk').1) fun v hv => ?_, Tm.ar_wf _ (app_ar hn _ (ha k hk').2) fun v hv => ?_⟩
          · have := numb_var (ko k hk').1 (fun v hv => hin k hk' v (.inl hv)) hv; omega
          · have := numb_var (ko k hk').2 (fun v hv => hin k hk' v (.inr hv)) hv; omega
        · have h1 : validF m c ↔ validF m o := by
            unfold validF
            constructor
            · intro h e he; rw [orients_some ho]; exact h e he
            · intro h e he; rw [← orients_some ho]; exact h e he
          have h2 : validF m d' ↔ validF m (each (app (numb (clVars [] o))) o) := by
            unfold validF
            constructor
            · intro h e he
              have := h e he
              rw [dedup_some hd] at this
              simpa [someF] using this
            · intro h e he
              rw [dedup_some hd]
              have := h e he
              simp [this]
          rw [h1, h2, valid_numb hm ko fo]
theorem norm_code (c : List Lt) : (norm c).2 = 0 ∨ (norm c).2 = 4 ∧ (norm c).1 = [] ∨ (norm c).2 = 6 ∧ (norm c).1 = [] := by
  unfold norm
  split
  · exact .inr (.inr ⟨rfl, rfl⟩)
  · split
    · exact .inr (.inr ⟨rfl, rfl⟩)
    · split
      · exact .inr (.inl ⟨rfl, rfl⟩)
      · exact .inl rfl
end Go.Proofs.YtmanhdacnkpclaaGreat
/- Clauses that come of others, plainly. -/
namespace Go.Proofs.YtmanhdacnkpclaaGreat
set_option linter.unusedVariables false
set_option linter.unusedSimpArgs false
def Lt.same (a b : Lt) : Bool := a.neg == b.neg && (a.left.same b.left && a.right.same b.right)
theorem Lt.same_iff {a b : Lt} : a.same b = true ↔ a = b := by
  obtain ⟨n, l, r⟩ := a
  obtain ⟨n', l', r'⟩ := b
  simp [Lt.same, Tm.same_iff]
def clSame : List Lt → List Lt → Bool
  | [], [] => true
  | a :: l, b :: l' => a.same b && clSame l l'
  | _, _ => false
theorem clSame_iff : ∀ {a b : List Lt}, clSame a b = true ↔ a = b
  | [], [] => by simp [clSame]
  | a :: l, b :: l' => by simp [clSame, Lt.same_iff, clSame_iff (a := l)]
  | [], _ :: _ => by simp [clSame]
  | _ :: _, [] => by simp [clSame]
abbrev Mk := List (List Lt) × Bool
def addR (m : Mk) (s : List Pr) (c : List Lt) : Mk := match norm (each (app s) c) with
  | (n, e) => if e = 4 then (m.1, true) else if e = 0 then (if m.1.any fun x => clSame x n then m else (m.1 ++ [n], m.2)) else m
def resolve1 (c : List Lt) (m : Mk) (i : Nat) : Mk := match c[i]? with
  | none => m
  | some l => if l.neg then (match unify l.left l.right with | some s => addR m s (c.eraseIdx i) | none => m) else m
def resolve (c : List Lt) : Mk := (List.range c.length).foldl (resolve1 c) ([], false)
def waysL (l : Lt) : List (Tm × Tm) := [(l.left, l.right), (l.right, l.left)]
def factor1 (rest : List Lt) (a : Tm × Tm) (m : Mk) (b : Tm × Tm) : Mk := match unify a.1 b.1 with
  | some s => addR m s (rest ++ [⟨true, a.2, b.2⟩])
  | none => m
def factor2 (rest : List Lt) (y : Lt) (m : Mk) (a : Tm × Tm) : Mk := (waysL y).foldl (factor1 rest a) m
def factor3 (c : List Lt) (i : Nat) (x : Lt) (m : Mk) (j : Nat) : Mk := match c[j]? with
  | none => m
  | some y => if x.neg || y.neg then m else (waysL x).foldl (factor2 (c.eraseIdx i) y) m
def factor4 (c : List Lt) (m : Mk) (i : Nat) : Mk := match c[i]? with
  | none => m
  | some x => ((List.range c.length).drop (i + 1)).foldl (factor3 c i x) m
def factor (c : List Lt) : Mk := (List.range c.length).foldl (factor4 c) ([], false)
mutual
def ren (k : Int) : Tm → Tm
  | ⟨true, n, l⟩ => ⟨true, n + k, l⟩
  | ⟨false, n, l⟩ => ⟨false, n, rens k l⟩
def rens (k : Int) : List Tm → List Tm
  | [] => []
  | a :: l => ren k a :: rens k l
end
theorem rens_eq (k : Int) : ∀ l, rens k l = l.map (ren k)
  | [] => rfl
  | a :: l => by simp [rens, rens_eq k l]
def turnL (yes : Bool) (l : Lt) : Lt := if yes then ⟨l.neg, l.right, l.left⟩ else l
def sup1 (a : Tm × Tm) (rest d : List Lt) (j : Nat) (y : Lt) (side : Bool) (w : Tm × Tm) (m : Mk) (p : List Int) : Mk := match unify a.1 (at_ w.1 p).1 with
  | none => m
  | some s => if above (app s a.2) (app s a.1) || above (app s w.2) (app s w.1) then m else addR m s (rest ++ d.set j (turnL side ⟨y.neg, put w.1 p a.2, w.2⟩))
def sup2 (a : Tm × Tm) (rest d : List Lt) (j : Nat) (y : Lt) (m : Mk) (side : Bool) : Mk :=
  (places (turnL side y).left).foldl (sup1 a rest d j y side ((turnL side y).left, (turnL side y).right)) m
def sup3 (a : Tm × Tm) (rest d : List Lt) (m : Mk) (j : Nat) : Mk := match d[j]? with
  | none => m
  | some y => [false, true].foldl (sup2 a rest d j y) m
def sup4 (rest d : List Lt) (m : Mk) (a : Tm × Tm) : Mk := if a.1.var then m else (List.range d.length).foldl (sup3 a rest d) m
def sup5 (c d : List Lt) (m : Mk) (i : Nat) : Mk := match c[i]? with
  | none => m
  | some l => if l.neg then m else (waysL l).foldl (sup4 (c.eraseIdx i) d) m
def supD (c d : List Lt) : Mk := (List.range c.length).foldl (sup5 c d) ([], false)
def sup (c d : List Lt) : Mk := supD c (each (ren 5) d)
theorem foldl_keep {α β : Type} {P : β → Prop} {f : β → α → β} : ∀ (l : List α) (b : β), P b → (∀ b a, a ∈ l → P b → P (f b a)) → P (l.foldl f b)
  | [], _, h, _ => h
  | a :: l, b, h, hf => foldl_keep l (f b a) (hf b a (by simp) h) fun b a' ha => hf b a' (by simp [ha])
def AllM (P : List Lt → Prop) (m : Mk) : Prop := ∀ c ∈ m.1, P c
def Each1 (m : Mk) : Prop := m.1.Nodup
theorem addR_keep {P : List Lt → Prop} {m : Mk} {s : List Pr} {c : List Lt} (h : AllM P m ∧ Each1 m) (hn : ∀ n, norm (each (app s) c) = (n, 0) → P n) : AllM P (addR m s c) ∧ Each1 (addR m s c) := by
  unfold addR
  cases hq : norm (each (app s) c) with
  | mk n e =>
    simp only
    split
    · exact h
    · split
      · rename_i he
        split
        · exact h
        · rename_i hnot
          subst he
          simp only [Bool.not_eq_true] at hnot
          refine ⟨fun x hx => ?_, ?_⟩
          · rcases List.mem_append.1 hx with hx | hx
            · exact h.1 x hx
            · simp only [List.mem_singleton] at hx; subst hx; exact hn _ hq
          · unfold Each1
            refine List.nodup_append.2 ⟨h.2, by simp, fun a ha b hb e => ?_⟩
            simp only [List.mem_singleton] at hb
            subst hb e
            have := List.any_eq_false.1 hnot a ha
            rw [clSame_iff.2 rfl] at this
            exact this rfl
      · exact h
theorem resolve_keep {P : List Lt → Prop} {c : List Lt} (h : ∀ (i : Nat) (l : Lt) (s : List Pr) (n : List Lt), c[i]? = some l → l.neg = true → unify l.left l.right = some s → norm (each (app s) (c.eraseIdx i)) = (n, 0) → P n) :
    AllM P (resolve c) ∧ Each1 (resolve c) := by
  unfold resolve
  refine foldl_keep (P := fun m => AllM P m ∧ Each1 m) _ _ ⟨fun c hc => (by cases hc), List.nodup_nil⟩ fun m i _ hm => ?_
  unfold resolve1
  split
  · exact hm
  · rename_i l hl
    split
    · rename_i hn
      split
      · rename_i s hs
        exact addR_keep hm fun n hq => h i l s n hl hn hs hq
      · exact hm
    · exact hm
theorem ways_mem {l : Lt} {a : Tm × Tm} (h : a ∈ waysL l) : a = (l.left, l.right) ∨ a = (l.right, l.left) := by simpa [waysL] using h
theorem factor_keep {P : List Lt → Prop} {c : List Lt} (h : ∀ (i j : Nat) (x y : Lt) (a b : Tm × Tm) (s : List Pr) (n : List Lt), i < j → c[i]? = some x → c[j]? = some y → x.neg = false → y.neg = false → a ∈ waysL x → b ∈ waysL y → unify a.1 b.1 = some s →
    norm (each (app s) (c.eraseIdx i ++ [⟨true, a.2, b.2⟩])) = (n, 0) → P n) : AllM P (factor c) ∧ Each1 (factor c) := by
  unfold factor
  refine foldl_keep (P := fun m => AllM P m ∧ Each1 m) _ _ ⟨fun c hc => (by cases hc), List.nodup_nil⟩ fun m i _ hm => ?_
  unfold factor4
  split
  · exact hm
  · rename_i x hx
    refine foldl_keep (P := fun m => AllM P m ∧ Each1 m) _ _ hm fun m j hj hm => ?_
    have hij : i < j := by
      obtain ⟨k, hk, e⟩ := List.getElem_of_mem hj
      simp only [List.getElem_drop, List.getElem_range] at e
      omega
    unfold factor3
    split
    · exact hm
    · rename_i y hy
      split
      · exact hm
      · rename_i hneg
        simp only [Bool.or_eq_true, not_or, Bool.not_eq_true] at hneg
        refine foldl_keep (P := fun m => AllM P m ∧ Each1 m) _ _ hm fun m a ha hm => ?_
        unfold factor2
        refine foldl_keep (P := fun m => AllM P m ∧ Each1 m) _ _ hm fun m b hb hm => ?_
        unfold factor1
        split
        · rename_i s hs
          exact addR_keep hm fun n hq => h i j x y a b s n hij hx hy hneg.1 hneg.2 ha hb hs hq
        · exact hm
theorem supD_keep {P : List Lt → Prop} {c d : List Lt} (h : ∀ (i j : Nat) (x y : Lt) (a : Tm × Tm) (side : Bool) (p : List Int) (s : List Pr) (n : List Lt), c[i]? = some x → d[j]? = some y → x.neg = false → a ∈ waysL x → a.1.var = false → p ∈ places (turnL side y).left →
    unify a.1 (at_ (turnL side y).left p).1 = some s → norm (each (app s) (c.eraseIdx i ++ d.set j (turnL side ⟨y.neg, put (turnL side y).left p a.2, (turnL side y).right⟩))) = (n, 0) → P n) : AllM P (supD c d) ∧ Each1 (supD c d) := by
  unfold supD
  refine foldl_keep (P := fun m => AllM P m ∧ Each1 m) _ _ ⟨fun c hc => (by cases hc), List.nodup_nil⟩ fun m i _ hm => ?_
  unfold sup5
  split
  · exact hm
  · rename_i x hx
    split
    · exact hm
    · rename_i hneg
      simp only [Bool.not_eq_true] at hneg
      refine foldl_keep (P := fun m => AllM P m ∧ Each1 m) _ _ hm fun m a ha hm => ?_
      unfold sup4
      split
      · exact hm
      · rename_i hv
        simp only [Bool.not_eq_true] at hv
        refine foldl_keep (P := fun m => AllM P m ∧ Each1 m) _ _ hm fun m j _ hm => ?_
        unfold sup3
        split
        · exact hm
        · rename_i y hy
          refine foldl_keep (P := fun m => AllM P m ∧ Each1 m) _ _ hm fun m side _ hm => ?_
          unfold sup2
          refine foldl_keep (P := fun m => AllM P m ∧ Each1 m) _ _ hm fun m p hp hm => ?_
          unfold sup1
          split
          · exact hm
          · rename_i s hs
            split
            · exact hm
            · exact addR_keep hm fun n hq => h i j x y a side p s n hx hy hneg ha hv hp hs hq
/- what is bound has symbols with their arguments, and few variables -/
theorem unifyF_ar {S : List Int} : ∀ (f : Nat) (s : List Pr) (todo : List (Tm × Tm)) (r : List Pr), subAr S s → (∀ p ∈ s, few p.2) → (∀ e ∈ todo, (e.1.ar S = true ∧ few e.1) ∧ (e.2.ar S = true ∧ few e.2)) → unifyF f s todo = some r → subAr S r ∧ ∀ p ∈ r, few p.2
  | f, s, [], r, hs, hf, _, h => by
    have h : some s = some r := by cases f <;> exact h
    injection h with h; subst h
    exact ⟨hs, hf⟩
  | 0, s, _ :: _, r, _, _, _, h => by simp [unifyF] at h
  | f + 1, s, (a, b) :: todo, r, hs, hf, ht, h => by
    have hab := ht (a, b) (by simp)
    have ht' : ∀ e ∈ todo, (e.1.ar S = true ∧ few e.1) ∧ (e.2.ar S = true ∧ few e.2) := fun e he => ht e (by simp [he])
    have ka := app_ar hs a hab.1.1
    have kb := app_ar hs b hab.2.1
    have fa : few (app s a) := few_app hf (Tm.ar_okv _ hab.1.1) hab.1.2
    have fb : few (app s b) := few_app hf (Tm.ar_okv _ hab.2.1) hab.2.2
    have hbd : ∀ x y, y.ar S = true → few y → subAr S (bound s x y) ∧ ∀ p ∈ bound s x y, few p.2 := fun x y hy hyf => by
      have h1 : subAr S [(x, y)] := by intro p hp; simp only [List.mem_singleton] at hp; subst hp; exact hy
      have h2 : ∀ p ∈ [(x, y)], few p.2 := by intro p hp; simp only [List.mem_singleton] at hp; subst hp; exact hyf
      refine ⟨fun p hp => ?_, fun p hp => ?_⟩
      · simp only [bound, List.mem_append, List.mem_map, List.mem_singleton] at hp
        rcases hp with ⟨q, hq, rfl⟩ | rfl
        · exact app_ar h1 _ (hs q hq)
        · exact hy
      · simp only [bound, List.mem_append, List.mem_map, List.mem_singleton] at hp
        rcases hp with ⟨q, hq, rfl⟩ | rfl
        · exact few_app h2 (Tm.ar_okv _ (hs q hq)) (hf q hq)
        · exact hyf
    simp only [unifyF] at h
    split at h
    · cases h
    · rename_i s' todo' hst
      have hw := ustep_way (Tm.ar_okv _ ka) (Tm.ar_okv _ kb) hst
      cases hw with
      | same he => exact unifyF_ar f s todo r hs hf ht' h
      | left hne x hx ho => exact unifyF_ar f _ todo r (hbd x _ kb fb).1 (hbd x _ kb fb).2 ht' h
      | right hne hn x hx ho => exact unifyF_ar f _ todo r (hbd x _ ka fa).1 (hbd x _ ka fa).2 ht' h
      | args n l l' h1 h2 hl hne =>
        refine unifyF_ar f s _ r hs hf (fun e he => ?_) h
        rcases List.mem_append.1 he with he | he
        · have hm := List.of_mem_zip (a := e.1) (b := e.2) he
          rw [h1] at ka fa
          rw [h2] at kb fb
          simp only [Tm.ar, Bool.and_eq_true] at ka kb
          exact ⟨⟨Tm.ars_iff.1 ka.2 _ hm.1, fun v hv => fa v fun h0 => hv (times_sub hm.1 h0)⟩, Tm.ars_iff.1 kb.2 _ hm.2, fun v hv => fb v fun h0 => hv (times_sub hm.2 h0)⟩
        · exact ht' e he
theorem unify_ar {S : List Int} {a b : Tm} {r : List Pr} (ha : a.ar S = true) (fa : few a) (hb : b.ar S = true) (fb : few b) (h : unify a b = some r) : subAr S r ∧ ∀ p ∈ r, few p.2 :=
  unifyF_ar _ [] [(a, b)] r (by intro p hp; cases hp) (by intro p hp; cases hp) (by intro e he; simp only [List.mem_singleton] at he; subst he; exact ⟨⟨ha, fa⟩, hb, fb⟩) h
def clGood (S : List Int) (c : List Lt) : Prop := clAr S c ∧ clFew c
theorem clGood.each {S : List Int} {s : List Pr} {c : List Lt} (hs : subAr S s) (hf : ∀ p ∈ s, few p.2) (hc : clGood S c) : clGood S (Go.Proofs.YtmanhdacnkpclaaGreat.each (app s) c) := by
  refine ⟨each_ar hs hc.1, fun l hl => ?_⟩
  simp only [Go.Proofs.YtmanhdacnkpclaaGreat.each, List.mem_map] at hl
  obtain ⟨k, hk, rfl⟩ := hl
  exact ⟨few_app hf (Tm.ar_okv _ (hc.1 k hk).1) (hc.2 k hk).1, few_app hf (Tm.ar_okv _ (hc.1 k hk).2) (hc.2 k hk).2⟩
theorem clGood.sub {S : List Int} {c d : List Lt} (hc : clGood S c) (h : ∀ l ∈ d, l ∈ c) : clGood S d := ⟨fun l hl => hc.1 l (h l hl), fun l hl => hc.2 l (h l hl)⟩
theorem clGood.app {S : List Int} {c d : List Lt} (hc : clGood S c) (hd : clGood S d) : clGood S (c ++ d) := by
  refine ⟨fun l hl => ?_, fun l hl => ?_⟩ <;> rcases List.mem_append.1 hl with h | h
  · exact hc.1 l h
  · exact hd.1 l h
  · exact hc.2 l h
  · exact hd.2 l h
theorem clWf.good {S : List Int} {c : List Lt} (h : clWf S c) : clGood S c := ⟨h.ar, fun l hl => ⟨fun v hv => by have := times_wf (h l hl).1 hv; omega, fun v hv => by have := times_wf (h l hl).2 hv; omega⟩⟩
structure Kept (S : List Int) (n : List Lt) : Prop where
  len : n.length ≤ 4
  size : ∀ l ∈ n, l.left.size ≤ 12 ∧ l.right.size ≤ 12
  again : norm n = (n, 0)
  wf : clWf S n
theorem clGood.kept {S : List Int} {c n : List Lt} (h : clGood S c) (hn : norm c = (n, 0)) : Kept S n := by
  have := norm_ok h.1.okv h.2 hn
  exact ⟨this.len, this.size, this.again, this.wf S h.1⟩
theorem clGood.at {S : List Int} {c : List Lt} (h : clGood S c) {i : Nat} {l : Lt} (hl : c[i]? = some l) : (l.left.ar S = true ∧ few l.left) ∧ (l.right.ar S = true ∧ few l.right) := by
  have hm := List.mem_of_getElem? hl
  exact ⟨⟨(h.1 l hm).1, (h.2 l hm).1⟩, (h.1 l hm).2, (h.2 l hm).2⟩
theorem clGood.ways {S : List Int} {c : List Lt} (h : clGood S c) {i : Nat} {l : Lt} (hl : c[i]? = some l) {a : Tm × Tm} (ha : a ∈ waysL l) : (a.1.ar S = true ∧ few a.1) ∧ (a.2.ar S = true ∧ few a.2) := by
  have := h.at hl
  rcases ways_mem ha with rfl | rfl
  · exact this
  · exact this.symm
theorem someF_mem {m : Md} {e : Int → Int} {c : List Lt} : someF m e c = true ↔ ∃ l ∈ c, litF m e l = true := List.any_eq_true
mutual
theorem times_ren {v k : Int} : ∀ t : Tm, t.okv = true → times v (ren k t) = times (v - k) t
  | ⟨true, n, l⟩, h => by
    simp only [Tm.okv, Bool.and_eq_true, List.isEmpty_iff] at h
    obtain ⟨⟨rfl, _⟩, _⟩ := h
    simp only [ren, times, timess, Bool.true_and, beq_iff_eq]
    have : (n + k = v) ↔ (n = v - k) := by omega
    simp only [this]
  | ⟨false, n, l⟩, h => by
    simp only [Tm.okv] at h
    simp only [ren, times, Bool.false_and, Bool.false_eq_true, if_false, Nat.zero_add]; exact timess_ren l h
theorem timess_ren {v k : Int} : ∀ l : List Tm, Tm.okvs l = true → timess v (rens k l) = timess (v - k) l
  | [], _ => rfl
  | a :: l, h => by
    simp only [Tm.okvs, Bool.and_eq_true] at h
    simp only [rens, timess, times_ren a h.1, timess_ren l h.2]
end
mutual
theorem ren_ar {S : List Int} {k : Int} (hk : 0 ≤ k) : ∀ t : Tm, t.ar S = true → (∀ v, times v t ≠ 0 → v + k ≤ 1000000) → (ren k t).ar S = true
  | ⟨true, n, l⟩, h, hv => by
    have := hv n (by simp [times])
    simp only [Tm.ar, ren, Bool.and_eq_true, decide_eq_true_eq] at h ⊢
    exact ⟨⟨h.1.1, by omega⟩, by omega⟩
  | ⟨false, n, l⟩, h, hv => by
    simp only [Tm.ar, ren, Bool.and_eq_true] at h ⊢
    have hl : (rens k l).length = l.length := by rw [rens_eq]; simp
    rw [hl]
    exact ⟨h.1, rens_ar hk l h.2 fun v h0 => hv v (by simpa [times] using h0)⟩
theorem rens_ar {S : List Int} {k : Int} (hk : 0 ≤ k) : ∀ l : List Tm, Tm.ars S l = true → (∀ v, timess v l ≠ 0 → v + k ≤ 1000000) → Tm.ars S (rens k l) = true
  | [], _, _ => rfl
  | a :: l, h, hv => by
    simp only [Tm.ars, Bool.and_eq_true] at h
    simp only [rens, Tm.ars, ren_ar hk a h.1 fun v h0 => hv v (by simp only [timess]; omega), rens_ar hk l h.2 fun v h0 => hv v (by simp only [timess]; omega), Bool.and_self]
end
theorem clWf.ren {S : List Int} {c : List Lt} (h : clWf S c) : clGood S (each (Go.Proofs.YtmanhdacnkpclaaGreat.ren 5) c) := by
  have key : ∀ t : Tm, t.wf S = true → (Go.Proofs.YtmanhdacnkpclaaGreat.ren 5 t).ar S = true ∧ few (Go.Proofs.YtmanhdacnkpclaaGreat.ren 5 t) := fun t ht => by
    refine ⟨ren_ar (by omega) t (Tm.wf_ar t ht) fun v hv => ?_, fun v hv => ?_⟩
    · have := times_wf ht hv; omega
    · rw [times_ren t (Tm.wf_okv t ht)] at hv
      have := times_wf ht hv; omega
  refine ⟨fun l hl => ?_, fun l hl => ?_⟩ <;>
  · simp only [each, List.mem_map] at hl
    obtain ⟨k, hk, rfl⟩ := hl
    have h1 := key _ (h k hk).1
    have h2 := key _ (h k hk).2
    first | exact ⟨h1.1, h2.1⟩ | exact ⟨h1.2, h2.2⟩
mutual
theorem put_ar {S : List Int} : ∀ (p : List Int) (t u : Tm), t.ar S = true → u.ar S = true → p ∈ places t → (put t p u).ar S = true
  | [], t, u, _, hu, _ => by simpa [put] using hu
  | i :: p, ⟨v, n, l⟩, u, ht, hu, hp => by
    obtain ⟨rfl, h0 | ⟨k, x, p', hx, e1, hp'⟩⟩ := places_cons hp
    · cases h0
    · injection e1 with e1 e2
      subst e1 e2
      rw [put_cons hx]
      simp only [Tm.ar, Bool.and_eq_true, List.length_set] at ht ⊢
      refine ⟨ht.1, Tm.ars_iff.2 fun t h => ?_⟩
      rcases List.mem_or_eq_of_mem_set h with h | rfl
      · exact Tm.ars_iff.1 ht.2 t h
      · exact put_ar p x u (Tm.ars_iff.1 ht.2 x (List.mem_of_getElem? hx)) hu hp'
end
theorem times_put {z : Int} : ∀ (p : List Int) (t u : Tm), t.okv = true → p ∈ places t → times z (put t p u) ≤ times z t + times z u
  | [], t, u, _, _ => by simp [put]
  | i :: p, ⟨v, n, l⟩, u, ht, hp => by
    obtain ⟨rfl, h0 | ⟨k, x, p', hx, e1, hp'⟩⟩ := places_cons hp
    · cases h0
    · injection e1 with e1 e2
      subst e1 e2
      rw [put_cons hx]
      simp only [Tm.okv] at ht
      have ih := times_put (z := z) p x u (okvs_at ht hx) hp'
      have h1 := timess_set z (y := put x p u) hx
      simp only [times, Bool.false_and, Bool.false_eq_true, if_false, Nat.zero_add]
      omega
theorem few_put {p : List Int} {t u : Tm} (ht : t.okv = true) (ft : few t) (fu : few u) (hp : p ∈ places t) : few (put t p u) := fun v hv => by
  have := times_put (z := v) p t u ht hp
  rcases Nat.eq_zero_or_pos (times v t) with h | h
  · exact fu v (by omega)
  · exact ft v (by omega)
theorem at_ar {S : List Int} : ∀ (p : List Int) (t : Tm), t.ar S = true → p ∈ places t → (at_ t p).1.ar S = true
  | [], ⟨v, n, l⟩, ht, _ => by simpa [at_] using ht
  | i :: p, ⟨v, n, l⟩, ht, hp => by
    obtain ⟨rfl, h0 | ⟨k, x, p', hx, e1, hp'⟩⟩ := places_cons hp
    · cases h0
    · injection e1 with e1 e2
      subst e1 e2
      rw [at_cons hx]
      simp only [Tm.ar, Bool.and_eq_true] at ht
      exact at_ar p x (Tm.ars_iff.1 ht.2 x (List.mem_of_getElem? hx)) hp'
theorem few_at {t : Tm} {p : List Int} (ht : t.okv = true) (ft : few t) (hp : p ∈ places t) : few (at_ t p).1 := fun v hv => ft v (by
  have := (at_place p t ht hp).2.2.2.1 v; omega)
def supCl (c d : List Lt) (i j : Nat) (y : Lt) (a : Tm × Tm) (side : Bool) (p : List Int) : List Lt := c.eraseIdx i ++ d.set j (turnL side ⟨y.neg, put (turnL side y).left p a.2, (turnL side y).right⟩)
theorem turn_good {S : List Int} {d : List Lt} (hd : clGood S d) {j : Nat} {y : Lt} (hy : d[j]? = some y) (side : Bool) : ((turnL side y).left.ar S = true ∧ few (turnL side y).left) ∧ ((turnL side y).right.ar S = true ∧ few (turnL side y).right) := by
  have := hd.at hy
  cases side
  · exact this
  · exact this.symm
theorem supCl_good {S : List Int} {c d : List Lt} (hc : clGood S c) (hd : clGood S d) {i j : Nat} {x y : Lt} (hx : c[i]? = some x) (hy : d[j]? = some y) {a : Tm × Tm} (ha : a ∈ waysL x) {side : Bool} {p : List Int} (hp : p ∈ places (turnL side y).left) : clGood S (supCl c d i j y a side p) := by
  refine (hc.sub fun l hl => List.mem_of_mem_eraseIdx hl).app ?_
  have hs := turn_good hd hy side
  have ga := hc.ways hx ha
  have h1 := put_ar p _ a.2 hs.1.1 ga.2.1 hp
  have h2 := few_put (Tm.ar_okv _ hs.1.1) hs.1.2 ga.2.2 hp
  refine ⟨fun l hl => ?_, fun l hl => ?_⟩ <;> rcases List.mem_or_eq_of_mem_set hl with h | rfl
  · exact hd.1 l h
  · cases side
    · exact ⟨h1, hs.2.1⟩
    · exact ⟨hs.2.1, h1⟩
  · exact hd.2 l h
  · cases side
    · exact ⟨h2, hs.2.2⟩
    · exact ⟨hs.2.2, h2⟩
theorem resolve_kept {S : List Int} {c : List Lt} (hc : clGood S c) : (∀ n ∈ (resolve c).1, Kept S n) ∧ (resolve c).1.Nodup := by
  refine resolve_keep fun i l s n hl hn hs hq => ?_
  obtain ⟨h1, h2⟩ := hc.at hl
  have hso := unify_ar h1.1 h1.2 h2.1 h2.2 hs
  exact ((hc.sub fun l hl => List.mem_of_mem_eraseIdx hl).each hso.1 hso.2).kept hq
theorem factor_good {S : List Int} {c : List Lt} (hc : clGood S c) {i j : Nat} {x y : Lt} {a b : Tm × Tm} (hx : c[i]? = some x) (hy : c[j]? = some y) (ha : a ∈ waysL x) (hb : b ∈ waysL y) : clGood S (c.eraseIdx i ++ [⟨true, a.2, b.2⟩]) := by
  refine (hc.sub fun l hl => List.mem_of_mem_eraseIdx hl).app ⟨fun l hl => ?_, fun l hl => ?_⟩ <;>
  · simp only [List.mem_singleton] at hl
    subst hl
    have ga := hc.ways hx ha
    have gb := hc.ways hy hb
    first | exact ⟨ga.2.1, gb.2.1⟩ | exact ⟨ga.2.2, gb.2.2⟩
theorem factor_kept {S : List Int} {c : List Lt} (hc : clGood S c) : (∀ n ∈ (factor c).1, Kept S n) ∧ (factor c).1.Nodup := by
  refine factor_keep fun i j x y a b s n hij hx hy hxn hyn ha hb hs hq => ?_
  have ga := hc.ways hx ha
  have gb := hc.ways hy hb
  have hso := unify_ar ga.1.1 ga.1.2 gb.1.1 gb.1.2 hs
  exact ((factor_good hc hx hy ha hb).each hso.1 hso.2).kept hq
theorem supD_kept {S : List Int} {c d : List Lt} (hc : clGood S c) (hd : clGood S d) : (∀ n ∈ (supD c d).1, Kept S n) ∧ (supD c d).1.Nodup := by
  refine supD_keep fun i j x y a side p s n hx hy hxn ha hav hp hs hq => ?_
  have hsd := turn_good hd hy side
  have ga := hc.ways hx ha
  have hso := unify_ar ga.1.1 ga.1.2 (at_ar p _ hsd.1.1 hp) (few_at (Tm.ar_okv _ hsd.1.1) hsd.1.2 hp) hs
  exact ((supCl_good hc hd hx hy ha hp).each hso.1 hso.2).kept hq
theorem sup_kept {S : List Int} {c d : List Lt} (hc : clWf S c) (hd : clWf S d) : (∀ n ∈ (sup c d).1, Kept S n) ∧ (sup c d).1.Nodup := supD_kept hc.good hd.ren
end Go.Proofs.YtmanhdacnkpclaaGreat
/- Simpler clauses, plainly: what units make of terms. -/
namespace Go.Proofs.YtmanhdacnkpclaaGreat
set_option linter.unusedVariables false
set_option linter.unusedSimpArgs false
def unit (c : List Lt) : Bool := match c with
  | [l] => !l.neg
  | _ => false
def wayOf (u : List Lt) : List (Tm × Tm) := match u with
  | l :: _ => waysL l
  | [] => []
def try1 (t : Tm) (w : Tm × Tm) : Option Tm := match matchR w.1 t with
  | (s, true) => if (vars [] w.2).any (fun v => !(vars [] w.1).contains v) then none else if above t (app s w.2) then some (app s w.2) else none
  | (_, false) => none
def firstS {α : Type} (f : α → Option Tm) : List α → Option Tm
  | [] => none
  | a :: l => match f a with
    | some r => some r
    | none => firstS f l
def down1 (us : List (List Lt)) (t : Tm) : Option Tm := firstS (fun u => firstS (try1 t) (wayOf u)) us
def downP (us : List (List Lt)) (t : Tm) : List (List Int) → Option Tm
  | [] => none
  | p :: ps => match down1 us (at_ t p).1 with
    | some r => some (put t p r)
    | none => downP us t ps
def downS (us : List (List Lt)) (t : Tm) : Option Tm := downP us t (places t)
inductive Downs (us : List (List Lt)) : Tm → Tm → Prop
  | done {t : Tm} (h : downS us t = none) : Downs us t t
  | step {t t' r : Tm} (h : downS us t = some t') (hr : Downs us t' r) : Downs us t r
theorem Downs.eq {us : List (List Lt)} {t r r' : Tm} (h : Downs us t r) (h' : Downs us t r') : r = r' := by
  induction h with
  | done h => cases h' with
    | done => rfl
    | step h1 _ => rw [h] at h1; cases h1
  | step h _ ih => cases h' with
    | done h1 => rw [h] at h1; cases h1
    | step h1 h2 => rw [h] at h1; injection h1 with e; subst e; exact ih h2
def downF (us : List (List Lt)) : Nat → Tm → Option Tm
  | 0, _ => none
  | f + 1, t => match downS us t with
    | none => some t
    | some t' => downF us f t'
theorem downF_downs {us : List (List Lt)} : ∀ {f : Nat} {t r : Tm}, downF us f t = some r → Downs us t r
  | 0, _, _, h => by simp [downF] at h
  | f + 1, t, r, h => by
    simp only [downF] at h
    split at h
    · rename_i h1; injection h with h; subst h; exact .done h1
    · rename_i t' h1; exact .step h1 (downF_downs h)
theorem firstS_some {α : Type} {f : α → Option Tm} : ∀ {l : List α} {r : Tm}, firstS f l = some r → ∃ a ∈ l, f a = some r
  | [], _, h => by simp [firstS] at h
  | a :: l, r, h => by
    simp only [firstS] at h
    split at h
    · rename_i r' h1; injection h with h; subst h; exact ⟨a, by simp, h1⟩
    · obtain ⟨b, hb, h⟩ := firstS_some h; exact ⟨b, by simp [hb], h⟩
theorem firstS_none {α : Type} {f : α → Option Tm} : ∀ {l : List α}, firstS f l = none ↔ ∀ a ∈ l, f a = none
  | [] => by simp [firstS]
  | a :: l => by
    simp only [firstS]
    split
    · rename_i r h1; simp [h1]
    · rename_i h1; simp [h1, firstS_none (l := l)]
theorem down1_some {us : List (List Lt)} {t r : Tm} (h : down1 us t = some r) : ∃ u ∈ us, ∃ w ∈ wayOf u, try1 t w = some r := by
  obtain ⟨u, hu, h⟩ := firstS_some h
  obtain ⟨w, hw, h⟩ := firstS_some h
  exact ⟨u, hu, w, hw, h⟩
theorem downP_some {us : List (List Lt)} {t t' : Tm} : ∀ {ps : List (List Int)}, downP us t ps = some t' → ∃ p ∈ ps, ∃ r, down1 us (at_ t p).1 = some r ∧ t' = put t p r
  | [], h => by simp [downP] at h
  | p :: ps, h => by
    simp only [downP] at h
    split at h
    · rename_i r h1; injection h with h; exact ⟨p, by simp, r, h1, h.symm⟩
    · obtain ⟨q, hq, h⟩ := downP_some h; exact ⟨q, by simp [hq], h⟩
theorem downP_none {us : List (List Lt)} {t : Tm} : ∀ {ps : List (List Int)}, downP us t ps = none ↔ ∀ p ∈ ps, down1 us (at_ t p).1 = none
  | [] => by simp [downP]
  | p :: ps => by
    simp only [downP]
    split
    · rename_i r h1; simp [h1]
    · rename_i h1; simp [h1, downP_none (ps := ps)]
theorem try1_some {t r : Tm} {w : Tm × Tm} (hw : w.1.okv = true) (hw2 : w.2.okv = true) (h : try1 t w = some r) : ∃ s, matchR w.1 t = (s, true) ∧ app s w.1 = t ∧ (∀ v, times v w.1 ≠ 0 → dom s v) ∧ (∀ v, times v w.2 ≠ 0 → times v w.1 ≠ 0) ∧ r = app s w.2 ∧ above t r = true := by
  unfold try1 at h
  split at h
  · rename_i s hm
    split at h
    · cases h
    · rename_i hv
      split at h
      · rename_i ha
        injection h with h
        subst h
        have h1 := matchR_sound hw hm
        refine ⟨s, hm, h1.1, h1.2, fun v hv' => ?_, rfl, ha⟩
        simp only [Bool.not_eq_true] at hv
        have := List.any_eq_false.1 hv v (times_mem v w.2 [] hw2 hv').1
        simp only [Bool.not_eq_true', Bool.not_eq_false, List.contains_iff_mem] at this
        rcases vars_sub v w.1 [] this with h | h
        · cases h
        · exact h
      · cases h
  · cases h
structure UsOk (S : List Int) (us : List (List Lt)) : Prop where
  unit : ∀ u ∈ us, unit u = true
  wf : ∀ u ∈ us, clWf S u
theorem UsOk.way {S : List Int} {us : List (List Lt)} (h : UsOk S us) {u : List Lt} (hu : u ∈ us) {w : Tm × Tm} (hw : w ∈ wayOf u) : w.1.wf S = true ∧ w.2.wf S = true := by
  have h1 := h.unit u hu
  have h2 := h.wf u hu
  match u, h1, h2, hw with
  | [l], h1, h2, hw =>
    have := h2 l (by simp)
    rcases ways_mem hw with rfl | rfl
    · exact this
    · exact this.symm
mutual
theorem moreR_ar {S : List Int} : ∀ (p : Tm) (s : List Pr) (t : Tm), subAr S s → t.ar S = true → subAr S (moreR s p t).1
  | ⟨true, n, l⟩, s, t, hs, ht => by
    simp only [moreR]
    split
    · exact hs
    · intro q hq
      rcases List.mem_append.1 hq with h | h
      · exact hs q h
      · simp only [List.mem_singleton] at h; subst h; exact ht
  | ⟨false, n, l⟩, s, t, hs, ht => by
    simp only [moreR]
    split
    · intro q hq; cases hq
    · rename_i hc
      simp only [not_or, Bool.not_eq_true] at hc
      obtain ⟨v', n', l'⟩ := t
      simp only at hc
      obtain ⟨rfl, _⟩ := hc
      simp only [Tm.ar, Bool.and_eq_true] at ht
      exact moresR_ar l s l' hs ht.2
theorem moresR_ar {S : List Int} : ∀ (l : List Tm) (s : List Pr) (l' : List Tm), subAr S s → Tm.ars S l' = true → subAr S (moresR s l l').1
  | [], s, _, hs, _ => by simpa [moresR] using hs
  | _ :: _, s, [], hs, _ => by simpa [moresR] using hs
  | p :: l, s, t :: l', hs, ht => by
    simp only [Tm.ars, Bool.and_eq_true] at ht
    simp only [moresR]
    have h1 := moreR_ar p s t hs ht.1
    split
    · rename_i s' hm
      rw [hm] at h1
      exact moresR_ar l s' l' h1 ht.2
    · intro q hq; cases hq
end
theorem matchR_ar {S : List Int} {p t : Tm} (ht : t.ar S = true) : subAr S (matchR p t).1 := by
  have := moreR_ar p [] t (S := S) (by intro q hq; cases hq) ht
  unfold matchR
  split
  · rename_i r hm; rw [hm] at this; exact this
  · intro q hq; cases hq
theorem try1_ar {S : List Int} {t r : Tm} {w : Tm × Tm} (hw : w.1.wf S = true ∧ w.2.wf S = true) (ht : t.ar S = true) (h : try1 t w = some r) : r.ar S = true := by
  obtain ⟨s, h1, _, _, _, rfl, _⟩ := try1_some (Tm.wf_okv _ hw.1) (Tm.wf_okv _ hw.2) h
  have := matchR_ar (p := w.1) ht
  rw [h1] at this
  exact app_ar this _ (Tm.wf_ar _ hw.2)
theorem put_self : ∀ (p : List Int) (t : Tm), p ∈ places t → put t p (at_ t p).1 = t
  | [], ⟨v, n, l⟩, _ => rfl
  | i :: p, ⟨v, n, l⟩, hp => by
    obtain ⟨rfl, h0 | ⟨k, x, p', hx, e1, hp'⟩⟩ := places_cons hp
    · cases h0
    · injection e1 with e1 e2
      subst e1 e2
      rw [at_cons hx, put_cons hx, put_self p x hp']
      congr 1
      apply List.ext_getElem (by simp)
      intro j h1 h2
      rw [List.getElem_set]
      split
      · rename_i e; subst e; rw [List.getElem?_eq_getElem h2] at hx; injection hx with hx; exact hx.symm
      · rfl
theorem downS_some {S : List Int} {us : List (List Lt)} (hu : UsOk S us) {t t' : Tm} (ht : t.ar S = true) (h : downS us t = some t') : t'.ar S = true ∧ above t t' = true ∧ ∃ p ∈ places t, ∃ u ∈ us, ∃ w ∈ wayOf u, ∃ s, subAr S s ∧ (at_ t p).1 = app s w.1 ∧ t' = put t p (app s w.2) := by
  obtain ⟨p, hp, r, h1, rfl⟩ := downP_some h
  obtain ⟨u, hum, w, hw, h2⟩ := down1_some h1
  have hww := hu.way hum hw
  have hat := at_ar p t ht hp
  have har := try1_ar hww hat h2
  obtain ⟨s, g1, g2, g3, g4, rfl, g6⟩ := try1_some (Tm.wf_okv _ hww.1) (Tm.wf_okv _ hww.2) h2
  have hsa := matchR_ar (p := w.1) hat
  rw [g1] at hsa
  refine ⟨put_ar p t _ ht har hp, ?_, p, hp, u, hum, w, hw, s, hsa, g2.symm, rfl⟩
  have := above_put p t _ _ (Tm.ar_okv t ht) (Tm.ar_okv _ hat) (Tm.ar_okv _ har) hp g6
  rw [put_self p t hp] at this
  exact this
theorem Downs.keep {S : List Int} {us : List (List Lt)} (hu : UsOk S us) {t r : Tm} (h : Downs us t r) (ht : t.ar S = true) : r.ar S = true ∧ (r = t ∨ above t r = true) := by
  induction h with
  | done h => exact ⟨ht, .inl rfl⟩
  | step h _ ih =>
    obtain ⟨h1, h2, _⟩ := downS_some hu ht h
    obtain ⟨h3, h4⟩ := ih h1
    refine ⟨h3, .inr ?_⟩
    rcases h4 with rfl | h4
    · exact h2
    · exact above_trans _ (Tm.ar_okv _ ht) _ _ (Tm.ar_okv _ h1) (Tm.ar_okv _ h3) h2 h4
theorem above_size {a b : Tm} (hb : b.okv = true) (h : above a b = true) : b.size ≤ a.size ∧ ∀ v, times v b ≤ times v a := by
  obtain ⟨_, h1, h2⟩ := (above_iff a b hb).1 h
  exact ⟨by omega, h1⟩
theorem Downs.less {S : List Int} {us : List (List Lt)} (hu : UsOk S us) {t r : Tm} (h : Downs us t r) (ht : t.ar S = true) : r.size ≤ t.size ∧ ∀ v, times v r ≤ times v t := by
  obtain ⟨h1, h2⟩ := h.keep hu ht
  rcases h2 with rfl | h2
  · exact ⟨Nat.le_refl _, fun _ => Nat.le_refl _⟩
  · exact above_size (Tm.ar_okv _ h1) h2
/- it ends -/
def Blw (S : List Int) (b a : Tm) : Prop := b.ar S = true ∧ above a b = true
def Blws (S : List Int) (k : Nat) (lb la : List Tm) : Prop := lb.length = k ∧ Tm.ars S lb = true ∧ aboves la lb = true
theorem blws_acc {S : List Int} : ∀ (k : Nat) (la : List Tm), la.length = k → Tm.ars S la = true → (∀ N, (∀ t : Tm, t.ar S = true → t.size < N → Acc (Blw S) t) → Tm.sizes la < N → Acc (fun lb la => Blws S k lb la ∧ Tm.sizes lb < N) la)
  | 0, la, hl, _, N, _, _ => by
    have : la = [] := List.eq_nil_of_length_eq_zero hl
    subst this
    exact .intro _ fun lb h => by simp [Blws, aboves] at h
  | k + 1, a :: la, hl, ha, N, hN, hz => by
    simp only [Tm.ars, Bool.and_eq_true] at ha
    simp only [Tm.sizes] at hz
    have hacc := hN a ha.1 (by omega)
    revert la
    induction hacc with
    | intro a _ iha =>
      intro la hl hz ha
      have hl' : la.length = k := by simpa using hl
      have hacc2 := blws_acc k la hl' ha.2 N hN (by omega)
      revert hl ha hz
      induction hacc2 with
      | intro la _ ihl =>
        intro hl hz ha
        refine .intro _ fun lb ⟨⟨h1, h2, h3⟩, h4⟩ => ?_
        cases lb with
        | nil => simp at h1
        | cons b lb =>
          simp only [Tm.ars, Bool.and_eq_true] at h2
          simp only [Tm.sizes] at h4
          have h1' : lb.length = k := by simpa using h1
          rcases Classical.em (a = b) with rfl | hab
          · rw [aboves_cons_eq] at h3
            exact ihl lb ⟨⟨h1', h2.2, h3⟩, by omega⟩ h1' h1 h4 h2
          · rw [aboves_cons_ne hab] at h3
            exact iha b ⟨h2.1, h3⟩ lb h1 (by omega) h2
theorem blw_acc_n {S : List Int} : ∀ N, ∀ t : Tm, t.ar S = true → t.size < N → Acc (Blw S) t := by
  intro N
  induction N with
  | zero => intro t _ h; omega
  | succ N ihN =>
    -- by the symbol, then by the arguments
    have hsym : ∀ (j : Nat) (t : Tm), t.ar S = true → t.size < N + 1 → t.var = false → t.n.toNat < j → Acc (Blw S) t := by
      intro j
      induction j with
      | zero => intro t _ _ _ h; omega
      | succ j ihj =>
        intro t ht hz hv hj
        obtain ⟨v, n, l⟩ := t
        simp only at hv
        subst hv
        have ha := ht
        simp only [Tm.ar, Bool.and_eq_true, decide_eq_true_eq] at ha
        obtain ⟨⟨⟨h0, h1⟩, h2⟩, h3⟩ := ha
        simp only [Tm.size] at hz
        have hacc := blws_acc l.length l rfl h3 N ihN (by omega)
        generalize hk : l.length = k at hacc
        revert ht hz h3 hk h2
        induction hacc with
        | intro l _ ihl =>
          intro ht hz h3 hk h2
          refine .intro _ fun b ⟨hb, hab⟩ => ?_
          obtain ⟨_, _, h4⟩ := (above_iff _ _ (Tm.ar_okv _ hb)).1 hab
          simp only [Tm.size] at h4
          rcases h4 with h4 | ⟨h4, h5, h6⟩
          · exact ihN b hb (by omega)
          · rcases h6 with h6 | ⟨h6, h7⟩
            · refine ihj b hb (by omega) h5 ?_
              obtain ⟨vb, nb, lb⟩ := b
              simp only at h5
              subst h5
              simp only [Tm.ar, Bool.and_eq_true, decide_eq_true_eq] at hb
              have h6' : nb < n := h6
              have hj' : n.toNat < j + 1 := hj
              show nb.toNat < j
              omega
            · obtain ⟨vb, nb, lb⟩ := b
              have h5 : vb = false := h5
              have h6 : n = nb := h6
              have h7 : aboves l lb = true := h7
              subst h5 h6
              have hb' := hb
              simp only [Tm.ar, Bool.and_eq_true, decide_eq_true_eq] at hb'
              simp only [Tm.size] at h4
              apply ihl lb ⟨⟨by omega, hb'.2, h7⟩, by omega⟩ <;> first | exact hb | exact hb'.1.2 | exact hb'.2 | exact hj | (simp only [Tm.size]; omega) | omega
    intro t ht hz
    cases hv : t.var
    · exact hsym (t.n.toNat + 1) t ht hz hv (by omega)
    · refine .intro _ fun b ⟨_, hab⟩ => ?_
      obtain ⟨v, n, l⟩ := t
      simp only at hv
      subst hv
      simp [above] at hab
theorem blw_acc {S : List Int} (t : Tm) (ht : t.ar S = true) : Acc (Blw S) t := blw_acc_n (t.size + 1) t ht (by omega)
theorem downs_ex {S : List Int} {us : List (List Lt)} (hu : UsOk S us) {t : Tm} (ht : t.ar S = true) : ∃ r, Downs us t r := by
  have := blw_acc t ht
  induction this with
  | intro t _ ih =>
    cases h : downS us t with
    | none => exact ⟨t, .done h⟩
    | some t' =>
      obtain ⟨h1, h2, _⟩ := downS_some hu ht h
      obtain ⟨r, hr⟩ := ih t' ⟨h1, h2⟩ h1
      exact ⟨r, .step h hr⟩
theorem Downs.steps {us : List (List Lt)} {t r : Tm} (h : Downs us t r) : ∃ f, downF us f t = some r := by
  induction h with
  | done h => exact ⟨1, by simp [downF, h]⟩
  | step h _ ih =>
    obtain ⟨f, hf⟩ := ih
    exact ⟨f + 1, by simp [downF, h, hf]⟩
end Go.Proofs.YtmanhdacnkpclaaGreat
/- What is wrong with clauses, plainly. -/
namespace Go.Proofs.YtmanhdacnkpclaaGreat
set_option linter.all false
open Go.RowKit
def wrongLits (s : List Int) : List Lt → Int
  | [] => 0
  | l :: c => if wrong s l.left = 0 then (if wrong s l.right = 0 then wrongLits s c else wrong s l.right) else wrong s l.left
def wrongCl (s : List Int) (c : List Lt) : Int := if 4 < c.length then 5 else wrongLits s c
theorem wrongLits_no {s : List Int} : ∀ {c : List Lt} {k : Nat} {x : Lt}, (∀ j y, j < k → c[j]? = some y → wrong s y.left = 0 ∧ wrong s y.right = 0) → c[k]? = some x → wrongLits s c = wrongLits s (x :: c.drop (k + 1))
  | [], k, x, _, hx => by simp at hx
  | y :: c, 0, x, _, hx => by simp at hx; subst hx; simp
  | y :: c, k + 1, x, h, hx => by
    have h0 := h 0 y (by omega) rfl
    have := wrongLits_no (s := s) (c := c) (k := k) (x := x) (fun j z hj hz => h (j + 1) z (by omega) (by simpa using hz)) (by simpa using hx)
    simp only [wrongLits, h0.1, h0.2, if_true, List.drop_succ_cons] at this ⊢
    exact this
theorem wrongLits_yes {s : List Int} : ∀ {c : List Lt}, (∀ j y, j < c.length → c[j]? = some y → wrong s y.left = 0 ∧ wrong s y.right = 0) → wrongLits s c = 0
  | [], _ => rfl
  | y :: c, h => by
    have h0 := h 0 y (by simp) rfl
    have := wrongLits_yes (s := s) (c := c) (fun j z hj hz => h (j + 1) z (by simp; omega) (by simpa using hz))
    simp only [wrongLits, h0.1, h0.2, if_true, this]
theorem wrongLits_all {s : List Int} : ∀ {c : List Lt}, wrongLits s c = 0 → ∀ q ∈ c, wrong s q.left = 0 ∧ wrong s q.right = 0
  | [], _, q, hq => by cases hq
  | y :: c, h, q, hq => by
    simp only [wrongLits] at h
    split at h
    · rename_i h1
      split at h
      · rename_i h2
        rcases List.mem_cons.1 hq with rfl | hq
        · exact ⟨h1, h2⟩
        · exact wrongLits_all h q hq
      · rename_i h2; exact absurd h h2
    · rename_i h1; exact absurd h h1
mutual
theorem walk_wf {s : List Int} : ∀ (t : Tm) (d : Int), t.wf s = true → d + t.size ≤ 13 → walk s t d = 0
  | ⟨true, n, l⟩, d, h, hd => by
    simp only [Tm.wf, Bool.and_eq_true, decide_eq_true_eq, List.isEmpty_iff] at h
    simp only [Tm.size] at hd
    obtain ⟨⟨rfl, h0⟩, h1⟩ := h
    simp only [walk]
    rw [if_neg (by omega), if_pos trivial, if_neg (by omega)]; rfl
  | ⟨false, n, l⟩, d, h, hd => by
    simp only [Tm.wf, Bool.and_eq_true, decide_eq_true_eq] at h
    simp only [Tm.size] at hd
    obtain ⟨⟨⟨h0, h1⟩, h2⟩, h3⟩ := h
    simp only [walk]
    rw [if_neg (by omega), if_neg (by simp), if_neg (by omega), if_pos h2]
    exact walks_wf l (d + 1) h3 (by omega)
theorem walks_wf {s : List Int} : ∀ (l : List Tm) (d : Int), Tm.wfs s l = true → d + Tm.sizes l ≤ 13 → walks s l d = 0
  | [], _, _, _ => rfl
  | a :: l, d, h, hd => by
    simp only [Tm.wfs, Bool.and_eq_true] at h
    simp only [Tm.sizes] at hd
    simp only [walks]
    rw [if_pos (walk_wf a d h.1 (by omega))]
    exact walks_wf l d h.2 (by omega)
end
theorem wrong_wf {s : List Int} {t : Tm} (h : t.wf s = true) (hz : t.size ≤ 12) : wrong s t = 0 := by
  unfold wrong
  rw [if_pos (walk_wf t 1 h (by omega)), if_neg]
  have h0 := Nat.zero_le t.size
  have : Go.RowKit.wrap64 (t.size : Int) = t.size := by unfold Go.RowKit.wrap64; omega
  rw [this]
  omega
structure COk (S : List Int) (c : List Lt) : Prop where
  len : c.length ≤ 4
  wf : clWf S c
  size : ∀ l ∈ c, l.left.size ≤ 12 ∧ l.right.size ≤ 12
theorem cok_of {S : List Int} {c : List Lt} (hs : wrongSig S = 0) (h : wrongCl S c = 0) : COk S c := by
  unfold wrongCl at h
  split at h
  · cases h
  · rename_i h4
    have hall := wrongLits_all h
    refine ⟨by omega, fun l hl => ?_, fun l hl => ?_⟩
    · exact ⟨wf_of S _ 1 (rightT hs (hall l hl).1).2.2, wf_of S _ 1 (rightT hs (hall l hl).2).2.2⟩
    · exact ⟨(rightT hs (hall l hl).1).1, (rightT hs (hall l hl).2).1⟩
theorem COk.wrong {S : List Int} {c : List Lt} (h : COk S c) : wrongCl S c = 0 := by
  unfold wrongCl
  rw [if_neg (by have := h.len; omega)]
  refine wrongLits_yes fun j y _ hy => ?_
  have hm := List.mem_of_getElem? hy
  exact ⟨wrong_wf (h.wf y hm).1 (h.size y hm).1, wrong_wf (h.wf y hm).2 (h.size y hm).2⟩
theorem Kept.cok {S : List Int} {c : List Lt} (h : Kept S c) : COk S c := ⟨h.len, h.wf, h.size⟩
end Go.Proofs.YtmanhdacnkpclaaGreat
