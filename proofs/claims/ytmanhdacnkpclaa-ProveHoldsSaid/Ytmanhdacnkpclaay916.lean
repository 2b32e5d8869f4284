/- Regions in which one load and one call have no order, and the load finds the same before and after; own slices of which the header is known, in a box that a known pointer points to. -/
import Derived.Test.Ytmanhdacnkpclaay906
import Derived.Test.Ytmanhdacnkpclaay914
import Derived.Test.Ytmanhdacnkpclaay915
import Derived.Test.Ytmanhdacnkpclaay911
import Derived.Test.Ytmanhdacnkpclaay913

namespace Go.Proofs.Ytmanhdacnkpclaa
set_option linter.all false
open Go.RowKit
def chkX (l x : Nat) (ops : Array Oper) (is : List Info) : Bool :=
  chk ops [] && Nat.blt x ops.size &&
    let M := (Region.before ops).toList
    (List.range ops.size).all fun k => (List.range k).all fun i => !((is[i]?).any fun a => (is[k]?).any fun b => confl a b) || Nat.testBit (M.getD k 0) i || (Nat.beq i l && Nat.beq k x)
section
variable {ops : Array Oper} {is : List Info} {l x : Nat}
theorem chkX_chk (h : chkX l x ops is = true) : chk ops [] = true := by
  unfold chkX at h; simp only [Bool.and_eq_true] at h; exact h.1.1
theorem chkX_lt (h : chkX l x ops is = true) : x < ops.size := by
  unfold chkX at h; simp only [Bool.and_eq_true, Nat.blt_eq] at h; exact h.1.2
theorem chkX_confl (h : chkX l x ops is = true) {k i : Nat} {a b : Info} (hk : k < ops.size) (hi : i < k) (hp : ¬ (i = l ∧ k = x)) (ha : is[i]? = some a) (hb : is[k]? = some b) (hc : confl a b = true) : Nat.testBit ((Region.before ops).toList.getD k 0) i = true := by
  unfold chkX at h
  simp only [Bool.and_eq_true] at h
  have h2 := List.all_eq_true.1 (List.all_eq_true.1 h.2 k (List.mem_range.2 hk)) i (List.mem_range.2 hi)
  simp only [ha, hb, Option.any_some, hc, Bool.not_true, Bool.false_or, Bool.or_eq_true, Bool.and_eq_true] at h2
  rcases h2 with h2 | ⟨h2, h3⟩
  · exact h2
  · exact absurd ⟨Nat.eq_of_beq_eq_true h2, Nat.eq_of_beq_eq_true h3⟩ hp
end
def LoadX (P : Program) (n : Nat) (ops : Array Oper) (l x : Nat) (is : List Info) (δs : List St) (σ0 : St) : Prop :=
  ∀ i o δ j, is[l]? = some i → ops.toList[l]? = some o → δs[l]? = some δ → is[x]? = some j → i.al = [] ∧ o.guard = none ∧ (∀ r ∈ i.wr, r ∉ j.rd ∧ r ∉ j.wr) ∧
    ∀ σ', (∀ r ∈ i.rd, St.get σ' r = St.get (look (fun m => decide (m < l)) 0 δs σ0) r ∨ St.get σ' r = St.get (look (fun m => decide (m < x + 1)) 0 δs σ0) r) → Does P n o σ' (δ ++ σ')
theorem any_runX {P : Program} {n : Nat} {ops : Array Oper} {is : List Info} {δs : List St} {σ0 : St} {Q : Exit → Act → World → Prop} {C : Ctx} (hc : Chain P n ops ops.toList is δs σ0) {l x : Nat} (hlx : l < x) (hchk : chkX l x ops is = true) (hl : LoadX P n ops l x is δs σ0)
    (hd : ∀ o ∈ ops.toList, ∀ d, o.dst = some d → d < n) (hQ : ∀ who a w, Rep n C who (look (fun _ => true) 0 δs σ0) a w → Q .normal a w) :
    ∀ (fuel : Nat) (listed : Array Bool) (σ : St) (who : Nat → Tag) (a : Act) (w : World), listed.size = ops.size → ((List.range ops.size).filter (fun m => !listed.getD m false)).length ≤ fuel →
      (∀ m o e, listed.getD m false = true → ops[m]? = some o → e ∈ o.after → bnd e = true → listed.getD e.on false = true) →
      (∀ r, St.get σ r = St.get (look (fun m => listed.getD m false) 0 δs σ0) r) → (∀ j ∈ St.ids σ, j ∈ St.ids σ0 ∨ ∃ m δ, listed.getD m false = true ∧ δs[m]? = some δ ∧ j ∈ St.ids δ) →
      Rep n C who σ a w → wpAny P .any ops Q fuel listed a w := by
  have hlen : δs.length = ops.size := by rw [hc.len]; simp
  intro fuel
  induction fuel with
  | zero =>
    intro listed σ who a w hls hcnt hcl hst hids hr
    have hall : ∀ m, m < ops.size → listed.getD m false = true := by
      intro m hm
      have h0 : (List.range ops.size).filter (fun m => !listed.getD m false) = [] := List.eq_nil_of_length_eq_zero (by omega)
      have := List.filter_eq_nil_iff.1 h0 m (List.mem_range.2 hm)
      simpa using this
    refine ⟨?_, hQ who a w (hr.congr fun r => ?_)⟩
    · cases hq : Region.ready .any ops listed with
      | nil => rfl
      | cons j l =>
        have hj : j ∈ Region.ready .any ops listed := by rw [hq]; exact List.mem_cons_self ..
        obtain ⟨h1, o, ho, _⟩ := mem_ready.1 hj
        have := hall j (Array.getElem?_eq_some_iff.1 ho).1
        have hjl : j < listed.size := by rw [hls]; exact (Array.getElem?_eq_some_iff.1 ho).1
        simp [hjl] at h1 this
        rw [h1] at this; cases this
    · rw [hst r]
      refine (look_get δs 0 σ0 σ0 rfl fun m δ hm hne => ?_).symm
      exact absurd (by simp [hall m (by rw [← hlen]; exact (List.getElem?_eq_some_iff.1 hm).1)]) hne
  | succ fuel ih =>
    intro listed σ who a w hls hcnt hcl hst hids hr
    refine ⟨fun hnil => hQ who a w (hr.congr fun r => ?_), fun k hk => ?_⟩
    · have hall : ∀ m, m < ops.size → listed.getD m false = true := by
        intro m
        induction m using Nat.strongRecOn with
        | ind m ihm =>
          intro hm
          cases hq : listed.getD m false
          · have ho : ops[m]? = some ops[m] := Array.getElem?_eq_getElem hm
            have : m ∈ Region.ready .any ops listed := by
              refine mem_ready.2 ⟨?_, _, ho, fun e he hb => ?_⟩
              · have hml : m < listed.size := by omega
                simp [hml] at hq ⊢; exact hq
              · have hlt := chk_edge (chkX_chk hchk) ho he hb
                exact ihm e.on hlt (by omega)
            rw [hnil] at this; cases this
          · rfl
      rw [hst r]
      refine (look_get δs 0 σ0 σ0 rfl fun m δ hm hne => ?_).symm
      exact absurd (by simp [hall m (by rw [← hlen]; exact (List.getElem?_eq_some_iff.1 hm).1)]) hne
    · obtain ⟨hk0, o, ho, hed⟩ := mem_ready.1 hk
      have hks : k < ops.size := (Array.getElem?_eq_some_iff.1 ho).1
      have hkl : k < listed.size := by omega
      have hkf : listed.getD k false = false := by simp [hkl] at hk0 ⊢; exact hk0
      have hol : ops.toList[k]? = some o := by simpa using ho
      obtain ⟨i, δ, hi, hδ, hs⟩ := Chain.at 0 hc k o hol
      simp only [Nat.zero_add] at hs
      -- who stands ahead in the text and writes what k looks at or writes is listed
      have hahead : ∀ m i' , m < k → ¬ (m = l ∧ k = x) → is[m]? = some i' → confl i' i = true → listed.getD m false = true := fun m i' hm hp hi' hcf =>
        chk_anc (chkX_chk hchk) hcl k o m ho (fun e he hb => hed e he hb) hm (chkX_confl hchk hks hm hp hi' hi hcf)
      -- who stands behind it and gets in its way is not listed
      have hbehind : ∀ m i', k < m → ¬ (k = l ∧ m = x) → m < ops.size → is[m]? = some i' → confl i i' = true → listed.getD m false = false := fun m i' hm hp hms hi' hcf => by
        cases hq : listed.getD m false
        · rfl
        · have hom : ops[m]? = some ops[m] := Array.getElem?_eq_getElem hms
          have := chk_anc (chkX_chk hchk) hcl m _ k hom (fun e he hb => hcl m _ e hq hom he hb) hm (chkX_confl hchk hms hm hp hi hi' hcf)
          rw [this] at hkf; cases hkf
      have hat : ∀ m δ', δs[m]? = some δ' → ∃ i' o', is[m]? = some i' ∧ m < ops.size ∧ StepI P n ops o' i' (look (fun x => decide (x < m)) 0 δs σ0) δ' := fun m δ' hm => by
        have hms : m < ops.size := by rw [← hlen]; exact (List.getElem?_eq_some_iff.1 hm).1
        obtain ⟨i', δ'', h1, h2, h3⟩ := Chain.at 0 hc m ops[m] (by simp [hms])
        rw [hm] at h2; injection h2 with h2; subst h2
        simp only [Nat.zero_add] at h3
        exact ⟨i', _, h1, hms, h3⟩
      have hpair : ∀ m i' r, is[m]? = some i' → (m = l ∧ k = x) → r ∈ i'.wr → r ∉ i.rd ∧ r ∉ i.wr := fun m i' r hi' hp hw => by
        obtain ⟨rfl, rfl⟩ := hp
        obtain ⟨ol, hol'⟩ : ∃ ol, ops.toList[m]? = some ol := ⟨ops.toList[m]'(by simp; omega), List.getElem?_eq_getElem _⟩
        obtain ⟨i2, δ2, h1, h2, _⟩ := Chain.at 0 hc m ol hol'
        rw [hi'] at h1; injection h1 with h1; subst h1
        exact (hl _ _ _ _ hi' hol' h2 hi).2.2.1 r hw
      have hpair' : ∀ m i' r, is[m]? = some i' → (k = l ∧ m = x) → r ∈ i'.wr → r ∉ i.wr := fun m i' r hi' hp hw hw' => by
        obtain ⟨rfl, rfl⟩ := hp
        exact ((hl _ _ _ _ hi hol hδ hi').2.2.1 r hw').2 hw
      have hag : k ≠ l → ∀ r ∈ i.rd, St.get σ r = St.get (look (fun m => decide (m < k)) 0 δs σ0) r := fun hkl' r hr' => by
        rw [hst r]
        refine look_get δs 0 σ0 σ0 rfl fun m δ' hm hne => ?_
        simp only [Nat.zero_add] at hne
        obtain ⟨i', o', hi', hms, hs'⟩ := hat m δ' hm
        cases hki : keyIn r δ'
        · rfl
        · have hw := hs'.wrk hki
          rcases Nat.lt_trichotomy m k with hlt | heq | hgt
          · rcases Classical.em (m = l ∧ k = x) with hp | hp
            · exact absurd hr' (hpair m i' r hi' hp hw).1
            have := hahead m i' hlt hp hi' (confl_wr hw hr')
            exact absurd (by rw [this]; simp [hlt]) hne
          · subst heq; exact absurd (by rw [hkf]; simp) hne
          · have := hbehind m i' hgt (fun h => hkl' h.1) hms hi' (confl_rw hr' hw)
            exact absurd (by rw [this]; simp; omega) hne
      have hgi : k ≠ l → ∀ j ∈ i.al, j ∉ St.ids σ ∨ ¬ Region.wanted o (yielded ops a.tmps) = true := fun hkl' j hj => by
        rcases hs.2 with ⟨h1, h2, h3⟩ | ⟨h1, _⟩
        · left
          intro hjm
          have hnot := h3 j hj
          have hsub : ∀ (δs : List St) (f : Nat) (L : Nat → Bool) (τ : St), j ∉ St.ids (look L f δs τ) → j ∉ St.ids τ ∧ ∀ m δ, L (f + m) = true → δs[m]? = some δ → j ∉ St.ids δ := by
            intro δs
            induction δs with
            | nil => intro f L τ h; exact ⟨h, fun m δ _ hm => by simp at hm⟩
            | cons d ds ihd =>
              intro f L τ h
              obtain ⟨g1, g2⟩ := ihd (f + 1) L _ h
              have g1' : j ∉ St.ids τ := fun hh => g1 (by
                cases L f
                · exact hh
                · simp only [cond_true, St.ids, List.flatMap_append, List.mem_append]; exact .inr hh)
              refine ⟨g1', fun m δ hL hm => ?_⟩
              cases m with
              | zero =>
                simp at hm; subst hm
                intro hh
                refine g1 ?_
                rw [Nat.add_zero] at hL
                rw [hL]
                simp only [cond_true, St.ids, List.flatMap_append, List.mem_append]; exact .inl hh
              | succ m => exact g2 m δ (by rw [show f + 1 + m = f + (m + 1) by omega]; exact hL) (by simpa using hm)
          obtain ⟨g1, g2⟩ := hsub δs 0 _ σ0 hnot
          rcases hids j hjm with hj0 | ⟨m, δ', hml, hm, hjδ⟩
          · exact g1 hj0
          · obtain ⟨i', o', hi', hms, hs'⟩ := hat m δ' hm
            rcases Nat.lt_trichotomy m k with hlt | heq | hgt
            · exact g2 m δ' (by simp [hlt]) hm hjδ
            · subst heq; rw [hkf] at hml; cases hml
            · rcases hs'.2 with ⟨_, h2', _⟩ | ⟨_, h2', _⟩
              · rcases h2'.me j hjδ with hme | hme
                · have := hbehind m i' hgt (fun h => hkl' h.1) hms hi' (confl_wr (h2.al j hj) hme)
                  rw [this] at hml; cases hml
                · have := hbehind m i' hgt (fun h => hkl' h.1) hms hi' (confl_ww (h2.al j hj) (h2'.al j hme))
                  rw [this] at hml; cases hml
              · rw [h2'] at hjδ
                unfold killDst at hjδ
                cases hdst : o'.dst <;> rw [hdst] at hjδ <;> simp [St.ids, oids, X.ids, A1.ids, CV.ids] at hjδ
        · right
          rw [wanted_of hr ((guard_agree fun k' hk' => hag hkl' k' (hs.1 k' hk')).trans h1)]; simp
      have hnext : ∀ who' v w', Rep n C who' (δ ++ σ) (a.put o.dst v) w' → wpAny P .any ops Q fuel (listed.setIfInBounds k true) (a.put o.dst v) w' := fun who' v w' hr' => by
        have hg : ∀ m, (listed.setIfInBounds k true).getD m false = (listed.getD m false || Nat.beq m k) := fun m => by
          rcases Classical.em (m = k) with rfl | hne
          · simp [hkl]
          · have : Nat.beq m k = false := by
              cases e : Nat.beq m k
              · rfl
              · exact absurd (Nat.eq_of_beq_eq_true e) hne
            rw [getD_set_ne false (Ne.symm hne), this, Bool.or_false]
        have hgk : (listed.setIfInBounds k true).getD k false = true := by rw [hg, Nat.beq_refl, Bool.or_true]
        refine ih _ (δ ++ σ) who' _ w' (by simp [hls]) ?_ ?_ ?_ ?_ hr'
        · have h1 : (List.range ops.size).filter (fun m => !(listed.setIfInBounds k true).getD m false) = ((List.range ops.size).filter (fun m => !listed.getD m false)).filter (fun m => !Nat.beq m k) := by
            rw [List.filter_filter]
            refine List.filter_congr fun m _ => ?_
            rw [hg]; cases listed.getD m false <;> cases Nat.beq m k <;> rfl
          rw [h1]
          have h2 : k ∈ (List.range ops.size).filter (fun m => !listed.getD m false) := List.mem_filter.2 ⟨List.mem_range.2 hks, by rw [hkf]; rfl⟩
          have h3 := (List.length_filter_lt_length_iff_exists (p := fun m => !Nat.beq m k)).2 ⟨k, h2, by rw [Nat.beq_refl]; simp⟩
          omega
        · intro m o' e hm ho' he hb
          rw [hg] at hm ⊢
          cases hm' : listed.getD m false
          · rw [hm', Bool.false_or] at hm
            have : m = k := Nat.eq_of_beq_eq_true hm
            subst this
            rw [ho] at ho'; injection ho' with ho'; subst ho'
            rw [hed e he hb, Bool.true_or]
          · rw [hcl m o' e hm' ho' he hb, Bool.true_or]
        · intro r
          rw [St.get_app]
          cases hki : keyIn r δ
          · simp only [cond_false]
            rw [hst r]
            refine look_get δs 0 σ0 σ0 rfl fun m δ' hm hne => ?_
            simp only [Nat.zero_add] at hne
            rcases Classical.em (m = k) with rfl | hmk
            · rw [hδ] at hm; injection hm with hm; subst hm; exact hki
            · exact absurd (by rw [getD_set_ne false (Ne.symm hmk)]) hne
          · simp only [cond_true]
            have hw := hs.wrk hki
            have e1 : St.get (look (fun m => (listed.setIfInBounds k true).getD m false) 0 δs σ0) r = St.get (look (fun m => decide (m < 0 + k + 1)) 0 δs σ0) r := by
              refine look_get δs 0 σ0 σ0 rfl fun m δ' hm hne => ?_
              simp only [Nat.zero_add] at hne
              obtain ⟨i', o', hi', hms, hs'⟩ := hat m δ' hm
              cases hki' : keyIn r δ'
              · rfl
              · have hw' := hs'.wrk hki'
                rcases Nat.lt_trichotomy m k with hlt | heq | hgt
                · rcases Classical.em (m = l ∧ k = x) with hp | hp
                  · exact absurd hw (hpair m i' r hi' hp hw').2
                  have := hahead m i' hlt hp hi' (confl_ww hw' hw)
                  refine absurd ?_ hne
                  rw [hg, this, Bool.true_or]; simp; omega
                · subst heq
                  refine absurd ?_ hne
                  rw [hgk]; simp
                · rcases Classical.em (k = l ∧ m = x) with hp | hp
                  · exact absurd hw (hpair' m i' r hi' hp hw')
                  have := hbehind m i' hgt hp hms hi' (confl_ww hw hw')
                  refine absurd ?_ hne
                  rw [getD_set_ne false (by omega), this]; simp; omega
            rw [e1, look_succ δs 0 σ0 hδ, St.get_app, hki, cond_true]
        · intro j hj
          simp only [St.ids, List.flatMap_append, List.mem_append] at hj
          rcases hj with hj | hj
          · exact .inr ⟨k, δ, hgk, hδ, hj⟩
          · rcases hids j hj with h | ⟨m, δ', h1, h2, h3⟩
            · exact .inl h
            · exact .inr ⟨m, δ', by rw [hg, h1, Bool.true_or], h2, h3⟩
      unfold wpOp
      rw [ho]
      simp only
      have hmem : o ∈ ops.toList := List.mem_of_getElem? hol
      rcases Classical.em (k = l) with hkl' | hkl'
      · subst hkl'
        have hxs : x < ops.size := chkX_lt hchk
        obtain ⟨ox, hox⟩ : ∃ ox, ops.toList[x]? = some ox := ⟨ops.toList[x]'(by simpa using hxs), List.getElem?_eq_getElem _⟩
        obtain ⟨ix, δx, hix, hδx, hsx⟩ := Chain.at 0 hc x ox hox
        obtain ⟨h1, h2, h3, h4⟩ := hl _ _ _ _ hi hol hδ hix
        have hw : Region.wanted o (yielded ops a.tmps) = true := by unfold Region.wanted; rw [h2]
        rw [if_pos hw]
        refine .inl (h4 σ (fun r hr' => ?_) C who a w hr (hd o hmem) _ Q hnext)
        rcases Classical.em (keyIn r δx = true ∧ listed.getD x false = true) with ⟨hkx, hlx'⟩ | hno
        · right
          rw [hst r]
          refine look_get δs 0 σ0 σ0 rfl fun m δ' hm hne => ?_
          simp only [Nat.zero_add] at hne
          obtain ⟨i', o', hi', hms, hs'⟩ := hat m δ' hm
          cases hki : keyIn r δ'
          · rfl
          · have hwm := hs'.wrk hki
            have hwx := hsx.wrk hkx
            rcases Nat.lt_trichotomy m x with hlt | heq | hgt
            · rcases Classical.em (m = k) with rfl | hmk
              · rw [hi] at hi'; injection hi' with hi'; subst hi'
                exact absurd hwx (h3 r hwm).2
              · have hox' : ops[x]? = some ox := by simpa using hox
                have := chk_anc (chkX_chk hchk) hcl x ox m hox' (fun e he hb => hcl x ox e hlx' hox' he hb) hlt (chkX_confl hchk hxs hlt (fun h => hmk h.1) hi' hix (confl_ww hwm hwx))
                exact absurd (by rw [this]; simp; omega) hne
            · subst heq; exact absurd (by rw [hlx']; simp) hne
            · have := hbehind m i' (by omega) (by omega) hms hi' (confl_rw hr' hwm)
              exact absurd (by rw [this]; simp; omega) hne
        · left
          rw [hst r]
          refine look_get δs 0 σ0 σ0 rfl fun m δ' hm hne => ?_
          simp only [Nat.zero_add] at hne
          obtain ⟨i', o', hi', hms, hs'⟩ := hat m δ' hm
          cases hki : keyIn r δ'
          · rfl
          · have hwm := hs'.wrk hki
            rcases Nat.lt_trichotomy m k with hlt | heq | hgt
            · have := hahead m i' hlt (by omega) hi' (confl_wr hwm hr')
              exact absurd (by rw [this]; simp [hlt]) hne
            · subst heq; exact absurd (by rw [hkf]; simp) hne
            · rcases Classical.em (m = x) with rfl | hmx
              · rw [hδx] at hm; injection hm with hm; subst hm
                cases hlm : listed.getD m false
                · exact absurd (by rw [hlm]; simp; omega) hne
                · exact absurd ⟨hki, hlm⟩ hno
              · have := hbehind m i' hgt (fun h => hmx h.2) hms hi' (confl_rw hr' hwm)
                exact absurd (by rw [this]; simp; omega) hne
      rcases Classical.em (Region.wanted o (yielded ops a.tmps) = true) with hw | hw
      · have := hs.run (hag hkl') (fun j hj => (hgi hkl' j hj).resolve_right fun h => h hw) hr (hd o hmem) (Q := Q) hnext
        rw [if_pos hw] at this ⊢
        exact .inl this
      · have hw' : guardIs ops o (look (fun m => decide (m < k)) 0 δs σ0) = some false ∧ δ = killDst o := by
          rcases hs.2 with ⟨h1, h2, h3⟩ | ⟨h1, h2, h3⟩
          · exact absurd (wanted_of hr ((guard_agree fun k' hk' => hag hkl' k' (hs.1 k' hk')).trans h1)) hw
          · exact ⟨h1, h2⟩
        rw [if_neg hw]
        refine hnext who undef w ?_
        rw [hw'.2]
        unfold killDst
        cases hdst : o.dst with
        | none => simpa [Act.put] using hr
        | some d => exact hr.put (hd o hmem d hdst) rfl
def SqX (P : Program) (n : Nat) (ops : Array Oper) (os : List Oper) (acc : List (Info × St)) (σ : St) (K : List (Info × St) → St → Prop) : Prop :=
  ∃ ps : List (Info × St), Chain P n ops os (ps.map (·.1)) (ps.map (·.2)) σ ∧ K (acc.reverse ++ ps) (look (fun _ => true) 0 (ps.map (·.2)) σ)
theorem look_all : ∀ (δs : List St) (f g : Nat) (σ : St), look (fun _ => true) f δs σ = look (fun _ => true) g δs σ
  | [], _, _, _ => rfl
  | d :: ds, f, g, σ => look_all ds _ _ _
section
variable {P : Program} {n : Nat} {ops : Array Oper} {os : List Oper} {o : Oper} {acc : List (Info × St)} {i : Info} {σ δ : St} {K : List (Info × St) → St → Prop} {Q : Exit → St → Prop}
theorem SqX.nil (h : K acc.reverse σ) : SqX P n ops [] acc σ K := ⟨[], trivial, by simpa [look] using h⟩
theorem SqX.b (h : Op1 P n o i σ δ) (hg : guardIs ops o σ = some true) (hal : i.al.all (fun j => nomem j (St.ids σ)) = true) (hk : SqX P n ops os ((⟨guardKeys ops o ++ i.rd, i.wr, i.al⟩, δ) :: acc) (δ ++ σ) K) : SqX P n ops (o :: os) acc σ K := by
  obtain ⟨ps, h1, h2⟩ := hk
  refine ⟨(⟨guardKeys ops o ++ i.rd, i.wr, i.al⟩, δ) :: ps, ⟨⟨fun k hk => List.mem_append_left _ hk, .inl ⟨hg, h.more _, fun j hj => nomem_iff.1 (List.all_eq_true.1 hal j hj)⟩⟩, h1⟩, ?_⟩
  rw [List.reverse_cons, List.append_assoc] at h2
  show K _ (look (fun _ => true) 1 (ps.map (·.2)) (δ ++ σ))
  rw [look_all _ 1 0]; exact h2
theorem SqX.b1 {e : Key × Option X} (h : Op1 P n o i σ [e]) (hg : guardIs ops o σ = some true) (hal : i.al.all (fun j => nomem j (St.ids σ)) = true) (hk : SqX P n ops os ((⟨guardKeys ops o ++ i.rd, i.wr, i.al⟩, [e]) :: acc) (e :: σ) K) : SqX P n ops (o :: os) acc σ K := .b h hg hal hk
theorem SqX.b3 {e e' e2 : Key × Option X} (h : Op1 P n o i σ [e, e', e2]) (hg : guardIs ops o σ = some true) (hal : i.al.all (fun j => nomem j (St.ids σ)) = true) (hk : SqX P n ops os ((⟨guardKeys ops o ++ i.rd, i.wr, i.al⟩, [e, e', e2]) :: acc) (e :: e' :: e2 :: σ) K) : SqX P n ops (o :: os) acc σ K := .b h hg hal hk
theorem SqX.b4 {e e' e2 e3 : Key × Option X} (h : Op1 P n o i σ [e, e', e2, e3]) (hg : guardIs ops o σ = some true) (hal : i.al.all (fun j => nomem j (St.ids σ)) = true) (hk : SqX P n ops os ((⟨guardKeys ops o ++ i.rd, i.wr, i.al⟩, [e, e', e2, e3]) :: acc) (e :: e' :: e2 :: e3 :: σ) K) : SqX P n ops (o :: os) acc σ K := .b h hg hal hk
theorem SqX.a1 (T : Tabs P) {e : Key × Option X} (h : stepD T o σ = some (i, [e])) (hg : guardIs ops o σ = some true) (hal : i.al.all (fun j => nomem j (St.ids σ)) = true) (hk : SqX P n ops os ((⟨guardKeys ops o ++ i.rd, i.wr, i.al⟩, [e]) :: acc) (e :: σ) K) : SqX P n ops (o :: os) acc σ K :=
  .b (stepD_ok h) hg hal hk
theorem SqX.a2 (T : Tabs P) {e e' : Key × Option X} (h : stepD T o σ = some (i, [e, e'])) (hg : guardIs ops o σ = some true) (hal : i.al.all (fun j => nomem j (St.ids σ)) = true) (hk : SqX P n ops os ((⟨guardKeys ops o ++ i.rd, i.wr, i.al⟩, [e, e']) :: acc) (e :: e' :: σ) K) : SqX P n ops (o :: os) acc σ K :=
  .b (stepD_ok h) hg hal hk
theorem SqX.any {l x : Nat} {ps : List (Info × St)} {C : Ctx} {Q : Exit → Act → World → Prop} (hlx : l < x) (h1 : Chain P n ops ops.toList (ps.map (·.1)) (ps.map (·.2)) σ) (h2 : chkX l x ops (ps.map (·.1)) = true) (h3 : LoadX P n ops l x (ps.map (·.1)) (ps.map (·.2)) σ)
    (hd : ∀ o ∈ ops.toList, ∀ d, o.dst = some d → d < n) (hK : ∀ who a w, Rep n C who (look (fun _ => true) 0 (ps.map (·.2)) σ) a w → Q .normal a w) {who : Nat → Tag} {a : Act} {w : World} (hr : Rep n C who σ a w) : wpAny P .any ops Q ops.size (Array.replicate ops.size false) a w := by
  have hf : ∀ m, (Array.replicate ops.size false).getD m false = false := fun m => by
    rw [Array.getD_eq_getD_getElem?]; by_cases h : m < ops.size <;> simp [h]
  refine any_runX h1 hlx h2 h3 hd hK ops.size _ σ who a w (by simp) ?_ ?_ ?_ ?_ hr
  · exact Nat.le_trans (List.length_filter_le _ _) (by simp)
  · intro m o e hm; rw [hf] at hm; cases hm
  · intro r
    rw [look_none _ 0 σ (fun m _ => hf m)]
  · intro j hj; exact .inl hj
theorem dwp_drwX (hm : P.follows .mixedOrders = true) {l x : Nat} {id : Nat} {ops : List Oper} (hlx : Nat.blt l x = true) (hd : dstsLt n ops = true)
    (h : SqX P n ops.toArray ops [] σ (fun ps σ' => chkX l x ops.toArray (ps.map (·.1)) = true ∧ LoadX P n ops.toArray l x (ps.map (·.1)) (ps.map (·.2)) σ ∧ Q .normal σ')) : dwp P n (.region id ops.toArray true) Q σ := fun C who a w hr => by
  obtain ⟨ps, h1, h2, h3, h4⟩ := h
  exact wp_region_any hm (SqX.any (by simpa using hlx) h1 h2 h3 (dstsLt_spec hd) (fun who' a' w' hr' => ⟨who', _, hr', h4⟩) hr.drew)
theorem LoadX.mk {l x : Nat} {is : List Info} {δs : List St} {σ0 : St} {i j : Info} {o : Oper} {δ : St} (hi : is[l]? = some i) (ho : ops.toList[l]? = some o) (hδ : δs[l]? = some δ) (hj : is[x]? = some j) (hal : i.al = []) (hg : o.guard = none) (hw : (i.wr.all fun r => !(memK r j.rd) && !(memK r j.wr)) = true)
    (hD : ∀ σ', (∀ r ∈ i.rd, St.get σ' r = St.get (look (fun m => decide (m < l)) 0 δs σ0) r ∨ St.get σ' r = St.get (look (fun m => decide (m < x + 1)) 0 δs σ0) r) → Does P n o σ' (δ ++ σ')) : LoadX P n ops l x is δs σ0 := fun i' o' δ' j' h1 h2 h3 h4 => by
  rw [hi] at h1; injection h1 with h1; subst h1
  rw [ho] at h2; injection h2 with h2; subst h2
  rw [hδ] at h3; injection h3 with h3; subst h3
  rw [hj] at h4; injection h4 with h4; subst h4
  refine ⟨hal, hg, fun r hr => ?_, hD⟩
  have := List.all_eq_true.1 hw r hr
  simp only [Bool.and_eq_true, Bool.not_eq_true'] at this
  exact ⟨fun h => by rw [memK_iff.2 h] at this; simp at this, fun h => by rw [memK_iff.2 h] at this; simp at this⟩
end
def bxP (v : Value) (q : Nat) : Value := match v with
  | .pointer (some a) => .pointer (some ⟨a.block, q, none⟩)
  | _ => .pointer none
section
variable {P : Program} {n : Nat} {o : Oper} {σ : St}
theorem op_nilBV {d j tp : Nat} {v : Value} {s : Operand} (hd : o.dst = some d) (ho : o.op = .nilCheck s) (hs : St.ev σ s = some (.one (.c (.val v)))) (hk : St.get σ (.t tp) = some (.one (.c (.isB v j)))) :
    Op1 P n o ⟨(opKey s ++ [.t tp]) ++ (X.one (.c (.val (bxP v 0)))).ids.map Key.b, [.t d], []⟩ σ [(.t d, some (.one (.c (.val (bxP v 0)))))] :=
  .value _ hd fun σ' hag C who a w hr => by
    have e : a.eval s = v := hr.ev ((ev_agree fun k hk => hag k (List.mem_append_left _ hk)).trans hs)
    obtain ⟨e2, b, e3, hb⟩ := hr.slot tp _ ((hag (.t tp) (by simp)).trans hk)
    rw [e2] at e3
    subst e3
    exact ⟨.pointer (some ⟨b, 0, none⟩), by simp [execOp, ho, e], rfl⟩
theorem op_fldBV {d S f off q q' j tp : Nat} {v : Value} {s : Operand} (hd : o.dst = some d) (ho : o.op = .fieldAddr S s f) (hf : fieldOff P S f = some off) (hs : St.ev σ s = some (.one (.c (.val (bxP v q))))) (hk : St.get σ (.t tp) = some (.one (.c (.isB v j)))) (hq : q + off = q') :
    Op1 P n o ⟨(opKey s ++ [.t tp]) ++ (X.one (.c (.val (bxP v q')))).ids.map Key.b, [.t d], []⟩ σ [(.t d, some (.one (.c (.val (bxP v q')))))] :=
  .value _ hd fun σ' hag C who a w hr => by
    subst hq
    have e : a.eval s = bxP v q := hr.ev ((ev_agree fun k hk => hag k (List.mem_append_left _ hk)).trans hs)
    obtain ⟨e2, b, e3, hb⟩ := hr.slot tp _ ((hag (.t tp) (by simp)).trans hk)
    rw [e2] at e3
    subst e3
    have e : a.eval s = .pointer (some ⟨b, q, none⟩) := e
    exact ⟨.pointer (some ⟨b, q + off, none⟩), by simp [execOp, ho, e, run_fieldAt hf], rfl⟩
theorem op_loadBV {d t m j tp q E m' : Nat} {pv v : Value} {s : Operand} {cs : List CV} {ds : List D} (hd : o.dst = some d) (ho : o.op = .load t s) (hr : rowT P t = some (false, m)) (hs : St.ev σ s = some (.one (.c (.val (bxP pv q))))) (hk : St.get σ (.t tp) = some (.one (.c (.isB pv j)))) (hb : St.get σ (.b j) = some (.box cs))
    (hc : cs[q]? = some (.ownK v E m' ds)) (hmc : Nat.ble j EXT = true) : Op1 P n o ⟨(opKey s ++ [.t tp, .b j]) ++ (X.one (.c (.val v))).ids.map Key.b, [.t d], []⟩ σ [(.t d, some (.one (.c (.val v))))] :=
  .value (opKey s ++ [.t tp, .b j]) hd fun σ' hag C who a w hrp => by
    have e : a.eval s = bxP pv q := hrp.ev ((ev_agree fun k hk => hag k (List.mem_append_left _ hk)).trans hs)
    obtain ⟨e2, b, e3, hbw⟩ := hrp.slot tp _ ((hag (.t tp) (by simp)).trans hk)
    rw [e2] at e3
    subst e3
    have e : a.eval s = .pointer (some ⟨b, q, none⟩) := e
    obtain ⟨vs, E', h1, h2, h3, h4⟩ := box_cell hrp hbw ((hag (.b j) (by simp)).trans hb) hmc
    have hq : q < vs.length := by rw [h2]; exact (List.getElem?_eq_some_iff.1 hc).1
    have hv := List.getElem?_eq_getElem hq
    have hk := h4 q _ _ hc hv
    refine ⟨vs[q], ?_, hk.1⟩
    have := run_load1 hr (h3 q _ hv)
    simp only [execOp, ho, e, Sem.run_bind, this, Result.andThen_ok, Sem.run_pure]
theorem Op1.wkIn {i : Info} {δ δ0 : St} {ks wr0 : List Key} (hW : ∀ σ', (∀ k ∈ ks, St.get σ' k = St.get σ k) → Wk n σ' (δ0 ++ σ')) (hids : ∀ j ∈ St.ids δ0, Key.b j ∈ ks) (hsub : ∀ σ', (∀ k ∈ ks, St.get σ' k = St.get σ k) → ∀ j ∈ St.ids δ0, j ∈ St.ids σ') (hwr : ∀ e ∈ δ0, e.1 ∈ wr0) (h : Op1 P n o i (δ0 ++ σ) δ) :
    Op1 P n o ⟨ks ++ i.rd, wr0 ++ i.wr, i.al⟩ σ (δ ++ δ0) where
  does := fun σ' hag hal C who a w hr hdst K Q hK => by
    have hag0 : ∀ k ∈ ks, St.get σ' k = St.get σ k := fun k hk => hag k (List.mem_append_left _ hk)
    obtain ⟨who', hr'⟩ := hW σ' hag0 C who a w hr
    refine h.does (δ0 ++ σ') (fun k hk => ?_) (fun j hj hm => ?_) C who' a w hr' hdst K Q (fun w1 v w' hr1 => hK w1 v w' ?_)
    · rw [St.get_app, St.get_app]
      cases keyIn k δ0
      · exact hag k (List.mem_append_right _ hk)
      · rfl
    · simp only [St.ids, List.flatMap_append, List.mem_append] at hm
      rcases hm with hm | hm
      · exact hal j hj (hsub σ' hag0 j hm)
      · exact hal j hj hm
    · rw [List.append_assoc]; exact hr1
  wr := fun e he => by
    rcases List.mem_append.1 he with he | he
    · exact List.mem_append_right _ (h.wr e he)
    · exact List.mem_append_left _ (hwr e he)
  me := fun j hj => by
    simp only [St.ids, List.flatMap_append, List.mem_append] at hj
    rcases hj with hj | hj
    · rcases h.me j hj with h1 | h1
      · exact .inl (List.mem_append_right _ h1)
      · exact .inr h1
    · exact .inl (List.mem_append_left _ (hids j hj))
  al := fun j hj => List.mem_append_right _ (h.al j hj)
theorem Wk.ofB {t j : Nat} {v : Value} (hs : St.get σ (.t t) = some (.one (.c (.isB v j)))) : Wk n σ ((.t t, some (.one (.c (.ptr j 0)))) :: σ) :=
  Wk.add fun C who a w hr => (hr.slot t _ hs).2
theorem Wk.outB {j tp t q E m : Nat} {pv v : Value} {cs cs' : List CV} {ds : List D} (ht : St.get σ (.t t) = some (.one (.c (.val v)))) (hk : St.get σ (.t tp) = some (.one (.c (.isB pv j)))) (hb : St.get σ (.b j) = some (.box cs)) (hq : cs[q]? = some (.ownK v E m ds)) (hc : cs.set q .any = cs') (hmc : Nat.ble j EXT = true) :
    Wk n σ ((.t t, some (.one (.c (.own E m ds)))) :: (.b j, some (.box cs')) :: σ) := fun C who a w hr => by
  have e1 : a.tmps.getD t undef = v := hr.slot t _ ht
  obtain ⟨e2, b, e3, hbw⟩ := hr.slot tp _ hk
  obtain ⟨vs, E', h1, h2, h3, h4⟩ := box_cell hr hbw hb hmc
  have hlt : q < vs.length := by rw [h2]; exact (List.getElem?_eq_some_iff.1 hq).1
  obtain ⟨e4, hown⟩ := h4 q _ _ hq (List.getElem?_eq_getElem hlt)
  refine ⟨tagAll (.own (.b j) 0 q) (.own (.t t) 0 0) who, ?_⟩
  have hr1 := hr.tagMove (k0 := .b j) (p0 := 0) (q0 := q) (t := .own (.t t) 0 0) (by simp)
  have hbx := box_tag (q := q) (t := .own (.t t) 0 0) (c' := .any) hr hb hmc (by simp) (fun (_ : CV) (_ : Value) _ _ => trivial)
  subst hc
  have hx : cvm w (tagAll (.own (.b j) 0 q) (.own (.t t) 0 0) who) (.own (.t t) 0 0) (.own E m ds) (a.tmps.getD t undef) := by
    rw [e1, ← e4]
    exact cvm.tag_own (show cvm w who (.own (.b j) 0 q) (.own E m ds) vs[q] from hown) hr.fz
  refine ((hr1.addBox hbx).addSlot (t := t) (x := .one (.c (.own E m ds))) hx).congr fun k => ?_
  simp only [St.get]
  cases Key.is (.t t) k
  · cases Key.is (.b j) k <;> simp
  · simp
theorem Op1.outIn {i : Info} {δ : St} {j tp t q E m : Nat} {pv v : Value} {cs cs' : List CV} {ds : List D} (ht : St.get σ (.t t) = some (.one (.c (.val v)))) (hk : St.get σ (.t tp) = some (.one (.c (.isB pv j)))) (hb : St.get σ (.b j) = some (.box cs)) (hq : cs[q]? = some (.ownK v E m ds)) (hc : cs.set q .any = cs') (hmc : Nat.ble j EXT = true) (hi : cs'.flatMap CV.ids = [])
    (h : Op1 P n o i ((.t t, some (.one (.c (.own E m ds)))) :: (.b j, some (.box cs')) :: σ) δ) : Op1 P n o ⟨[.t t, .t tp, .b j] ++ i.rd, [.t t, .b j] ++ i.wr, i.al⟩ σ (δ ++ [(.t t, some (.one (.c (.own E m ds)))), (.b j, some (.box cs'))]) := by
  have h0 : ∀ j', j' ∈ St.ids [((.t t : Key), some (X.one (.c (.own E m ds)))), (.b j, some (.box cs'))] → False := fun j' hj => by
    have : j' ∈ cs'.flatMap CV.ids := by simpa [St.ids, oids, X.ids, A1.ids, CV.ids] using hj
    rw [hi] at this; cases this
  exact Op1.wkIn (δ0 := [(.t t, some (.one (.c (.own E m ds)))), (.b j, some (.box cs'))]) (fun σ' hag => Wk.outB ((hag _ (by simp)).trans ht) ((hag _ (by simp)).trans hk) ((hag _ (by simp)).trans hb) hq hc hmc) (fun j' hj => (h0 j' hj).elim) (fun _ _ j' hj => (h0 j' hj).elim) (by simp) h
end
end Go.Proofs.Ytmanhdacnkpclaa
namespace Go.Proofs.Ytmanhdacnkpclaa
set_option linter.all false
open Go.RowKit
set_option maxHeartbeats 40000000 in
set_option maxRecDepth 100000 in
theorem pnorm (c : List Lt) (hk : clOkv c) (hf : clFew c) (hz : clSz c) (hl : c.length ≤ 1000) : FnD Try.prog 105 [lA Lt.d c] (.tup [lA Lt.d (norm c).1, iA (norm c).2]) := by
  refine Fn.of Try.func105 rfl Try.ntmps105 rfl (Nat.le_of_ble_eq_true rfl) ?_
  (refine wlk ?_)
  refine dwp_loop (fun p : Nat × List Lt => [(.t 4, some (.one (.c (.own 59 7 (p.2.map Lt.d))))), (.t 17, some (.one (lA Lt.d c))), (.t 18, some (.one (iA c.length))), (.t 19, some (.one (iA p.1)))])
    (fun p => p.1 ≤ c.length ∧ orients (c.take p.1) = some p.2) (fun p => c.length - p.1) (0, []) ⟨by simp only; omega, rfl⟩ ((Wk.nilOwn (d := 4) (E := 59) (m := 7) rfl).trans fgs) ?_
  rintro ⟨k, o⟩ ⟨hkk, ho⟩
  dsimp only at hkk ho ⊢
  by_cases hkl : k < c.length
  · obtain ⟨⟨ng, xl, xr⟩, hx⟩ := get_of_lt hkl
    have hm := List.mem_of_getElem? hx
    have hkx := hk _ hm
    have hzx := hz _ hm
    dsimp only at hkx hzx
    have hol := orients_len ho
    rw [List.length_take] at hol
    have hsm := psame xl xr
    have hcm := pcompare xl xr (by omega) (by omega) hkx.1 hkx.2
    have hless := compare_less hkx.1 hkx.2
    cases hs : xl.same xr
    · rw [hs] at hsm
      have hmo := orients_more ho hx hs
      by_cases ha : above xr xl = true
      · have h1 := hless.2 ha
        have hor : orient1 ⟨ng, xl, xr⟩ = ⟨ng, xr, xl⟩ := if_pos ha
        rw [hor] at hmo
        have hrl : (o ++ [(⟨ng, xr, xl⟩ : Lt)]).length ≤ 1001 := by simp; omega
        have hr1 : o ++ [(⟨ng, xr, xl⟩ : Lt)] = o ++ [⟨ng, xr, xl⟩] := rfl
        (refine wlk ?_)
        (refine wlC hsm ?_)
        (refine wlk ?_)
        (refine wlC hcm ?_)
        (refine wlk ?_)
        (refine SqA.b1 (op_bsT (T := TB) (f := Lt.d) [(⟨ng, xr, xl⟩ : Lt)] rfl rfl rfl rfl rfl rfl rfl rfl rfl rfl rfl) rfl rfl ?_)
        (refine wlk ?_)
        exact ⟨(k + 1, o ++ [⟨ng, xr, xl⟩]), ⟨by simp only; omega, hmo⟩, fgs, by simp only; omega⟩
      · have h1 : ¬ compare xl xr = 1 := fun h => ha (hless.1 h)
        have hor : orient1 ⟨ng, xl, xr⟩ = ⟨ng, xl, xr⟩ := if_neg ha
        rw [hor] at hmo
        have hrl : (o ++ [(⟨ng, xl, xr⟩ : Lt)]).length ≤ 1001 := by simp; omega
        have hr1 : o ++ [(⟨ng, xl, xr⟩ : Lt)] = o ++ [⟨ng, xl, xr⟩] := rfl
        (refine wlk ?_)
        (refine wlC hsm ?_)
        (refine wlk ?_)
        (refine wlC hcm ?_)
        (refine wlk ?_)
        (refine SqA.b1 (op_bsT (T := TB) (f := Lt.d) [(⟨ng, xl, xr⟩ : Lt)] rfl rfl rfl rfl rfl rfl rfl rfl rfl rfl rfl) rfl rfl ?_)
        (refine wlk ?_)
        exact ⟨(k + 1, o ++ [⟨ng, xl, xr⟩]), ⟨by simp only; omega, hmo⟩, fgs, by simp only; omega⟩
    · rw [hs] at hsm
      cases ng
      · (refine wlk ?_)
        (refine wlC hsm ?_)
        (refine wlk ?_)
        refine fin_wk (fun n => Wk.nilArr (d := 2) rfl) ?_
        (refine wfTT ?_)
        exact Xn (c := []) (e := 6) (norm_n1 (orients_none_at ho hx hs rfl)).symm
      · (refine wlk ?_)
        (refine wlC hsm ?_)
        (refine wlk ?_)
        exact ⟨(k + 1, o), ⟨by simp only; omega, orients_skip ho hx hs rfl⟩, fgs, by simp only; omega⟩
  have : k = c.length := by omega
  subst this
  rw [List.take_length] at ho
  have hol := orients_len ho
  have hko := orients_okv ho hk
  have hfo := orients_few ho hf
  have hzo := orients_sz ho hz
  have hvs := pclVars o hko hfo hzo
  have hv10 := clVars_ten hfo
  have hzq := numb_sz hko hzo
  have hap := papplyC (numb (clVars [] o)) o (by omega) hzo
  have hn2 := norm_n2 ho
  have hn3 := @norm_n3 c o
  have hql : (each (app (numb (clVars [] o))) o).length = o.length := each_len
  generalize each (app (numb (clVars [] o))) o = q at *
  generalize clVars [] o = vs at *
  refine dwp_wk (Wk.freezeAt (d := 4) rfl) ?_
  (refine wlk ?_)
  (refine wlC hvs ?_)
  (refine wlk ?_)
  refine dwp_loop (fun k : Nat => [(.t 4, some (.one (lA Lt.d o))), (.t 8, some (.one (.c (.own 42 4 ((numb (vs.take k)).map Pr.d))))), (.t 53, some (.one (lA Int.d vs))), (.t 54, some (.one (iA vs.length))), (.t 55, some (.one (iA k)))])
    (fun k => k ≤ vs.length) (fun k => vs.length - k) 0 (by omega) ((Wk.nilOwn (d := 8) (E := 42) (m := 4) rfl).trans fgs) ?_
  intro k hk'
  by_cases hkl : k < vs.length
  · obtain ⟨v, hx⟩ := get_of_lt hkl
    have hsn := numb_snoc hx
    have hnl : (numb (vs.take (k + 1))).length ≤ 10 := by rw [numb_len, List.length_take]; omega
    (refine wlk ?_)
    (refine SqA.b2 (Op1.reN (t := 64) rfl (op_bsT (T := TB) (f := Pr.d) [((v, ⟨true, (k : Int), []⟩) : Pr)] rfl rfl rfl rfl rfl rfl rfl rfl rfl rfl rfl)) rfl rfl ?_)
    (refine wlk ?_)
    exact ⟨k + 1, by omega, fgs, by omega⟩
  have : k = vs.length := by omega
  subst this
  rw [List.take_length]
  refine dwp_wk (Wk.freezeAt (d := 8) rfl) ?_
  have hnl := numb_len vs
  generalize numb vs = sb at *
  (refine wlk ?_)
  (refine wlC hap ?_)
  (refine wlk ?_)
  refine dwp_loop (fun p : Nat × List Lt => [(.t 8, some (.one (lA Pr.d sb))), (.t 11, some (.one (.c (.own 59 7 (p.2.map Lt.d))))), (.t 70, some (.one (lA Lt.d q))), (.t 71, some (.one (iA q.length))), (.t 72, some (.one (iA p.1)))])
    (fun p => p.1 ≤ q.length ∧ dedup [] (q.take p.1) = some p.2) (fun p => q.length - p.1) (0, []) ⟨by simp only; omega, rfl⟩ ((Wk.nilOwn (d := 11) (E := 59) (m := 7) rfl).trans fgs) ?_
  rintro ⟨k, once⟩ ⟨hkk, ho3⟩
  dsimp only at hkk ho3 ⊢
  by_cases hkl : k < q.length
  · obtain ⟨⟨ng, xl, xr⟩, hx⟩ := get_of_lt hkl
    have hol3 := dedup_len ho3
    rw [List.length_take] at hol3
    simp only [List.length_nil] at hol3
    have hS := hasS_eq once ⟨ng, xl, xr⟩
    have hN := hasN_eq once ⟨ng, xl, xr⟩
    have g1 := phas once ⟨ng, xl, xr⟩
    have g2 := phas once ⟨ng, xr, xl⟩
    have g3 := phas once ⟨!ng, xl, xr⟩
    have g4 := phas once ⟨!ng, xr, xl⟩
    dsimp only at hS hN
    refine dwp_isO (t := 11) rfl fun v => ?_
    generalize (once.any fun x => x.same ⟨ng, xl, xr⟩) = b1 at *
    generalize (once.any fun x => x.same ⟨ng, xr, xl⟩) = b2 at *
    generalize (once.any fun x => x.same ⟨!ng, xl, xr⟩) = b3 at *
    generalize (once.any fun x => x.same ⟨!ng, xr, xl⟩) = b4 at *
    cases b1
    rotate_left
    · (refine wlk ?_)
      (refine SqA.b1 (op_callL (fun t => t = .own (.t 11) 0 0) rfl rfl rfl (by kernel_rfl) g1 (LendL.cons (lend_val (t := 11) rfl rfl rfl) (LendL.cons (lend_same rfl rfl rfl) .nil)) rfl rfl) rfl rfl ?_)
      (refine wlk ?_)
      exact ⟨(k + 1, once), ⟨by simp only; omega, dedup_skip ho3 hx (by simpa using hS)⟩, (Wk.ofK (t := 11) rfl).trans fgs, by simp only; omega⟩
    cases b2
    rotate_left
    · (refine wlk ?_)
      (refine SqA.b1 (op_callL (fun t => t = .own (.t 11) 0 0) rfl rfl rfl (by kernel_rfl) g1 (LendL.cons (lend_val (t := 11) rfl rfl rfl) (LendL.cons (lend_same rfl rfl rfl) .nil)) rfl rfl) rfl rfl ?_)
      (refine wlk ?_)
      (refine SqA.b1 (op_callL (fun t => t = .own (.t 11) 0 0) rfl rfl rfl (by kernel_rfl) g2 (LendL.cons (lend_val (t := 11) rfl rfl rfl) (LendL.cons (lend_same rfl rfl rfl) .nil)) rfl rfl) rfl rfl ?_)
      (refine wlk ?_)
      exact ⟨(k + 1, once), ⟨by simp only; omega, dedup_skip ho3 hx (by simpa using hS)⟩, (Wk.ofK (t := 11) rfl).trans fgs, by simp only; omega⟩
    have hS0 : hasS once ⟨ng, xl, xr⟩ = false := by simpa using hS
    cases b3
    rotate_left
    · (refine wlk ?_)
      (refine SqA.b1 (op_callL (fun t => t = .own (.t 11) 0 0) rfl rfl rfl (by kernel_rfl) g1 (LendL.cons (lend_val (t := 11) rfl rfl rfl) (LendL.cons (lend_same rfl rfl rfl) .nil)) rfl rfl) rfl rfl ?_)
      (refine wlk ?_)
      (refine SqA.b1 (op_callL (fun t => t = .own (.t 11) 0 0) rfl rfl rfl (by kernel_rfl) g2 (LendL.cons (lend_val (t := 11) rfl rfl rfl) (LendL.cons (lend_same rfl rfl rfl) .nil)) rfl rfl) rfl rfl ?_)
      (refine wlk ?_)
      (refine SqA.b1 (op_callL (fun t => t = .own (.t 11) 0 0) rfl rfl rfl (by kernel_rfl) g3 (LendL.cons (lend_val (t := 11) rfl rfl rfl) (LendL.cons (lend_same rfl rfl rfl) .nil)) rfl rfl) rfl rfl ?_)
      (refine wlk ?_)
      refine fin_wk (fun n => Wk.nilArr (d := 2) rfl) ?_
      (refine wfTT ?_)
      exact Xn (c := []) (e := 6) (hn2 (dedup_none_at ho3 hx hS0 (by simpa using hN))).symm
    cases b4
    rotate_left
    · (refine wlk ?_)
      (refine SqA.b1 (op_callL (fun t => t = .own (.t 11) 0 0) rfl rfl rfl (by kernel_rfl) g1 (LendL.cons (lend_val (t := 11) rfl rfl rfl) (LendL.cons (lend_same rfl rfl rfl) .nil)) rfl rfl) rfl rfl ?_)
      (refine wlk ?_)
      (refine SqA.b1 (op_callL (fun t => t = .own (.t 11) 0 0) rfl rfl rfl (by kernel_rfl) g2 (LendL.cons (lend_val (t := 11) rfl rfl rfl) (LendL.cons (lend_same rfl rfl rfl) .nil)) rfl rfl) rfl rfl ?_)
      (refine wlk ?_)
      (refine SqA.b1 (op_callL (fun t => t = .own (.t 11) 0 0) rfl rfl rfl (by kernel_rfl) g3 (LendL.cons (lend_val (t := 11) rfl rfl rfl) (LendL.cons (lend_same rfl rfl rfl) .nil)) rfl rfl) rfl rfl ?_)
      (refine wlk ?_)
      (refine SqA.b1 (op_callL (fun t => t = .own (.t 11) 0 0) rfl rfl rfl (by kernel_rfl) g4 (LendL.cons (lend_val (t := 11) rfl rfl rfl) (LendL.cons (lend_same rfl rfl rfl) .nil)) rfl rfl) rfl rfl ?_)
      (refine wlk ?_)
      refine fin_wk (fun n => Wk.nilArr (d := 2) rfl) ?_
      (refine wfTT ?_)
      exact Xn (c := []) (e := 6) (hn2 (dedup_none_at ho3 hx hS0 (by simpa using hN))).symm
    have hN0 : hasN once ⟨ng, xl, xr⟩ = false := by simpa using hN
    have hmo := dedup_more ho3 hx hS0 hN0
    have hr1 : once ++ [(⟨!(!ng), xl, xr⟩ : Lt)] = once ++ [⟨ng, xl, xr⟩] := by simp
    have hrl : (once ++ [(⟨ng, xl, xr⟩ : Lt)]).length ≤ 1001 := by simp; omega
    (refine wlk ?_)
    (refine SqA.b1 (op_callL (fun t => t = .own (.t 11) 0 0) rfl rfl rfl (by kernel_rfl) g1 (LendL.cons (lend_val (t := 11) rfl rfl rfl) (LendL.cons (lend_same rfl rfl rfl) .nil)) rfl rfl) rfl rfl ?_)
    (refine wlk ?_)
    (refine SqA.b1 (op_callL (fun t => t = .own (.t 11) 0 0) rfl rfl rfl (by kernel_rfl) g2 (LendL.cons (lend_val (t := 11) rfl rfl rfl) (LendL.cons (lend_same rfl rfl rfl) .nil)) rfl rfl) rfl rfl ?_)
    (refine wlk ?_)
    (refine SqA.b1 (op_callL (fun t => t = .own (.t 11) 0 0) rfl rfl rfl (by kernel_rfl) g3 (LendL.cons (lend_val (t := 11) rfl rfl rfl) (LendL.cons (lend_same rfl rfl rfl) .nil)) rfl rfl) rfl rfl ?_)
    (refine wlk ?_)
    (refine SqA.b1 (op_callL (fun t => t = .own (.t 11) 0 0) rfl rfl rfl (by kernel_rfl) g4 (LendL.cons (lend_val (t := 11) rfl rfl rfl) (LendL.cons (lend_same rfl rfl rfl) .nil)) rfl rfl) rfl rfl ?_)
    (refine wlE ?_)
    refine dwp_wk (Wk.ofK (t := 11) rfl) ?_
    (refine wlk ?_)
    (refine SqA.b1 (op_bsT (T := TB) (f := Lt.d) [(⟨!(!ng), xl, xr⟩ : Lt)] rfl rfl rfl rfl rfl rfl rfl rfl rfl rfl rfl) rfl rfl ?_)
    (refine wlk ?_)
    exact ⟨(k + 1, once ++ [⟨ng, xl, xr⟩]), ⟨by simp only; omega, hmo⟩, fgs, by simp only; omega⟩
  have : k = q.length := by omega
  subst this
  rw [List.take_length] at ho3
  have hmem := dedup_mem ho3
  have hdl := dedup_len ho3
  simp only [List.length_nil] at hdl
  have hdz : clSz once := fun l hl => by
    rcases hmem l hl with h | h
    · cases h
    · exact hzq l h
  have hn4 := hn3 ho ho3
  refine dwp_wk (Wk.freezeAt (d := 11) rfl) ?_
  by_cases h4 : 4 < once.length
  · (refine wlk ?_)
    refine fin_wk (fun n => Wk.nilArr (d := 2) rfl) ?_
    (refine wfTT ?_)
    exact Xn (c := []) (e := 4) (by rw [hn4, if_pos (.inl h4)])
  by_cases h5 : 5 < vs.length
  · (refine wlk ?_)
    refine fin_wk (fun n => Wk.nilArr (d := 2) rfl) ?_
    (refine wfTT ?_)
    exact Xn (c := []) (e := 4) (by rw [hn4, if_pos (.inr (.inl h5))])
  (refine wlk ?_)
  refine dwp_loop (fun k : Nat => [(.t 11, some (.one (lA Lt.d once))), (.t 124, some (.one (lA Lt.d once))), (.t 125, some (.one (iA once.length))), (.t 126, some (.one (iA k)))])
    (fun k => k ≤ once.length ∧ ∀ (j : Nat) (x : Lt), j < k → once[j]? = some x → x.left.size ≤ 12 ∧ x.right.size ≤ 12) (fun k => once.length - k) 0 ⟨by omega, fun j x h => absurd h (by omega)⟩ fgs ?_
  rintro k ⟨hkk, hno⟩
  by_cases hkl : k < once.length
  · obtain ⟨⟨ng, xl, xr⟩, hx⟩ := get_of_lt hkl
    have hzx := hdz _ (List.mem_of_getElem? hx)
    dsimp only at hzx
    have g1 := psize xl
    have g2 := psize xr
    rw [w64 (by omega)] at g1 g2
    by_cases h1 : 12 < xl.size
    · (refine wlk ?_)
      (refine wlC g1 ?_)
      (refine wlk ?_)
      refine fin_wk (fun n => Wk.nilArr (d := 2) rfl) ?_
      (refine wfTT ?_)
      exact Xn (c := []) (e := 4) (by rw [hn4, if_pos (.inr (.inr (bigCl_at hx (.inl h1))))])
    by_cases h2 : 12 < xr.size
    · (refine wlk ?_)
      (refine wlC g1 ?_)
      (refine wlk ?_)
      (refine wlC g2 ?_)
      (refine wlk ?_)
      refine fin_wk (fun n => Wk.nilArr (d := 2) rfl) ?_
      (refine wfTT ?_)
      exact Xn (c := []) (e := 4) (by rw [hn4, if_pos (.inr (.inr (bigCl_at hx (.inr h2))))])
    (refine wlk ?_)
    (refine wlC g1 ?_)
    (refine wlk ?_)
    (refine wlC g2 ?_)
    (refine wlk ?_)
    exact ⟨k + 1, ⟨by omega, upto_succ hno hx ⟨by simp only; omega, by simp only; omega⟩⟩, fgs, by omega⟩
  have : k = once.length := by omega
  subst this
  (refine wlk ?_)
  (refine wfTT ?_)
  exact Xn (c := once) (e := 0) (by rw [hn4, if_neg (fun h => h.elim h4 fun h => h.elim h5 (bigCl_yes hno))])
end Go.Proofs.Ytmanhdacnkpclaa
namespace Go.Proofs.Ytmanhdacnkpclaa
set_option linter.all false
open Go.RowKit
set_option maxHeartbeats 4000000 in
set_option maxRecDepth 100000 in
theorem pwrongCl (s : List Int) (c : List Lt) : FnD Try.prog 121 [lA Int.d s, lA Lt.d c] (.one (iA (wrongCl s c))) := by
  refine Fn.of Try.func121 rfl Try.ntmps121 rfl (Nat.le_of_ble_eq_true rfl) ?_
  by_cases h4 : 4 < c.length
  · (refine wlk ?_)
    (refine wfT ?_)
    exact Xi (b := 5) (by simp [wrongCl, h4])
  (refine wlk ?_)
  refine dwp_loop (fun k : Nat => [(.t 0, some (.one (lA Int.d s))), (.t 13, some (.one (lA Lt.d c))), (.t 14, some (.one (iA c.length))), (.t 15, some (.one (iA k)))])
    (fun k => k ≤ c.length ∧ ∀ j y, j < k → c[j]? = some y → wrong s y.left = 0 ∧ wrong s y.right = 0) (fun k => c.length - k) 0 ⟨by omega, fun j x h => absurd h (by omega)⟩ fgs ?_
  rintro k ⟨hk, hno⟩
  by_cases hkl : k < c.length
  rotate_left
  · have : k = c.length := by omega
    subst this
    (refine wlk ?_)
    (refine wfT ?_)
    exact Xi (b := 0) (by simp [wrongCl, h4, wrongLits_yes hno])
  obtain ⟨x, hx⟩ := get_of_lt hkl
  have hw := wrongLits_no hno hx
  (refine wlk ?_)
  (refine SqA.b1 (op_bsT (T := TB) (f := Tm.d) [x.left, x.right] rfl rfl rfl rfl rfl rfl rfl rfl rfl rfl rfl) rfl rfl ?_)
  (refine wlk ?_)
  refine dwp_loop (fun i : Nat => [(.t 0, some (.one (lA Int.d s))), (.t 13, some (.one (lA Lt.d c))), (.t 14, some (.one (iA c.length))), (.t 15, some (.one (iA k))), (.t 23, some (.one (lA Tm.d [x.left, x.right]))), (.t 24, some (.one (iA (2 : Nat)))), (.t 25, some (.one (iA i)))])
    (fun i => i ≤ 2 ∧ ∀ j y, j < i → [x.left, x.right][j]? = some y → wrong s y = 0) (fun i => 2 - i) 0 ⟨by omega, fun j x h => absurd h (by omega)⟩ fgs ?_
  rintro i ⟨hi, hin⟩
  by_cases hi2 : i < 2
  rotate_left
  · have : i = 2 := by omega
    subst this
    have h1 := hin 0 x.left (by omega) rfl
    have h2 := hin 1 x.right (by omega) rfl
    (refine wlk ?_)
    exact ⟨k + 1, ⟨by omega, upto_succ hno hx ⟨h1, h2⟩⟩, fgs, by omega⟩
  obtain ⟨y, hy⟩ := get_of_lt (s := [x.left, x.right]) (k := i) hi2
  by_cases h1 : wrong s y = 0
  · (refine wlk ?_)
    (refine SqA.b1 (op_call none rfl rfl rfl (by kernel_rfl) (FnD.use (pwrong s y)) rfl rfl rfl rfl rfl rfl) rfl rfl ?_)
    (refine wlk ?_)
    exact ⟨i + 1, ⟨by omega, upto_succ hin hy h1⟩, fgs, by omega⟩
  · have hres : wrongCl s c = wrong s y := by
      rcases Nat.lt_or_ge i 1 with h0 | h0
      · have : i = 0 := by omega
        subst this
        simp at hy; subst hy
        simp [wrongCl, h4, hw, wrongLits, h1]
      · have : i = 1 := by omega
        subst this
        simp at hy; subst hy
        have h2 := hin 0 x.left (by omega) rfl
        simp [wrongCl, h4, hw, wrongLits, h1, h2]
    (refine wlk ?_)
    (refine SqA.b1 (op_call none rfl rfl rfl (by kernel_rfl) (FnD.use (pwrong s y)) rfl rfl rfl rfl rfl rfl) rfl rfl ?_)
    (refine wlk ?_)
    (refine wfT ?_)
    exact Xi (b := wrong s y) hres.symm
abbrev pfBoxW (vw : Value) (p : Pf) : List CV := [.arr (p.sig.map Int.d), .own 101 3 (p.steps.map Sp.d), .own 3 1 (p.active.map Int.d), .ownK vw 3 1 (p.wait.map Int.d), .val (.int .i64 p.found), .val (.bool p.lost)]
set_option maxHeartbeats 4000000 in
set_option maxRecDepth 100000 in
theorem saddW (vw : Value) (p : Pf) (rule : Int) (frm : List Int) (c : List Lt) (h120 : ¬ 120 ≤ p.steps.length) (hl : p.steps.length ≤ 1000) :
    FnB Try.prog 122 [.c (.ptr EXT 0), iA rule, lA Int.d frm, lA Lt.d c] (pfBoxW vw p) (.one (iA p.steps.length)) (pfBoxW vw ⟨p.sig, p.steps ++ [⟨rule, frm, c⟩], p.active, p.wait, if c.length = 0 ∧ p.found < 0 then (p.steps.length : Int) else p.found, p.lost⟩) := by
  refine Fn.of Try.func122 rfl Try.ntmps122 rfl (Nat.le_of_ble_eq_true rfl) ?_
  obtain ⟨sg, st, ac, wa, fo, lo⟩ := p
  dsimp only at hl h120 ⊢
  have e3 : ((st.length + 1 : Nat) : Int) - 1 = (st.length : Int) := by omega
  have hlen : (st ++ [(⟨rule, frm, c⟩ : Sp)]).length = st.length + 1 := by simp
  refine dwp_isOB (j := EXT) (q := 1) rfl rfl rfl ⟨0, rfl⟩ fun v => ?_
  (refine wlk ?_)
  (refine SqA.b1 (op_lenKT (T := TB) (f := Sp.d) (l := st) (tp := 0) (j := EXT) (q := 1) rfl rfl rfl rfl rfl rfl rfl rfl) rfl rfl ?_)
  (refine wlE ?_)
  refine dwp_wk (Wk.ofKB (j := EXT) (q := 1) rfl rfl rfl rfl) ?_
  (refine wlk ?_)
  (refine SqA.b1 (op_bsT (T := TB) (f := Sp.d) [(⟨rule, frm, c⟩ : Sp)] rfl rfl rfl rfl rfl rfl rfl rfl rfl rfl rfl) rfl rfl ?_)
  (refine wlE ?_)
  refine dwp_isOB (j := EXT) (q := 1) rfl rfl rfl ⟨0, rfl⟩ fun v' => ?_
  (refine wlk ?_)
  (refine SqA.b1 (op_lenKT (T := TB) (f := Sp.d) (l := st ++ [(⟨rule, frm, c⟩ : Sp)]) (tp := 0) (j := EXT) (q := 1) rfl rfl rfl rfl rfl rfl rfl rfl) rfl rfl ?_)
  rw [hlen]
  by_cases hc0 : c.length = 0
  · by_cases hf0 : fo < 0
    · rw [if_pos ⟨hc0, hf0⟩]
      (refine wlk ?_)
      refine fin_wk (fun n => Wk.ofKB (j := EXT) (q := 1) rfl rfl rfl rfl) ?_
      (refine wbT ?_)
      rw [e3]
      exact XB rfl rfl
    · rw [if_neg (fun h => hf0 h.2)]
      (refine wlk ?_)
      refine fin_wk (fun n => Wk.ofKB (j := EXT) (q := 1) rfl rfl rfl rfl) ?_
      (refine wbT ?_)
      rw [e3]
      exact XB rfl rfl
  · rw [if_neg (fun h => hc0 h.1)]
    (refine wlk ?_)
    refine fin_wk (fun n => Wk.ofKB (j := EXT) (q := 1) rfl rfl rfl rfl) ?_
    (refine wbT ?_)
    rw [e3]
    exact XB rfl rfl
abbrev zero4 : List CV := [.val (.slice none 0 0), .val (.slice none 0 0), .val (.slice none 0 0), .val (.slice none 0 0), .val (.int .i64 0), .val (.bool false)]
set_option maxHeartbeats 16000000 in
set_option maxRecDepth 100000 in
theorem wrongSig_len {S : List Int} (hs : wrongSig S = 0) : S.length ≤ 6 := by
  unfold wrongSig at hs
  split at hs
  · cases hs
  · omega
set_option maxHeartbeats 16000000 in
set_option maxRecDepth 100000 in
theorem snew {S : List Int} {l : List (List Lt)} : FnD Try.prog 80 [lA Int.d S, lA Cl.d l] (.tup [pfA (newP S l).1, iA (newP S l).2]) := by
  refine Fn.of Try.func80 rfl Try.ntmps80 rfl (Nat.le_of_ble_eq_true rfl) ?_
  have c0 := pwrongSig S
  by_cases hw : wrongSig S = 0
  rotate_left
  · have e : newP S l = (Pf.zero, wrongSig S) := if_neg hw
    rw [e]
    (refine wlk ?_)
    (refine wlC c0 ?_)
    (refine wlk ?_)
    refine fin_wk (fun n => Wk.nilArrB (j := 4) (q := 0) rfl rfl rfl) ?_
    refine fin_wk (fun n => Wk.nilArrB (j := 4) (q := 1) rfl rfl rfl) ?_
    refine fin_wk (fun n => Wk.nilArrB (j := 4) (q := 2) rfl rfl rfl) ?_
    refine fin_wk (fun n => Wk.nilArrB (j := 4) (q := 3) rfl rfl rfl) ?_
    (refine wfCT ?_)
    rfl
  by_cases h8 : 8 < l.length
  · have e : newP S l = (Pf.zero, 5) := by unfold newP; rw [if_pos hw, if_pos h8]
    rw [e]
    (refine wlk ?_)
    (refine wlC c0 ?_)
    (refine wlk ?_)
    refine fin_wk (fun n => Wk.nilArrB (j := 4) (q := 0) rfl rfl rfl) ?_
    refine fin_wk (fun n => Wk.nilArrB (j := 4) (q := 1) rfl rfl rfl) ?_
    refine fin_wk (fun n => Wk.nilArrB (j := 4) (q := 2) rfl rfl rfl) ?_
    refine fin_wk (fun n => Wk.nilArrB (j := 4) (q := 3) rfl rfl rfl) ?_
    (refine wfCT ?_)
    rfl
  have e : newP S l = newGo S 0 l ⟨S, [], [], [], -1, false⟩ := by unfold newP; rw [if_pos hw, if_neg h8]
  rw [e]
  clear e
  have c1 := cloneG S (by have := wrongSig_len hw; omega)
  (refine wlk ?_)
  (refine wlC c0 ?_)
  (refine wlk ?_)
  (refine wlC c1 ?_)
  (refine SqA.b2 (Op1.frzIn (t := 24) rfl (op_build rfl rfl fp5 zo17 rfl rfl)) rfl rfl ?_)
  (refine wlE ?_)
  refine dwp_wk (Wk.nilOwnB (j := 27) (q := 1) (E := 101) (m := 3) rfl rfl rfl) ?_
  refine dwp_wk (Wk.nilOwnB (j := 27) (q := 2) (E := 3) (m := 1) rfl rfl rfl) ?_
  refine dwp_wk (Wk.nilOwnB (j := 27) (q := 3) (E := 3) (m := 1) rfl rfl rfl) ?_
  (refine wlk ?_)
  refine dwp_loop (fun x : Nat × Pf => [(.t 0, some (.one (lA Int.d S))), (.t 4, some (.one (.c (.ptr 4 0)))), (.b 4, some (.box zero4)), (.t 5, some (.one (iA 0))), (.t 7, some (.one (.c (.ptr 27 0)))), (.b 27, some (.box (pfBox x.2))), (.t 28, some (.one (lA Cl.d l))), (.t 29, some (.one (iA l.length))), (.t 30, some (.one (iA x.1)))])
    (fun x => x.1 ≤ l.length ∧ newGo S 0 l ⟨S, [], [], [], -1, false⟩ = newGo S x.1 (l.drop x.1) x.2 ∧ x.2.steps.length ≤ x.1 ∧ x.2.wait.length ≤ x.1) (fun x => l.length - x.1) (0, ⟨S, [], [], [], -1, false⟩) ⟨by simp, rfl, by simp, by simp⟩ fgs ?_
  rintro ⟨k, p⟩ ⟨hk, hp, hst, hwa⟩
  dsimp only at hk hp hst hwa ⊢
  by_cases hkl : k < l.length
  rotate_left
  · have hkc : k = l.length := by omega
    subst hkc
    rw [List.drop_length] at hp
    have e : newGo S l.length [] p = (p, 0) := rfl
    rw [hp, e]
    refine dwp_wk (Wk.freezeB (j := 27) (q := 1) rfl rfl rfl) ?_
    refine dwp_wk (Wk.freezeB (j := 27) (q := 2) rfl rfl rfl) ?_
    refine dwp_wk (Wk.freezeB (j := 27) (q := 3) rfl rfl rfl) ?_
    (refine wlk ?_)
    (refine wfCT ?_)
    rfl
  obtain ⟨c, hc⟩ := get_of_lt hkl
  have c2 := pwrongCl S c
  have e1 : newGo S k (l.drop k) p = if wrongCl S c = 0 then (match norm c with
      | (n, e) => if e = 4 then (Pf.zero, 4) else if e = 0 then newGo S (k + 1) (l.drop (k + 1)) { (stepP p 1 [(k : Int)] n).1 with wait := p.wait ++ [((stepP p 1 [(k : Int)] n).1.steps.length : Int) - 1] } else newGo S (k + 1) (l.drop (k + 1)) p)
    else (Pf.zero, wrongCl S c) := by
    rw [drop_of hc]; rfl
  by_cases hwc : wrongCl S c = 0
  rotate_left
  · rw [hp, e1, if_neg hwc]
    (refine wlk ?_)
    (refine wlC c2 ?_)
    (refine wlk ?_)
    refine fin_wk (fun n => Wk.nilArrB (j := 4) (q := 0) rfl rfl rfl) ?_
    refine fin_wk (fun n => Wk.nilArrB (j := 4) (q := 1) rfl rfl rfl) ?_
    refine fin_wk (fun n => Wk.nilArrB (j := 4) (q := 2) rfl rfl rfl) ?_
    refine fin_wk (fun n => Wk.nilArrB (j := 4) (q := 3) rfl rfl rfl) ?_
    (refine wfCT ?_)
    rfl
  rw [if_pos hwc] at e1
  have hco := cok_of hw hwc
  have hl4 := hco.len
  have hgd : ∀ x ∈ c, (x.left.okv = true ∧ few x.left) ∧ (x.right.okv = true ∧ few x.right) := fun x hx => by
    obtain ⟨i, hi⟩ := List.getElem?_of_mem hx
    have ho := hco.cg.old hi
    exact ⟨⟨ho.1.1.okv, ho.1.1.few⟩, ho.2.1.okv, ho.2.1.few⟩
  have c3 := pnorm c (fun x hx => ⟨(hgd x hx).1.1, (hgd x hx).2.1⟩) (fun x hx => ⟨(hgd x hx).1.2, (hgd x hx).2.2⟩) (fun x hx => by have := hco.size x hx; omega) (by omega)
  rcases hn : norm c with ⟨d, e⟩
  rw [hn] at e1 c3
  dsimp only at e1 c3
  by_cases h4 : e = 4
  · subst h4
    rw [if_pos rfl] at e1
    rw [hp, e1]
    (refine wlk ?_)
    (refine wlC c2 ?_)
    (refine wlk ?_)
    (refine wlC c3 ?_)
    (refine wlk ?_)
    refine fin_wk (fun n => Wk.nilArrB (j := 4) (q := 0) rfl rfl rfl) ?_
    refine fin_wk (fun n => Wk.nilArrB (j := 4) (q := 1) rfl rfl rfl) ?_
    refine fin_wk (fun n => Wk.nilArrB (j := 4) (q := 2) rfl rfl rfl) ?_
    refine fin_wk (fun n => Wk.nilArrB (j := 4) (q := 3) rfl rfl rfl) ?_
    (refine wfCT ?_)
    rfl
  rw [if_neg h4] at e1
  by_cases h0 : e = 0
  rotate_left
  · rw [if_neg h0] at e1
    (refine wlk ?_)
    (refine wlC c2 ?_)
    (refine wlk ?_)
    (refine wlC c3 ?_)
    (refine wlk ?_)
    exact ⟨(k + 1, p), ⟨by simp only; omega, hp.trans e1, by simp only; omega, by simp only; omega⟩, fgs, by simp only; omega⟩
  subst h0
  rw [if_pos rfl] at e1
  obtain ⟨sg, st, ac, wa, fo, lo⟩ := p
  dsimp only at hst hwa e1
  have h120 : ¬ 120 ≤ st.length := by omega
  rw [stepP_in (by exact h120)] at e1
  dsimp only at e1
  have e3 : ((st ++ [(⟨1, [(k : Int)], d⟩ : Sp)]).length : Int) - 1 = (st.length : Int) := by simp
  rw [e3] at e1
  have hp2 := hp.trans e1
  clear e1 hp
  (refine wlk ?_)
  (refine wlC c2 ?_)
  (refine wlk ?_)
  (refine wlC c3 ?_)
  (refine wlE ?_)
  refine dwp_isOB (j := 27) (q := 3) rfl rfl rfl ⟨7, rfl⟩ fun vw => ?_
  refine dwp_isB (t := 7) (j := 27) rfl fun pv => ?_
  have hadd := saddW vw ⟨sg, st, ac, wa, fo, lo⟩ 1 [(k : Int)] d (by exact h120) (by dsimp only; omega)
  dsimp only at hadd
  have hwl : wa.length ≤ 1000 := by omega
  (refine wlN ?_)
  (refine wlE ?_)
  (refine wlN ?_)
  (refine wlE ?_)
  (repeat (first | (with_reducible refine dwp_seq ?_) | (with_reducible refine dwp_block ?_) | (with_reducible refine dwp_label ?_) | ((with_reducible refine id_cond ?_); first | (refine dwp_condT rfl ?_) | (refine dwp_condF rfl ?_) | (refine dwp_yes rfl (by first | assumption | exact congrArg Bool.not (by assumption) | rfl) ?_) | (refine dwp_nope rfl (by first | assumption | exact congrArg Bool.not (by assumption) | rfl) ?_)) | (first | (with_reducible refine thenD_n ?_) | (with_reducible refine thenD_ret ?_) | (with_reducible refine thenD_exit ?_) | (with_reducible refine inB_n ?_) | (with_reducible refine inB_ret ?_) | (refine inB_same ?_) | (refine inB_ne rfl ?_))))
  refine dwp_drwX mixed (l := 5) (x := 10) rfl rfl ?_
  (refine SqX.b1 (op_moveBK rfl (Or.inl rfl) rfl) rfl rfl ?_)
  (refine SqX.b1 (op_moveBK rfl (Or.inl rfl) rfl) rfl rfl ?_)
  (refine SqX.b1 (op_nilBV (tp := 7) (j := 27) rfl rfl rfl rfl) rfl rfl ?_)
  (refine SqX.b1 (op_fldBV (tp := 7) (j := 27) (q := 0) (q' := 0) rfl rfl (fo_of rfl) rfl rfl rfl) rfl rfl ?_)
  (refine SqX.b1 (op_fldBV (tp := 7) (j := 27) (q := 0) (q' := 3) rfl rfl (fo_of rfl) rfl rfl rfl) rfl rfl ?_)
  (refine SqX.b1 (op_loadBV (tp := 7) (j := 27) (q := 3) rfl rfl (rw_of rfl) rfl rfl rfl rfl rfl) rfl rfl ?_)
  (refine SqX.b1 (op_moveBK rfl (Or.inl rfl) rfl) rfl rfl ?_)
  (refine SqX.a1 TB rfl rfl rfl ?_)
  (refine SqX.b1 (op_bsT (T := TB) (f := Int.d) [(k : Int)] rfl rfl rfl rfl rfl rfl rfl rfl rfl rfl rfl) rfl rfl ?_)
  (refine SqX.a1 TB rfl rfl rfl ?_)
  (refine SqX.b3 (Op1.bkIn (t := 56) (tp := 7) (j := 27) rfl rfl (op_call (some 27) rfl rfl rfl (by kernel_rfl) (FnB.use hadd) rfl rfl rfl rfl rfl rfl)) rfl rfl ?_)
  (refine SqX.b1 (op_bsT (T := TB) (f := Int.d) [(st.length : Int)] rfl rfl rfl rfl rfl rfl rfl rfl rfl rfl rfl) rfl rfl ?_)
  (refine SqX.b4 (Op1.outIn (t := 55) (tp := 7) (j := 27) (q := 3) rfl rfl rfl rfl rfl rfl rfl (op_appT (T := TB) (f := Int.d) (l := wa) rfl rfl rfl rfl rfl rfl (by simp; omega) (by decide))) rfl rfl ?_)
  (refine SqX.b1 (op_nilBK (tp := 7) rfl rfl rfl rfl) rfl rfl ?_)
  (refine SqX.a1 TB rfl rfl rfl ?_)
  (refine SqX.a1 TB rfl rfl rfl ?_)
  (refine SqX.a2 TB rfl rfl rfl ?_)
  refine SqX.nil ⟨by kernel_rfl, LoadX.mk rfl rfl rfl rfl rfl rfl rfl ?_, ?_⟩
  · intro σ' hag
    have g54 : St.ev σ' (.tmp 54) = some (.one (.c (.val (bxP pv 3)))) := (hag (.t 54) (by simp [guardKeys, opKey])).elim (fun h => h.trans rfl) (fun h => h.trans rfl)
    have g7 : St.get σ' (.t 7) = some (.one (.c (.isB pv 27))) := (hag (.t 7) (by simp [guardKeys, opKey])).elim (fun h => h.trans rfl) (fun h => h.trans rfl)
    rcases hag (.b 27) (by simp [guardKeys, opKey]) with h | h
    · exact (op_loadBV (σ := σ') (s := .tmp 54) (tp := 7) (j := 27) (q := 3) rfl rfl (rw_of rfl) g54 g7 (h.trans rfl) rfl rfl).does σ' (fun _ _ => rfl) (by simp)
    · exact (op_loadBV (σ := σ') (s := .tmp 54) (tp := 7) (j := 27) (q := 3) rfl rfl (rw_of rfl) g54 g7 (h.trans rfl) rfl rfl).does σ' (fun _ _ => rfl) (by simp)
  · (refine wlk ?_)
    exact ⟨(k + 1, ⟨sg, st ++ [⟨1, [(k : Int)], d⟩], ac, wa ++ [(st.length : Int)], if d.length = 0 ∧ fo < 0 then (st.length : Int) else fo, lo⟩), ⟨by simp only; omega, hp2, by simp; omega, by simp; omega⟩, (Wk.ofB (t := 7) (j := 27) rfl).trans fgs, by simp only; omega⟩
end Go.Proofs.Ytmanhdacnkpclaa
namespace Go.Proofs.Ytmanhdacnkpclaa
set_option linter.all false
open Go.RowKit
abbrev tmG : Tm → List FC := fun t => [.val (.bool t.var), .val (.int .i64 t.n), .arr (t.args.map Tm.d)]
set_option maxHeartbeats 8000000 in
set_option maxRecDepth 100000 in
theorem pput (u : Tm) : ∀ (p : List Int) (t : Tm), t.size ≤ 1000000000 → FnD Try.prog 104 [tA t, lA Int.d p, tA u] (.one (tA (put t p u)))
  | [], t, hsz => by
    refine Fn.of Try.func104 rfl Try.ntmps104 rfl (Nat.le_of_ble_eq_true rfl) ?_
    have h0 : ([] : List Int).length = 0 := rfl
    (refine wlk ?_)
    (refine wfC ?_)
    exact Xt (b := u) (by simp [put])
  | i :: p, ⟨v, n, l⟩, hsz => by
    have ih := pput u p
    refine Fn.of Try.func104 rfl Try.ntmps104 rfl (Nat.le_of_ble_eq_true rfl) ?_
    have h0 : (i :: p)[0]? = some i := rfl
    have hl1 : (i :: p).length = p.length + 1 := rfl
    have hll := sizes_len l
    simp only [Tm.size] at hsz
    by_cases hi0 : i < 0
    · (refine wlk ?_)
      (refine wfC ?_)
      exact Xt (b := ⟨v, n, l⟩) (by simp [put, hi0])
    by_cases hil : (l.length : Int) ≤ i
    · (refine wlk ?_)
      (refine wfC ?_)
      exact Xt (b := ⟨v, n, l⟩) (by simp [put, hil])
    obtain ⟨j, rfl⟩ := Int.eq_ofNat_of_zero_le (a := i) (by omega)
    have hjl : j < l.length := by omega
    obtain ⟨y, hx⟩ := get_of_lt hjl
    have hxs := size_at hx
    have hput : put ⟨v, n, l⟩ ((j : Int) :: p) u = ⟨v, n, l.set j (put y p u)⟩ := by
      simp only [put]
      rw [if_neg (by omega), Int.toNat_natCast, getD_of hx]
    rw [hput]
    have hih := ih y (by omega)
    have hsl : (l.set j (put y p u)).length = l.length := List.length_set ..
    (refine wlk ?_)
    (refine SqA.b1 (op_call none rfl rfl rfl (by kernel_rfl) (FnD.use (cloneT l (by omega))) rfl rfl rfl rfl rfl rfl) rfl rfl ?_)
    (refine wlE ?_)
    refine dwp_ownElsB (f := Tm.d) (tp := 3) (b0 := 3) (q0 := 2) (T := 27) rfl rfl rfl (by omega) rfl rfl rfl rfl rfl rfl rfl fun e => ?_
    (refine wlk ?_)
    (refine SqA.b1 (op_loadEl (g := tmG) (m := 3) (fun _ => rfl) (k := j) (x := y) rfl rfl (rw_of rfl) rfl rfl rfl rfl hx rfl rfl rfl) rfl rfl ?_)
    (refine wlk ?_)
    (refine wlC hih ?_)
    (refine wlk ?_)
    (refine SqA.b1 (op_storeEl0 (g := tmG) (m := 3) (fun _ => rfl) (put y p u) rfl rfl (rw_of rfl) rfl rfl rfl rfl rfl rfl rfl rfl hjl rfl) rfl rfl ?_)
    (refine wlD ?_)
    refine dwp_wk (Wk.frzSlB (f := Tm.d) (b0 := 3) (q := 2) (j := 27) (k := l.length) (l := l.set j (put y p u)) rfl rfl rfl (els_take _ _) hsl rfl rfl rfl rfl rfl rfl) ?_
    (refine wlk ?_)
    (refine wfC ?_)
    rfl
end Go.Proofs.Ytmanhdacnkpclaa
