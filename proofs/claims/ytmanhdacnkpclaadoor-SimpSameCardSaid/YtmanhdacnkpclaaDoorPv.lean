/- Simpler clauses, plainly: which one covers another one; and the end. -/
import Derived.Test.YtmanhdacnkpclaaDoorPb1
import Derived.Test.YtmanhdacnkpclaaDoorT0
/- Simpler clauses, plainly: which one covers another one; and the end. -/
namespace Go.Proofs.YtmanhdacnkpclaaDoor
set_option linter.all false

/-! ## covers -/
def coverW (x : Lt) (s : List Pr) (w : Tm × Tm) : Option (List Pr) := match moreR s x.left w.1 with
  | (a, true) => match moreR a x.right w.2 with
    | (b, true) => some b
    | (_, false) => none
  | (_, false) => none
def coverL (x : Lt) (s : List Pr) (y : Lt) : List (List Pr) := if y.neg = x.neg then (waysL y).filterMap (coverW x s) else []
def coverD (x : Lt) (d : List Lt) (s : List Pr) : List (List Pr) := d.flatMap (coverL x s)
def coversS : List Pr → List Lt → List Lt → Bool
  | _, [], _ => true
  | s, x :: c, d => (coverD x d s).any fun b => coversS b c d
def coversN : List (List Pr) → List Lt → List Lt → List (List Pr)
  | now, [], _ => now
  | now, x :: c, d => coversN (now.flatMap (coverD x d)) c d
def covers (c d : List Lt) : Bool := coversS [] c d
theorem coversN_any : ∀ (c d : List Lt) (now : List (List Pr)), decide (0 < (coversN now c d).length) = now.any fun s => coversS s c d
  | [], d, now => by cases now <;> simp [coversN, coversS]
  | x :: c, d, now => by
    refine (coversN_any c d (now.flatMap (coverD x d))).trans ?_
    simp only [coversS]
    rw [List.any_flatMap]
theorem coversN_eq (c d : List Lt) : decide (0 < (coversN [[]] c d).length) = covers c d := by
  rw [coversN_any]; simp [covers]
/-- a literal is one of another clause's -/
def LitIn (θ : List Pr) (d : List Lt) (x : Lt) : Prop := ∃ l ∈ d, l.neg = x.neg ∧ ∃ w ∈ waysL l, app θ x.left = w.1 ∧ app θ x.right = w.2
theorem coverD_mem {x : Lt} {d : List Lt} {s b : List Pr} : b ∈ coverD x d s ↔ ∃ l ∈ d, l.neg = x.neg ∧ ∃ w ∈ waysL l, coverW x s w = some b := by
  unfold coverD coverL
  rw [List.mem_flatMap]
  constructor
  · rintro ⟨l, hl, h⟩
    split at h
    · rename_i hn
      obtain ⟨w, hw, h⟩ := List.mem_filterMap.1 h
      exact ⟨l, hl, hn, w, hw, h⟩
    · cases h
  · rintro ⟨l, hl, hn, w, hw, h⟩
    refine ⟨l, hl, ?_⟩
    rw [if_pos hn]
    exact List.mem_filterMap.2 ⟨w, hw, h⟩
theorem coverW_sound {x : Lt} {s b : List Pr} {w : Tm × Tm} (hx : x.left.okv = true ∧ x.right.okv = true) (h : coverW x s w = some b) : ext s b ∧ (∀ v, times v x.left ≠ 0 ∨ times v x.right ≠ 0 → dom b v) ∧ app b x.left = w.1 ∧ app b x.right = w.2 := by
  unfold coverW at h
  split at h
  · rename_i a h1
    split at h
    · rename_i b' h2
      injection h with h; subst h
      obtain ⟨e1, d1, a1⟩ := moreR_sound _ _ _ _ hx.1 h1
      obtain ⟨e2, d2, a2⟩ := moreR_sound _ _ _ _ hx.2 h2
      refine ⟨e1.trans e2, fun v hv => ?_, ?_, a2⟩
      · rcases hv with hv | hv
        · exact e2.dom (d1 v hv)
        · exact d2 v hv
      · rw [e2.app _ hx.1 d1, a1]
    · cases h
  · cases h
theorem coverW_complete {x : Lt} {s θ : List Pr} {w : Tm × Tm} (hx : x.left.okv = true ∧ x.right.okv = true) (hs : within s θ) (h1 : app θ x.left = w.1) (h2 : app θ x.right = w.2) : ∃ b, coverW x s w = some b ∧ within b θ := by
  obtain ⟨a, e1, w1⟩ := moreR_complete x.left s hx.1 hs
  obtain ⟨b, e2, w2⟩ := moreR_complete x.right a hx.2 w1
  refine ⟨b, ?_, w2⟩
  unfold coverW
  rw [← h1, ← h2, e1]
  simp only [e2]
theorem coverW_ar {S : List Int} {x : Lt} {s b : List Pr} {w : Tm × Tm} (hs : subAr S s) (h1 : w.1.ar S = true) (h2 : w.2.ar S = true) (h : coverW x s w = some b) : subAr S b := by
  unfold coverW at h
  split at h
  · rename_i a e1
    split at h
    · rename_i b' e2
      injection h with h; subst h
      have g1 := moreR_ar x.left s w.1 hs h1
      rw [e1] at g1
      have g2 := moreR_ar x.right a w.2 g1 h2
      rw [e2] at g2
      exact g2
    · cases h
  · cases h
theorem coversS_sound {d : List Lt} : ∀ (c : List Lt) (s : List Pr), clOkv c → coversS s c d = true → ∃ θ, ext s θ ∧ (∀ x ∈ c, LitIn θ d x) ∧ ∀ S, subAr S s → clAr S d → subAr S θ
  | [], s, _, _ => ⟨s, fun _ _ h => h, fun x hx => (by cases hx), fun S h _ => h⟩
  | x :: c, s, hc, h => by
    simp only [coversS] at h
    obtain ⟨b, hb, h⟩ := List.any_eq_true.1 h
    obtain ⟨l, hl, hn, w, hw, hb⟩ := coverD_mem.1 hb
    have hx := hc x (by simp)
    obtain ⟨e1, d1, a1, a2⟩ := coverW_sound hx hb
    obtain ⟨θ, e2, hi, har⟩ := coversS_sound c b (fun l hl => hc l (by simp [hl])) h
    refine ⟨θ, e1.trans e2, fun y hy => ?_, fun S hs hd => har S (coverW_ar hs ?_ ?_ hb) hd⟩
    · rcases List.mem_cons.1 hy with rfl | hy
      · refine ⟨l, hl, hn, w, hw, ?_, ?_⟩
        · rw [e2.app _ hx.1 fun v hv => d1 v (.inl hv), a1]
        · rw [e2.app _ hx.2 fun v hv => d1 v (.inr hv), a2]
      · exact hi y hy
    · have := hd l hl
      rcases ways_mem hw with rfl | rfl
      · exact this.1
      · exact this.2
    · have := hd l hl
      rcases ways_mem hw with rfl | rfl
      · exact this.2
      · exact this.1
theorem coversS_complete {d : List Lt} {θ : List Pr} : ∀ (c : List Lt) (s : List Pr), clOkv c → within s θ → (∀ x ∈ c, LitIn θ d x) → coversS s c d = true
  | [], _, _, _, _ => rfl
  | x :: c, s, hc, hs, h => by
    simp only [coversS]
    obtain ⟨l, hl, hn, w, hw, h1, h2⟩ := h x (by simp)
    obtain ⟨b, hb, wb⟩ := coverW_complete (hc x (by simp)) hs h1 h2
    exact List.any_eq_true.2 ⟨b, coverD_mem.2 ⟨l, hl, hn, w, hw, hb⟩, coversS_complete c b (fun l hl => hc l (by simp [hl])) wb fun y hy => h y (by simp [hy])⟩
theorem covers_of {c d : List Lt} {θ : List Pr} (hc : clOkv c) (h : ∀ x ∈ c, LitIn θ d x) : covers c d = true := coversS_complete c [] hc (fun v u h => by simp [findS] at h) h
theorem covers_refl {c : List Lt} (hc : clOkv c) : covers c c = true := covers_of (θ := []) hc fun x hx => ⟨x, hx, rfl, (x.left, x.right), by simp [waysL], app_nil _, app_nil _⟩
theorem app_comp {σ τ : List Pr} (t : Tm) : app (σ.map (fun p => (p.1, app τ p.2)) ++ τ) t = app τ (app σ t) := by
  refine (app_ext (s := σ) (s'' := τ) (s' := σ.map (fun p => (p.1, app τ p.2)) ++ τ) (fun n l => ?_) t).symm
  rw [app_var, app_var, findS_append, findS_map]
  cases h : findS σ n with
  | some u => rfl
  | none => simp only [Option.map_none]; rw [app_var]
theorem covers_trans {c d f : List Lt} (hc : clOkv c) (hd : clOkv d) (h1 : covers c d = true) (h2 : covers d f = true) : covers c f = true := by
  obtain ⟨σ, _, h1, _⟩ := coversS_sound c [] hc h1
  obtain ⟨τ, _, h2, _⟩ := coversS_sound d [] hd h2
  refine covers_of (θ := σ.map (fun p => (p.1, app τ p.2)) ++ τ) hc fun x hx => ?_
  obtain ⟨l, hl, hn, w, hw, e1, e2⟩ := h1 x hx
  obtain ⟨k, hk, hm, u, hu, g1, g2⟩ := h2 l hl
  refine ⟨k, hk, hm.trans hn, ?_⟩
  rw [app_comp, app_comp, e1, e2]
  rcases ways_mem hw with rfl | rfl
  · exact ⟨u, hu, g1, g2⟩
  · refine ⟨(u.2, u.1), ?_, g2, g1⟩
    rcases ways_mem hu with rfl | rfl <;> simp [waysL]
theorem covers_valid {S : List Int} {m : Md} {c d : List Lt} (hm : MOk S m) (hc : clOkv c) (hd : clAr S d) (h : covers c d = true) (hv : validF m c) : validF m d := fun e he => by
  obtain ⟨θ, _, hi, har⟩ := coversS_sound c [] hc h
  have h1 := validF_by hm (har S (by intro q hq; cases hq) hd) hc hv e he
  obtain ⟨y, hy, h1⟩ := someF_mem.1 h1
  simp only [each, List.mem_map] at hy
  obtain ⟨x, hx, rfl⟩ := hy
  obtain ⟨l, hl, hn, w, hw, e1, e2⟩ := hi x hx
  refine someF_mem.2 ⟨l, hl, ?_⟩
  rw [e1, e2] at h1
  unfold litF at h1 ⊢
  rw [← hn] at h1
  rcases ways_mem hw with rfl | rfl
  · exact h1
  · simp only at h1
    rw [Bool.beq_comm] at h1
    exact h1

/-! ## rewriting -/
/-- variables by variables, and back -/
structure Ren (σ τ : List Pr) (t : Tm) : Prop where
  okv : ∀ p ∈ τ, p.2.okv = true
  var : ∀ v, times v t ≠ 0 → (appV σ v).var = true
  back : app τ (app σ t) = t
theorem places_ren {σ : List Pr} : ∀ t : Tm, (∀ v, times v t ≠ 0 → (appV σ v).var = true) → places (app σ t) = places t := by
  refine Tm.ind ?_
  intro b n l ih hv
  cases b
  · rw [app_sym]
    have key : ∀ (l : List Tm) (i : Nat), (∀ a ∈ l, places (app σ a) = places a) → placesL i (l.map (app σ)) = placesL i l := by
      intro l
      induction l with
      | nil => intros; rfl
      | cons a l ih' => intro i h; simp only [List.map_cons, placesL, h a (by simp), ih' (i + 1) fun b hb => h b (by simp [hb])]
    simp only [places]
    rw [key l 0 fun a ha => ih a ha fun v h0 => hv v fun e => h0 (times_sub ha e)]
  · have h1 := hv n (by simp [times])
    have e : app σ ⟨true, n, l⟩ = if findS σ n = none then ⟨true, n, l⟩ else appV σ n := by
      unfold appV
      rw [app_var, app_var]
      cases findS σ n <;> rfl
    rw [e]
    split
    · rfl
    · generalize appV σ n = u at h1
      obtain ⟨b', n', l'⟩ := u
      simp only at h1
      subst h1
      simp [places]
theorem at_ren {σ : List Pr} : ∀ (p : List Int) (t : Tm), p ∈ places t → (at_ (app σ t) p).1 = app σ (at_ t p).1
  | [], t, _ => by simp [at_]
  | i :: p, ⟨v, n, l⟩, hp => by
    obtain ⟨rfl, h0 | ⟨k, x, p', hx, e1, hp'⟩⟩ := places_cons hp
    · cases h0
    · injection e1 with e1 e2
      subst e1 e2
      rw [app_sym, at_cons hx, at_cons (x := app σ x) (by rw [List.getElem?_map, hx]; rfl)]
      exact at_ren p x hp'
theorem at_back {σ τ : List Pr} : ∀ (p : List Int) (t : Tm), p ∈ places t → app τ (app σ t) = t → app τ (app σ (at_ t p).1) = (at_ t p).1
  | [], t, _, h => by simpa [at_] using h
  | i :: p, ⟨v, n, l⟩, hp, h => by
    obtain ⟨rfl, h0 | ⟨k, x, p', hx, e1, hp'⟩⟩ := places_cons hp
    · cases h0
    · injection e1 with e1 e2
      subst e1 e2
      rw [app_sym, app_sym] at h
      injection h with _ _ h
      rw [at_cons hx]
      refine at_back p x hp' ?_
      have := congrArg (fun l => l[k]?) h
      simp only [List.getElem?_map, hx, Option.map_some] at this
      injection this
/-- by other names it can't be made less either -/
theorem downS_ren {S : List Int} {us : List (List Lt)} (hu : UsOk S us) {σ τ : List Pr} {t : Tm} (ht : t.ar S = true) (hσ : subAr S σ) (h : Ren σ τ t) (hd : downS us t = none) : downS us (app σ t) = none := by
  unfold downS at hd ⊢
  rw [places_ren t h.var, downP_none]
  intro p hp
  have h0 := downP_none.1 hd p hp
  rw [at_ren p t hp]
  have hb := at_back p t hp h.back
  have hat := at_ar p t ht hp
  generalize (at_ t p).1 = a at h0 hb hat
  rw [down1_none] at h0 ⊢
  intro u hum w hw
  have h1 := h0 u hum w hw
  have hww := hu.way hum hw
  have k1 := Tm.wf_okv _ hww.1
  have k2 := Tm.wf_okv _ hww.2
  cases hr : try1 (app σ a) w with
  | none => rfl
  | some r =>
    obtain ⟨s, g1, g2, g3, g4, rfl, g6⟩ := try1_some k1 k2 hr
    have hσa := app_ar hσ a hat
    have har : ∀ p ∈ s, p.2.okv = true := by
      have := matchR_ar (p := w.1) (t := app σ a) hσa
      rw [g1] at this; exact fun p hp => Tm.ar_okv _ (this p hp)
    have e1 : app (s.map (fun p => (p.1, app τ p.2)) ++ τ) w.1 = a := by rw [app_comp, g2, hb]
    have e2 : app (s.map (fun p => (p.1, app τ p.2)) ++ τ) w.2 = app τ (app s w.2) := app_comp _
    have e3 := above_app h.okv _ _ (Tm.ar_okv _ hσa) (app_okv har _ k2) g6
    rw [hb, ← e2] at e3
    obtain ⟨r, hr'⟩ := try1_of k1 e1 g4 e3 (fun v hv => by
      obtain ⟨x, hx⟩ := g3 v hv
      exact ⟨app τ x, by rw [findS_append, findS_map, hx]; rfl⟩) k2
    rw [h1] at hr'; cases hr'
/-- the terms of a clause as it is kept -/
theorem norm_terms {c d : List Lt} (h : norm c = (d, 0)) (hk : clOkv c) (hf : clFew c) : ∃ σ τ : List Pr, (∀ S, subAr S σ) ∧ ∀ l ∈ d, ∃ k ∈ c, ∃ w ∈ waysL k, (Ren σ τ w.1 ∧ Ren σ τ w.2) ∧ l.left = app σ w.1 ∧ l.right = app σ w.2 := by
  unfold norm at h
  split at h
  · cases h
  · rename_i o ho
    split at h
    · cases h
    · rename_i d' hd
      split at h
      · cases h
      · injection h with h _
        subst h
        have ko := orients_okv ho hk
        have fo := orients_few ho hf
        have h10 := clVars_ten fo
        have hin : ∀ l ∈ o, ∀ v, (times v l.left ≠ 0 ∨ times v l.right ≠ 0) → v ∈ clVars [] o := fun l hl v hv => mem_clVars o [] ko l hl hv
        refine ⟨numb (clVars [] o), back (clVars [] o), fun S => numb_ar S (by omega), fun l hl => ?_⟩
        have hren : ∀ t : Tm, t.okv = true → (∀ v, times v t ≠ 0 → v ∈ clVars [] o) → Ren (numb (clVars [] o)) (back (clVars [] o)) t := fun t ht hv =>
          ⟨back_okv fun v hv => by have := clVars_few fo v hv; omega, fun v h0 => by rw [ix_numb (hv v h0)], back_numb t ht hv⟩
        rcases dedup_mem hd l hl with h | h
        · cases h
        · simp only [each, List.mem_map] at h
          obtain ⟨k, hk', rfl⟩ := h
          obtain ⟨k0, hk0, _, rfl⟩ := orients_mem ho k hk'
          have r1 := hren _ (ko _ hk').1 fun v hv => hin _ hk' v (.inl hv)
          have r2 := hren _ (ko _ hk').2 fun v hv => hin _ hk' v (.inr hv)
          rcases orient1_two k0 with ⟨e1, e2⟩ | ⟨e1, e2⟩
          · exact ⟨k0, hk0, (k0.left, k0.right), by simp [waysL], ⟨by rw [← e1]; exact r1, by rw [← e2]; exact r2⟩, by rw [e1], by rw [e2]⟩
          · exact ⟨k0, hk0, (k0.right, k0.left), by simp [waysL], ⟨by rw [← e1]; exact r1, by rw [← e2]; exact r2⟩, by rw [e1], by rw [e2]⟩
theorem dn_ex (us : List (List Lt)) (t : Tm) : ∃ r, (∃ r, Downs us t r) → Downs us t r := by
  rcases Classical.em (∃ r, Downs us t r) with ⟨r, h⟩ | h
  · exact ⟨r, fun _ => h⟩
  · exact ⟨t, fun h' => absurd h' h⟩
noncomputable def dn (us : List (List Lt)) (t : Tm) : Tm := Classical.choose (dn_ex us t)
theorem dn_of {us : List (List Lt)} {t r : Tm} (h : Downs us t r) : dn us t = r := (Classical.choose_spec (dn_ex us t) ⟨r, h⟩).eq h
theorem dn_downs {S : List Int} {us : List (List Lt)} (hu : UsOk S us) {t : Tm} (ht : t.ar S = true) : Downs us t (dn us t) := Classical.choose_spec (dn_ex us t) (downs_ex hu ht)
noncomputable def rewr (us : List (List Lt)) (c : List Lt) : List Lt × Int := norm (each (dn us) c)
theorem dn_wf {S : List Int} {us : List (List Lt)} (hu : UsOk S us) {t : Tm} (ht : t.wf S = true) : (dn us t).wf S = true ∧ (dn us t).size ≤ t.size := by
  have h := dn_downs hu (Tm.wf_ar t ht)
  obtain ⟨h1, h2⟩ := h.less hu (Tm.wf_ar t ht)
  refine ⟨Tm.ar_wf _ (h.keep hu (Tm.wf_ar t ht)).1 fun v hv => (times_wf ht fun h0 => hv ?_).2, h1⟩
  have := h2 v
  omega
theorem dn_cl {S : List Int} {us : List (List Lt)} (hu : UsOk S us) {c : List Lt} (hc : clWf S c) : clWf S (each (dn us) c) := fun l hl => by
  simp only [each, List.mem_map] at hl
  obtain ⟨k, hk, rfl⟩ := hl
  exact ⟨(dn_wf hu (hc k hk).1).1, (dn_wf hu (hc k hk).2).1⟩
theorem rewr_kept {S : List Int} {us : List (List Lt)} (hu : UsOk S us) {c d : List Lt} (hc : clWf S c) (h : rewr us c = (d, 0)) : Kept S d := (dn_cl hu hc).good.kept h
theorem rewr_fits {S : List Int} {us : List (List Lt)} (hu : UsOk S us) {c : List Lt} (hc : clWf S c) (h4 : c.length ≤ 4) (hz : ∀ l ∈ c, l.left.size ≤ 12 ∧ l.right.size ≤ 12) : (rewr us c).2 ≠ 4 := by
  refine norm_fits (dn_cl hu hc) (by simpa [each] using h4) fun l hl => ?_
  simp only [each, List.mem_map] at hl
  obtain ⟨k, hk, rfl⟩ := hl
  have h1 := (dn_wf hu (hc k hk).1).2
  have h2 := (dn_wf hu (hc k hk).2).2
  have h3 := hz k hk
  exact ⟨by simp only; omega, by simp only; omega⟩
theorem dn_valid {S : List Int} {us : List (List Lt)} (hu : UsOk S us) {m : Md} (hm : MOk S m) (hv : ∀ u ∈ us, validF m u) {c : List Lt} (hc : clWf S c) : validF m (each (dn us) c) ↔ validF m c := by
  have key : ∀ e, FOk m e → someF m e (each (dn us) c) = someF m e c := fun e he => by
    unfold someF each
    rw [List.any_map]
    rw [Bool.eq_iff_iff, List.any_eq_true, List.any_eq_true]
    have key2 : ∀ l ∈ c, litF m e ⟨l.neg, dn us l.left, dn us l.right⟩ = litF m e l := fun l hl => by
      unfold litF
      simp only
      rw [(dn_downs hu (Tm.wf_ar _ (hc l hl).1)).value hu hm hv he (Tm.wf_ar _ (hc l hl).1), (dn_downs hu (Tm.wf_ar _ (hc l hl).2)).value hu hm hv he (Tm.wf_ar _ (hc l hl).2)]
    constructor
    · rintro ⟨l, hl, h⟩; exact ⟨l, hl, by rw [← key2 l hl]; exact h⟩
    · rintro ⟨l, hl, h⟩; exact ⟨l, hl, by rw [← key2 l hl] at h; exact h⟩
  unfold validF
  exact ⟨fun h e he => by rw [← key e he]; exact h e he, fun h e he => by rw [key e he]; exact h e he⟩
theorem rewr_valid {S : List Int} {us : List (List Lt)} (hu : UsOk S us) {m : Md} (hm : MOk S m) (hv : ∀ u ∈ us, validF m u) {c d : List Lt} (hc : clWf S c) (h : rewr us c = (d, 0)) : validF m c ↔ validF m d := by
  have hg := (dn_cl hu hc).good
  rw [← dn_valid hu hm hv hc]
  exact (norm_ok hg.1.okv hg.2 h).valid S m hm
theorem rewr_none {S : List Int} {us : List (List Lt)} (hu : UsOk S us) {m : Md} (hm : MOk S m) (hv : ∀ u ∈ us, validF m u) {c d : List Lt} (hc : clWf S c) (h : rewr us c = (d, 6)) : validF m c := by
  have hg := (dn_cl hu hc).good
  rw [← dn_valid hu hm hv hc]
  exact norm_none hg.1.okv hg.2 h hm
/-- at its end -/
theorem rewr_end {S : List Int} {us : List (List Lt)} (hu : UsOk S us) {c d : List Lt} (hc : clWf S c) (h : rewr us c = (d, 0)) : rewr us d = (d, 0) := by
  have hcl := dn_cl hu hc
  have hg := hcl.good
  obtain ⟨σ, τ, hσ, hd⟩ := norm_terms h hg.1.okv hg.2
  have hno : ∀ k ∈ each (dn us) c, ∀ w ∈ waysL k, (w.1.ar S = true ∧ downS us w.1 = none) ∧ w.2.ar S = true ∧ downS us w.2 = none := fun k hk w hw => by
    simp only [each, List.mem_map] at hk
    obtain ⟨l, hl, rfl⟩ := hk
    have h1 := dn_downs hu (Tm.wf_ar _ (hc l hl).1)
    have h2 := dn_downs hu (Tm.wf_ar _ (hc l hl).2)
    have g1 := (h1.keep hu (Tm.wf_ar _ (hc l hl).1)).1
    have g2 := (h2.keep hu (Tm.wf_ar _ (hc l hl).2)).1
    rcases ways_mem hw with rfl | rfl
    · exact ⟨⟨g1, h1.end_⟩, g2, h2.end_⟩
    · exact ⟨⟨g2, h2.end_⟩, g1, h1.end_⟩
  have hself : each (dn us) d = d := each_id fun l hl => by
    obtain ⟨k, hk, w, hw, ⟨r1, r2⟩, e1, e2⟩ := hd l hl
    obtain ⟨⟨a1, n1⟩, a2, n2⟩ := hno k hk w hw
    rw [e1, e2]
    exact ⟨dn_of (.done (downS_ren hu a1 (hσ S) r1 n1)), dn_of (.done (downS_ren hu a2 (hσ S) r2 n2))⟩
  have := (norm_ok hg.1.okv hg.2 h).again
  unfold rewr
  rw [hself]; exact this
end Go.Proofs.YtmanhdacnkpclaaDoor

/- Simpler clauses, step by step, plainly. -/
namespace Go.Proofs.YtmanhdacnkpclaaDoor
set_option linter.all false

theorem firstS_hit {α : Type} {f : α → Option Tm} : ∀ {l : List α} {k : Nat} {a : α} {r : Tm}, (∀ j x, j < k → l[j]? = some x → f x = none) → l[k]? = some a → f a = some r → firstS f l = some r
  | [], k, a, r, _, h, _ => by simp at h
  | x :: l, 0, a, r, _, h, hr => by simp at h; subst h; simp [firstS, hr]
  | x :: l, k + 1, a, r, hno, h, hr => by
    have h0 := hno 0 x (by omega) rfl
    simp only [firstS, h0]
    exact firstS_hit (k := k) (fun j y hj hy => hno (j + 1) y (by omega) (by simpa using hy)) (by simpa using h) hr
theorem downP_hit {us : List (List Lt)} {t : Tm} : ∀ {ps : List (List Int)} {k : Nat} {p : List Int} {r : Tm}, (∀ j x, j < k → ps[j]? = some x → down1 us (at_ t x).1 = none) → ps[k]? = some p → down1 us (at_ t p).1 = some r → downP us t ps = some (put t p r)
  | [], k, a, r, _, h, _ => by simp at h
  | x :: l, 0, a, r, _, h, hr => by simp at h; subst h; simp [downP, hr]
  | x :: l, k + 1, a, r, hno, h, hr => by
    have h0 := hno 0 x (by omega) rfl
    simp only [downP, h0]
    exact downP_hit (k := k) (fun j y hj hy => hno (j + 1) y (by omega) (by simpa using hy)) (by simpa using h) hr
mutual
theorem vars_pre : ∀ (t : Tm) (l : List Int), ∃ r, vars l t = l ++ r
  | ⟨true, n, as_⟩, l => by
    simp only [vars]; split
    · exact ⟨[], by simp⟩
    · exact ⟨[n], rfl⟩
  | ⟨false, n, as_⟩, l => by simp only [vars]; exact varss_pre as_ l
theorem varss_pre : ∀ (ts : List Tm) (l : List Int), ∃ r, varss l ts = l ++ r
  | [], l => ⟨[], by simp [varss]⟩
  | a :: ts, l => by
    obtain ⟨r1, h1⟩ := vars_pre a l
    obtain ⟨r2, h2⟩ := varss_pre ts (vars l a)
    exact ⟨r1 ++ r2, by simp only [varss]; rw [h2, h1, List.append_assoc]⟩
end
theorem vars_new {t : Tm} (hk : t.okv = true) (l : List Int) : decide (l.length < (vars l t).length) = (vars [] t).any fun v => !l.contains v := by
  rw [Bool.eq_iff_iff, decide_eq_true_eq]
  constructor
  · intro h
    rw [← Bool.not_eq_false]
    intro hn
    have hall : ∀ v, times v t ≠ 0 → v ∈ l := fun v hv => by
      have := List.any_eq_false.1 hn v (times_mem v t [] hk hv).1
      simpa using this
    rw [vars_had t l hk hall] at h
    omega
  · intro h
    obtain ⟨v, hv, hn⟩ := List.any_eq_true.1 h
    have hv' : times v t ≠ 0 := by
      rcases vars_sub v t [] hv with h | h
      · cases h
      · exact h
    have hm := (times_mem v t l hk hv').1
    obtain ⟨r, hr⟩ := vars_pre t l
    rw [hr] at hm ⊢
    have hnl : v ∉ l := by simpa using hn
    rcases List.mem_append.1 hm with h | h
    · exact absurd h hnl
    · cases r with
      | nil => cases h
      | cons a r => simp
mutual
theorem moreR_size {M : Nat} : ∀ (p : Tm) (s : List Pr) (t : Tm), (∀ q ∈ s, q.2.size ≤ M) → t.size ≤ M → ∀ q ∈ (moreR s p t).1, q.2.size ≤ M
  | ⟨true, n, l⟩, s, t, hs, ht => by
    simp only [moreR]; split
    · exact hs
    · intro q hq
      rcases List.mem_append.1 hq with hq | hq
      · exact hs q hq
      · rw [List.mem_singleton.1 hq]; exact ht
  | ⟨false, n, l⟩, s, ⟨v, m, ts⟩, hs, ht => by
    simp only [moreR]; split
    · intro q hq; cases hq
    · simp only [Tm.size] at ht
      exact moresR_size l s ts hs (by omega)
theorem moresR_size {M : Nat} : ∀ (l : List Tm) (s : List Pr) (ts : List Tm), (∀ q ∈ s, q.2.size ≤ M) → Tm.sizes ts ≤ M → ∀ q ∈ (moresR s l ts).1, q.2.size ≤ M
  | [], s, ts, hs, _ => by simpa [moresR] using hs
  | _ :: _, s, [], hs, _ => by simpa [moresR] using hs
  | p :: l, s, t :: ts, hs, ht => by
    simp only [Tm.sizes] at ht
    have h1 := moreR_size p s t hs (by omega)
    simp only [moresR]; split
    · rename_i s' h
      rw [h] at h1
      exact moresR_size l s' ts h1 (by omega)
    · intro q hq; cases hq
end
theorem matchR_size {M : Nat} {p t : Tm} (ht : t.size ≤ M) : ∀ q ∈ (matchR p t).1, q.2.size ≤ M := by
  have := moreR_size (M := M) p [] t (fun q hq => by cases hq) ht
  unfold matchR
  split
  · rename_i r h; rw [h] at this; exact this
  · intro q hq; cases hq
theorem app_small {by_ : List Pr} (hb : ∀ p ∈ by_, p.2.size ≤ 12) {t : Tm} (ht : t.okv = true) (hz : t.size ≤ 12) : (app by_ t).size ≤ 144 := by
  have h := size_app_le (s := by_) (M := 12) (by omega) t ht fun n _ => by
    unfold appV
    rw [app_var]
    cases hf : findS by_ n with
    | none => simp [Tm.size, Tm.sizes]
    | some u =>
      obtain ⟨p, hp, _, rfl⟩ := findS_mem hf
      exact hb p hp
  omega
/-- units of which the sizes are bound -/
structure UsSz (S : List Int) (us : List (List Lt)) : Prop where
  ok : UsOk S us
  size : ∀ u ∈ us, ∀ l ∈ u, l.left.size ≤ 12 ∧ l.right.size ≤ 12
theorem UsSz.one {S : List Int} {us : List (List Lt)} (h : UsSz S us) {u : List Lt} (hu : u ∈ us) : ∃ l : Lt, u = [l] ∧ l.neg = false ∧ (l.left.wf S = true ∧ l.right.wf S = true) ∧ l.left.size ≤ 12 ∧ l.right.size ≤ 12 := by
  have h1 := h.ok.unit u hu
  have h2 := h.ok.wf u hu
  have h3 := h.size u hu
  match u, h1 with
  | [l], h1 => exact ⟨l, rfl, by simpa [unit] using h1, h2 l (by simp), h3 l (by simp)⟩
theorem place_at {l : List Tm} {i : Nat} (hi : i < l.length) : l.getD i ⟨false, 0, []⟩ = l[i] := by rw [List.getD_eq_getElem?_getD, List.getElem?_eq_getElem hi]; rfl
theorem at_size : ∀ (p : List Int) (t : Tm), p ∈ places t → (at_ t p).1.size ≤ t.size
  | [], t, _ => by simp [at_]
  | i :: p, ⟨v, n, l⟩, hp => by
    have h1 := size_put (i :: p) ⟨v, n, l⟩ ⟨false, 0, []⟩ hp
    have h2 : (Tm.mk false 0 []).size = 1 := by simp [Tm.size, Tm.sizes]
    have h3 : 1 ≤ (put ⟨v, n, l⟩ (i :: p) ⟨false, 0, []⟩).size := by
      generalize put ⟨v, n, l⟩ (i :: p) ⟨false, 0, []⟩ = x
      obtain ⟨a, b, c⟩ := x
      simp only [Tm.size]; omega
    omega
end Go.Proofs.YtmanhdacnkpclaaDoor
