/- Texts of terms, plainly: written, and read again. -/
import Derived.Test.YtmanhdacnkpclaaDoordcDa
import Derived.Test.YtmanhdacnkpclaaDoordcPa1
namespace Go.Proofs.YtmanhdacnkpclaaDoor
set_option linter.all false

/-- a digit -/
def dig (n : Int) : UInt8 := UInt8.ofNat (48 + n.toNat)
mutual
/-- Text, where variables are of one digit -/
def text : Tm → List UInt8
  | ⟨v, n, l⟩ => if v then [88, dig n] else UInt8.ofNat (97 + n.toNat) :: (match l with | [] => [] | a :: l => 40 :: (text a ++ (texts l ++ [41])))
def texts : List Tm → List UInt8
  | [] => []
  | a :: l => 44 :: (text a ++ texts l)
end
theorem texts_snoc : ∀ (l : List Tm) (t : Tm), texts (l ++ [t]) = texts l ++ 44 :: text t
  | [], t => by simp [texts]
  | a :: l, t => by simp [texts, texts_snoc l t]
theorem text_nil (n : Int) : text ⟨false, n, []⟩ = [UInt8.ofNat (97 + n.toNat)] := by simp [text]
theorem text_cons (n : Int) (a : Tm) (l : List Tm) : text ⟨false, n, a :: l⟩ = UInt8.ofNat (97 + n.toNat) :: 40 :: (text a ++ (texts l ++ [41])) := by simp [text]
theorem text_len : ∀ t : Tm, (text t).length + 2 ≤ 4 * t.size := by
  refine Tm.ind ?_
  intro v n l ih
  have key : ∀ l : List Tm, (∀ a ∈ l, (text a).length + 2 ≤ 4 * a.size) → (texts l).length ≤ 4 * Tm.sizes l := by
    intro l
    induction l with
    | nil => intro _; simp [texts]
    | cons a l ih =>
      intro h
      have h1 := h a (by simp)
      have h2 := ih fun b hb => h b (by simp [hb])
      simp only [texts, Tm.sizes, List.length_cons, List.length_append]; omega
  cases v
  · cases l with
    | nil => simp [text, Tm.size, Tm.sizes]
    | cons a l =>
      have h1 := ih a (by simp)
      have h2 := key l fun b hb => ih b (by simp [hb])
      rw [text_cons]
      simp only [Tm.size, Tm.sizes, List.length_cons, List.length_append, List.length_nil]; omega
  · cases l <;> simp [text, Tm.size] <;> omega
theorem texts_len : ∀ l : List Tm, (texts l).length ≤ 4 * Tm.sizes l
  | [] => by simp [texts]
  | a :: l => by
    have h1 := text_len a
    have h2 := texts_len l
    simp only [texts, Tm.sizes, List.length_cons, List.length_append]; omega
/-! ## written, and read again -/
/-- what stands before the last bracket -/
def opens : List Tm → List UInt8
  | [] => []
  | a :: l => 40 :: (text a ++ texts l)
def shuts : List Tm → List UInt8
  | [] => []
  | _ => [41]
theorem text_sym (n : Int) (l : List Tm) : text ⟨false, n, l⟩ = UInt8.ofNat (97 + n.toNat) :: (opens l ++ shuts l) := by
  cases l <;> simp [text, opens, shuts]
theorem opens_snoc (l : List Tm) (a : Tm) : opens (l ++ [a]) = opens l ++ UInt8.ofNat (if l.length = 0 then 40 else 44) :: text a := by
  cases l with
  | nil => simp [opens, texts]
  | cons b l => simp [opens, texts_snoc]
theorem texts_append : ∀ (l r : List Tm), texts (l ++ r) = texts l ++ texts r
  | [], r => by simp [texts]
  | a :: l, r => by simp [texts, texts_append l r]
theorem opens_mem {l : List Tm} {k : Nat} {x : Tm} (h : l[k]? = some x) : ∃ r, opens l = opens (l.take k) ++ UInt8.ofNat (if k = 0 then 40 else 44) :: (text x ++ r) := by
  have hk := (List.getElem?_eq_some_iff.1 h).1
  have key : ∀ r : List Tm, ∃ q, opens (l.take (k + 1) ++ r) = opens (l.take (k + 1)) ++ q := by
    intro r
    cases l with
    | nil => simp at hk
    | cons b l => exact ⟨texts r, by simp [opens, texts_append]⟩
  obtain ⟨q, hq⟩ := key (l.drop (k + 1))
  rw [List.take_append_drop] at hq
  refine ⟨q, ?_⟩
  have h0 : (l.take k).length = k := by rw [List.length_take]; omega
  rw [hq, take_succ_of h, opens_snoc, h0]
  simp
theorem rdIs_good {c : Nat} (hc : c < 256) (l : List UInt8) : rdIs c (UInt8.ofNat c :: l, 0) = (l, 0) := by
  have : (UInt8.ofNat c).toNat = c := by simp; omega
  simp [rdIs, this]
theorem rdIs_err {c : Nat} {l : List UInt8} {e : Int} (h : e ≠ 0) : rdIs c (l, e) = (l, e) := by simp [rdIs, h]
theorem rdT_err {s : List Int} {f : Nat} {l : List UInt8} {e : Int} (h : e ≠ 0) : rdT s f (l, e) = (Tm.zero, (l, e)) := by
  cases f <;> simp [rdT, h]
theorem rdN_err {s : List Int} {f : Nat} {st : RSt} : ∀ {k j : Nat}, (rdN (rdT s f) k st).2.2 ≠ 0 → (rdN (rdT s f) (k + j) st).2 = (rdN (rdT s f) k st).2
  | k, 0, _ => rfl
  | k, j + 1, h => by
    have ih := rdN_err (j := j) h
    rw [← Nat.add_assoc]
    simp only [rdN]
    rw [ih]
    generalize (rdN (rdT s f) k st).2 = q at h ⊢
    obtain ⟨l, e⟩ := q
    rw [rdIs_err h, rdT_err h]
theorem wf_sym {s : List Int} {n : Int} {l : List Tm} (h : (Tm.mk false n l).wf s = true) : 0 ≤ n ∧ n.toNat < s.length ∧ (s.getD n.toNat 0).toNat = l.length ∧ Tm.wfs s l = true := by
  simp only [Tm.wf, Bool.and_eq_true, decide_eq_true_eq] at h
  obtain ⟨⟨⟨h0, h1⟩, h2⟩, h3⟩ := h
  exact ⟨h0, by omega, by omega, h3⟩
theorem rdT_text {s : List Int} (hs : s.length ≤ 100) : ∀ t : Tm, t.wf s = true → ∀ (f : Nat) (rest : List UInt8), (text t).length < f → rdT s f (text t ++ rest, 0) = (t, (rest, 0)) := by
  refine Tm.ind ?_
  intro v n l ih hw f rest hf
  obtain ⟨f, rfl⟩ : ∃ g, f = g + 1 := ⟨f - 1, by omega⟩
  cases v
  case true =>
    simp only [Tm.wf, Bool.and_eq_true, decide_eq_true_eq, List.isEmpty_iff] at hw
    obtain ⟨⟨rfl, h0⟩, h4⟩ := hw
    obtain ⟨k, rfl⟩ := Int.eq_ofNat_of_zero_le h0
    have e1 : (dig (k : Int)).toNat = 48 + k := by simp [dig]; omega
    have e2 : text ⟨true, (k : Int), []⟩ = [88, dig (k : Int)] := by simp [text]
    rw [e2]
    simp only [List.cons_append, List.nil_append, rdT, ne_eq, not_true_eq_false, if_false]
    have e3 : (88 : UInt8).toNat = 88 := rfl
    rw [if_pos e3, e1, if_neg (by omega)]
    have e4 : ((48 + k : Nat) : Int) - 48 = (k : Int) := by omega
    rw [e4]
  case false =>
    obtain ⟨h0, h1, h2, h3⟩ := wf_sym hw
    have hlen : ∀ (k : Nat) (x : Tm), l[k]? = some x → (text x).length < f := fun k x hx => by
      obtain ⟨r, hr⟩ := opens_mem hx
      have := congrArg List.length hr
      rw [text_sym] at hf
      simp only [List.length_append, List.length_cons] at this hf
      omega
    have key : ∀ (q : List UInt8) (k : Nat), k ≤ l.length → rdN (rdT s f) k (opens l ++ q, 0) = (l.take k, ((opens l ++ q).drop (opens (l.take k)).length, 0)) := by
      intro q k
      induction k with
      | zero => intro _; simp [rdN, opens]
      | succ k ihk =>
        intro hk
        obtain ⟨x, hx⟩ := get_of_lt (show k < l.length by omega)
        obtain ⟨r, hr⟩ := opens_mem hx
        simp only [rdN]
        rw [ihk (by omega)]
        have e1 : (opens l ++ q).drop (opens (l.take k)).length = UInt8.ofNat (if k = 0 then 40 else 44) :: (text x ++ (r ++ q)) := by
          rw [hr]; simp
        dsimp only
        rw [e1, rdIs_good (by split <;> omega), ih x (List.mem_of_getElem? hx) ((Tm.wfs_iff.1 h3) x (List.mem_of_getElem? hx)) f _ (hlen k x hx), take_succ_of hx, opens_snoc]
        have h0 : (l.take k).length = k := by rw [List.length_take]; omega
        rw [h0]
        have e2 : (opens l ++ q).drop (opens (l.take k) ++ UInt8.ofNat (if k = 0 then 40 else 44) :: text x).length = r ++ q := by
          rw [List.length_append, ← List.drop_drop, e1]; simp
        rw [e2]
    have e1 : (UInt8.ofNat (97 + n.toNat)).toNat = 97 + n.toNat := by simp; omega
    rw [text_sym]
    simp only [List.cons_append, rdT, ne_eq, not_true_eq_false, if_false]
    rw [if_neg (by omega), e1, if_neg (by omega)]
    have e2 : 97 + n.toNat - 97 = n.toNat := by omega
    have e3 : ((97 + n.toNat : Nat) : Int) - 97 = n := by omega
    rw [e2, e3, h2, List.append_assoc, key _ l.length (Nat.le_refl _)]
    simp only [List.take_length, List.drop_left]
    cases l with
    | nil => simp [shuts]
    | cons a l => simp [shuts, rdIs]
/-- what is read is its term's text -/
theorem text_rdT {s : List Int} (hs : wrongSig s = 0) : ∀ (f : Nat) (l : List UInt8) (t : Tm) (rest : List UInt8), l.length < f → rdT s f (l, 0) = (t, (rest, 0)) → l = text t ++ rest ∧ t.wf s = true
  | 0, l, t, rest, hf, _ => absurd hf (by omega)
  | f + 1, [], t, rest, hf, h => by simp [rdT] at h
  | f + 1, c :: l, t, rest, hf, h => by
    simp only [rdT, ne_eq, not_true_eq_false, if_false] at h
    split at h
    · rename_i hc
      cases l with
      | nil => simp at h
      | cons d l =>
        dsimp only at h
        split at h
        · simp at h
        · rename_i hd
          simp only [Prod.mk.injEq, and_true] at h
          obtain ⟨rfl, rfl⟩ := h
          have e1 : c = 88 := UInt8.toNat_inj.1 hc
          have e2 : dig ((d.toNat : Int) - 48) = d := by
            apply UInt8.toNat_inj.1
            simp [dig]; omega
          constructor
          · simp [text, e1, e2]
          · simp [Tm.wf]; omega
    · split at h
      · simp at h
      · rename_i hc
        have hsl := sig_len hs
        obtain ⟨y, hy⟩ := get_of_lt (show c.toNat - 97 < s.length by omega)
        have hgd : s.getD (c.toNat - 97) 0 = y := by rw [List.getD_eq_getElem?_getD, hy]; rfl
        have hy2 := sig_at hs hy
        rw [hgd] at h
        have key : ∀ (k : Nat) (avs : List Tm) (r : List UInt8), rdN (rdT s f) k (l, 0) = (avs, (r, 0)) → l = opens avs ++ r ∧ Tm.wfs s avs = true := by
          intro k
          induction k with
          | zero =>
            intro avs r hk
            simp only [rdN, Prod.mk.injEq, and_true] at hk
            obtain ⟨rfl, rfl⟩ := hk
            simp [opens, Tm.wfs]
          | succ k ihk =>
            intro avs r hk
            simp only [rdN] at hk
            have hlen := rdN_len (rdT_len s f) k (l, 0)
            have hal := rdN_args (T := rdT s f) k (l, 0)
            generalize hq : rdN (rdT s f) k (l, 0) = q at hk hlen hal
            obtain ⟨avs', r', e'⟩ := q
            dsimp only at hk hlen hal
            have he' : e' = 0 := by
              rcases Decidable.em (e' = 0) with h0 | h0
              · exact h0
              · rw [rdIs_err h0, rdT_err h0] at hk
                simp only [Prod.mk.injEq] at hk
                exact absurd hk.2.2 h0
            subst he'
            obtain ⟨i1, i2⟩ := ihk avs' r' hq
            generalize hc40 : (if k = 0 then 40 else 44) = cc at hk
            have hcc : cc < 256 := by rw [← hc40]; split <;> omega
            cases r' with
            | nil =>
              rw [show rdIs cc ([], 0) = ([], 8) by simp [rdIs], rdT_err (by decide)] at hk
              simp at hk
            | cons d r' =>
              rcases Decidable.em (d.toNat = cc) with hd | hd
              · rw [show rdIs cc (d :: r', 0) = (r', 0) by simp [rdIs, hd]] at hk
                generalize hx : rdT s f (r', 0) = x at hk
                obtain ⟨a, r2, e2⟩ := x
                simp only [Prod.mk.injEq] at hk
                obtain ⟨rfl, rfl, rfl⟩ := hk
                simp only [List.length_cons] at hlen hf
                obtain ⟨j1, j2⟩ := text_rdT hs f r' a r2 (by omega) hx
                constructor
                · rw [opens_snoc, hal, hc40, i1, j1]
                  have : UInt8.ofNat cc = d := by apply UInt8.toNat_inj.1; simp; omega
                  rw [this]; simp
                · rw [Tm.wfs_iff] at i2 ⊢
                  intro t ht
                  rcases List.mem_append.1 ht with ht | ht
                  · exact i2 t ht
                  · simp only [List.mem_singleton] at ht; subst ht; exact j2
              · rw [show rdIs cc (d :: r', 0) = (d :: r', 2) by simp [rdIs, hd], rdT_err (by decide)] at hk
                simp at hk
        have hargs := rdN_args (T := rdT s f) y.toNat (l, 0)
        generalize hq : rdN (rdT s f) y.toNat (l, 0) = q at h hargs
        obtain ⟨avs, r, e⟩ := q
        dsimp only at h hargs
        simp only [Prod.mk.injEq] at h
        obtain ⟨rfl, h⟩ := h
        have hcn : UInt8.ofNat (97 + ((c.toNat : Int) - 97).toNat) = c := by
          apply UInt8.toNat_inj.1
          have := byte_lt c
          simp; omega
        have hwf : ∀ avs : List Tm, avs.length = y.toNat → Tm.wfs s avs = true → (Tm.mk false ((c.toNat : Int) - 97) avs).wf s = true := fun avs ha hw => by
          have e1 : ((c.toNat : Int) - 97).toNat = c.toNat - 97 := by omega
          simp only [Tm.wf, Bool.and_eq_true, decide_eq_true_eq, e1, hgd]
          exact ⟨⟨⟨by omega, by omega⟩, by omega⟩, hw⟩
        split at h
        · rename_i h0
          simp only [Prod.mk.injEq] at h
          obtain ⟨rfl, rfl⟩ := h
          obtain ⟨i1, i2⟩ := key _ _ _ hq
          have : avs = [] := List.length_eq_zero_iff.1 (by omega)
          subst this
          refine ⟨?_, hwf [] (by simp; omega) i2⟩
          rw [text_sym, hcn, i1]; simp [opens, shuts]
        · rename_i h0
          have he : e = 0 := by
            rcases Decidable.em (e = 0) with h1 | h1
            · exact h1
            · rw [rdIs_err h1] at h
              simp only [Prod.mk.injEq] at h
              exact absurd h.2 h1
          subst he
          obtain ⟨i1, i2⟩ := key _ _ _ hq
          cases r with
          | nil => simp [rdIs] at h
          | cons d r =>
            rcases Decidable.em (d.toNat = 41) with hd | hd
            · simp only [rdIs, ne_eq, not_true_eq_false, if_false, hd, if_true, Prod.mk.injEq, and_true] at h
              subst h
              refine ⟨?_, hwf avs hargs i2⟩
              have hd' : d = 41 := UInt8.toNat_inj.1 hd
              have hsh : shuts avs = [41] := by
                cases avs with
                | nil => simp at hargs; omega
                | cons a avs => rfl
              rw [text_sym, hcn, i1, hsh, hd']; simp
            · simp [rdIs, hd] at h
theorem readTm_text {s : List Int} (hs : s.length ≤ 100) {t : Tm} (ht : t.wf s = true) (rest : List UInt8) : readTm s (text t ++ rest) = (t, rest, 0) := by
  unfold readTm
  rw [rdT_text hs t ht _ rest (by simp; omega)]
  simp
theorem parseTm_text {s : List Int} (hs : wrongSig s = 0) {t : Tm} (ht : t.wf s = true) (hz : t.size ≤ 12) (hw : wrong s t = 0) : parseTm s (text t) = (t, 0) := by
  have hl := text_len t
  have hsl := sig_len hs
  have hr := readTm_text (show s.length ≤ 100 by omega) ht []
  rw [List.append_nil] at hr
  unfold parseTm
  rw [if_neg (by simp [hs]), if_neg (by omega), hr]
  simp [hw]
theorem text_readTm {s : List Int} (hs : wrongSig s = 0) {l rest : List UInt8} {t : Tm} (h : readTm s l = (t, rest, 0)) : l = text t ++ rest ∧ t.wf s = true := by
  unfold readTm at h
  dsimp only at h
  split at h
  · rename_i h1
    simp only [Prod.mk.injEq] at h
    exact absurd h.2.2 h1
  · rename_i h1
    simp only [ne_eq, Decidable.not_not] at h1
    simp only [Prod.mk.injEq, and_true] at h
    obtain ⟨rfl, rfl⟩ := h
    exact text_rdT hs (l.length + 1) l _ _ (by omega) (Prod.ext rfl (Prod.ext rfl h1))
theorem text_parseTm {s : List Int} {l : List UInt8} {t : Tm} (h : parseTm s l = (t, 0)) : text t = l ∧ t.wf s = true ∧ wrong s t = 0 ∧ wrongSig s = 0 := by
  unfold parseTm at h
  dsimp only at h
  split at h
  · rename_i h1; simp only [Prod.mk.injEq] at h; exact absurd h.2 h1
  · rename_i hs
    simp only [ne_eq, Decidable.not_not] at hs
    split at h
    · simp at h
    · generalize hr : readTm s l = r at h
      obtain ⟨u, rest, e⟩ := r
      dsimp only at h
      split at h
      · rename_i h1; simp only [Prod.mk.injEq] at h; exact absurd h.2 h1
      · rename_i h1
        simp only [ne_eq, Decidable.not_not] at h1
        subst h1
        split at h
        · simp at h
        · rename_i h2
          simp only [ne_eq, Decidable.not_not] at h2
          subst h2
          split at h
          · rename_i h1; simp only [Prod.mk.injEq] at h; exact absurd h.2 h1
          · rename_i h1
            simp only [ne_eq, Decidable.not_not] at h1
            simp only [Prod.mk.injEq, and_true] at h
            subst h
            obtain ⟨g1, g2⟩ := text_readTm hs hr
            exact ⟨by rw [g1]; simp, g2, h1, hs⟩

end Go.Proofs.YtmanhdacnkpclaaDoor
