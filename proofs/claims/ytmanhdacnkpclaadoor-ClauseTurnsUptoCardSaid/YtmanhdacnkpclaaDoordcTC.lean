/- Texts of clauses, written and read back, plainly. -/
import Derived.Test.YtmanhdacnkpclaaDoordcT0
import Derived.Test.YtmanhdacnkpclaaDoordcWS
import Derived.Test.YtmanhdacnkpclaaDoordcPb1
namespace Go.Proofs.YtmanhdacnkpclaaDoor
set_option linter.all false

def litText (l : Lt) : List UInt8 := (text l.left ++ (if l.neg then [33, 61] else [61])) ++ text l.right
def clText : List Lt → List UInt8
  | [] => [91, 93]
  | l :: c => c.foldl (fun s x => (s ++ [32, 124, 32]) ++ litText x) (litText l)
theorem litText_len {l : Lt} (h : l.left.size ≤ 12 ∧ l.right.size ≤ 12) : (litText l).length ≤ 98 := by
  have h1 := text_len l.left
  have h2 := text_len l.right
  unfold litText
  cases l.neg <;> simp <;> omega

/-! ## what bytes are in a text -/
def plainB (l : List UInt8) : Prop := ∀ b ∈ l, b.toNat ≠ 32 ∧ b.toNat ≠ 61 ∧ b.toNat ≠ 33
theorem plainB.app {l r : List UInt8} (h : plainB l) (h' : plainB r) : plainB (l ++ r) := fun b hb => (List.mem_append.1 hb).elim (h b) (h' b)
theorem plainB.cons {c : UInt8} {r : List UInt8} (h : c.toNat ≠ 32 ∧ c.toNat ≠ 61 ∧ c.toNat ≠ 33) (h' : plainB r) : plainB (c :: r) := fun b hb => by
  rcases List.mem_cons.1 hb with rfl | hb
  · exact h
  · exact h' b hb
theorem plainB.nil : plainB [] := fun b hb => by cases hb
theorem texts_plain : ∀ {l : List Tm}, (∀ t ∈ l, plainB (text t)) → plainB (texts l)
  | [], _ => by simp only [texts]; exact .nil
  | a :: l, h => by
    simp only [texts]
    exact .cons (by decide) ((h a (by simp)).app (texts_plain fun t ht => h t (by simp [ht])))
theorem text_plain {s : List Int} (hs : s.length ≤ 100) : ∀ t : Tm, t.wf s = true → plainB (text t) := by
  refine Tm.ind ?_
  intro v n l ih hw
  cases v
  · obtain ⟨h0, h1, h2, h3⟩ := wf_sym hw
    have hb : (UInt8.ofNat (97 + n.toNat)).toNat ≠ 32 ∧ (UInt8.ofNat (97 + n.toNat)).toNat ≠ 61 ∧ (UInt8.ofNat (97 + n.toNat)).toNat ≠ 33 := by
      have : (UInt8.ofNat (97 + n.toNat)).toNat = 97 + n.toNat := by simp; omega
      omega
    cases l with
    | nil => rw [text_nil]; exact .cons hb .nil
    | cons a l =>
      rw [text_cons]
      simp only [Tm.wfs, Bool.and_eq_true] at h3
      exact .cons hb (.cons (by decide) ((ih a (by simp) h3.1).app ((texts_plain fun t ht => ih t (by simp [ht]) (Tm.wfs_iff.1 h3.2 t ht)).app (.cons (by decide) .nil))))
  · simp only [Tm.wf, Bool.and_eq_true, decide_eq_true_eq] at hw
    have : text ⟨true, n, l⟩ = [88, dig n] := by cases l <;> simp [text]
    rw [this]
    have hd : (dig n).toNat = 48 + n.toNat := by unfold dig; simp; omega
    exact .cons (by decide) (.cons (by omega) .nil)
theorem eqAt_plain : ∀ {l : List UInt8} (r : List UInt8), (∀ b ∈ l, b.toNat ≠ 61) → eqAt (l ++ 61 :: r) = l.length
  | [], r, _ => by simp [eqAt]
  | c :: l, r, h => by
    have := eqAt_plain (l := l) r fun b hb => h b (by simp [hb])
    simp only [List.cons_append, eqAt, if_neg (h c (by simp)), this, List.length_cons]
theorem negEnd_plain {l : List UInt8} (h : plainB l) : negEnd l = false := by
  unfold negEnd
  split
  · rename_i c hc
    exact decide_eq_false (h c (List.mem_of_getLast? hc)).2.2
  · rfl
/-- a literal comes back from its text -/
theorem parseLit_text {s : List Int} (hs : wrongSig s = 0) {l : Lt} (h1 : l.left.wf s = true ∧ l.left.size ≤ 12 ∧ wrong s l.left = 0) (h2 : l.right.wf s = true ∧ l.right.size ≤ 12 ∧ wrong s l.right = 0) : parseLit s (litText l) = (l, 0) := by
  have hsl := sig_len hs
  obtain ⟨n, a, b⟩ := l
  dsimp only at h1 h2
  have pa := text_plain (show s.length ≤ 100 by omega) a h1.1
  have ea := parseTm_text hs h1.1 h1.2.1 h1.2.2
  have eb := parseTm_text hs h2.1 h2.2.1 h2.2.2
  generalize hta : text a = ta at *
  generalize htb : text b = tb at *
  cases n
  · have e : litText ⟨false, a, b⟩ = ta ++ 61 :: tb := by unfold litText; rw [hta, htb]; simp
    rw [e]
    unfold parseLit
    rw [eqAt_plain tb fun c hc => (pa c hc).2.1]
    simp only [List.take_left', List.length_append, List.length_cons]
    rw [if_neg (by omega), negEnd_plain pa]
    have e2 : (ta ++ 61 :: tb).drop (ta.length + 1) = tb := by
      rw [List.drop_append]; simp
    simp only [e2]
    rw [show (if false = true then List.take (ta.length - 1) ta else ta) = ta from rfl, ea, eb]
    simp
  · have e : litText ⟨true, a, b⟩ = (ta ++ [33]) ++ 61 :: tb := by unfold litText; rw [hta, htb]; simp
    have hl : (ta ++ [33]).length = ta.length + 1 := by simp
    rw [e]
    unfold parseLit
    rw [eqAt_plain tb fun c hc => by
      rcases List.mem_append.1 hc with hc | hc
      · exact (pa c hc).2.1
      · simp at hc; subst hc; decide]
    have e1 : ((ta ++ [33]) ++ 61 :: tb).take (ta ++ [33]).length = ta ++ [33] := List.take_left
    have e2 : ((ta ++ [33]) ++ 61 :: tb).drop ((ta ++ [33]).length + 1) = tb := by
      rw [List.drop_append]; simp
    have e3 : negEnd (ta ++ [33]) = true := by unfold negEnd; rw [List.getLast?_concat]; rfl
    have e4 : (ta ++ [33]).take ((ta ++ [33]).length - 1) = ta := by rw [hl]; simp
    simp only [e1, e2, e3, e4]
    rw [if_neg (by simp)]
    simp [ea, eb]
/-- clauses in words -/
def LitOk (s : List Int) (l : Lt) : Prop := (l.left.wf s = true ∧ l.left.size ≤ 12 ∧ wrong s l.left = 0) ∧ (l.right.wf s = true ∧ l.right.size ≤ 12 ∧ wrong s l.right = 0)
theorem parseLits_text {s : List Int} (hs : wrongSig s = 0) : ∀ {c : List Lt}, (∀ l ∈ c, LitOk s l) → parseLits s (c.map litText) = (c, 0)
  | [], _ => rfl
  | l :: c, h => by
    have h1 := parseLit_text hs (h l (by simp)).1 (h l (by simp)).2
    have h2 := parseLits_text hs (c := c) fun x hx => h x (by simp [hx])
    simp [parseLits, h1, h2]
theorem no32 {l : List UInt8} (h : ∀ b ∈ l, b.toNat ≠ 32) {r : List UInt8} {j : Nat} (hj : j < l.length) : Lib.occAt (l ++ r) barL j = false := by
  rw [← Bool.not_eq_true]
  intro ho
  have := Lib.occAt_head (c := 32) (t := [124, 32]) rfl ho
  rw [List.getElem?_append_left hj] at this
  exact h 32 (List.mem_of_getElem? this) rfl
theorem split_last {l : List UInt8} (h : ∀ b ∈ l, b.toNat ≠ 32) : Lib.split l barL = [l] := split_miss (Lib.index_none fun j hj => by
  by_cases hjl : j < l.length
  · have := no32 h (r := []) hjl
    rwa [List.append_nil] at this
  · rw [← Bool.not_eq_true]
    intro ho
    rcases Lib.occAt_room ho with h | h
    · simp at h; omega
    · simp at h)
theorem split_bar {l : List UInt8} (h : ∀ b ∈ l, b.toNat ≠ 32) (r : List UInt8) : Lib.split (l ++ barL ++ r) barL = l :: Lib.split r barL := by
  have hi : Lib.index (l ++ barL ++ r) barL = (l.length : Int) := Lib.index_first (by simp) (by
    rw [Lib.occAt_iff_take _ _ _ (by simp), List.append_assoc, List.drop_left]
    simp) fun j hj => by rw [List.append_assoc]; exact no32 h hj
  rw [split_hit hi, List.append_assoc, List.take_left]
  have : (l ++ (barL ++ r)).drop (l.length + 3) = r := by
    rw [← List.drop_drop, List.drop_left]; rfl
  rw [this]
theorem litText_no32 {s : List Int} (hs : s.length ≤ 100) {l : Lt} (h1 : l.left.wf s = true) (h2 : l.right.wf s = true) : ∀ b ∈ litText l, b.toNat ≠ 32 := by
  intro b hb
  unfold litText at hb
  rcases List.mem_append.1 hb with hb | hb
  · rcases List.mem_append.1 hb with hb | hb
    · exact (text_plain hs _ h1 b hb).1
    · cases hn : l.neg <;> rw [hn] at hb <;> simp at hb
      · subst hb; decide
      · rcases hb with rfl | rfl <;> decide
  · exact (text_plain hs _ h2 b hb).1
/-- texts one behind the other, with bars between -/
def barJ : List (List UInt8) → List UInt8
  | [] => []
  | [x] => x
  | x :: y :: l => x ++ barL ++ barJ (y :: l)
theorem foldl_bar (c : List Lt) : ∀ a : List UInt8, c.foldl (fun s x => (s ++ [32, 124, 32]) ++ litText x) a = barJ (a :: c.map litText) := by
  induction c with
  | nil => intro a; rfl
  | cons x c ih =>
    intro a
    rw [List.foldl_cons, ih]
    cases c with
    | nil => rfl
    | cons y c => simp [barJ]
theorem clText_bar (l : Lt) (c : List Lt) : clText (l :: c) = barJ (litText l :: c.map litText) := foldl_bar c (litText l)
theorem split_barJ : ∀ {l : List (List UInt8)}, l ≠ [] → (∀ x ∈ l, ∀ b ∈ x, b.toNat ≠ 32) → Lib.split (barJ l) barL = l
  | [x], _, h => split_last (h x (by simp))
  | x :: y :: l, _, h => by
    show Lib.split (x ++ barL ++ barJ (y :: l)) barL = _
    rw [split_bar (h x (by simp)), split_barJ (by simp) fun z hz => h z (by simp [hz])]
/-- cut, and put together again -/
theorem barJ_split : ∀ (n : Nat) (t : List UInt8), t.length ≤ n → barJ (Lib.split t barL) = t ∧ Lib.split t barL ≠ [] := by
  intro n
  induction n with
  | zero =>
    intro t ht
    have : t = [] := List.length_eq_zero_iff.1 (by omega)
    subst this
    rw [split_miss (by decide)]
    exact ⟨rfl, by simp⟩
  | succ n ih =>
    intro t ht
    rcases Lib.index_spec t barL with ⟨h, _⟩ | ⟨i, h, hi, ho, _⟩
    · rw [split_miss h]; exact ⟨rfl, by simp⟩
    · have hr : i + 3 ≤ t.length := by
        rcases Lib.occAt_room ho with h | h
        · simpa using h
        · simp at h
      obtain ⟨h1, h2⟩ := ih (t.drop (i + 3)) (by rw [List.length_drop]; omega)
      rw [split_hit h]
      refine ⟨?_, by simp⟩
      have hw : (t.drop i).take 3 = barL := by
        have := Lib.occAt_iff_take t barL i (by simpa using hr)
        rw [ho] at this
        simpa using this.symm
      have key : ∀ l : List (List UInt8), l ≠ [] → barJ (t.take i :: l) = t.take i ++ barL ++ barJ l := fun l hl => by
        cases l with
        | nil => exact absurd rfl hl
        | cons y l => rfl
      rw [key _ h2, h1, ← hw, List.append_assoc, ← List.drop_drop, List.take_append_drop, List.take_append_drop]
/-- a clause comes back from its text -/
theorem clauseParse_text {s : List Int} (hs : wrongSig s = 0) {c : List Lt} (h : ∀ l ∈ c, LitOk s l) (h4 : c.length ≤ 4) : clauseParse s (clText c) = (c, 0) := by
  have hsl := sig_len hs
  unfold clauseParse
  rw [if_neg (by simp [hs])]
  cases c with
  | nil => rfl
  | cons l c =>
    have h32 : ∀ x ∈ (l :: c).map litText, ∀ b ∈ x, b.toNat ≠ 32 := fun x hx b hb => by
      obtain ⟨y, hy, rfl⟩ := List.mem_map.1 hx
      exact litText_no32 (by omega) (h y hy).1.1 (h y hy).2.1 b hb
    have hsp : splitB (clText (l :: c)) = (l :: c).map litText := by
      rw [← splitB_lib, clText_bar]
      exact split_barJ (by simp) h32
    rw [if_neg ?_, hsp, if_neg (by simpa using h4), parseLits_text hs h]
    intro e
    have : splitB [91, 93] = (l :: c).map litText := by rw [← e]; exact hsp
    have e2 : splitB [91, 93] = [[91, 93]] := by decide
    rw [e2, List.map_cons] at this
    injection this with h1 h2
    have h61 : (61 : UInt8) ∈ litText l := by
      unfold litText
      cases l.neg <;> simp
    rw [← h1] at h61
    simp at h61
theorem eqAt_split : ∀ {p : List UInt8}, eqAt p ≠ p.length → p = p.take (eqAt p) ++ 61 :: p.drop (eqAt p + 1)
  | [], h => absurd rfl h
  | c :: p, h => by
    by_cases hc : c.toNat = 61
    · have : c = 61 := UInt8.toNat_inj.1 (by rw [hc]; rfl)
      subst this
      simp [eqAt]
    · simp only [eqAt, if_neg hc, List.length_cons] at h ⊢
      have := eqAt_split (p := p) (by omega)
      rw [List.take_succ_cons, List.cons_append, List.drop_succ_cons, ← this]
/-- what is read is its literal's text -/
theorem text_parseLit {s : List Int} {p : List UInt8} {l : Lt} (h : parseLit s p = (l, 0)) : litText l = p ∧ wrong s l.left = 0 ∧ wrong s l.right = 0 := by
  unfold parseLit at h
  dsimp only at h
  split at h
  · simp at h
  · rename_i hk
    have hp := eqAt_split hk
    generalize hla : (if negEnd (List.take (eqAt p) p) = true then List.take (eqAt p - 1) (List.take (eqAt p) p) else List.take (eqAt p) p) = la at h
    rcases ha : parseTm s la with ⟨a, e⟩
    rw [ha] at h
    dsimp only at h
    split at h
    · rename_i h1; simp only [Prod.mk.injEq] at h; exact absurd h.2 h1
    · rename_i h1
      simp only [ne_eq, Decidable.not_not] at h1
      subst h1
      rcases hb : parseTm s (p.drop (eqAt p + 1)) with ⟨b, e⟩
      rw [hb] at h
      dsimp only at h
      split at h
      · rename_i h1; simp only [Prod.mk.injEq] at h; exact absurd h.2 h1
      · rename_i h1
        simp only [ne_eq, Decidable.not_not] at h1
        subst h1
        simp only [Prod.mk.injEq, and_true] at h
        subst h
        obtain ⟨a1, _, a2, _⟩ := text_parseTm ha
        obtain ⟨b1, _, b2, _⟩ := text_parseTm hb
        refine ⟨?_, a2, b2⟩
        unfold litText
        dsimp only
        rw [a1, b1]
        cases hn : negEnd (p.take (eqAt p))
        · rw [hn] at hla
          simp only [Bool.false_eq_true, if_false] at hla ⊢
          rw [← hla, List.append_assoc]
          exact hp.symm
        · rw [hn] at hla
          simp only [if_true] at hla ⊢
          have hx : p.take (eqAt p) = la ++ [33] := by
            have hle := eqAt_le p
            have hlen : (p.take (eqAt p)).length = eqAt p := by rw [List.length_take]; omega
            unfold negEnd at hn
            split at hn
            · rename_i c hc
              have h33 : c = 33 := UInt8.toNat_inj.1 (by rw [of_decide_eq_true hn]; rfl)
              subst h33
              rw [← hla]
              obtain ⟨r, hr⟩ := List.getLast?_eq_some_iff.1 hc
              rw [hr] at hlen ⊢
              simp only [List.length_append, List.length_cons, List.length_nil] at hlen
              rw [← hlen]
              simp
            · cases hn
          rw [List.append_assoc]
          calc la ++ ([33, 61] ++ p.drop (eqAt p + 1)) = (la ++ [33]) ++ 61 :: p.drop (eqAt p + 1) := by simp
            _ = p := by rw [← hx]; exact hp.symm
theorem text_parseLits {s : List Int} : ∀ {ps : List (List UInt8)} {d : List Lt}, parseLits s ps = (d, 0) → d.map litText = ps ∧ ∀ l ∈ d, wrong s l.left = 0 ∧ wrong s l.right = 0
  | [], d, h => by
    simp only [parseLits, Prod.mk.injEq, and_true] at h
    subst h
    exact ⟨rfl, by simp⟩
  | p :: ps, d, h => by
    simp only [parseLits] at h
    rcases h1 : parseLit s p with ⟨l, e⟩
    rw [h1] at h
    dsimp only at h
    split at h
    · rename_i he; simp only [Prod.mk.injEq] at h; exact absurd h.2 he
    · rename_i he
      simp only [ne_eq, Decidable.not_not] at he
      subst he
      rcases h2 : parseLits s ps with ⟨r, e⟩
      rw [h2] at h
      dsimp only at h
      split at h
      · rename_i he; simp only [Prod.mk.injEq] at h; exact absurd h.2 he
      · rename_i he
        simp only [ne_eq, Decidable.not_not] at he
        subst he
        simp only [Prod.mk.injEq, and_true] at h
        subst h
        obtain ⟨g1, g2⟩ := text_parseLits h2
        obtain ⟨k1, k2⟩ := text_parseLit h1
        refine ⟨by rw [List.map_cons, k1, g1], fun x hx => ?_⟩
        rcases List.mem_cons.1 hx with rfl | hx
        · exact k2
        · exact g2 x hx
/-- a text that is read is its clause's -/
theorem text_clauseParse {s : List Int} {t : List UInt8} {d : List Lt} (h : clauseParse s t = (d, 0)) : clText d = t ∧ wrongCl s d = 0 ∧ d.length ≤ 4 := by
  unfold clauseParse at h
  split at h
  · rename_i h1; simp only [Prod.mk.injEq] at h; exact absurd h.2 h1
  · split at h
    · rename_i h1
      simp only [Prod.mk.injEq, and_true] at h
      subst h
      exact ⟨h1.symm, rfl, by simp⟩
    · split at h
      · simp at h
      · rename_i h4
        obtain ⟨h1, h2⟩ := text_parseLits h
        have hl : d.length = (splitB t).length := by rw [← h1, List.length_map]
        have hw : wrongCl s d = 0 := by
          unfold wrongCl
          rw [if_neg (by omega)]
          exact wrongLits_yes fun j y _ hy => h2 y (List.mem_of_getElem? hy)
        refine ⟨?_, hw, by omega⟩
        obtain ⟨b1, b2⟩ := barJ_split t.length t (Nat.le_refl _)
        rw [splitB_lib, ← h1] at b1
        rw [splitB_lib, ← h1] at b2
        cases d with
        | nil => simp at b2
        | cons l c => rw [clText_bar]; exact b1
end Go.Proofs.YtmanhdacnkpclaaDoor
