/- Searches and logs, plainly. -/
import Derived.Test.YtmanhdacnkpclaaGreatzh10
import Derived.Test.YtmanhdacnkpclaaGreatzh08
import Derived.Test.YtmanhdacnkpclaaGreatzh09
import Derived.Test.YtmanhdacnkpclaaGreatzh07
/- Searches and logs, plainly. -/
namespace Go.Proofs.YtmanhdacnkpclaaGreat
set_option linter.all false
structure Sp where
  rule : Int
  frm : List Int
  cl : List Lt
structure Pf where
  sig : List Int
  steps : List Sp
  active : List Int
  wait : List Int
  found : Int
  lost : Bool
def Sp.zero : Sp := ⟨0, [], []⟩
def Pf.zero : Pf := ⟨[], [], [], [], 0, false⟩
def stAt (l : List Sp) (k : Int) : Sp := l.getD k.toNat Sp.zero
def clAt (p : Pf) (k : Int) : List Lt := (stAt p.steps k).cl
def stepP (p : Pf) (rule : Int) (frm : List Int) (c : List Lt) : Pf × Bool :=
  if 120 ≤ p.steps.length then ({ p with lost := true }, false)
  else ({ p with steps := p.steps ++ [⟨rule, frm, c⟩], found := if c.length = 0 ∧ p.found < 0 then (p.steps.length : Int) else p.found }, true)
def waits (p : Pf) (c : List Lt) : Bool := p.wait.any fun k => clSame (clAt p k) c
def known (p : Pf) (c : List Lt) : Bool := p.active.any fun k => covers (clAt p k) c
def come1 (rule : Int) (frm : List Int) (p : Pf) (c : List Lt) : Pf :=
  if 0 ≤ p.found ∨ waits p c = true ∨ known p c = true then p
  else match stepP p rule frm c with
    | (q, true) => { q with wait := q.wait ++ [(q.steps.length : Int) - 1] }
    | (q, false) => q
def come (p : Pf) (rule : Int) (frm : List Int) (m : Mk) : Pf := m.1.foldl (come1 rule frm) { p with lost := p.lost || m.2 }
def unitsK (p : Pf) : List Int := p.active.filter fun k => unit (clAt p k)
def pickSup (g : Int) (c : List Lt) (p : Pf) (k : Int) : Pf :=
  if k = g then come p 4 [k, g] (sup (clAt p k) c)
  else come (come p 4 [k, g] (sup (clAt p k) c)) 4 [g, k] (sup c (clAt p k))
def pickGo (p : Pf) (g : Int) (c : List Lt) : Pf :=
  (p.active ++ [g]).foldl (pickSup g c) (come (come { p with active := p.active ++ [g] } 2 [g] (resolve c)) 3 [g] (factor c))
def pick3 (p : Pf) (g : Int) (c : List Lt) : Pf := if 0 ≤ p.found ∨ known p c = true then p else pickGo p g c
def pick2 (p : Pf) (g : Int) (c : List Lt) : Pf :=
  if clSame c (clAt p g) then pick3 p g c
  else match stepP p 5 (g :: unitsK p) c with
    | (q, true) => pick3 q ((q.steps.length : Int) - 1) c
    | (q, false) => q
noncomputable def pick1 (p : Pf) (g : Int) : Pf :=
  match rewr ((unitsK p).map (clAt p)) (clAt p g) with
  | (c, e) => if e = 0 then pick2 p g c else { p with lost := p.lost || decide (e = 4) }
noncomputable def pick (p : Pf) (n : Int) : Pf × Int :=
  if 0 ≤ p.found ∨ p.wait.length = 0 then (p, 11)
  else if n < 0 ∨ (p.wait.length : Int) ≤ n then (p, 6)
  else (pick1 { p with wait := p.wait.eraseIdx n.toNat } (p.wait.getD n.toNat 0), 0)
def newGo (s : List Int) : Nat → List (List Lt) → Pf → Pf × Int
  | _, [], p => (p, 0)
  | i, c :: l, p => if wrongCl s c = 0 then (match norm c with
      | (n, e) => if e = 4 then (Pf.zero, 4) else if e = 0 then newGo s (i + 1) l { (stepP p 1 [(i : Int)] n).1 with wait := p.wait ++ [((stepP p 1 [(i : Int)] n).1.steps.length : Int) - 1] } else newGo s (i + 1) l p)
    else (Pf.zero, wrongCl s c)
def newP (s : List Int) (l : List (List Lt)) : Pf × Int :=
  if wrongSig s = 0 then (if 8 < l.length then (Pf.zero, 5) else newGo s 0 l ⟨s, [], [], [], -1, false⟩) else (Pf.zero, wrongSig s)
noncomputable def searchGo : Pf → List Int → Pf
  | p, [] => p
  | p, n :: ns => if p.wait.length = 0 then p else searchGo (pick p (n % (p.wait.length : Int))).1 ns
noncomputable def search (s : List Int) (l : List (List Lt)) (picks : List Int) : Pf × Int :=
  match newP s l with
  | (p, e) => if e = 0 then (if 120 < picks.length then (Pf.zero, 4) else (searchGo p picks, 0)) else (Pf.zero, e)
def fromOk (at_ : Nat) (l : List Int) : Bool := l.all fun f => decide (0 ≤ f ∧ f < (at_ : Int))
noncomputable def comes (inn : List (List Lt)) (steps : List Sp) (at_ : Nat) (x : Sp) : List (List Lt) :=
  if x.frm.length = 0 ∨ (x.rule = 4 ∧ x.frm.length ≠ 2) ∨ (x.rule < 4 ∧ x.frm.length ≠ 1) then []
  else if x.rule = 1 then (if x.frm.getD 0 0 < 0 ∨ (inn.length : Int) ≤ x.frm.getD 0 0 then [] else match norm (inn.getD (x.frm.getD 0 0).toNat []) with
    | (n, e) => if e = 0 then [n] else [])
  else if fromOk at_ x.frm = false then []
  else
    let l := x.frm.map fun f => (stAt steps f).cl
    if x.rule = 2 then (resolve (l.getD 0 [])).1
    else if x.rule = 3 then (factor (l.getD 0 [])).1
    else if x.rule = 4 then (sup (l.getD 0 []) (l.getD 1 [])).1
    else if l.tail.all unit then (match rewr l.tail (l.getD 0 []) with
      | (c, e) => if e = 0 then [c] else [])
    else []
noncomputable def checkGo (s : List Int) (inn : List (List Lt)) (steps : List Sp) : Nat → List Sp → Int × Int
  | _, [] => (0, -1)
  | k, x :: r => if x.rule < 1 ∨ 5 < x.rule then (1, (k : Int))
    else if wrongCl s x.cl = 0 then (if (comes inn steps k x).any (fun c => clSame c x.cl) then checkGo s inn steps (k + 1) r else (10, (k : Int)))
    else (wrongCl s x.cl, (k : Int))
def firstWrong (s : List Int) : List (List Lt) → Int
  | [] => 0
  | c :: l => if wrongCl s c = 0 then firstWrong s l else wrongCl s c
noncomputable def check (s : List Int) (inn : List (List Lt)) (steps : List Sp) : Int × Int :=
  if wrongSig s = 0 then (if 8 < inn.length ∨ 120 < steps.length then (5, -1) else if firstWrong s inn = 0 then checkGo s inn steps 0 steps else (firstWrong s inn, -1)) else (wrongSig s, -1)
def needGo (steps : List Sp) : Nat → (Int → Bool) → (Int → Bool)
  | 0, N => N
  | k + 1, N => needGo steps k (if N (k : Int) && !((stAt steps k).rule == 1) then fun v => N v || (stAt steps k).frm.contains v else N)
def needs (steps : List Sp) (last : Int) : Int → Bool := needGo steps (last.toNat + 1) fun v => v == last
def cntN (N : Int → Bool) : Nat → Nat
  | 0 => 0
  | k + 1 => cntN N k + (if N (k : Int) then 1 else 0)
def renum (N : Int → Bool) (x : Sp) : Sp := if x.rule = 1 then x else { x with frm := x.frm.map fun f => (cntN N f.toNat : Int) }
def trimGo (steps : List Sp) (N : Int → Bool) : Nat → List Sp
  | 0 => []
  | k + 1 => trimGo steps N k ++ (if N (k : Int) then [renum N (stAt steps k)] else [])
def trim (steps : List Sp) (last : Int) : List Sp := if last < 0 ∨ (steps.length : Int) ≤ last then [] else trimGo steps (needs steps last) (last.toNat + 1)
structure Just (S : List Int) (inn : List (List Lt)) (steps : List Sp) (k : Nat) (x : Sp) : Prop where
  rule : 1 ≤ x.rule ∧ x.rule ≤ 5
  right : wrongCl S x.cl = 0
  comes : x.cl ∈ comes inn steps k x
theorem stAt_app {l r : List Sp} {k : Int} (h0 : 0 ≤ k) (h : k < l.length) : stAt (l ++ r) k = stAt l k := by
  unfold stAt
  rw [List.getD_eq_getElem?_getD, List.getD_eq_getElem?_getD, List.getElem?_append_left (by omega)]
theorem comes_app {inn : List (List Lt)} {l r : List Sp} {k : Nat} {x : Sp} (hk : k ≤ l.length) : comes inn (l ++ r) k x = comes inn l k x := by
  unfold comes
  by_cases hf : fromOk k x.frm = false
  · simp only [hf, if_true]
  · simp only [Bool.not_eq_false] at hf
    have : x.frm.map (fun f => (stAt (l ++ r) f).cl) = x.frm.map (fun f => (stAt l f).cl) := List.map_congr_left fun f hm => by
      have := List.all_eq_true.1 hf f hm
      simp only [decide_eq_true_eq] at this
      rw [stAt_app this.1 (by omega)]
    rw [this]
theorem Just.app {S : List Int} {inn : List (List Lt)} {l r : List Sp} {k : Nat} {x : Sp} (hk : k ≤ l.length) (h : Just S inn l k x) : Just S inn (l ++ r) k x := ⟨h.rule, h.right, by rw [comes_app hk]; exact h.comes⟩
theorem erase_not {l : List Int} (hd : l.Nodup) {n : Nat} (hn : n < l.length) : l[n] ∉ l.eraseIdx n := fun h => by
  obtain ⟨i, hi⟩ := List.mem_iff_getElem?.1 h
  rw [List.getElem?_eraseIdx] at hi
  split at hi
  · have := (List.getElem?_eq_some_iff.1 hi)
    obtain ⟨h1, h2⟩ := this
    have := (List.nodup_iff_pairwise_ne.1 hd)
    have := List.pairwise_iff_getElem.1 this i n h1 hn (by omega)
    exact this h2
  · have := (List.getElem?_eq_some_iff.1 hi)
    obtain ⟨h1, h2⟩ := this
    have := (List.nodup_iff_pairwise_ne.1 hd)
    have := List.pairwise_iff_getElem.1 this n (i + 1) hn h1 (by omega)
    exact this h2.symm
structure QOk (S : List Int) (inn : List (List Lt)) (Q : List Lt → Prop) : Prop where
  kept : ∀ c, Q c → Kept S c
  norm : ∀ c ∈ inn, ∀ n, norm c = (n, 0) → Q n
  resolve : ∀ c, Q c → ∀ n ∈ (resolve c).1, Q n
  factor : ∀ c, Q c → ∀ n ∈ (factor c).1, Q n
  sup : ∀ c d, Q c → Q d → ∀ n ∈ (sup c d).1, Q n
  rewr : ∀ us, (∀ u ∈ us, Q u ∧ unit u = true) → ∀ c n, Q c → rewr us c = (n, 0) → Q n
structure PI (S : List Int) (inn : List (List Lt)) (Q : List Lt → Prop) (p : Pf) : Prop where
  sig : p.sig = S
  len : p.steps.length ≤ 120
  cl : ∀ st ∈ p.steps, Q st.cl
  idx : ∀ k ∈ p.active ++ p.wait, 0 ≤ k ∧ k < p.steps.length
  nd : (p.active ++ p.wait).Nodup
  found : p.found = -1 ∨ ∃ k : Nat, p.found = k ∧ ∃ st, p.steps[k]? = some st ∧ st.cl = []
  just : ∀ (k : Nat) (st : Sp), p.steps[k]? = some st → Just S inn p.steps k st
structure Grow (p q : Pf) : Prop where
  sig : q.sig = p.sig
  steps : ∃ t, q.steps = p.steps ++ t
  active : q.active = p.active
  wait : ∃ w, q.wait = p.wait ++ w ∧ ∀ k ∈ w, (p.steps.length : Int) ≤ k
theorem Grow.refl (p : Pf) : Grow p p := ⟨rfl, ⟨[], by simp⟩, rfl, [], by simp, by simp⟩
theorem Grow.trans {p q r : Pf} (h : Grow p q) (h' : Grow q r) : Grow p r := by
  obtain ⟨t, ht⟩ := h.steps
  obtain ⟨t', ht'⟩ := h'.steps
  obtain ⟨w, hw, hw2⟩ := h.wait
  obtain ⟨w', hw', hw2'⟩ := h'.wait
  refine ⟨h'.sig.trans h.sig, ⟨t ++ t', by rw [ht', ht, List.append_assoc]⟩, h'.active.trans h.active, w ++ w', by rw [hw', hw, List.append_assoc], fun k hk => ?_⟩
  rcases List.mem_append.1 hk with hk | hk
  · exact hw2 k hk
  · have := hw2' k hk
    rw [ht, List.length_append] at this; omega
theorem Grow.at {p q : Pf} (h : Grow p q) {k : Int} (h0 : 0 ≤ k) (hk : k < p.steps.length) : clAt q k = clAt p k := by
  obtain ⟨t, ht⟩ := h.steps
  unfold clAt
  rw [ht, stAt_app h0 hk]
section
variable {S : List Int} {inn : List (List Lt)} {Q : List Lt → Prop} {p : Pf}
theorem PI.at (h : PI S inn Q p) {k : Int} (h0 : 0 ≤ k) (hk : k < p.steps.length) : Q (clAt p k) := by
  refine h.cl (stAt p.steps k) ?_
  unfold stAt
  rw [List.getD_eq_getElem?_getD, List.getElem?_eq_getElem (by omega)]
  exact List.getElem_mem _
theorem PI.lost (h : PI S inn Q p) (b : Bool) : PI S inn Q { p with lost := b } := ⟨h.sig, h.len, h.cl, h.idx, h.nd, h.found, h.just⟩
theorem PI.step (h : PI S inn Q p) (hl : p.steps.length < 120) {rule : Int} {frm : List Int} {c : List Lt} (hc : Q c) (hj : Just S inn p.steps p.steps.length ⟨rule, frm, c⟩) :
    ∃ q, stepP p rule frm c = (q, true) ∧ PI S inn Q q ∧ Grow p q ∧ q.wait = p.wait ∧ q.steps.length = p.steps.length + 1 ∧ q.lost = p.lost ∧ clAt q p.steps.length = c := by
  refine ⟨{ p with steps := p.steps ++ [⟨rule, frm, c⟩], found := if c.length = 0 ∧ p.found < 0 then (p.steps.length : Int) else p.found }, by unfold stepP; rw [if_neg (by omega)], ?_, ⟨rfl, ⟨_, rfl⟩, rfl, [], by simp, by simp⟩, rfl, by simp, rfl, ?_⟩
  · refine ⟨h.sig, by simp; omega, fun st hst => ?_, fun k hk => ?_, h.nd, ?_, fun k st hk => ?_⟩
    · rcases List.mem_append.1 hst with hst | hst
      · exact h.cl st hst
      · rw [List.mem_singleton.1 hst]; exact hc
    · have := h.idx k hk
      simp only [List.length_append, List.length_singleton]; omega
    · by_cases hf : c.length = 0 ∧ p.found < 0
      · rw [if_pos hf]
        exact .inr ⟨p.steps.length, rfl, _, List.getElem?_concat_length .., List.length_eq_zero_iff.1 hf.1⟩
      · rw [if_neg hf]
        rcases h.found with h1 | ⟨k, h1, st, h2, h3⟩
        · exact .inl h1
        · exact .inr ⟨k, h1, st, by rw [List.getElem?_append_left (List.getElem?_eq_some_iff.1 h2).1]; exact h2, h3⟩
    · by_cases hkl : k < p.steps.length
      · rw [List.getElem?_append_left hkl] at hk
        exact (h.just k st hk).app (by omega)
      · have hlt := (List.getElem?_eq_some_iff.1 hk).1
        simp only [List.length_append, List.length_singleton] at hlt
        have : k = p.steps.length := by omega
        subst this
        rw [List.getElem?_concat_length] at hk
        injection hk with hk
        subst hk
        exact hj.app (Nat.le_refl _)
  · unfold clAt stAt
    simp [List.getD_eq_getElem?_getD]
theorem step_full {p : Pf} (hl : ¬ p.steps.length < 120) (rule : Int) (frm : List Int) (c : List Lt) : stepP p rule frm c = ({ p with lost := true }, false) := by unfold stepP; rw [if_pos (by omega)]
theorem PI.waitMore (h : PI S inn Q p) (hl : 0 < p.steps.length) (hn : ((p.steps.length : Int) - 1) ∉ p.active ++ p.wait) : PI S inn Q { p with wait := p.wait ++ [(p.steps.length : Int) - 1] } := by
  refine ⟨h.sig, h.len, h.cl, fun k hk => ?_, ?_, h.found, h.just⟩
  · simp only [← List.append_assoc] at hk
    rcases List.mem_append.1 hk with hk | hk
    · exact h.idx k hk
    · rw [List.mem_singleton.1 hk]; show _ ∧ _ < ((p.steps.length : Nat) : Int); omega
  · show (p.active ++ (p.wait ++ [(p.steps.length : Int) - 1])).Nodup
    rw [← List.append_assoc, List.nodup_append]
    refine ⟨h.nd, by simp, fun a ha b hb => ?_⟩
    rw [List.mem_singleton.1 hb]
    exact fun e => hn (e ▸ ha)
theorem PI.come1 (h : PI S inn Q p) {rule : Int} {frm : List Int} {c : List Lt} (hc : Q c) (hj : ∀ t, Just S inn (p.steps ++ t) (p.steps ++ t).length ⟨rule, frm, c⟩) : PI S inn Q (come1 rule frm p c) ∧ Grow p (Go.Proofs.YtmanhdacnkpclaaGreat.come1 rule frm p c) := by
  unfold Go.Proofs.YtmanhdacnkpclaaGreat.come1
  split
  · exact ⟨h, .refl p⟩
  · by_cases hl : p.steps.length < 120
    · obtain ⟨q, e, h1, h2, h3, h4, _⟩ := h.step hl hc (by have := hj []; simpa using this)
      rw [e]
      have hni : ((q.steps.length : Int) - 1) ∉ q.active ++ q.wait := fun hm => by
        rw [h2.active, h3] at hm
        have := (h.idx _ hm).2
        omega
      refine ⟨h1.waitMore (by omega) hni, ⟨h2.sig, h2.steps, h2.active, [(q.steps.length : Int) - 1], by rw [← h3], fun k hk => ?_⟩⟩
      rw [List.mem_singleton.1 hk]; omega
    · rw [step_full hl]
      exact ⟨h.lost true, rfl, ⟨[], by simp⟩, rfl, [], by simp, by simp⟩
theorem PI.comeL {rule : Int} {frm : List Int} : ∀ {l : List (List Lt)} {p : Pf}, PI S inn Q p → (∀ n ∈ l, Q n) → (∀ n ∈ l, ∀ t, Just S inn (p.steps ++ t) (p.steps ++ t).length ⟨rule, frm, n⟩) →
    PI S inn Q (l.foldl (Go.Proofs.YtmanhdacnkpclaaGreat.come1 rule frm) p) ∧ Grow p (l.foldl (Go.Proofs.YtmanhdacnkpclaaGreat.come1 rule frm) p)
  | [], p, h, _, _ => ⟨h, .refl p⟩
  | c :: l, p, h, hq, hj => by
    obtain ⟨h1, h2⟩ := h.come1 (hq c (by simp)) (hj c (by simp))
    obtain ⟨t, ht⟩ := h2.steps
    obtain ⟨h3, h4⟩ := PI.comeL (l := l) h1 (fun n hn => hq n (by simp [hn])) (fun n hn t' => by
      rw [ht, List.append_assoc]; exact hj n (by simp [hn]) (t ++ t'))
    exact ⟨h3, h2.trans h4⟩
theorem PI.come (h : PI S inn Q p) {rule : Int} {frm : List Int} {m : Mk} (hq : ∀ n ∈ m.1, Q n) (hj : ∀ n ∈ m.1, ∀ t, Just S inn (p.steps ++ t) (p.steps ++ t).length ⟨rule, frm, n⟩) :
    PI S inn Q (Go.Proofs.YtmanhdacnkpclaaGreat.come p rule frm m) ∧ Grow p (Go.Proofs.YtmanhdacnkpclaaGreat.come p rule frm m) := by
  obtain ⟨h1, h2⟩ := PI.comeL (l := m.1) (h.lost (p.lost || m.2)) hq hj
  exact ⟨h1, h2.sig, h2.steps, h2.active, h2.wait⟩
variable (hQ : QOk S inn Q)
include hQ
theorem QOk.right {c : List Lt} (h : Q c) : wrongCl S c = 0 := (hQ.kept c h).cok.wrong
theorem PI.just1 (h : PI S inn Q p) {g : Int} (h0 : 0 ≤ g) (hg : g < p.steps.length) {n : List Lt} {t : List Sp} :
    (n ∈ (resolve (clAt p g)).1 → Just S inn (p.steps ++ t) (p.steps ++ t).length ⟨2, [g], n⟩) ∧ (n ∈ (factor (clAt p g)).1 → Just S inn (p.steps ++ t) (p.steps ++ t).length ⟨3, [g], n⟩) := by
  have hf : fromOk (p.steps ++ t).length [g] = true := by
    simp only [fromOk, List.all_cons, List.all_nil, Bool.and_true, decide_eq_true_eq, List.length_append]; omega
  have hc := h.at h0 hg
  have he : (stAt (p.steps ++ t) g).cl = clAt p g := by rw [stAt_app h0 hg]; rfl
  constructor <;> intro hn
  · refine ⟨(by show _ ∧ _; exact ⟨by simp, by simp⟩), hQ.right (hQ.resolve _ hc n hn), ?_⟩
    unfold comes
    simp only [hf, List.length_singleton, List.map_cons, he, List.map_nil, List.getD_cons_zero]
    exact hn
  · refine ⟨(by show _ ∧ _; exact ⟨by simp, by simp⟩), hQ.right (hQ.factor _ hc n hn), ?_⟩
    unfold comes
    simp only [hf, List.length_singleton, List.map_cons, he, List.map_nil, List.getD_cons_zero]
    exact hn
theorem PI.just2 (h : PI S inn Q p) {f g : Int} (f0 : 0 ≤ f) (hf : f < p.steps.length) (h0 : 0 ≤ g) (hg : g < p.steps.length) {n : List Lt} {t : List Sp} (hn : n ∈ (sup (clAt p f) (clAt p g)).1) : Just S inn (p.steps ++ t) (p.steps ++ t).length ⟨4, [f, g], n⟩ := by
  have hff : fromOk (p.steps ++ t).length [f, g] = true := by
    simp only [fromOk, List.all_cons, List.all_nil, Bool.and_true, Bool.and_eq_true, decide_eq_true_eq, List.length_append]; omega
  refine ⟨(by show _ ∧ _; exact ⟨by simp, by simp⟩), hQ.right (hQ.sup _ _ (h.at f0 hf) (h.at h0 hg) n hn), ?_⟩
  have he : (stAt (p.steps ++ t) f).cl = clAt p f := by rw [stAt_app f0 hf]; rfl
  have he' : (stAt (p.steps ++ t) g).cl = clAt p g := by rw [stAt_app h0 hg]; rfl
  unfold comes
  simp only [hff, List.length_cons, List.length_nil, List.map_cons, he, he', List.map_nil, List.getD_cons_zero, List.getD_cons_succ]
  exact hn
theorem PI.unitsQ (h : PI S inn Q p) : ∀ u ∈ (unitsK p).map (clAt p), Q u ∧ unit u = true := fun u hu => by
  obtain ⟨k, hk, rfl⟩ := List.mem_map.1 hu
  obtain ⟨h1, h2⟩ := List.mem_filter.1 hk
  have := h.idx k (List.mem_append.2 (.inl h1))
  exact ⟨h.at this.1 this.2, h2⟩
theorem PI.just5 (h : PI S inn Q p) {g : Int} (h0 : 0 ≤ g) (hg : g < p.steps.length) {c : List Lt} (hc : rewr ((unitsK p).map (clAt p)) (clAt p g) = (c, 0)) : Just S inn p.steps p.steps.length ⟨5, g :: unitsK p, c⟩ := by
  have hff : fromOk p.steps.length (g :: unitsK p) = true := by
    refine List.all_eq_true.2 fun f hf => decide_eq_true ?_
    rcases List.mem_cons.1 hf with rfl | hf
    · exact ⟨h0, hg⟩
    · exact h.idx f (List.mem_append.2 (.inl (List.mem_filter.1 hf).1))
  refine ⟨(by show _ ∧ _; exact ⟨by simp, by simp⟩), hQ.right (hQ.rewr _ (h.unitsQ hQ) _ _ (h.at h0 hg) hc), ?_⟩
  have hall : ((unitsK p).map fun f => (stAt p.steps f).cl).all unit = true := List.all_eq_true.2 fun u hu => (h.unitsQ hQ u hu).2
  unfold comes
  simp only [hff, List.length_cons, List.map_cons, List.tail_cons, List.getD_cons_zero]
  rw [if_neg (by omega), if_neg (by decide), if_neg (by decide), if_neg (by decide), if_neg (by decide), if_neg (by decide), if_pos hall]
  have : rewr ((unitsK p).map fun f => (stAt p.steps f).cl) (stAt p.steps g).cl = (c, 0) := hc
  rw [this]
  simp
theorem PI.pickSup (h : PI S inn Q p) {g : Int} (h0 : 0 ≤ g) (hg : g < p.steps.length) {k : Int} (k0 : 0 ≤ k) (hk : k < p.steps.length) :
    PI S inn Q (Go.Proofs.YtmanhdacnkpclaaGreat.pickSup g (clAt p g) p k) ∧ Grow p (Go.Proofs.YtmanhdacnkpclaaGreat.pickSup g (clAt p g) p k) := by
  obtain ⟨h1, h2⟩ := h.come (rule := 4) (frm := [k, g]) (m := sup (clAt p k) (clAt p g)) (fun n hn => hQ.sup _ _ (h.at k0 hk) (h.at h0 hg) n hn) fun n hn t => h.just2 hQ k0 hk h0 hg hn
  unfold Go.Proofs.YtmanhdacnkpclaaGreat.pickSup
  split
  · exact ⟨h1, h2⟩
  · obtain ⟨t, ht⟩ := h2.steps
    obtain ⟨h3, h4⟩ := h1.come (rule := 4) (frm := [g, k]) (m := sup (clAt p g) (clAt p k)) (fun n hn => hQ.sup _ _ (h.at h0 hg) (h.at k0 hk) n hn) fun n hn t' => by
      rw [ht, List.append_assoc]; exact h.just2 hQ h0 hg k0 hk hn
    exact ⟨h3, h2.trans h4⟩
theorem PI.pickSups {g : Int} (h0 : 0 ≤ g) : ∀ {ks : List Int} {p : Pf}, PI S inn Q p → g < p.steps.length → (∀ k ∈ ks, 0 ≤ k ∧ k < p.steps.length) →
    PI S inn Q (ks.foldl (Go.Proofs.YtmanhdacnkpclaaGreat.pickSup g (clAt p g)) p) ∧ Grow p (ks.foldl (Go.Proofs.YtmanhdacnkpclaaGreat.pickSup g (clAt p g)) p)
  | [], p, h, _, _ => ⟨h, .refl p⟩
  | k :: ks, p, h, hg, hk => by
    obtain ⟨h1, h2⟩ := h.pickSup hQ h0 hg (hk k (by simp)).1 (hk k (by simp)).2
    obtain ⟨t, ht⟩ := h2.steps
    have hle : p.steps.length ≤ (Go.Proofs.YtmanhdacnkpclaaGreat.pickSup g (clAt p g) p k).steps.length := by rw [ht]; simp
    obtain ⟨h3, h4⟩ := PI.pickSups h0 (ks := ks) h1 (by omega) fun j hj => by have := hk j (by simp [hj]); omega
    rw [h2.at h0 hg] at h3 h4
    exact ⟨h3, h2.trans h4⟩
structure Picked (p q : Pf) : Prop where
  sig : q.sig = p.sig
  steps : ∃ t, q.steps = p.steps ++ t
  active : q.active = p.active ∨ ∃ g, q.active = p.active ++ [g]
  wait : ∃ w, q.wait = p.wait ++ w ∧ ∀ k ∈ w, (p.steps.length : Int) ≤ k
omit hQ in
theorem Grow.picked {q : Pf} (h : Grow p q) : Picked p q := ⟨h.sig, h.steps, .inl h.active, h.wait⟩
omit hQ in
theorem Grow.pick {p q r : Pf} (h : Grow p q) (h' : Picked q r) : Picked p r := by
  obtain ⟨t, ht⟩ := h.steps
  obtain ⟨t', ht'⟩ := h'.steps
  obtain ⟨w, hw, hw2⟩ := h.wait
  obtain ⟨w', hw', hw2'⟩ := h'.wait
  refine ⟨h'.sig.trans h.sig, ⟨t ++ t', by rw [ht', ht, List.append_assoc]⟩, by rw [← h.active]; exact h'.active, w ++ w', by rw [hw', hw, List.append_assoc], fun k hk => ?_⟩
  rcases List.mem_append.1 hk with hk | hk
  · exact hw2 k hk
  · have := hw2' k hk
    rw [ht, List.length_append] at this; omega
theorem PI.pickGo (h : PI S inn Q p) {g : Int} (h0 : 0 ≤ g) (hg : g < p.steps.length) (hn : g ∉ p.active ++ p.wait) : PI S inn Q (Go.Proofs.YtmanhdacnkpclaaGreat.pickGo p g (clAt p g)) ∧ Picked p (Go.Proofs.YtmanhdacnkpclaaGreat.pickGo p g (clAt p g)) := by
  have ha : PI S inn Q { p with active := p.active ++ [g] } := by
    refine ⟨h.sig, h.len, h.cl, fun k hk => ?_, ?_, h.found, h.just⟩
    · simp only [List.append_assoc, List.mem_append, List.mem_singleton] at hk
      rcases hk with hk | rfl | hk
      · exact h.idx k (List.mem_append.2 (.inl hk))
      · exact ⟨h0, hg⟩
      · exact h.idx k (List.mem_append.2 (.inr hk))
    · have := h.nd
      simp only [List.mem_append, not_or] at hn
      rw [List.nodup_append] at this ⊢
      refine ⟨?_, this.2.1, fun a ha b hb => ?_⟩
      · rw [List.nodup_append]
        refine ⟨this.1, by simp, fun a ha b hb => ?_⟩
        rw [List.mem_singleton.1 hb]; exact fun e => hn.1 (e ▸ ha)
      · rcases List.mem_append.1 ha with ha | ha
        · exact this.2.2 a ha b hb
        · rw [List.mem_singleton.1 ha]; exact fun e => hn.2 (e ▸ hb)
  have hc := h.at h0 hg
  obtain ⟨h1, h2⟩ := ha.come (rule := 2) (frm := [g]) (m := resolve (clAt p g)) (fun n hn => hQ.resolve _ hc n hn) fun n hn t => (h.just1 hQ h0 hg).1 hn
  obtain ⟨t, ht⟩ := h2.steps
  obtain ⟨h3, h4⟩ := h1.come (rule := 3) (frm := [g]) (m := factor (clAt p g)) (fun n hn => hQ.factor _ hc n hn) fun n hn t' => by
    rw [ht, List.append_assoc]; exact (h.just1 hQ h0 hg).2 hn
  have h5 := h2.trans h4
  obtain ⟨t2, ht2⟩ := h5.steps
  have hle : p.steps.length ≤ (Go.Proofs.YtmanhdacnkpclaaGreat.come (Go.Proofs.YtmanhdacnkpclaaGreat.come { p with active := p.active ++ [g] } 2 [g] (resolve (clAt p g))) 3 [g] (factor (clAt p g))).steps.length := by rw [ht2]; simp
  have he := h5.at (k := g) h0 hg
  have he2 : clAt { p with active := p.active ++ [g] } g = clAt p g := rfl
  obtain ⟨h6, h7⟩ := PI.pickSups hQ h0 (ks := p.active ++ [g]) h3 (by omega) fun k hk => by
    rcases List.mem_append.1 hk with hk | hk
    · have := h.idx k (List.mem_append.2 (.inl hk)); omega
    · rw [List.mem_singleton.1 hk]; omega
  rw [he, he2] at h6 h7
  have h8 := h5.trans h7
  exact ⟨h6, h8.sig, h8.steps, .inr ⟨g, h8.active⟩, h8.wait⟩
theorem PI.pick3 (h : PI S inn Q p) {g : Int} (h0 : 0 ≤ g) (hg : g < p.steps.length) (hn : g ∉ p.active ++ p.wait) : PI S inn Q (Go.Proofs.YtmanhdacnkpclaaGreat.pick3 p g (clAt p g)) ∧ Picked p (Go.Proofs.YtmanhdacnkpclaaGreat.pick3 p g (clAt p g)) := by
  unfold Go.Proofs.YtmanhdacnkpclaaGreat.pick3
  split
  · exact ⟨h, (Grow.refl p).picked⟩
  · exact h.pickGo hQ h0 hg hn
theorem PI.pick1 (h : PI S inn Q p) {g : Int} (h0 : 0 ≤ g) (hg : g < p.steps.length) (hn : g ∉ p.active ++ p.wait) : PI S inn Q (Go.Proofs.YtmanhdacnkpclaaGreat.pick1 p g) ∧ Picked p (Go.Proofs.YtmanhdacnkpclaaGreat.pick1 p g) := by
  unfold Go.Proofs.YtmanhdacnkpclaaGreat.pick1
  split
  rename_i c e hr
  split
  · rename_i he
    subst he
    unfold Go.Proofs.YtmanhdacnkpclaaGreat.pick2
    split
    · rename_i hs
      rw [clSame_iff.1 hs]
      exact h.pick3 hQ h0 hg hn
    · by_cases hl : p.steps.length < 120
      · obtain ⟨q, e, h1, h2, h3, h4, _, h5⟩ := h.step hl (hQ.rewr _ (h.unitsQ hQ) _ _ (h.at h0 hg) hr) (h.just5 hQ h0 hg hr)
        rw [e]
        have e4 : (q.steps.length : Int) - 1 = p.steps.length := by omega
        have := h1.pick3 hQ (g := (q.steps.length : Int) - 1) (by omega) (by omega) fun hm => by
          rw [h2.active, h3] at hm
          have := (h.idx _ hm).2
          omega
        rw [e4, h5] at this
        simp only [e4]
        exact ⟨this.1, h2.pick this.2⟩
      · rw [step_full hl]
        exact ⟨h.lost true, rfl, ⟨[], by simp⟩, .inl rfl, [], by simp, by simp⟩
  · exact ⟨h.lost _, rfl, ⟨[], by simp⟩, .inl rfl, [], by simp, by simp⟩
theorem PI.erase (h : PI S inn Q p) {n : Nat} (hn : n < p.wait.length) : PI S inn Q { p with wait := p.wait.eraseIdx n } ∧ 0 ≤ p.wait.getD n 0 ∧ p.wait.getD n 0 < p.steps.length ∧ p.wait.getD n 0 ∉ p.active ++ p.wait.eraseIdx n := by
  have hsub : (p.wait.eraseIdx n).Sublist p.wait := List.eraseIdx_sublist ..
  have hg : p.wait.getD n 0 = p.wait[n] := by rw [List.getD_eq_getElem?_getD, List.getElem?_eq_getElem hn]; rfl
  have hm : p.wait[n] ∈ p.wait := List.getElem_mem hn
  have hnd := h.nd
  rw [List.nodup_append] at hnd
  refine ⟨⟨h.sig, h.len, h.cl, fun k hk => h.idx k ?_, ?_, h.found, h.just⟩, ?_, ?_, ?_⟩
  · rcases List.mem_append.1 hk with hk | hk
    · exact List.mem_append.2 (.inl hk)
    · exact List.mem_append.2 (.inr (hsub.subset hk))
  · rw [List.nodup_append]
    exact ⟨hnd.1, hnd.2.1.sublist hsub, fun a ha b hb => hnd.2.2 a ha b (hsub.subset hb)⟩
  · rw [hg]; exact (h.idx _ (List.mem_append.2 (.inr hm))).1
  · rw [hg]; exact (h.idx _ (List.mem_append.2 (.inr hm))).2
  · rw [hg]
    intro hk
    rcases List.mem_append.1 hk with hk | hk
    · exact hnd.2.2 _ hk _ hm rfl
    · exact erase_not hnd.2.1 hn hk
theorem PI.pick (h : PI S inn Q p) (n : Int) : PI S inn Q (Go.Proofs.YtmanhdacnkpclaaGreat.pick p n).1 ∧ ((Go.Proofs.YtmanhdacnkpclaaGreat.pick p n).2 = 0 → 0 ≤ n ∧ n < p.wait.length ∧ p.found = -1 ∧ Picked { p with wait := p.wait.eraseIdx n.toNat } (Go.Proofs.YtmanhdacnkpclaaGreat.pick p n).1) ∧ ((Go.Proofs.YtmanhdacnkpclaaGreat.pick p n).2 ≠ 0 → (Go.Proofs.YtmanhdacnkpclaaGreat.pick p n).1 = p) := by
  unfold Go.Proofs.YtmanhdacnkpclaaGreat.pick
  split
  · exact ⟨h, fun h => (by cases h), fun _ => rfl⟩
  · rename_i hf
    split
    · exact ⟨h, fun h => (by cases h), fun _ => rfl⟩
    · rename_i hn
      obtain ⟨h1, h2, h3, h4⟩ := h.erase hQ (n := n.toNat) (by omega)
      obtain ⟨h5, h6⟩ := h1.pick1 hQ h2 h3 h4
      refine ⟨h5, fun _ => ⟨by omega, by omega, ?_, h6⟩, fun h => absurd rfl h⟩
      rcases h.found with h | ⟨k, h, _⟩ <;> omega
theorem PI.search : ∀ (picks : List Int) {p : Pf}, PI S inn Q p → PI S inn Q (searchGo p picks)
  | [], p, h => h
  | n :: ns, p, h => by
    unfold searchGo
    split
    · exact h
    · exact PI.search ns (h.pick hQ _).1
end
end Go.Proofs.YtmanhdacnkpclaaGreat
/- Searches and logs, plainly: what holds of them. -/
namespace Go.Proofs.YtmanhdacnkpclaaGreat
set_option linter.all false
theorem QOk.ofKept {S : List Int} {inn : List (List Lt)} (hs : wrongSig S = 0) (hi : ∀ c ∈ inn, wrongCl S c = 0) : QOk S inn (Kept S) where
  kept := fun c h => h
  norm := fun c hc n hn => (cok_of hs (hi c hc)).wf.good.kept hn
  resolve := fun c h n hn => (resolve_kept h.wf.good).1 n hn
  factor := fun c h n hn => (factor_kept h.wf.good).1 n hn
  sup := fun c d hc hd n hn => (sup_kept hc.wf hd.wf).1 n hn
  rewr := fun us hu c n hc hn => rewr_kept ⟨fun u h => (hu u h).2, fun u h => (hu u h).1.wf⟩ hc.wf hn
theorem newGo_ok {S : List Int} {inn : List (List Lt)} {Q : List Lt → Prop} (hQ : QOk S inn Q) (h8 : inn.length ≤ 8) : ∀ (l : List (List Lt)) (i : Nat) (p q : Pf), inn.drop i = l → i ≤ inn.length → PI S inn Q p → p.active = [] → p.found = -1 ∨ 0 ≤ p.found → p.steps.length ≤ i → newGo S i l p = (q, 0) →
    PI S inn Q q ∧ q.active = [] ∧ firstWrong S l = 0
  | [], i, p, q, _, _, h, ha, _, _, e => by
    simp only [newGo, Prod.mk.injEq] at e
    obtain ⟨rfl, _⟩ := e
    exact ⟨h, ha, rfl⟩
  | c :: l, i, p, q, hd, hi, h, ha, hf, hl, e => by
    have hil : i < inn.length := by
      rcases Nat.lt_or_ge i inn.length with h | h
      · exact h
      · rw [List.drop_eq_nil_of_le h] at hd; cases hd
    have hic : inn[i]? = some c := by
      have := congrArg (fun l => l[0]?) hd
      simpa using this
    have hd' : inn.drop (i + 1) = l := by
      have := congrArg List.tail hd
      simpa using this
    rcases hn : norm c with ⟨n, e'⟩
    simp only [newGo, hn] at e
    split at e
    · rename_i hw
      simp only [firstWrong, hw, if_true]
      split at e
      · cases e
      · split at e
        · rename_i h0
          subst h0
          have hgd : inn.getD i [] = c := by rw [List.getD_eq_getElem?_getD, hic]; rfl
          have hj : Just S inn p.steps p.steps.length ⟨1, [(i : Int)], n⟩ := by
            have hq := hQ.norm c (List.mem_of_getElem? hic) n hn
            refine ⟨(by show _ ∧ _; exact ⟨by simp, by simp⟩), (hQ.kept n hq).cok.wrong, ?_⟩
            unfold comes
            simp only [List.length_singleton, List.getD_cons_zero, Int.toNat_natCast]
            rw [if_neg (by omega), if_pos trivial, if_neg (by omega), hgd, hn]
            simp
          obtain ⟨r, e1, h1, h2, h3, h4, h5, _⟩ := h.step (by omega) (hQ.norm c (List.mem_of_getElem? hic) n hn) hj
          rw [e1] at e
          have h3' : p.wait ++ [(r.steps.length : Int) - 1] = r.wait ++ [(r.steps.length : Int) - 1] := by rw [h3]
          rw [h3'] at e
          refine newGo_ok hQ h8 l (i + 1) _ q hd' hil (h1.waitMore (by omega) fun hm => ?_) (h2.active.trans ha) ?_ (by show r.steps.length ≤ i + 1; omega) e
          · rw [h2.active, h3] at hm
            have := (h.idx _ hm).2
            omega
          · rcases h1.found with h | ⟨k, h, _⟩
            · exact .inl h
            · exact .inr (by show 0 ≤ r.found; omega)
        · exact newGo_ok hQ h8 l (i + 1) p q hd' hil h ha hf (by omega) e
    · rename_i hw
      simp only [Prod.mk.injEq] at e
      exact absurd e.2 hw
theorem newP_ok {S : List Int} {inn : List (List Lt)} {Q : List Lt → Prop} {q : Pf} (h : newP S inn = (q, 0)) (hQ : QOk S inn Q) : PI S inn Q q ∧ q.active = [] ∧ firstWrong S inn = 0 ∧ inn.length ≤ 8 ∧ wrongSig S = 0 := by
  unfold newP at h
  split at h
  · rename_i hs
    split at h
    · cases h
    · rename_i h8
      have := newGo_ok hQ (by omega) inn 0 _ q (by simp) (Nat.zero_le _) ⟨rfl, by simp, by simp, by simp, by simp, .inl rfl, by simp⟩ rfl (.inl rfl) (by simp) h
      exact ⟨this.1, this.2.1, this.2.2, by omega, hs⟩
  · rename_i hs
    simp only [Prod.mk.injEq] at h
    exact absurd h.2 hs
theorem newGo_wrong {S : List Int} : ∀ (l : List (List Lt)) (i : Nat) (p q : Pf), newGo S i l p = (q, 0) → ∀ c ∈ l, wrongCl S c = 0
  | [], _, _, _, _, c, hc => by cases hc
  | c :: l, i, p, q, e, d, hd => by
    simp only [newGo] at e
    split at e
    · rename_i hw
      rcases List.mem_cons.1 hd with rfl | hd
      · exact hw
      · split at e
        · cases e
        · split at e
          · exact newGo_wrong l _ _ q e d hd
          · exact newGo_wrong l _ _ q e d hd
    · rename_i hw
      simp only [Prod.mk.injEq] at e
      exact absurd e.2 hw
theorem newP_right {S : List Int} {inn : List (List Lt)} {q : Pf} (h : newP S inn = (q, 0)) : wrongSig S = 0 ∧ (∀ c ∈ inn, wrongCl S c = 0) := by
  unfold newP at h
  split at h
  · rename_i hs
    split at h
    · cases h
    · exact ⟨hs, newGo_wrong inn _ _ q h⟩
  · rename_i hs
    simp only [Prod.mk.injEq] at h
    exact absurd h.2 hs
theorem search_ok {S : List Int} {inn : List (List Lt)} {picks : List Int} {q : Pf} (h : search S inn picks = (q, 0)) {Q : List Lt → Prop} (hQ : wrongSig S = 0 → (∀ c ∈ inn, wrongCl S c = 0) → QOk S inn Q) :
    PI S inn Q q ∧ firstWrong S inn = 0 ∧ inn.length ≤ 8 ∧ wrongSig S = 0 ∧ (∀ c ∈ inn, wrongCl S c = 0) := by
  unfold search at h
  split at h
  rename_i p e hp
  split at h
  · rename_i he
    subst he
    obtain ⟨hs, hi⟩ := newP_right hp
    obtain ⟨h1, _, h3, h4, _⟩ := newP_ok hp (hQ hs hi)
    split at h
    · cases h
    · simp only [Prod.mk.injEq] at h
      obtain ⟨rfl, _⟩ := h
      exact ⟨PI.search (hQ hs hi) picks h1, h3, h4, hs, hi⟩
  · rename_i he
    simp only [Prod.mk.injEq] at h
    exact absurd h.2 he
theorem validF_nil {S : List Int} {m : Md} (hm : MOk S m) : ¬ validF m [] := fun h => by
  have := h (fun _ => 0) fun v => ⟨Int.le_refl _, by have := hm.one; show (0 : Int) < _; omega⟩
  simp [someF] at this
theorem checkGo_ok {S : List Int} {inn : List (List Lt)} {steps : List Sp} (h : ∀ (k : Nat) (st : Sp), steps[k]? = some st → Just S inn steps k st) : ∀ (r : List Sp) (k : Nat), steps.drop k = r → checkGo S inn steps k r = (0, -1)
  | [], _, _ => rfl
  | x :: r, k, hd => by
    have hk : steps[k]? = some x := by
      have := congrArg (fun l => l[0]?) hd
      simpa using this
    have hd' : steps.drop (k + 1) = r := by
      have := congrArg List.tail hd
      simpa using this
    have hj := h k x hk
    simp only [checkGo]
    rw [if_neg (by have := hj.rule; omega), if_pos hj.right, if_pos (show (comes inn steps k x).any (fun c => clSame c x.cl) = true from List.any_eq_true.2 ⟨x.cl, hj.comes, clSame_iff.2 rfl⟩)]
    exact checkGo_ok h r (k + 1) hd'
theorem checkGo_just {S : List Int} {inn : List (List Lt)} {steps : List Sp} : ∀ (r : List Sp) (k : Nat) (e : Int), checkGo S inn steps k r = (0, e) → ∀ (j : Nat) (st : Sp), r[j]? = some st → Just S inn steps (k + j) st
  | [], _, _, _, j, st, h => by simp at h
  | x :: r, k, e, h, j, st, hj => by
    simp only [checkGo] at h
    split at h
    · cases h
    · rename_i h1
      split at h
      · rename_i h2
        split at h
        · rename_i h3
          cases j with
          | zero =>
            simp at hj; subst hj
            obtain ⟨c, hc, hs⟩ := List.any_eq_true.1 h3
            rw [clSame_iff.1 hs] at hc
            exact ⟨by omega, h2, hc⟩
          | succ j =>
            have := checkGo_just r (k + 1) e h j st (by simpa using hj)
            rw [show k + (j + 1) = k + 1 + j by omega]; exact this
        · cases h
      · rename_i h2
        simp only [Prod.mk.injEq] at h
        exact absurd h.1 h2
theorem firstWrong_all {S : List Int} : ∀ {l : List (List Lt)}, firstWrong S l = 0 ↔ ∀ c ∈ l, wrongCl S c = 0
  | [] => by simp [firstWrong]
  | c :: l => by
    simp only [firstWrong]
    split
    · rename_i h; simp [firstWrong_all (l := l), h]
    · rename_i h; simp [h]
structure Checked (S : List Int) (inn : List (List Lt)) (steps : List Sp) : Prop where
  sig : wrongSig S = 0
  rin : ∀ c ∈ inn, wrongCl S c = 0
  inn8 : inn.length ≤ 8
  len : steps.length ≤ 120
  just : ∀ (k : Nat) (st : Sp), steps[k]? = some st → Just S inn steps k st
theorem check_iff {S : List Int} {inn : List (List Lt)} {steps : List Sp} : (check S inn steps).1 = 0 ↔ Checked S inn steps := by
  constructor
  · intro h
    unfold check at h
    split at h
    · rename_i hs
      split at h
      · cases h
      · rename_i hl
        split at h
        · rename_i hf
          refine ⟨hs, firstWrong_all.1 hf, by omega, by omega, fun k st hk => ?_⟩
          have := checkGo_just steps 0 (checkGo S inn steps 0 steps).2 (by rw [← h]) k st hk
          simpa using this
        · rename_i hf; exact absurd h hf
    · rename_i hs; exact absurd h hs
  · intro h
    unfold check
    rw [if_pos h.sig, if_neg (by have := h.inn8; have := h.len; omega), if_pos (firstWrong_all.2 h.rin), checkGo_ok h.just steps 0 (by simp)]
theorem PI.checked {S : List Int} {inn : List (List Lt)} {p : Pf} (h : PI S inn (Kept S) p) (hs : wrongSig S = 0) (hi : ∀ c ∈ inn, wrongCl S c = 0) (h8 : inn.length ≤ 8) : Checked S inn p.steps := ⟨hs, hi, h8, h.len, h.just⟩
theorem stAt_get {l : List Sp} {k : Int} {st : Sp} (h : l[k.toNat]? = some st) : stAt l k = st := by unfold stAt; rw [List.getD_eq_getElem?_getD, h]; rfl
theorem stAt_of {l : List Sp} {k : Int} (h0 : 0 ≤ k) (h : k < l.length) : l[k.toNat]? = some (stAt l k) := by
  unfold stAt
  rw [List.getD_eq_getElem?_getD, List.getElem?_eq_getElem (by omega)]; rfl
theorem Checked.wf {S : List Int} {inn : List (List Lt)} {steps : List Sp} (h : Checked S inn steps) {k : Nat} {st : Sp} (hk : steps[k]? = some st) : COk S st.cl := cok_of h.sig (h.just k st hk).right
theorem comes_valid {S : List Int} {inn : List (List Lt)} {steps : List Sp} {m : Md} (hm : MOk S m) (hs : wrongSig S = 0) (hi : ∀ c ∈ inn, wrongCl S c = 0) (hv : ∀ c ∈ inn, validF m c) {k : Nat} {x : Sp}
    (hk : ∀ f : Int, 0 ≤ f → f < k → COk S (stAt steps f).cl ∧ validF m (stAt steps f).cl) : ∀ n ∈ comes inn steps k x, validF m n := by
  intro n hn
  unfold comes at hn
  split at hn
  · cases hn
  · rename_i hl
    split at hn
    · rename_i h1
      split at hn
      · cases hn
      · rename_i hr
        split at hn
        rename_i d e hd
        split at hn
        · rename_i he
          subst he
          rw [List.mem_singleton.1 hn]
          have hmem : inn.getD (x.frm.getD 0 0).toNat [] ∈ inn := by
            rw [List.getD_eq_getElem?_getD, List.getElem?_eq_getElem (by omega)]
            exact List.getElem_mem _
          exact (cok_of hs (hi _ hmem)).wf.good.valid hd hm (hv _ hmem)
        · cases hn
    · split at hn
      · cases hn
      · rename_i hf
        simp only [Bool.not_eq_false] at hf
        have hall : ∀ c ∈ x.frm.map (fun f => (stAt steps f).cl), COk S c ∧ validF m c := fun c hc => by
          obtain ⟨f, hf', rfl⟩ := List.mem_map.1 hc
          have := List.all_eq_true.1 hf f hf'
          simp only [decide_eq_true_eq] at this
          exact hk f this.1 this.2
        have hlen : 0 < (x.frm.map (fun f => (stAt steps f).cl)).length := by rw [List.length_map]; omega
        have hlen2 : x.rule = 4 → 1 < (x.frm.map (fun f => (stAt steps f).cl)).length := fun h => by rw [List.length_map]; omega
        generalize x.frm.map (fun f => (stAt steps f).cl) = l at hn hall hlen hlen2
        have h0 : l.getD 0 [] ∈ l := by
          rw [List.getD_eq_getElem?_getD, List.getElem?_eq_getElem hlen]; exact List.getElem_mem _
        have g0 := hall _ h0
        simp only at hn
        split at hn
        · exact resolve_valid hm g0.1.wf.good g0.2 n hn
        · split at hn
          · exact factor_valid hm g0.1.wf.good g0.2 n hn
          · split at hn
            · rename_i h4
              have hl2 := hlen2 h4
              have h1 : l.getD 1 [] ∈ l := by
                rw [List.getD_eq_getElem?_getD, List.getElem?_eq_getElem hl2]; exact List.getElem_mem _
              have g1 := hall _ h1
              exact sup_valid hm g0.1.wf g1.1.wf g0.2 g1.2 n hn
            · split at hn
              · rename_i hu
                rcases hc : rewr l.tail (l.getD 0 []) with ⟨c, e⟩
                simp only [hc] at hn
                split at hn
                · rename_i he
                  subst he
                  rw [List.mem_singleton.1 hn]
                  have hU : UsOk S l.tail := ⟨fun u h => List.all_eq_true.1 hu u h, fun u h => (hall u (List.mem_of_mem_tail h)).1.wf⟩
                  exact (rewr_valid hU hm (fun u h => (hall u (List.mem_of_mem_tail h)).2) g0.1.wf hc).1 g0.2
                · cases hn
              · cases hn
theorem Checked.valid {S : List Int} {inn : List (List Lt)} {steps : List Sp} {m : Md} (h : Checked S inn steps) (hm : MOk S m) (hv : ∀ c ∈ inn, validF m c) : ∀ (k : Nat) (st : Sp), steps[k]? = some st → validF m st.cl := by
  intro k
  induction k using Nat.strongRecOn with
  | ind k ih =>
    intro st hk
    have hlt := (List.getElem?_eq_some_iff.1 hk).1
    refine comes_valid hm h.sig h.rin hv (fun f f0 hf => ?_) _ (h.just k st hk).comes
    have hs := stAt_of (l := steps) f0 (by omega)
    exact ⟨h.wf hs, ih f.toNat (by omega) _ hs⟩
theorem needGo_up {steps : List Sp} : ∀ (k : Nat) (N : Int → Bool) (v : Int), N v = true → needGo steps k N v = true
  | 0, _, _, h => h
  | k + 1, N, v, h => by
    simp only [needGo]
    refine needGo_up k _ v ?_
    split
    · simp [h]
    · exact h
def Down (steps : List Sp) : Prop := ∀ (k : Nat) (st : Sp), steps[k]? = some st → st.rule ≠ 1 → ∀ f ∈ st.frm, 0 ≤ f ∧ f < (k : Int)
theorem needGo_high {steps : List Sp} (hd : Down steps) : ∀ (k : Nat) (N : Int → Bool) (v : Int), k ≤ steps.length → (k : Int) - 1 ≤ v → needGo steps k N v = N v
  | 0, _, _, _, _ => rfl
  | k + 1, N, v, hk, hv => by
    simp only [needGo]
    rw [needGo_high hd k _ v (by omega) (by omega)]
    split
    · rename_i hc
      simp only [Bool.and_eq_true, Bool.not_eq_true', beq_eq_false_iff_ne] at hc
      have hs : steps[k]? = some (stAt steps k) := by
        have := stAt_of (l := steps) (k := (k : Int)) (by omega) (by omega)
        simpa using this
      have : (stAt steps k).frm.contains v = false := by
        rw [← Bool.not_eq_true, List.contains_iff_mem]
        intro hm
        have := hd k _ hs hc.2 v hm
        omega
      show (N v || (stAt steps (k : Int)).frm.contains v) = N v
      rw [this, Bool.or_false]
    · rfl
theorem needGo_closed {steps : List Sp} (hd : Down steps) : ∀ (k : Nat) (N : Int → Bool), k ≤ steps.length → ∀ j : Nat, j < k → needGo steps k N j = true → (stAt steps j).rule ≠ 1 → ∀ f ∈ (stAt steps j).frm, needGo steps k N f = true
  | 0, _, _, j, hj, _, _, _, _ => absurd hj (by omega)
  | k + 1, N, hk, j, hj, hN, hr, f, hf => by
    simp only [needGo] at hN ⊢
    by_cases hjk : j < k
    · exact needGo_closed hd k _ (by omega) j hjk hN hr f hf
    · have : j = k := by omega
      subst this
      rw [needGo_high hd j _ (j : Int) (by omega) (by omega)] at hN
      refine needGo_up j _ f ?_
      have hNj : N (j : Int) = true := by
        split at hN
        · rename_i hc
          simp only [Bool.and_eq_true] at hc
          exact hc.1
        · exact hN
      have hr' : ((stAt steps (j : Int)).rule == 1) = false := by simpa using hr
      rw [hNj, hr']
      simp [List.contains_iff_mem, hf]
theorem cntN_le (N : Int → Bool) : ∀ k, cntN N k ≤ k
  | 0 => Nat.le_refl _
  | k + 1 => by have := cntN_le N k; simp only [cntN]; split <;> omega
theorem trimGo_len {steps : List Sp} {N : Int → Bool} : ∀ k, (trimGo steps N k).length = cntN N k
  | 0 => rfl
  | k + 1 => by
    simp only [trimGo, cntN, List.length_append, trimGo_len k]
    split <;> simp
theorem Just.down {S : List Int} {inn : List (List Lt)} {steps : List Sp} {k : Nat} {x : Sp} (h : Just S inn steps k x) (hr : x.rule ≠ 1) : x.frm.length ≠ 0 ∧ ∀ f ∈ x.frm, 0 ≤ f ∧ f < (k : Int) := by
  have hc := h.comes
  unfold Go.Proofs.YtmanhdacnkpclaaGreat.comes at hc
  split at hc
  · cases hc
  · rename_i hl
    split at hc
    · cases hc
    · rename_i hf
      simp only [Bool.not_eq_false] at hf
      exact ⟨fun h => hl (.inl h), fun f hm => by have := List.all_eq_true.1 hf f hm; simpa using this⟩
theorem Checked.down {S : List Int} {inn : List (List Lt)} {steps : List Sp} (h : Checked S inn steps) : Down steps := fun k st hk hr => ((h.just k st hk).down hr).2
end Go.Proofs.YtmanhdacnkpclaaGreat
/- What functions do: places, and what is at them. -/
namespace Go.Proofs.YtmanhdacnkpclaaGreat
set_option linter.unusedVariables false
set_option linter.unusedSimpArgs false
open Go.RowKit
set_option maxHeartbeats 4000000 in
set_option maxRecDepth 100000 in
theorem rplaces : ∀ t : Tm, t.size ≤ 1000000000 → FnD Tryz.prog 106 [tA t] (.one (lA Is.d (places t))) := by
  refine Tm.ind ?_
  intro v n l ih hsz
  refine Fn.of Tryz.func106 rfl Tryz.ntmps106 rfl (Nat.le_of_ble_eq_true rfl) ?_
  cases v
  rotate_left
  · (refine wlk ?_)
    refine fin_wk (fun n => Wk.nilArr (d := 2) rfl) ?_
    (refine wfT ?_)
    exact Xl (f := Is.d) (b := []) rfl
  have hszl : Tm.sizes l ≤ 1000000000 := by simp [Tm.size] at hsz; omega
  have hll := sizes_len l
  (refine wlk ?_)
  (refine SqA.b2 (Op1.frzIn (t := 11) rfl (op_bsT (T := TB) (f := Is.d) [[]] rfl rfl rfl rfl rfl rfl rfl rfl rfl rfl rfl)) rfl rfl ?_)
  (refine wlk ?_)
  refine dwp_loop (fun k : Nat => [(.t 1, some (.one (.c (.ptr 1 0)))), (.b 1, some (.box (tA ⟨false, n, l⟩).cells)), (.t 3, some (.one (.c (.own 22 1 (([] :: placesL 0 (l.take k)).map Is.d))))),
    (.t 15, some (.one (lA Tm.d l))), (.t 16, some (.one (iA l.length))), (.t 17, some (.one (iA k)))])
    (fun k => k ≤ l.length) (fun k => l.length - k) 0 (by omega) fgs ?_
  intro k hk
  by_cases hkl : k < l.length
  · obtain ⟨x, hx⟩ := get_of_lt hkl
    have h1 := sizes_take_succ l k x hx
    have h2 := sizes_take_le l (k + 1)
    have h3 := placesL_len (l.take k) 0
    have h4 := places_len x
    have h5 := places_deep x
    have hsn := placesL_snoc hx
    generalize hps : places x = ps at h4 h5 hsn
    have hih := ih x (List.mem_of_getElem? hx) (by omega)
    rw [hps] at hih
    (refine wlk ?_)
    (refine wlC hih ?_)
    (refine wlk ?_)
    refine dwp_loop (fun j : Nat => [(.t 1, some (.one (.c (.ptr 1 0)))), (.b 1, some (.box (tA ⟨false, n, l⟩).cells)), (.t 3, some (.one (.c (.own 22 1 (([] :: (placesL 0 (l.take k) ++ (ps.take j).map (fun p => (k : Int) :: p))).map Is.d))))),
      (.t 15, some (.one (lA Tm.d l))), (.t 16, some (.one (iA l.length))), (.t 17, some (.one (iA k))), (.t 4, some (.one (iA k))), (.t 25, some (.one (lA Is.d ps))), (.t 26, some (.one (iA ps.length))), (.t 27, some (.one (iA j)))])
      (fun j => j ≤ ps.length) (fun j => ps.length - j) 0 (by omega) ?_ ?_
    · have e : ([] :: placesL 0 (l.take k)) = ([] :: (placesL 0 (l.take k) ++ (ps.take 0).map (fun p => (k : Int) :: p))) := by simp
      rw [← e]
      exact fgs
    intro j hj
    by_cases hjl : j < ps.length
    · obtain ⟨p, hp⟩ := get_of_lt hjl
      have h6 := h5 p (List.mem_of_getElem? hp)
      have hs2 : ([] :: (placesL 0 (l.take k) ++ (ps.take j).map (fun p => (k : Int) :: p))) ++ [[(k : Int)] ++ p] = [] :: (placesL 0 (l.take k) ++ (ps.take (j + 1)).map (fun p => (k : Int) :: p)) := by
        rw [← snoc (fun p => (k : Int) :: p) hp]; simp
      have hlen : (placesL 0 (l.take k)).length + ps.length ≤ 1000000000 := by omega
      (refine wlk ?_)
      (refine SqA.b1 (op_bsOT (T := TB) (f := Int.d) [(k : Int)] rfl rfl rfl rfl rfl rfl rfl rfl rfl rfl rfl rfl) rfl rfl ?_)
      (refine wlk ?_)
      (refine SqA.b2 (Op1.frzIn (t := 35) rfl (op_bsT (T := TB) (f := Is.d) [[(k : Int)] ++ p] rfl rfl rfl rfl rfl rfl rfl rfl rfl rfl rfl)) rfl rfl ?_)
      (refine wlk ?_)
      exact ⟨j + 1, by omega, fgs, by omega⟩
    · have : j = ps.length := by omega
      subst this
      rw [List.take_length, ← hsn]
      (refine wlk ?_)
      exact ⟨k + 1, by omega, fgs, by omega⟩
  · have : k = l.length := by omega
    subst this
    rw [List.take_length]
    refine dwp_wk (Wk.freezeAt (d := 3) rfl) ?_
    (refine wlk ?_)
    (refine wfT ?_)
    exact Xl (f := Is.d) (b := [] :: placesL 0 l) rfl
set_option maxHeartbeats 4000000 in
set_option maxRecDepth 100000 in
theorem pplaces : ∀ t : Tm, t.size ≤ 1000000000 → FnD Tryz.prog 119 [tA t] (.one (lA Is.d (places t))) := by
  refine Tm.ind ?_
  intro v n l ih hsz
  refine Fn.of Tryz.func119 rfl Tryz.ntmps119 rfl (Nat.le_of_ble_eq_true rfl) ?_
  cases v
  rotate_left
  · (refine wlk ?_)
    refine fin_wk (fun n => Wk.nilArr (d := 2) rfl) ?_
    (refine wfT ?_)
    exact Xl (f := Is.d) (b := []) rfl
  have hszl : Tm.sizes l ≤ 1000000000 := by simp [Tm.size] at hsz; omega
  have hll := sizes_len l
  (refine wlk ?_)
  (refine SqA.b1 (op_bsNil (T := TB) rfl rfl rfl rfl rfl rfl rfl) rfl rfl ?_)
  (refine wlk ?_)
  refine dwp_loop (fun k : Nat => [(.t 1, some (.one (.c (.ptr 1 0)))), (.b 1, some (.box (tA ⟨false, n, l⟩).cells)), (.t 3, some (.one (.c (.own 22 1 (([] :: placesL 0 (l.take k)).map Is.d))))),
    (.t 12, some (.one (lA Tm.d l))), (.t 13, some (.one (iA l.length))), (.t 14, some (.one (iA k)))])
    (fun k => k ≤ l.length) (fun k => l.length - k) 0 (by omega) fgs ?_
  intro k hk
  by_cases hkl : k < l.length
  · obtain ⟨x, hx⟩ := get_of_lt hkl
    have h1 := sizes_take_succ l k x hx
    have h2 := sizes_take_le l (k + 1)
    have h3 := placesL_len (l.take k) 0
    have h4 := places_len x
    have h5 := places_deep x
    have hsn := placesL_snoc hx
    generalize hps : places x = ps at h4 h5 hsn
    have hih := ih x (List.mem_of_getElem? hx) (by omega)
    rw [hps] at hih
    (refine wlk ?_)
    (refine wlC hih ?_)
    (refine wlk ?_)
    refine dwp_loop (fun j : Nat => [(.t 1, some (.one (.c (.ptr 1 0)))), (.b 1, some (.box (tA ⟨false, n, l⟩).cells)), (.t 3, some (.one (.c (.own 22 1 (([] :: (placesL 0 (l.take k) ++ (ps.take j).map (fun p => (k : Int) :: p))).map Is.d))))),
      (.t 12, some (.one (lA Tm.d l))), (.t 13, some (.one (iA l.length))), (.t 14, some (.one (iA k))), (.t 4, some (.one (iA k))), (.t 20, some (.one (lA Is.d ps))), (.t 21, some (.one (iA ps.length))), (.t 22, some (.one (iA j)))])
      (fun j => j ≤ ps.length) (fun j => ps.length - j) 0 (by omega) ?_ ?_
    · have e : ([] :: placesL 0 (l.take k)) = ([] :: (placesL 0 (l.take k) ++ (ps.take 0).map (fun p => (k : Int) :: p))) := by simp
      rw [← e]
      exact fgs
    intro j hj
    by_cases hjl : j < ps.length
    · obtain ⟨p, hp⟩ := get_of_lt hjl
      have h6 := h5 p (List.mem_of_getElem? hp)
      have hs2 : ([] :: (placesL 0 (l.take k) ++ (ps.take j).map (fun p => (k : Int) :: p))) ++ [[(k : Int)] ++ p] = [] :: (placesL 0 (l.take k) ++ (ps.take (j + 1)).map (fun p => (k : Int) :: p)) := by
        rw [← snoc (fun p => (k : Int) :: p) hp]; simp
      have hlen : (placesL 0 (l.take k)).length + ps.length ≤ 1000000000 := by omega
      (refine wlk ?_)
      (refine SqA.b1 (op_bsOT (T := TB) (f := Int.d) [(k : Int)] rfl rfl rfl rfl rfl rfl rfl rfl rfl rfl rfl rfl) rfl rfl ?_)
      (refine wlk ?_)
      (refine SqA.b2 (Op1.frzIn (t := 30) rfl (op_bsT (T := TB) (f := Is.d) [[(k : Int)] ++ p] rfl rfl rfl rfl rfl rfl rfl rfl rfl rfl rfl)) rfl rfl ?_)
      (refine wlk ?_)
      exact ⟨j + 1, by omega, fgs, by omega⟩
    · have : j = ps.length := by omega
      subst this
      rw [List.take_length, ← hsn]
      (refine wlk ?_)
      exact ⟨k + 1, by omega, fgs, by omega⟩
  · have : k = l.length := by omega
    subst this
    rw [List.take_length]
    refine dwp_wk (Wk.freezeAt (d := 3) rfl) ?_
    (refine wlk ?_)
    (refine wfT ?_)
    exact Xl (f := Is.d) (b := [] :: placesL 0 l) rfl
end Go.Proofs.YtmanhdacnkpclaaGreat
/- What functions do: what is at a place; clauses. -/
namespace Go.Proofs.YtmanhdacnkpclaaGreat
set_option linter.unusedVariables false
set_option linter.unusedSimpArgs false
open Go.RowKit
theorem Xat {r r' : Tm × Bool} (h : r = r') : (.tup [tA r.1, bA r.2] : X) = .tup [tA r'.1, bA r'.2] := by rw [h]
set_option maxRecDepth 100000 in
theorem rat : ∀ (p : List Int) (t : Tm), p.length ≤ 1000000000 → FnD Tryz.prog 107 [tA t, lA Int.d p] (.tup [tA (at_ t p).1, bA (at_ t p).2])
  | [], ⟨v, n, l⟩, hp => by
    refine Fn.of Tryz.func107 rfl Tryz.ntmps107 rfl (Nat.le_of_ble_eq_true rfl) ?_
    have h0 : ([] : List Int).length = 0 := rfl
    (refine wlk ?_)
    (refine wfCT ?_)
    exact Xat (r := (⟨v, n, l⟩, true)) rfl
  | i :: p, ⟨v, n, l⟩, hp => by
    have ih := rat p
    refine Fn.of Tryz.func107 rfl Tryz.ntmps107 rfl (Nat.le_of_ble_eq_true rfl) ?_
    have h0 : (i :: p)[0]? = some i := rfl
    have hl1 : (i :: p).length = p.length + 1 := rfl
    by_cases hi : i < 0
    · (refine wlk ?_)
      refine fin_wk (fun n => Wk.nilArrB (j := 4) (q := 2) rfl rfl rfl) ?_
      (refine wfCT ?_)
      exact Xat (r := (⟨false, 0, []⟩, false)) (by simp [at_, hi])
    by_cases hil : (l.length : Int) ≤ i
    · (refine wlk ?_)
      refine fin_wk (fun n => Wk.nilArrB (j := 4) (q := 2) rfl rfl rfl) ?_
      (refine wfCT ?_)
      exact Xat (r := (⟨false, 0, []⟩, false)) (by simp [at_, hil])
    obtain ⟨j, rfl⟩ := Int.eq_ofNat_of_zero_le (a := i) (by omega)
    obtain ⟨y, hy⟩ := get_of_lt (s := l) (k := j) (by omega)
    (refine wlk ?_)
    (refine SqA.b1 (op_call none rfl rfl rfl (by kernel_rfl) (FnD.use (ih y (by simp at hp; omega))) rfl rfl rfl rfl rfl rfl) rfl rfl ?_)
    (refine wlk ?_)
    (refine wfCT ?_)
    exact Xat (r := at_ y p) (by simp [at_, hil, hy, show ¬ ((j : Int) < 0) by omega])
set_option maxRecDepth 100000 in
theorem pat (p : List Int) (t : Tm) : FnD Tryz.prog 120 [tA t, lA Int.d p] (.tup [tA (at_ t p).1, bA (at_ t p).2]) := by
  refine Fn.of Tryz.func120 rfl Tryz.ntmps120 rfl (Nat.le_of_ble_eq_true rfl) ?_
  refine dwp_len (t := 1) rfl fun hl => ?_
  simp only [List.length_map] at hl
  (refine wlk ?_)
  refine dwp_loop (fun x : Nat × Tm => [(.t 2, some (.one (.c (.ptr 2 0)))), (.b 2, some (.box (tA x.2).cells)), (.t 4, some (.one (.c (.ptr 4 0)))), (.b 4, some (.box [.val (.bool false), .val (.int .i64 0), .val (.slice none 0 0)])), (.t 5, some (.one (bA false))),
    (.t 8, some (.one (lA Int.d p))), (.t 9, some (.one (iA p.length))), (.t 10, some (.one (iA x.1)))])
    (fun x => x.1 ≤ p.length ∧ at_ t p = at_ x.2 (p.drop x.1)) (fun x => p.length - x.1) (0, t) ⟨by omega, rfl⟩ fgs ?_
  rintro ⟨k, v, n, l⟩ ⟨hk, hm⟩
  simp only at hk hm
  by_cases hkl : k < p.length
  · obtain ⟨i, hx⟩ := get_of_lt hkl
    rw [drop_of hx] at hm
    by_cases hi : i < 0
    · (refine wlk ?_)
      refine fin_wk (fun n => Wk.nilArrB (j := 4) (q := 2) rfl rfl rfl) ?_
      (refine wfCT ?_)
      exact Xat (r := (⟨false, 0, []⟩, false)) (by rw [hm]; simp [at_, hi])
    by_cases hil : (l.length : Int) ≤ i
    · (refine wlk ?_)
      refine fin_wk (fun n => Wk.nilArrB (j := 4) (q := 2) rfl rfl rfl) ?_
      (refine wfCT ?_)
      exact Xat (r := (⟨false, 0, []⟩, false)) (by rw [hm]; simp [at_, hil])
    obtain ⟨j, rfl⟩ := Int.eq_ofNat_of_zero_le (a := i) (by omega)
    obtain ⟨y, hy⟩ := get_of_lt (s := l) (k := j) (by omega)
    (refine wlk ?_)
    exact ⟨(k + 1, y), ⟨by simp only; omega, by rw [hm]; simp [at_, hil, hy, show ¬ ((j : Int) < 0) by omega]⟩, fgs, by simp only; omega⟩
  · have : k = p.length := by omega
    subst this
    rw [List.drop_length] at hm
    (refine wlk ?_)
    (refine wfCT ?_)
    exact Xat (r := (⟨v, n, l⟩, true)) (by rw [hm]; simp [at_])
set_option maxRecDepth 100000 in
theorem rwrongCl (s : List Int) (c : List Lt) : FnD Tryz.prog 35 [lA Int.d s, lA Lt.d c] (.one (iA (wrongCl s c))) := by
  refine Fn.of Tryz.func35 rfl Tryz.ntmps35 rfl (Nat.le_of_ble_eq_true rfl) ?_
  by_cases h4 : 4 < c.length
  · (refine wlk ?_)
    (refine wfT ?_)
    exact Xi (b := 5) (by simp [wrongCl, h4])
  (refine wlk ?_)
  refine dwp_loop (fun k : Nat => [(.t 0, some (.one (lA Int.d s))), (.t 12, some (.one (lA Lt.d c))), (.t 13, some (.one (iA c.length))), (.t 14, some (.one (iA k)))])
    (fun k => k ≤ c.length ∧ ∀ j y, j < k → c[j]? = some y → wrong s y.left = 0 ∧ wrong s y.right = 0) (fun k => c.length - k) 0 ⟨by omega, fun j x h => absurd h (by omega)⟩ fgs ?_
  rintro k ⟨hk, hno⟩
  by_cases hkl : k < c.length
  · obtain ⟨x, hx⟩ := get_of_lt hkl
    have hw := wrongLits_no hno hx
    by_cases h1 : wrong s x.left = 0
    rotate_left
    · (refine wlk ?_)
      (refine SqA.b1 (op_call none rfl rfl rfl (by kernel_rfl) (FnD.use (rwrong s x.left)) rfl rfl rfl rfl rfl rfl) rfl rfl ?_)
      (refine wlk ?_)
      (refine wfT ?_)
      exact Xi (b := wrong s x.left) (by simp [wrongCl, h4, hw, wrongLits, h1])
    by_cases h2 : wrong s x.right = 0
    rotate_left
    · (refine wlk ?_)
      (refine SqA.b1 (op_call none rfl rfl rfl (by kernel_rfl) (FnD.use (rwrong s x.left)) rfl rfl rfl rfl rfl rfl) rfl rfl ?_)
      (refine wlk ?_)
      (refine SqA.b1 (op_call none rfl rfl rfl (by kernel_rfl) (FnD.use (rwrong s x.right)) rfl rfl rfl rfl rfl rfl) rfl rfl ?_)
      (refine wlk ?_)
      (refine wfT ?_)
      exact Xi (b := wrong s x.right) (by simp [wrongCl, h4, hw, wrongLits, h1, h2])
    (refine wlk ?_)
    (refine SqA.b1 (op_call none rfl rfl rfl (by kernel_rfl) (FnD.use (rwrong s x.left)) rfl rfl rfl rfl rfl rfl) rfl rfl ?_)
    (refine wlk ?_)
    (refine SqA.b1 (op_call none rfl rfl rfl (by kernel_rfl) (FnD.use (rwrong s x.right)) rfl rfl rfl rfl rfl rfl) rfl rfl ?_)
    (refine wlk ?_)
    exact ⟨k + 1, ⟨by omega, upto_succ hno hx ⟨h1, h2⟩⟩, fgs, by omega⟩
  · have : k = c.length := by omega
    subst this
    (refine wlk ?_)
    (refine wfT ?_)
    exact Xi (b := 0) (by simp [wrongCl, h4, wrongLits_yes hno])
end Go.Proofs.YtmanhdacnkpclaaGreat
