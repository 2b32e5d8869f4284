/- What functions do: a search takes a step in. -/
import Derived.Test.YtmanhdacnkpclaaGreatzh06
import Derived.Test.YtmanhdacnkpclaaGreatzh11
import Derived.Test.YtmanhdacnkpclaaGreatzh16
import Derived.Test.YtmanhdacnkpclaaGreatzh15
import Derived.Test.YtmanhdacnkpclaaGreatzh14
import Derived.Test.YtmanhdacnkpclaaGreatzh08
import Derived.Test.YtmanhdacnkpclaaGreatzh10
/- What functions do: a search takes a step in. -/
namespace Go.Proofs.YtmanhdacnkpclaaGreat
set_option linter.all false
open Go.RowKit
def Sp.d (x : Sp) : D := .agg [.lit (.int .i64 x.rule), .arr (x.frm.map Int.d), .arr (x.cl.map Lt.d)]
abbrev spG : Sp → List FC := fun x => [.val (.int .i64 x.rule), .arr (x.frm.map Int.d), .arr (x.cl.map Lt.d)]
theorem Sp_fc (x : Sp) : (Sp.d x).fc = spG x := by simp [Sp.d, D.fc, fcs, spG]
instance : FCs Sp.d 3 (fun x => [.val (.int .i64 x.rule), .arr (x.frm.map Int.d), .arr (x.cl.map Lt.d)]) := ⟨Sp_fc, fun _ => rfl, fun _ => rfl⟩
abbrev pfA (p : Pf) : A1 := .agg [.arr (p.sig.map Int.d), .arr (p.steps.map Sp.d), .arr (p.active.map Int.d), .arr (p.wait.map Int.d), .val (.int .i64 p.found), .val (.bool p.lost)]
end Go.Proofs.YtmanhdacnkpclaaGreat
/- What functions do: what a search knows already. -/
namespace Go.Proofs.YtmanhdacnkpclaaGreat
set_option linter.all false
open Go.RowKit
structure PfOk (S : List Int) (p : Pf) : Prop where
  len : p.steps.length ≤ 120
  cok : ∀ x ∈ p.steps, COk S x.cl
  act : ∀ k ∈ p.active, 0 ≤ k ∧ k < p.steps.length
  wai : ∀ k ∈ p.wait, 0 ≤ k ∧ k < p.steps.length
theorem PfOk.at {S : List Int} {p : Pf} (h : PfOk S p) {k : Int} (hk : 0 ≤ k ∧ k < p.steps.length) : ∃ i : Nat, k = (i : Int) ∧ p.steps[i]? = some (stAt p.steps k) ∧ clAt p k = (stAt p.steps k).cl ∧ COk S (stAt p.steps k).cl := by
  obtain ⟨i, rfl⟩ := Int.eq_ofNat_of_zero_le hk.1
  have hi : i < p.steps.length := by have := hk.2; omega
  have e : p.steps[i]? = some (stAt p.steps (i : Int)) := by
    unfold stAt
    rw [List.getD_eq_getElem?_getD, Int.toNat_natCast, List.getElem?_eq_getElem hi]; rfl
  exact ⟨i, rfl, e, rfl, h.cok _ (List.mem_of_getElem? e)⟩
end Go.Proofs.YtmanhdacnkpclaaGreat
/- What functions do: a search's active units. -/
namespace Go.Proofs.YtmanhdacnkpclaaGreat
set_option linter.all false
open Go.RowKit
theorem filter_take {p : Int → Bool} {l : List Int} {k : Nat} {x : Int} (h : l[k]? = some x) : (l.take (k + 1)).filter p = (l.take k).filter p ++ (if p x then [x] else []) := by
  rw [List.take_add_one, h, List.filter_append]
  simp only [Option.toList_some, List.filter_cons, List.filter_nil]
abbrev usK (p : Pf) (k : Nat) : List Int := (p.active.take k).filter fun j => unit (clAt p j)
theorem usK_len (p : Pf) (k : Nat) : (usK p k).length ≤ p.active.length := Nat.le_trans (List.length_filter_le ..) (by rw [List.length_take]; omega)
end Go.Proofs.YtmanhdacnkpclaaGreat
namespace Go.Proofs.YtmanhdacnkpclaaGreat
set_option linter.all false
set_option maxRecDepth 1000000
set_option maxHeartbeats 32000000
open Go.RowKit
theorem UInv.asize24 {root : Tm} {s : List Pr} {todo : List (Tm × Tm)} (h : UInv root s todo) {t : Tm} (hk : t.okv = true) (hf : Go.Proofs.YtmanhdacnkpclaaGreat.few t) (hz : t.size ≤ 24) : (app s t).size ≤ 1486016741376 := by
  have h1 : (app s t).size ≤ t.size * 12 ^ 10 := by
    refine size_app_le (Nat.pow_pos (by omega)) t hk fun n hn => ?_
    obtain ⟨h0, h9⟩ := hf n hn
    obtain ⟨w, rfl⟩ := Int.eq_ofNat_of_zero_le h0
    refine Nat.le_trans (h.gsize _ w rfl) (Nat.pow_le_pow_right (by omega) ?_)
    have := cnt_full (p := fun x => decide ((appV s (x : Int)).size < (appV s w).size)) (k := 10) (i := w) (by omega) (by simp)
    omega
  have h2 : t.size * 12 ^ 10 ≤ 24 * 12 ^ 10 := Nat.mul_le_mul_right _ hz
  omega
structure AddOk (s : List Pr) (c : List Lt) : Prop where
  slen : s.length ≤ 1000000
  sz : clSz c
  len : c.length ≤ 1000
  okv : clOkv (each (app s) c)
  few : clFew (each (app s) c)
  sz2 : clSz (each (app s) c)
theorem addOk_of {S : List Int} {a b : Tm} {s : List Pr} {c : List Lt} (ha : Old a) (hb : Old b) (ga : a.ar S = true) (gb : b.ar S = true) (hs : unify a b = some s) (hc : clGood S c) (hl : c.length ≤ 1000) (hz : ∀ l ∈ c, l.left.size ≤ 24 ∧ l.right.size ≤ 24) : AddOk s c := by
  have hi := unifyF_inv _ _ _ s (UInv.start ha hb) hs
  have har := unify_ar ga ha.few gb hb.few hs
  have hg := hc.each har.1 har.2
  refine ⟨unify_len ha hb hs, fun l h => ?_, hl, hg.1.okv, hg.2, fun l h => ?_⟩
  · have := hz l h; omega
  · simp only [each, List.mem_map] at h
    obtain ⟨k, hk, rfl⟩ := h
    have h1 := hi.asize24 (hc.1.okv k hk).1 (hc.2 k hk).1 (hz k hk).1
    have h2 := hi.asize24 (hc.1.okv k hk).2 (hc.2 k hk).2 (hz k hk).2
    simp only
    omega
theorem uok_of {a b : Tm} {s : List Pr} (ha : Old a) (hb : Old b) (hs : unify a b = some s) {t : Tm} (ht : Old t) : (app s t).size ≤ 1486016741376 ∧ (app s t).okv = true := by
  have hi := unifyF_inv _ _ _ s (UInv.start ha hb) hs
  exact ⟨hi.asize24 ht.okv ht.few (by have := ht.size; omega), app_okv hi.idem.1 t ht.okv⟩
structure CG (S : List Int) (c : List Lt) : Prop where
  len : c.length ≤ 4
  good : clGood S c
  size : ∀ l ∈ c, l.left.size ≤ 12 ∧ l.right.size ≤ 12
theorem COk.cg {S : List Int} {c : List Lt} (h : COk S c) : CG S c := ⟨h.len, h.wf.good, h.size⟩
theorem COk.cgr {S : List Int} {c : List Lt} (h : COk S c) : CG S (each (ren 5) c) := by
  refine ⟨by simp [each]; exact h.len, h.wf.ren, fun l hl => ?_⟩
  simp only [each, List.mem_map] at hl
  obtain ⟨k, hk, rfl⟩ := hl
  have := h.size k hk
  simp only [size_ren]
  exact this
theorem CG.old {S : List Int} {c : List Lt} (h : CG S c) {i : Nat} {l : Lt} (hl : c[i]? = some l) : (Old l.left ∧ l.left.ar S = true) ∧ (Old l.right ∧ l.right.ar S = true) := by
  have hm := List.mem_of_getElem? hl
  have h1 := h.good.at hl
  have h2 := h.size l hm
  exact ⟨⟨⟨Tm.ar_okv _ h1.1.1, h2.1, h1.1.2⟩, h1.1.1⟩, ⟨Tm.ar_okv _ h1.2.1, h2.2, h1.2.2⟩, h1.2.1⟩
theorem CG.way {S : List Int} {c : List Lt} (h : CG S c) {i : Nat} {l : Lt} (hl : c[i]? = some l) {a : Tm × Tm} (ha : a ∈ waysL l) : (Old a.1 ∧ a.1.ar S = true) ∧ (Old a.2 ∧ a.2.ar S = true) := by
  have := h.old hl
  rcases ways_mem ha with rfl | rfl
  · exact this
  · exact this.symm
theorem CG.erase {S : List Int} {c : List Lt} (h : CG S c) (i : Nat) : CG S (c.eraseIdx i) :=
  ⟨Nat.le_trans (List.length_eraseIdx_le ..) h.len, h.good.sub fun l hl => List.mem_of_mem_eraseIdx hl, fun l hl => h.size l (List.mem_of_mem_eraseIdx hl)⟩
theorem CG.resolve {S : List Int} {c : List Lt} (h : CG S c) {i : Nat} {l : Lt} {s : List Pr} (hl : c[i]? = some l) (hs : unify l.left l.right = some s) : AddOk s (c.eraseIdx i) := by
  have ho := h.old hl
  have he := h.erase i
  refine addOk_of ho.1.1 ho.2.1 ho.1.2 ho.2.2 hs he.good (by have := he.len; omega) fun l hl => ?_
  have := he.size l hl
  omega
theorem CG.factor {S : List Int} {c : List Lt} (h : CG S c) {i j : Nat} {x y : Lt} {a b : Tm × Tm} {s : List Pr} (hx : c[i]? = some x) (hy : c[j]? = some y) (ha : a ∈ waysL x) (hb : b ∈ waysL y) (hs : unify a.1 b.1 = some s) : AddOk s (c.eraseIdx i ++ [⟨true, a.2, b.2⟩]) := by
  have o1 := h.way hx ha
  have o2 := h.way hy hb
  have he := h.erase i
  refine addOk_of o1.1.1 o2.1.1 o1.1.2 o2.1.2 hs (factor_good h.good hx hy ha hb) (by have := he.len; simp; omega) fun l hl => ?_
  rcases List.mem_append.1 hl with hl | hl
  · have := he.size l hl; omega
  · simp only [List.mem_singleton] at hl
    subst hl
    have h1 := o1.2.1.size
    have h2 := o2.2.1.size
    simp only
    omega
theorem CG.sup {S : List Int} {c d : List Lt} (h : CG S c) (hd : CG S d) {i j : Nat} {x y : Lt} {a : Tm × Tm} {side : Bool} {p : List Int} {s : List Pr} (hx : c[i]? = some x) (hy : d[j]? = some y) (ha : a ∈ waysL x) (hp : p ∈ places (turnL side y).left)
    (hs : unify a.1 (at_ (turnL side y).left p).1 = some s) : AddOk s (supCl c d i j y a side p) := by
  have o1 := h.way hx ha
  have gy := turn_good hd.good hy side
  have hso : (turnL side y).left.size ≤ 12 ∧ (turnL side y).right.size ≤ 12 := by
    have := hd.size y (List.mem_of_getElem? hy)
    cases side
    · exact this
    · exact this.symm
  have hk : (turnL side y).left.okv = true := Tm.ar_okv _ gy.1.1
  have hat := at_place p (turnL side y).left hk hp
  have oat : Old (at_ (turnL side y).left p).1 := ⟨hat.2.2.1, by have := hat.2.2.2.2; omega, few_at hk gy.1.2 hp⟩
  have he := h.erase i
  refine addOk_of o1.1.1 oat o1.1.2 (at_ar p _ gy.1.1 hp) hs (supCl_good h.good hd.good hx hy ha hp) (by have := he.len; have := hd.len; simp [supCl]; omega) fun l hl => ?_
  rcases List.mem_append.1 hl with hl | hl
  · have := he.size l hl; omega
  · rcases List.mem_or_eq_of_mem_set hl with hl | rfl
    · have := hd.size l hl; omega
    · have h1 := size_put p (turnL side y).left a.2 hp
      have h2 := o1.2.1.size
      cases side
      · exact ⟨by show (put (turnL false y).left p a.2).size ≤ 24; omega, by show (turnL false y).right.size ≤ 24; omega⟩
      · exact ⟨by show (turnL true y).right.size ≤ 24; omega, by show (put (turnL true y).left p a.2).size ≤ 24; omega⟩
theorem addR_len (m : Mk) (s : List Pr) (c : List Lt) : (addR m s c).1.length ≤ m.1.length + 1 := by
  unfold addR
  split
  split
  · simp only; omega
  · split
    · split
      · omega
      · simp
    · omega
theorem sup1_len (a : Tm × Tm) (rest d : List Lt) (j : Nat) (y : Lt) (side : Bool) (w : Tm × Tm) (m : Mk) (p : List Int) : (sup1 a rest d j y side w m p).1.length ≤ m.1.length + 1 := by
  unfold sup1
  split
  · omega
  · split
    · omega
    · exact addR_len ..
theorem CG.turn {S : List Int} {c : List Lt} (h : CG S c) {i : Nat} {l : Lt} (hl : c[i]? = some l) (b : Bool) : (Old (turnL b l).left ∧ (turnL b l).left.ar S = true) ∧ (Old (turnL b l).right ∧ (turnL b l).right.ar S = true) := by
  have := h.old hl
  cases b
  · exact this
  · exact this.symm
theorem Old.at {S : List Int} {t : Tm} {p : List Int} (h : Old t) (ha : t.ar S = true) (hp : p ∈ places t) : Old (at_ t p).1 := by
  have hat := at_place p t h.okv hp
  exact ⟨hat.2.2.1, by have := hat.2.2.2.2; have := h.size; omega, few_at h.okv h.few hp⟩
theorem foldl_len {α : Type} {f : Mk → α → Mk} (hf : ∀ m a, (f m a).1.length ≤ m.1.length + 1) : ∀ (l : List α) (m : Mk), (l.foldl f m).1.length ≤ m.1.length + l.length
  | [], m => by simp
  | a :: l, m => by
    have h1 := foldl_len hf l (f m a)
    have h2 := hf m a
    simp only [List.foldl_cons, List.length_cons]
    omega
theorem sup2_len {S : List Int} {d : List Lt} (hd : CG S d) (a : Tm × Tm) (rest : List Lt) {j : Nat} {y : Lt} (hy : d[j]? = some y) (m : Mk) (side : Bool) : (sup2 a rest d j y m side).1.length ≤ m.1.length + 12 := by
  have h1 := foldl_len (fun m p => sup1_len a rest d j y side ((turnL side y).left, (turnL side y).right) m p) (places (turnL side y).left) m
  have h2 := places_len (turnL side y).left
  have h3 := (hd.turn hy side).1.1.size
  unfold sup2
  omega
theorem sup3_len {S : List Int} {d : List Lt} (hd : CG S d) (a : Tm × Tm) (rest : List Lt) (m : Mk) (j : Nat) : (sup3 a rest d m j).1.length ≤ m.1.length + 24 := by
  unfold sup3
  split
  · omega
  · rename_i y hy
    have h1 := sup2_len hd a rest hy m false
    have h2 := sup2_len hd a rest hy (sup2 a rest d j y m false) true
    simp only [List.foldl_cons, List.foldl_nil]
    omega
theorem side_at {s : Nat} (hs : s < 2) (y : Lt) : ∃ side : Bool, [false, true][s]? = some side ∧ (waysL y)[s]? = some ((turnL side y).left, (turnL side y).right) ∧ ((s = 1 ∧ side = true) ∨ (s = 0 ∧ side = false)) := by
  rcases (show s = 0 ∨ s = 1 by omega) with rfl | rfl
  · exact ⟨false, rfl, rfl, .inr ⟨rfl, rfl⟩⟩
  · exact ⟨true, rfl, rfl, .inl ⟨rfl, rfl⟩⟩
theorem range_fold {β : Type} (f : β → Nat → β) (b : β) (k : Nat) : (List.range (k + 1)).foldl f b = f ((List.range k).foldl f b) k := by
  rw [List.range_succ, List.foldl_append]; rfl
theorem fold_take {α β : Type} (f : β → α → β) (b : β) {l : List α} {k : Nat} {a : α} (h : l[k]? = some a) : (l.take (k + 1)).foldl f b = f ((l.take k).foldl f b) a := by
  rw [List.take_add_one, h, List.foldl_append]; rfl
theorem fold_all {α β : Type} (f : β → α → β) (b : β) {l : List α} {k : Nat} (h : l.length ≤ k) : (l.take k).foldl f b = l.foldl f b := by rw [List.take_of_length_le h]
theorem range_drop {n i d : Nat} (h : i + d < n) : ((List.range n).drop i)[d]? = some (i + d) := by
  rw [List.getElem?_drop, List.getElem?_range h]
theorem factor1_len (rest : List Lt) (a : Tm × Tm) (m : Mk) (b : Tm × Tm) : (factor1 rest a m b).1.length ≤ m.1.length + 1 := by
  unfold factor1
  split
  · exact addR_len ..
  · omega
theorem resolve1_len (c : List Lt) (m : Mk) (i : Nat) : (resolve1 c m i).1.length ≤ m.1.length + 1 := by
  unfold resolve1
  split
  · omega
  · split
    · split
      · exact addR_len ..
      · omega
    · omega
theorem resolve_len (c : List Lt) (k : Nat) : ((List.range k).foldl (resolve1 c) (([], false) : Mk)).1.length ≤ k := by
  induction k with
  | zero => simp
  | succ k ih => rw [range_fold]; have := resolve1_len c ((List.range k).foldl (resolve1 c) ([], false)) k; omega
section
variable {P : Program} {n : Nat} {o : Oper} {σ : St}
end
structure PfGo (S : List Int) (p : Pf) : Prop where
  ok : PfOk S p
  aw : p.active.length + p.wait.length ≤ p.steps.length
theorem stepP_ok {S : List Int} {p : Pf} (h : PfOk S p) (rule : Int) (frm : List Int) {c : List Lt} (hc : COk S c) : PfOk S (stepP p rule frm c).1 := by
  unfold stepP
  split
  · exact ⟨h.len, h.cok, h.act, h.wai⟩
  · rename_i h1
    have hl := h.len
    have hle : (p.steps ++ [(⟨rule, frm, c⟩ : Sp)]).length = p.steps.length + 1 := by simp
    refine ⟨by simp only [hle]; omega, fun x hx => ?_, fun k hk => ?_, fun k hk => ?_⟩
    · rcases List.mem_append.1 hx with hx | hx
      · exact h.cok x hx
      · simp only [List.mem_singleton] at hx; subst hx; exact hc
    · have := h.act k hk; simp only [hle]; omega
    · have := h.wai k hk; simp only [hle]; omega
theorem come1_ok {S : List Int} {p : Pf} (h : PfGo S p) (rule : Int) (frm : List Int) {c : List Lt} (hc : COk S c) : PfGo S (come1 rule frm p c) := by
  unfold come1
  split
  · exact h
  · by_cases h1 : 120 ≤ p.steps.length
    · have e : stepP p rule frm c = ({ p with lost := true }, false) := if_pos h1
      rw [e]
      exact ⟨⟨h.ok.len, h.ok.cok, h.ok.act, h.ok.wai⟩, h.aw⟩
    · have hs := stepP_ok h.ok rule frm hc
      have e : stepP p rule frm c = ({ p with steps := p.steps ++ [⟨rule, frm, c⟩], found := if c.length = 0 ∧ p.found < 0 then (p.steps.length : Int) else p.found }, true) := if_neg h1
      rw [e] at hs ⊢
      have hle : (p.steps ++ [(⟨rule, frm, c⟩ : Sp)]).length = p.steps.length + 1 := by simp
      refine ⟨⟨hs.len, hs.cok, hs.act, fun k hk => ?_⟩, ?_⟩
      · rcases List.mem_append.1 hk with hk | hk
        · exact hs.wai k hk
        · simp only [List.mem_singleton] at hk; subst hk
          simp only [hle]; omega
      · have := h.aw
        simp only [hle, List.length_append, List.length_cons, List.length_nil]; omega
theorem come1_skip {p : Pf} {rule : Int} {frm : List Int} {c : List Lt} (h : 0 ≤ p.found ∨ waits p c = true ∨ known p c = true) : come1 rule frm p c = p := if_pos h
theorem come1_full {p : Pf} {rule : Int} {frm : List Int} {c : List Lt} (h : ¬ (0 ≤ p.found ∨ waits p c = true ∨ known p c = true)) (h1 : 120 ≤ p.steps.length) : come1 rule frm p c = (stepP p rule frm c).1 := by
  unfold come1
  rw [if_neg h, show stepP p rule frm c = ({ p with lost := true }, false) from if_pos h1]
theorem come1_in {p : Pf} {rule : Int} {frm : List Int} {c : List Lt} (h : ¬ (0 ≤ p.found ∨ waits p c = true ∨ known p c = true)) (h1 : ¬ 120 ≤ p.steps.length) : come1 rule frm p c = { (stepP p rule frm c).1 with wait := p.wait ++ [(p.steps.length : Int)] } := by
  have e : stepP p rule frm c = ({ p with steps := p.steps ++ [⟨rule, frm, c⟩], found := if c.length = 0 ∧ p.found < 0 then (p.steps.length : Int) else p.found }, true) := if_neg h1
  unfold come1
  rw [if_neg h, e]
  simp
theorem stepP_in {p : Pf} {rule : Int} {frm : List Int} {c : List Lt} (h1 : ¬ 120 ≤ p.steps.length) : (stepP p rule frm c).1 = ⟨p.sig, p.steps ++ [⟨rule, frm, c⟩], p.active, p.wait, if c.length = 0 ∧ p.found < 0 then (p.steps.length : Int) else p.found, p.lost⟩ := by
  unfold stepP; rw [if_neg h1]
theorem stepP_full {p : Pf} {rule : Int} {frm : List Int} {c : List Lt} (h1 : 120 ≤ p.steps.length) : (stepP p rule frm c).1 = ⟨p.sig, p.steps, p.active, p.wait, p.found, true⟩ := by
  unfold stepP; rw [if_pos h1]
theorem come1_in2 {p : Pf} {rule : Int} {frm : List Int} {c : List Lt} (h : ¬ (0 ≤ p.found ∨ waits p c = true ∨ known p c = true)) (h1 : ¬ 120 ≤ p.steps.length) : come1 rule frm p c = ⟨p.sig, p.steps ++ [⟨rule, frm, c⟩], p.active, p.wait ++ [(p.steps.length : Int)], if c.length = 0 ∧ p.found < 0 then (p.steps.length : Int) else p.found, p.lost⟩ := by
  rw [come1_in h h1, stepP_in h1]
theorem pnorm (c : List Lt) (hk : clOkv c) (hf : clFew c) (hz : clSz c) (hl : c.length ≤ 1000) : FnD Tryz.prog 43 [lA Lt.d c] (.tup [lA Lt.d (norm c).1, iA (norm c).2]) := by
  refine Fn.of Tryz.func43 rfl Tryz.ntmps43 rfl (Nat.le_of_ble_eq_true rfl) ?_
  (refine wlk ?_)
  refine dwp_loop (fun p : Nat × List Lt => [(.t 4, some (.one (.c (.own 77 7 (p.2.map Lt.d))))), (.t 17, some (.one (lA Lt.d c))), (.t 18, some (.one (iA c.length))), (.t 19, some (.one (iA p.1)))])
    (fun p => p.1 ≤ c.length ∧ orients (c.take p.1) = some p.2) (fun p => c.length - p.1) (0, []) ⟨by simp only; omega, rfl⟩ ((Wk.nilOwn (d := 4) (E := 77) (m := 7) rfl).trans fgs) ?_
  rintro ⟨k, o⟩ ⟨hkk, ho⟩
  dsimp only at hkk ho ⊢
  by_cases hkl : k < c.length
  · obtain ⟨⟨ng, xl, xr⟩, hx⟩ := get_of_lt hkl
    have hm := List.mem_of_getElem? hx
    have hkx := hk _ hm
    have hzx := hz _ hm
    dsimp only at hkx hzx
    have hol := orients_len ho
    rw [List.length_take] at hol
    have hsm := psame xl xr
    have hcm := pcompare xl xr (by omega) (by omega) hkx.1 hkx.2
    have hless := compare_less hkx.1 hkx.2
    cases hs : xl.same xr
    · rw [hs] at hsm
      have hmo := orients_more ho hx hs
      by_cases ha : above xr xl = true
      · have h1 := hless.2 ha
        have hor : orient1 ⟨ng, xl, xr⟩ = ⟨ng, xr, xl⟩ := if_pos ha
        rw [hor] at hmo
        have hrl : (o ++ [(⟨ng, xr, xl⟩ : Lt)]).length ≤ 1001 := by simp; omega
        have hr1 : o ++ [(⟨ng, xr, xl⟩ : Lt)] = o ++ [⟨ng, xr, xl⟩] := rfl
        (refine wlk ?_)
        (refine wlC hsm ?_)
        (refine wlk ?_)
        (refine wlC hcm ?_)
        (refine wlk ?_)
        (refine SqA.b1 (op_bsT (T := TB) (f := Lt.d) [(⟨ng, xr, xl⟩ : Lt)] rfl rfl rfl rfl rfl rfl rfl rfl rfl rfl rfl) rfl rfl ?_)
        (refine wlk ?_)
        exact ⟨(k + 1, o ++ [⟨ng, xr, xl⟩]), ⟨by simp only; omega, hmo⟩, fgs, by simp only; omega⟩
      · have h1 : ¬ compare xl xr = 1 := fun h => ha (hless.1 h)
        have hor : orient1 ⟨ng, xl, xr⟩ = ⟨ng, xl, xr⟩ := if_neg ha
        rw [hor] at hmo
        have hrl : (o ++ [(⟨ng, xl, xr⟩ : Lt)]).length ≤ 1001 := by simp; omega
        have hr1 : o ++ [(⟨ng, xl, xr⟩ : Lt)] = o ++ [⟨ng, xl, xr⟩] := rfl
        (refine wlk ?_)
        (refine wlC hsm ?_)
        (refine wlk ?_)
        (refine wlC hcm ?_)
        (refine wlk ?_)
        (refine SqA.b1 (op_bsT (T := TB) (f := Lt.d) [(⟨ng, xl, xr⟩ : Lt)] rfl rfl rfl rfl rfl rfl rfl rfl rfl rfl rfl) rfl rfl ?_)
        (refine wlk ?_)
        exact ⟨(k + 1, o ++ [⟨ng, xl, xr⟩]), ⟨by simp only; omega, hmo⟩, fgs, by simp only; omega⟩
    · rw [hs] at hsm
      cases ng
      · (refine wlk ?_)
        (refine wlC hsm ?_)
        (refine wlk ?_)
        refine fin_wk (fun n => Wk.nilArr (d := 2) rfl) ?_
        (refine wfTT ?_)
        exact Xn (c := []) (e := 6) (norm_n1 (orients_none_at ho hx hs rfl)).symm
      · (refine wlk ?_)
        (refine wlC hsm ?_)
        (refine wlk ?_)
        exact ⟨(k + 1, o), ⟨by simp only; omega, orients_skip ho hx hs rfl⟩, fgs, by simp only; omega⟩
  have : k = c.length := by omega
  subst this
  rw [List.take_length] at ho
  have hol := orients_len ho
  have hko := orients_okv ho hk
  have hfo := orients_few ho hf
  have hzo := orients_sz ho hz
  have hvs := pclVars o hko hfo hzo
  have hv10 := clVars_ten hfo
  have hzq := numb_sz hko hzo
  have hap := papplyC (numb (clVars [] o)) o (by omega) hzo
  have hn2 := norm_n2 ho
  have hn3 := @norm_n3 c o
  have hql : (each (app (numb (clVars [] o))) o).length = o.length := each_len
  generalize each (app (numb (clVars [] o))) o = q at *
  generalize clVars [] o = vs at *
  refine dwp_wk (Wk.freezeAt (d := 4) rfl) ?_
  (refine wlk ?_)
  (refine wlC hvs ?_)
  (refine wlk ?_)
  refine dwp_loop (fun k : Nat => [(.t 4, some (.one (lA Lt.d o))), (.t 8, some (.one (.c (.own 109 4 ((numb (vs.take k)).map Pr.d))))), (.t 53, some (.one (lA Int.d vs))), (.t 54, some (.one (iA vs.length))), (.t 55, some (.one (iA k)))])
    (fun k => k ≤ vs.length) (fun k => vs.length - k) 0 (by omega) ((Wk.nilOwn (d := 8) (E := 109) (m := 4) rfl).trans fgs) ?_
  intro k hk'
  by_cases hkl : k < vs.length
  · obtain ⟨v, hx⟩ := get_of_lt hkl
    have hsn := numb_snoc hx
    have hnl : (numb (vs.take (k + 1))).length ≤ 10 := by rw [numb_len, List.length_take]; omega
    (refine wlk ?_)
    (refine SqA.b2 (Op1.reN (t := 64) rfl (op_bsT (T := TB) (f := Pr.d) [((v, ⟨true, (k : Int), []⟩) : Pr)] rfl rfl rfl rfl rfl rfl rfl rfl rfl rfl rfl)) rfl rfl ?_)
    (refine wlk ?_)
    exact ⟨k + 1, by omega, fgs, by omega⟩
  have : k = vs.length := by omega
  subst this
  rw [List.take_length]
  refine dwp_wk (Wk.freezeAt (d := 8) rfl) ?_
  have hnl := numb_len vs
  generalize numb vs = sb at *
  (refine wlk ?_)
  (refine wlC hap ?_)
  (refine wlk ?_)
  refine dwp_loop (fun p : Nat × List Lt => [(.t 8, some (.one (lA Pr.d sb))), (.t 11, some (.one (.c (.own 77 7 (p.2.map Lt.d))))), (.t 70, some (.one (lA Lt.d q))), (.t 71, some (.one (iA q.length))), (.t 72, some (.one (iA p.1)))])
    (fun p => p.1 ≤ q.length ∧ dedup [] (q.take p.1) = some p.2) (fun p => q.length - p.1) (0, []) ⟨by simp only; omega, rfl⟩ ((Wk.nilOwn (d := 11) (E := 77) (m := 7) rfl).trans fgs) ?_
  rintro ⟨k, once⟩ ⟨hkk, ho3⟩
  dsimp only at hkk ho3 ⊢
  by_cases hkl : k < q.length
  · obtain ⟨⟨ng, xl, xr⟩, hx⟩ := get_of_lt hkl
    have hol3 := dedup_len ho3
    rw [List.length_take] at hol3
    simp only [List.length_nil] at hol3
    have hS := hasS_eq once ⟨ng, xl, xr⟩
    have hN := hasN_eq once ⟨ng, xl, xr⟩
    have g1 := phas once ⟨ng, xl, xr⟩
    have g2 := phas once ⟨ng, xr, xl⟩
    have g3 := phas once ⟨!ng, xl, xr⟩
    have g4 := phas once ⟨!ng, xr, xl⟩
    dsimp only at hS hN
    refine dwp_isO (t := 11) rfl fun v => ?_
    generalize (once.any fun x => x.same ⟨ng, xl, xr⟩) = b1 at *
    generalize (once.any fun x => x.same ⟨ng, xr, xl⟩) = b2 at *
    generalize (once.any fun x => x.same ⟨!ng, xl, xr⟩) = b3 at *
    generalize (once.any fun x => x.same ⟨!ng, xr, xl⟩) = b4 at *
    cases b1
    rotate_left
    · (refine wlk ?_)
      (refine SqA.b1 (op_callL (fun t => t = .own (.t 11) 0 0) rfl rfl rfl (by kernel_rfl) g1 (LendL.cons (lend_val (t := 11) rfl rfl rfl) (LendL.cons (lend_same rfl rfl rfl) .nil)) rfl rfl) rfl rfl ?_)
      (refine wlk ?_)
      exact ⟨(k + 1, once), ⟨by simp only; omega, dedup_skip ho3 hx (by simpa using hS)⟩, (Wk.ofK (t := 11) rfl).trans fgs, by simp only; omega⟩
    cases b2
    rotate_left
    · (refine wlk ?_)
      (refine SqA.b1 (op_callL (fun t => t = .own (.t 11) 0 0) rfl rfl rfl (by kernel_rfl) g1 (LendL.cons (lend_val (t := 11) rfl rfl rfl) (LendL.cons (lend_same rfl rfl rfl) .nil)) rfl rfl) rfl rfl ?_)
      (refine wlk ?_)
      (refine SqA.b1 (op_callL (fun t => t = .own (.t 11) 0 0) rfl rfl rfl (by kernel_rfl) g2 (LendL.cons (lend_val (t := 11) rfl rfl rfl) (LendL.cons (lend_same rfl rfl rfl) .nil)) rfl rfl) rfl rfl ?_)
      (refine wlk ?_)
      exact ⟨(k + 1, once), ⟨by simp only; omega, dedup_skip ho3 hx (by simpa using hS)⟩, (Wk.ofK (t := 11) rfl).trans fgs, by simp only; omega⟩
    have hS0 : hasS once ⟨ng, xl, xr⟩ = false := by simpa using hS
    cases b3
    rotate_left
    · (refine wlk ?_)
      (refine SqA.b1 (op_callL (fun t => t = .own (.t 11) 0 0) rfl rfl rfl (by kernel_rfl) g1 (LendL.cons (lend_val (t := 11) rfl rfl rfl) (LendL.cons (lend_same rfl rfl rfl) .nil)) rfl rfl) rfl rfl ?_)
      (refine wlk ?_)
      (refine SqA.b1 (op_callL (fun t => t = .own (.t 11) 0 0) rfl rfl rfl (by kernel_rfl) g2 (LendL.cons (lend_val (t := 11) rfl rfl rfl) (LendL.cons (lend_same rfl rfl rfl) .nil)) rfl rfl) rfl rfl ?_)
      (refine wlk ?_)
      (refine SqA.b1 (op_callL (fun t => t = .own (.t 11) 0 0) rfl rfl rfl (by kernel_rfl) g3 (LendL.cons (lend_val (t := 11) rfl rfl rfl) (LendL.cons (lend_same rfl rfl rfl) .nil)) rfl rfl) rfl rfl ?_)
      (refine wlk ?_)
      refine fin_wk (fun n => Wk.nilArr (d := 2) rfl) ?_
      (refine wfTT ?_)
      exact Xn (c := []) (e := 6) (hn2 (dedup_none_at ho3 hx hS0 (by simpa using hN))).symm
    cases b4
    rotate_left
    · (refine wlk ?_)
      (refine SqA.b1 (op_callL (fun t => t = .own (.t 11) 0 0) rfl rfl rfl (by kernel_rfl) g1 (LendL.cons (lend_val (t := 11) rfl rfl rfl) (LendL.cons (lend_same rfl rfl rfl) .nil)) rfl rfl) rfl rfl ?_)
      (refine wlk ?_)
      (refine SqA.b1 (op_callL (fun t => t = .own (.t 11) 0 0) rfl rfl rfl (by kernel_rfl) g2 (LendL.cons (lend_val (t := 11) rfl rfl rfl) (LendL.cons (lend_same rfl rfl rfl) .nil)) rfl rfl) rfl rfl ?_)
      (refine wlk ?_)
      (refine SqA.b1 (op_callL (fun t => t = .own (.t 11) 0 0) rfl rfl rfl (by kernel_rfl) g3 (LendL.cons (lend_val (t := 11) rfl rfl rfl) (LendL.cons (lend_same rfl rfl rfl) .nil)) rfl rfl) rfl rfl ?_)
      (refine wlk ?_)
      (refine SqA.b1 (op_callL (fun t => t = .own (.t 11) 0 0) rfl rfl rfl (by kernel_rfl) g4 (LendL.cons (lend_val (t := 11) rfl rfl rfl) (LendL.cons (lend_same rfl rfl rfl) .nil)) rfl rfl) rfl rfl ?_)
      (refine wlk ?_)
      refine fin_wk (fun n => Wk.nilArr (d := 2) rfl) ?_
      (refine wfTT ?_)
      exact Xn (c := []) (e := 6) (hn2 (dedup_none_at ho3 hx hS0 (by simpa using hN))).symm
    have hN0 : hasN once ⟨ng, xl, xr⟩ = false := by simpa using hN
    have hmo := dedup_more ho3 hx hS0 hN0
    have hr1 : once ++ [(⟨!(!ng), xl, xr⟩ : Lt)] = once ++ [⟨ng, xl, xr⟩] := by simp
    have hrl : (once ++ [(⟨ng, xl, xr⟩ : Lt)]).length ≤ 1001 := by simp; omega
    (refine wlk ?_)
    (refine SqA.b1 (op_callL (fun t => t = .own (.t 11) 0 0) rfl rfl rfl (by kernel_rfl) g1 (LendL.cons (lend_val (t := 11) rfl rfl rfl) (LendL.cons (lend_same rfl rfl rfl) .nil)) rfl rfl) rfl rfl ?_)
    (refine wlk ?_)
    (refine SqA.b1 (op_callL (fun t => t = .own (.t 11) 0 0) rfl rfl rfl (by kernel_rfl) g2 (LendL.cons (lend_val (t := 11) rfl rfl rfl) (LendL.cons (lend_same rfl rfl rfl) .nil)) rfl rfl) rfl rfl ?_)
    (refine wlk ?_)
    (refine SqA.b1 (op_callL (fun t => t = .own (.t 11) 0 0) rfl rfl rfl (by kernel_rfl) g3 (LendL.cons (lend_val (t := 11) rfl rfl rfl) (LendL.cons (lend_same rfl rfl rfl) .nil)) rfl rfl) rfl rfl ?_)
    (refine wlk ?_)
    (refine SqA.b1 (op_callL (fun t => t = .own (.t 11) 0 0) rfl rfl rfl (by kernel_rfl) g4 (LendL.cons (lend_val (t := 11) rfl rfl rfl) (LendL.cons (lend_same rfl rfl rfl) .nil)) rfl rfl) rfl rfl ?_)
    (refine wlE ?_)
    refine dwp_wk (Wk.ofK (t := 11) rfl) ?_
    (refine wlk ?_)
    (refine SqA.b1 (op_bsT (T := TB) (f := Lt.d) [(⟨!(!ng), xl, xr⟩ : Lt)] rfl rfl rfl rfl rfl rfl rfl rfl rfl rfl rfl) rfl rfl ?_)
    (refine wlk ?_)
    exact ⟨(k + 1, once ++ [⟨ng, xl, xr⟩]), ⟨by simp only; omega, hmo⟩, fgs, by simp only; omega⟩
  have : k = q.length := by omega
  subst this
  rw [List.take_length] at ho3
  have hmem := dedup_mem ho3
  have hdl := dedup_len ho3
  simp only [List.length_nil] at hdl
  have hdz : clSz once := fun l hl => by
    rcases hmem l hl with h | h
    · cases h
    · exact hzq l h
  have hn4 := hn3 ho ho3
  refine dwp_wk (Wk.freezeAt (d := 11) rfl) ?_
  by_cases h4 : 4 < once.length
  · (refine wlk ?_)
    refine fin_wk (fun n => Wk.nilArr (d := 2) rfl) ?_
    (refine wfTT ?_)
    exact Xn (c := []) (e := 4) (by rw [hn4, if_pos (.inl h4)])
  by_cases h5 : 5 < vs.length
  · (refine wlk ?_)
    refine fin_wk (fun n => Wk.nilArr (d := 2) rfl) ?_
    (refine wfTT ?_)
    exact Xn (c := []) (e := 4) (by rw [hn4, if_pos (.inr (.inl h5))])
  (refine wlk ?_)
  refine dwp_loop (fun k : Nat => [(.t 11, some (.one (lA Lt.d once))), (.t 124, some (.one (lA Lt.d once))), (.t 125, some (.one (iA once.length))), (.t 126, some (.one (iA k)))])
    (fun k => k ≤ once.length ∧ ∀ (j : Nat) (x : Lt), j < k → once[j]? = some x → x.left.size ≤ 12 ∧ x.right.size ≤ 12) (fun k => once.length - k) 0 ⟨by omega, fun j x h => absurd h (by omega)⟩ fgs ?_
  rintro k ⟨hkk, hno⟩
  by_cases hkl : k < once.length
  · obtain ⟨⟨ng, xl, xr⟩, hx⟩ := get_of_lt hkl
    have hzx := hdz _ (List.mem_of_getElem? hx)
    dsimp only at hzx
    have g1 := psize xl
    have g2 := psize xr
    rw [w64 (by omega)] at g1 g2
    by_cases h1 : 12 < xl.size
    · (refine wlk ?_)
      (refine wlC g1 ?_)
      (refine wlk ?_)
      refine fin_wk (fun n => Wk.nilArr (d := 2) rfl) ?_
      (refine wfTT ?_)
      exact Xn (c := []) (e := 4) (by rw [hn4, if_pos (.inr (.inr (bigCl_at hx (.inl h1))))])
    by_cases h2 : 12 < xr.size
    · (refine wlk ?_)
      (refine wlC g1 ?_)
      (refine wlk ?_)
      (refine wlC g2 ?_)
      (refine wlk ?_)
      refine fin_wk (fun n => Wk.nilArr (d := 2) rfl) ?_
      (refine wfTT ?_)
      exact Xn (c := []) (e := 4) (by rw [hn4, if_pos (.inr (.inr (bigCl_at hx (.inr h2))))])
    (refine wlk ?_)
    (refine wlC g1 ?_)
    (refine wlk ?_)
    (refine wlC g2 ?_)
    (refine wlk ?_)
    exact ⟨k + 1, ⟨by omega, upto_succ hno hx ⟨by simp only; omega, by simp only; omega⟩⟩, fgs, by omega⟩
  have : k = once.length := by omega
  subst this
  (refine wlk ?_)
  (refine wfTT ?_)
  exact Xn (c := once) (e := 0) (by rw [hn4, if_neg (fun h => h.elim h4 fun h => h.elim h5 (bigCl_yes hno))])
theorem pwrongCl (s : List Int) (c : List Lt) : FnD Tryz.prog 29 [lA Int.d s, lA Lt.d c] (.one (iA (wrongCl s c))) := by
  refine Fn.of Tryz.func29 rfl Tryz.ntmps29 rfl (Nat.le_of_ble_eq_true rfl) ?_
  by_cases h4 : 4 < c.length
  · (refine wlk ?_)
    (refine wfT ?_)
    exact Xi (b := 5) (by simp [wrongCl, h4])
  (refine wlk ?_)
  refine dwp_loop (fun k : Nat => [(.t 0, some (.one (lA Int.d s))), (.t 13, some (.one (lA Lt.d c))), (.t 14, some (.one (iA c.length))), (.t 15, some (.one (iA k)))])
    (fun k => k ≤ c.length ∧ ∀ j y, j < k → c[j]? = some y → wrong s y.left = 0 ∧ wrong s y.right = 0) (fun k => c.length - k) 0 ⟨by omega, fun j x h => absurd h (by omega)⟩ fgs ?_
  rintro k ⟨hk, hno⟩
  by_cases hkl : k < c.length
  rotate_left
  · have : k = c.length := by omega
    subst this
    (refine wlk ?_)
    (refine wfT ?_)
    exact Xi (b := 0) (by simp [wrongCl, h4, wrongLits_yes hno])
  obtain ⟨x, hx⟩ := get_of_lt hkl
  have hw := wrongLits_no hno hx
  (refine wlk ?_)
  (refine SqA.b1 (op_bsT (T := TB) (f := Tm.d) [x.left, x.right] rfl rfl rfl rfl rfl rfl rfl rfl rfl rfl rfl) rfl rfl ?_)
  (refine wlk ?_)
  refine dwp_loop (fun i : Nat => [(.t 0, some (.one (lA Int.d s))), (.t 13, some (.one (lA Lt.d c))), (.t 14, some (.one (iA c.length))), (.t 15, some (.one (iA k))), (.t 23, some (.one (lA Tm.d [x.left, x.right]))), (.t 24, some (.one (iA (2 : Nat)))), (.t 25, some (.one (iA i)))])
    (fun i => i ≤ 2 ∧ ∀ j y, j < i → [x.left, x.right][j]? = some y → wrong s y = 0) (fun i => 2 - i) 0 ⟨by omega, fun j x h => absurd h (by omega)⟩ fgs ?_
  rintro i ⟨hi, hin⟩
  by_cases hi2 : i < 2
  rotate_left
  · have : i = 2 := by omega
    subst this
    have h1 := hin 0 x.left (by omega) rfl
    have h2 := hin 1 x.right (by omega) rfl
    (refine wlk ?_)
    exact ⟨k + 1, ⟨by omega, upto_succ hno hx ⟨h1, h2⟩⟩, fgs, by omega⟩
  obtain ⟨y, hy⟩ := get_of_lt (s := [x.left, x.right]) (k := i) hi2
  by_cases h1 : wrong s y = 0
  · (refine wlk ?_)
    (refine SqA.b1 (op_call none rfl rfl rfl (by kernel_rfl) (FnD.use (pwrong s y)) rfl rfl rfl rfl rfl rfl) rfl rfl ?_)
    (refine wlk ?_)
    exact ⟨i + 1, ⟨by omega, upto_succ hin hy h1⟩, fgs, by omega⟩
  · have hres : wrongCl s c = wrong s y := by
      rcases Nat.lt_or_ge i 1 with h0 | h0
      · have : i = 0 := by omega
        subst this
        simp at hy; subst hy
        simp [wrongCl, h4, hw, wrongLits, h1]
      · have : i = 1 := by omega
        subst this
        simp at hy; subst hy
        have h2 := hin 0 x.left (by omega) rfl
        simp [wrongCl, h4, hw, wrongLits, h1, h2]
    (refine wlk ?_)
    (refine SqA.b1 (op_call none rfl rfl rfl (by kernel_rfl) (FnD.use (pwrong s y)) rfl rfl rfl rfl rfl rfl) rfl rfl ?_)
    (refine wlk ?_)
    (refine wfT ?_)
    exact Xi (b := wrong s y) hres.symm
abbrev tmG : Tm → List FC := fun t => [.val (.bool t.var), .val (.int .i64 t.n), .arr (t.args.map Tm.d)]
theorem pput (u : Tm) : ∀ (p : List Int) (t : Tm), t.size ≤ 1000000000 → FnD Tryz.prog 122 [tA t, lA Int.d p, tA u] (.one (tA (put t p u)))
  | [], t, hsz => by
    refine Fn.of Tryz.func122 rfl Tryz.ntmps122 rfl (Nat.le_of_ble_eq_true rfl) ?_
    have h0 : ([] : List Int).length = 0 := rfl
    (refine wlk ?_)
    (refine wfC ?_)
    exact Xt (b := u) (by simp [put])
  | i :: p, ⟨v, n, l⟩, hsz => by
    have ih := pput u p
    refine Fn.of Tryz.func122 rfl Tryz.ntmps122 rfl (Nat.le_of_ble_eq_true rfl) ?_
    have h0 : (i :: p)[0]? = some i := rfl
    have hl1 : (i :: p).length = p.length + 1 := rfl
    have hll := sizes_len l
    simp only [Tm.size] at hsz
    by_cases hi0 : i < 0
    · (refine wlk ?_)
      (refine wfC ?_)
      exact Xt (b := ⟨v, n, l⟩) (by simp [put, hi0])
    by_cases hil : (l.length : Int) ≤ i
    · (refine wlk ?_)
      (refine wfC ?_)
      exact Xt (b := ⟨v, n, l⟩) (by simp [put, hil])
    obtain ⟨j, rfl⟩ := Int.eq_ofNat_of_zero_le (a := i) (by omega)
    have hjl : j < l.length := by omega
    obtain ⟨y, hx⟩ := get_of_lt hjl
    have hxs := size_at hx
    have hput : put ⟨v, n, l⟩ ((j : Int) :: p) u = ⟨v, n, l.set j (put y p u)⟩ := by
      simp only [put]
      rw [if_neg (by omega), Int.toNat_natCast, getD_of hx]
    rw [hput]
    have hih := ih y (by omega)
    have hsl : (l.set j (put y p u)).length = l.length := List.length_set ..
    (refine wlk ?_)
    (refine SqA.b1 (op_call none rfl rfl rfl (by kernel_rfl) (FnD.use (cloneT l (by omega))) rfl rfl rfl rfl rfl rfl) rfl rfl ?_)
    (refine wlE ?_)
    refine dwp_ownElsB (f := Tm.d) (tp := 3) (b0 := 3) (q0 := 2) (T := 27) rfl rfl rfl (by omega) rfl rfl rfl rfl rfl rfl rfl fun e => ?_
    (refine wlk ?_)
    (refine SqA.b1 (op_loadEl (g := tmG) (m := 3) (fun _ => rfl) (k := j) (x := y) rfl rfl (rw_of rfl) rfl rfl rfl rfl hx rfl rfl rfl) rfl rfl ?_)
    (refine wlk ?_)
    (refine wlC hih ?_)
    (refine wlk ?_)
    (refine SqA.b1 (op_storeEl0 (g := tmG) (m := 3) (fun _ => rfl) (put y p u) rfl rfl (rw_of rfl) rfl rfl rfl rfl rfl rfl rfl rfl hjl rfl) rfl rfl ?_)
    (refine wlD ?_)
    refine dwp_wk (Wk.frzSlB (f := Tm.d) (b0 := 3) (q := 2) (j := 27) (k := l.length) (l := l.set j (put y p u)) rfl rfl rfl (els_take _ _) hsl rfl rfl rfl rfl rfl rfl) ?_
    (refine wlk ?_)
    (refine wfC ?_)
    rfl
theorem downS_size {S : List Int} {us : List (List Lt)} (hu : UsSz S us) {t t' : Tm} (ht : t.ar S = true) (h : downS us t = some t') : t'.ar S = true ∧ t'.size ≤ t.size := by
  obtain ⟨h1, h2, _⟩ := downS_some hu.ok ht h
  exact ⟨h1, (above_size (Tm.ar_okv _ h1) h2).1⟩
theorem pDown {S : List Int} {us : List (List Lt)} (hu : UsSz S us) (t : Tm) (ht : t.ar S = true) (hz : t.size ≤ 12) : FnD Tryz.prog 86 [tA t, lA Cl.d us] (.one (tA (dn us t))) := by
  refine Fn.of Tryz.func86 rfl Tryz.ntmps86 rfl (Nat.le_of_ble_eq_true rfl) ?_
  obtain ⟨f0, hf0⟩ := (dn_downs hu.ok ht).steps
  generalize dn us t = r at hf0
  (refine wlk ?_)
  refine dwp_loop (fun x : Nat × Tm × Bool => [(.t 1, some (.one (lA Cl.d us))), (.t 2, some (.one (.c (.ptr 2 0)))), (.b 2, some (.box (tA x.2.1).cells)), (.t 4, some (.one (.c (.ptr 4 0)))), (.b 4, some (.box [.val (.bool false), .val (.int .i64 0), .val (.slice none 0 0)])), (.t 5, some (.one (bA x.2.2)))])
    (fun x => x.2.1.ar S = true ∧ x.2.1.size ≤ 12 ∧ ((x.2.2 = true ∧ downF us x.1 x.2.1 = some r) ∨ (x.2.2 = false ∧ x.2.1 = r))) (fun x => if x.2.2 then x.1 + 1 else 0) (f0, t, true) ⟨ht, hz, .inl ⟨rfl, hf0⟩⟩ fgs ?_
  rintro ⟨f, t, again⟩ ⟨ht, hz, hd⟩
  dsimp only at ht hz hd ⊢
  cases again
  · obtain ⟨h, _⟩ | ⟨_, rfl⟩ := hd
    · cases h
    (refine wlk ?_)
    (refine wfC ?_)
    rfl
  · obtain ⟨_, hd⟩ | ⟨h, _⟩ := hd
    rotate_left
    · cases h
    obtain ⟨f, rfl⟩ : ∃ g, f = g + 1 := by
      cases f with
      | zero => simp [downF] at hd
      | succ g => exact ⟨g, rfl⟩
    have hpl := pplaces t (by omega)
    have hkp := places_len t
    have hdS : downS us t = downP us t (places t) := rfl
    (refine wlk ?_)
    (refine wlC hpl ?_)
    (refine wlk ?_)
    refine dwp_loop (fun k : Nat => [(.t 1, some (.one (lA Cl.d us))), (.t 2, some (.one (.c (.ptr 2 0)))), (.b 2, some (.box (tA t).cells)), (.t 4, some (.one (.c (.ptr 4 0)))), (.b 4, some (.box [.val (.bool false), .val (.int .i64 0), .val (.slice none 0 0)])), (.t 5, some (.one (bA false))),
        (.t 14, some (.one (lA Is.d (places t)))), (.t 15, some (.one (iA (places t).length))), (.t 16, some (.one (iA k)))])
      (fun k => k ≤ (places t).length ∧ ∀ j p, j < k → (places t)[j]? = some p → down1 us (at_ t p).1 = none) (fun k => (places t).length - k) 0 ⟨by omega, fun j x h => absurd h (by omega)⟩ fgs ?_
    rintro k ⟨hk, hno⟩
    by_cases hkl : k < (places t).length
    · obtain ⟨p, hx⟩ := get_of_lt hkl
      have hp := List.mem_of_getElem? hx
      have hat := at_ar (S := S) p t ht hp
      have haz := at_size p t hp
      have g1 := pat p t
      have g2 := pdown hu (at_ t p).1 hat (by omega)
      cases hr : down1 us (at_ t p).1 with
      | none =>
        rw [hr] at g2
        (refine wlk ?_)
        (refine wlC g1 ?_)
        (refine wlk ?_)
        (refine wlC g2 ?_)
        (refine wlk ?_)
        exact ⟨k + 1, ⟨by omega, upto_succ hno hx hr⟩, fgs, by omega⟩
      | some q =>
        rw [hr] at g2
        have hds : downS us t = some (put t p q) := downP_hit hno hx hr
        obtain ⟨h1, h2⟩ := downS_size hu ht hds
        have hd' : downF us f (put t p q) = some r := by simpa [downF, hds] using hd
        have g3 := pput q p t (by omega)
        (refine wlk ?_)
        (refine wlC g1 ?_)
        (refine wlk ?_)
        (refine wlC g2 ?_)
        (refine wlk ?_)
        (refine wlC g3 ?_)
        (refine wlk ?_)
        exact ⟨(f, put t p q, true), ⟨h1, by simp only; omega, .inl ⟨rfl, hd'⟩⟩, fgs, by simp⟩
    · have : k = (places t).length := by omega
      subst this
      have hds : downS us t = none := downP_none.2 fun p hp => any_upto hno p hp
      have hr : t = r := by simpa [downF, hds] using hd
      (refine wlk ?_)
      exact ⟨(f, t, false), ⟨ht, hz, .inr ⟨rfl, hr⟩⟩, fgs, by simp⟩
theorem dn_small {S : List Int} {us : List (List Lt)} (hu : UsSz S us) {c : List Lt} (hc : COk S c) : clSz (each (dn us) c) := fun l hl => by
  simp only [each, List.mem_map] at hl
  obtain ⟨x, hx, rfl⟩ := hl
  have h1 := (dn_wf hu.ok (hc.wf x hx).1).2
  have h2 := (dn_wf hu.ok (hc.wf x hx).2).2
  have := hc.size x hx
  dsimp only
  omega
theorem pRewrite {S : List Int} {us : List (List Lt)} (hu : UsSz S us) (c : List Lt) (hc : COk S c) : FnD Tryz.prog 49 [lA Lt.d c, lA Cl.d us] (.tup [lA Lt.d (rewr us c).1, iA (rewr us c).2]) := by
  have hw := dn_cl hu.ok hc.wf
  have hn := pnorm (each (dn us) c) hw.okv hw.few (dn_small hu hc) (by rw [each_len]; have := hc.len; omega)
  have hcl := hc.len
  refine Fn.of Tryz.func49 rfl Tryz.ntmps49 rfl (Nat.le_of_ble_eq_true rfl) ?_
  (refine wlk ?_)
  refine dwp_loop (fun k : Nat => [(.t 1, some (.one (lA Cl.d us))), (.t 6, some (.one (.c (.own 77 7 ((each (dn us) (c.take k)).map Lt.d))))), (.t 9, some (.one (lA Lt.d c))), (.t 10, some (.one (iA c.length))), (.t 11, some (.one (iA k)))])
    (fun k => k ≤ c.length) (fun k => c.length - k) 0 (by omega) ((Wk.nilOwn (d := 6) (E := 77) (m := 7) rfl).trans fgs) ?_
  intro k hk
  by_cases hkl : k < c.length
  · obtain ⟨⟨ng, xl, xr⟩, hx⟩ := get_of_lt hkl
    have hm := List.mem_of_getElem? hx
    have hwx := hc.wf _ hm
    have hzx := hc.size _ hm
    dsimp only at hwx hzx
    have h1 := pDown hu xl (Tm.wf_ar _ hwx.1) hzx.1
    have h2 := pDown hu xr (Tm.wf_ar _ hwx.2) hzx.2
    have hsn := each_snoc (g := dn us) hx
    have hel : (each (dn us) (c.take (k + 1))).length ≤ 1000 := by rw [each_len, List.length_take]; omega
    (refine wlk ?_)
    (refine wlC h1 ?_)
    (refine wlk ?_)
    (refine wlC h2 ?_)
    (refine wlk ?_)
    (refine SqA.b1 (op_bsT (T := TB) (f := Lt.d) [(⟨ng, dn us xl, dn us xr⟩ : Lt)] rfl rfl rfl rfl rfl rfl rfl rfl rfl rfl rfl) rfl rfl ?_)
    (refine wlk ?_)
    exact ⟨k + 1, by omega, fgs, by omega⟩
  · have : k = c.length := by omega
    subst this
    rw [List.take_length]
    refine dwp_wk (Wk.freezeAt (d := 6) rfl) ?_
    (refine wlk ?_)
    (refine wlC hn ?_)
    (refine wlk ?_)
    (refine wfTT ?_)
    rfl
end Go.Proofs.YtmanhdacnkpclaaGreat
/- What functions do: a maker of clauses takes one in. -/
namespace Go.Proofs.YtmanhdacnkpclaaGreat
set_option linter.all false
open Go.RowKit
abbrev mkBox (m : Mk) : List CV := [.own 39 1 (m.1.map Cl.d), .val (.bool m.2)]
set_option maxRecDepth 100000 in
theorem padd1 (n x : List Lt) : FnD Tryz.prog 127 [lA Lt.d x, .c (.fp [.arr (n.map Lt.d)])] (.one (bA (clSame x n))) := by
  refine Fn.of Tryz.func127 rfl Tryz.ntmps127 rfl (Nat.le_of_ble_eq_true rfl) ?_
  (refine wlk ?_)
  (refine SqA.b1 (op_call none rfl rfl rfl (by kernel_rfl) (FnD.use (psameClause x n)) rfl rfl rfl rfl rfl rfl) rfl rfl ?_)
  (refine wlk ?_)
  (refine wfT ?_)
  rfl
set_option maxHeartbeats 4000000 in
set_option maxRecDepth 100000 in
theorem padd (m : Mk) (s : List Pr) (c : List Lt) (hz : clSz c) (hcl : c.length ≤ 1000) (hk : clOkv (each (app s) c)) (hf : clFew (each (app s) c)) (hz2 : clSz (each (app s) c)) (hm : m.1.length ≤ 1000000) :
    FnB Tryz.prog 91 [.c (.ptr EXT 0), lA Pr.d s, lA Lt.d c] (mkBox m) (.tup []) (mkBox (addR m s c)) := by
  have a1 := papplyC s c (by omega) hz
  have a2 := pnorm (each (app s) c) hk hf hz2 (by rw [each_len]; omega)
  refine Fn.of Tryz.func91 rfl Tryz.ntmps91 rfl (Nat.le_of_ble_eq_true rfl) ?_
  have hcode := norm_code (each (app s) c)
  obtain ⟨m1, m2⟩ := m
  dsimp only at hm
  rcases hn : norm (each (app s) c) with ⟨n, e⟩
  have hadd : addR (m1, m2) s c = if e = 4 then (m1, true) else if e = 0 then (if m1.any fun x => clSame x n then (m1, m2) else (m1 ++ [n], m2)) else (m1, m2) := by
    unfold addR; rw [hn]
  rw [hadd]
  rw [hn] at a2
  dsimp only at a2
  by_cases h4 : e = 4
  · (refine wlk ?_)
    (refine wlC a1 ?_)
    (refine wlk ?_)
    (refine wlC a2 ?_)
    (refine wlk ?_)
    (refine wbU ?_)
    exact XB rfl (by simp [h4]; rfl)
  by_cases h0 : e = 0
  rotate_left
  · (refine wlk ?_)
    (refine wlC a1 ?_)
    (refine wlk ?_)
    (refine wlC a2 ?_)
    (refine wlk ?_)
    (refine SqA.noG1 rfl rfl ?_)
    (refine wlk ?_)
    (refine wbU ?_)
    exact XB rfl (by simp [h4, h0])
  have g := contFC 127 [.arr (n.map Lt.d)] (fun x => clSame x n) (by kernel_rfl) m1 (fun x hx => padd1 n x)
  cases hany : m1.any fun x => clSame x n
  · rw [hany] at g
    have hsn : m1 ++ [n] = m1 ++ [n] := rfl
    refine dwp_isOB (j := EXT) (q := 0) rfl rfl rfl ⟨0, rfl⟩ fun v => ?_
    (refine wlk ?_)
    (refine wlC a1 ?_)
    (refine wlk ?_)
    (refine wlC a2 ?_)
    (refine wlE ?_)
    refine dwp_wk (Wk.frzF (t := 6) (j := 6) (fs := [.arr (n.map Lt.d)]) rfl rfl rfl rfl rfl) ?_
    (refine wlk ?_)
    (refine SqA.b1 (op_mkFn rfl rfl rfl) rfl rfl ?_)
    (refine wlk ?_)
    (refine SqA.b1 (op_callL (fun t => t = .own (.b EXT) 0 0) rfl rfl rfl (by kernel_rfl) g (LendL.cons (lend_valB (j := EXT) (q := 0) (tp := 0) rfl rfl rfl rfl rfl rfl) (LendL.cons (lend_same rfl rfl rfl) .nil)) rfl rfl) rfl rfl ?_)
    (refine wlE ?_)
    refine dwp_wk (Wk.ofKB (j := EXT) (q := 0) rfl rfl rfl rfl) ?_
    refine dwp_isB (t := 0) (j := EXT) rfl fun pv => ?_
    (repeat (first | (with_reducible refine dwp_seq ?_) | (with_reducible refine dwp_block ?_) | ((with_reducible refine id_reg ?_); first | (refine dwp_reg rfl ?_) | (refine dwp_drw mixed rfl ?_)) | ((with_reducible refine id_cond ?_); first | (refine dwp_condT rfl ?_) | (refine dwp_condF rfl ?_) | (refine dwp_yes rfl (by first | assumption | exact congrArg Bool.not (by assumption) | rfl) ?_) | (refine dwp_nope rfl (by first | assumption | exact congrArg Bool.not (by assumption) | rfl) ?_)) | (with_reducible refine dwp_skip ?_) | (with_reducible refine dwp_exit ?_) | (with_reducible refine dwp_ret ?_) | (with_reducible refine dwp_label ?_)))
    (refine SqA.b1 (op_moveBK (t := 0) rfl (Or.inl rfl) rfl) rfl rfl ?_)
    (refine SqA.b1 (op_moveBK (t := 0) rfl (Or.inl rfl) rfl) rfl rfl ?_)
    (refine SqA.b1 (op_nilBK (tp := 0) rfl rfl rfl rfl) rfl rfl ?_)
    (refine wlk ?_)
    (refine SqA.b1 (op_bsT (T := TB) (f := Cl.d) [n] rfl rfl rfl rfl rfl rfl rfl rfl rfl rfl rfl) rfl rfl ?_)
    (refine wlk ?_)
    (refine SqA.b1 (op_nilBK (tp := 0) rfl rfl rfl rfl) rfl rfl ?_)
    (refine wlk ?_)
    (refine wbU ?_)
    exact XB rfl (by simp [h0])
  · rw [hany] at g
    refine dwp_isOB (j := EXT) (q := 0) rfl rfl rfl ⟨0, rfl⟩ fun v => ?_
    (refine wlk ?_)
    (refine wlC a1 ?_)
    (refine wlk ?_)
    (refine wlC a2 ?_)
    (refine wlE ?_)
    refine dwp_wk (Wk.frzF (t := 6) (j := 6) (fs := [.arr (n.map Lt.d)]) rfl rfl rfl rfl rfl) ?_
    (refine wlk ?_)
    (refine SqA.b1 (op_mkFn rfl rfl rfl) rfl rfl ?_)
    (refine wlk ?_)
    (refine SqA.b1 (op_callL (fun t => t = .own (.b EXT) 0 0) rfl rfl rfl (by kernel_rfl) g (LendL.cons (lend_valB (j := EXT) (q := 0) (tp := 0) rfl rfl rfl rfl rfl rfl) (LendL.cons (lend_same rfl rfl rfl) .nil)) rfl rfl) rfl rfl ?_)
    (refine wlE ?_)
    refine dwp_wk (Wk.ofKB (j := EXT) (q := 0) rfl rfl rfl rfl) ?_
    (refine wlk ?_)
    (refine wbU ?_)
    exact XB rfl (by simp [h0])
end Go.Proofs.YtmanhdacnkpclaaGreat
/- What functions do: a clause without one of its literals (the document's answer). -/
namespace Go.Proofs.YtmanhdacnkpclaaGreat
set_option linter.all false
open Go.RowKit
set_option maxRecDepth 100000 in
theorem rbut (c : List Lt) (i : Nat) (hi : i < c.length) (hl : c.length ≤ 1000) : FnD Tryz.prog 102 [lA Lt.d c, iA i] (.one (lA Lt.d (c.eraseIdx i))) := by
  have h2 : c.take (i : Int).toNat ++ c.drop ((i : Int) + 1).toNat = c.eraseIdx i := by rw [List.eraseIdx_eq_take_drop_succ]; rfl
  have h3 : (c.eraseIdx i).length ≤ 1000 := by rw [List.length_eraseIdx]; split <;> omega
  refine Fn.of Tryz.func102 rfl Tryz.ntmps102 rfl (Nat.le_of_ble_eq_true rfl) ?_
  (refine wlk ?_)
  (refine SqA.b1 (op_sliceHiT (T := TB) (f := Lt.d) (l := c) rfl rfl rfl rfl rfl (by omega) (by omega)) rfl rfl ?_)
  (refine SqA.b2 (op_appT (T := TB) (f := Lt.d) (l := []) (es := c.take (i : Int).toNat) (rs := c.take (i : Int).toNat) rfl rfl rfl rfl rfl rfl (by simp only [List.length_take]; omega) (by decide)) rfl rfl ?_)
  (refine wlk ?_)
  refine fin_wk (fun n => Wk.freezeAt (d := 4) rfl) ?_
  (refine wfT ?_)
  rfl
set_option maxRecDepth 100000 in
theorem rbutO (c : List Lt) (i : Nat) (hi : i < c.length) (hl : c.length ≤ 1000) : FnD Tryz.prog 102 [lA Lt.d c, iA i] (.one (.c (.own 77 7 ((c.eraseIdx i).map Lt.d)))) := by
  have h2 : c.take (i : Int).toNat ++ c.drop ((i : Int) + 1).toNat = c.eraseIdx i := by rw [List.eraseIdx_eq_take_drop_succ]; rfl
  have h3 : (c.eraseIdx i).length ≤ 1000 := by rw [List.length_eraseIdx]; split <;> omega
  refine Fn.of Tryz.func102 rfl Tryz.ntmps102 rfl (Nat.le_of_ble_eq_true rfl) ?_
  (refine wlk ?_)
  (refine SqA.b1 (op_sliceHiT (T := TB) (f := Lt.d) (l := c) rfl rfl rfl rfl rfl (by omega) (by omega)) rfl rfl ?_)
  (refine SqA.b2 (op_appT (T := TB) (f := Lt.d) (l := []) (es := c.take (i : Int).toNat) (rs := c.take (i : Int).toNat) rfl rfl rfl rfl rfl rfl (by simp only [List.length_take]; omega) (by decide)) rfl rfl ?_)
  (refine wlk ?_)
  (refine finO (E := _) rfl ?_)
  rfl
end Go.Proofs.YtmanhdacnkpclaaGreat
/- What functions do: both ways of a literal; renaming in the document's answer. -/
namespace Go.Proofs.YtmanhdacnkpclaaGreat
set_option linter.all false
open Go.RowKit
set_option maxRecDepth 100000 in
theorem pways (l : Lt) : FnD Tryz.prog 94 [ltA l] (.one (lA Tw.d (waysL l))) := by
  obtain ⟨ng, xl, xr⟩ := l
  refine Fn.of Tryz.func94 rfl Tryz.ntmps94 rfl (Nat.le_of_ble_eq_true rfl) ?_
  (refine wlk ?_)
  (refine SqA.b1 (op_bsT (T := TB) (f := Tw.d) [((xl, xr) : Tm × Tm), (xr, xl)] rfl rfl rfl rfl rfl rfl rfl rfl rfl rfl rfl) rfl rfl ?_)
  (refine wlk ?_)
  (refine wfT ?_)
  rfl
set_option maxRecDepth 100000 in
theorem rsup1 (t : Tm) (hk : t.okv = true) (hz : t.size ≤ 2000000000000) : FnD Tryz.prog 104 [tA t] (.one (tA (ren 5 t))) := by
  refine Fn.of Tryz.func104 rfl Tryz.ntmps104 rfl (Nat.le_of_ble_eq_true rfl) ?_
  (refine wlk ?_)
  (refine SqA.b1 (op_call none rfl rfl rfl (by kernel_rfl) (FnD.use (rrename 5 (by decide) (by decide) t hk hz)) rfl rfl rfl rfl rfl rfl) rfl rfl ?_)
  (refine wlk ?_)
  (refine wfC ?_)
  rfl
set_option maxRecDepth 100000 in
theorem ladd1 (by_ : List Pr) (hl : by_.length ≤ 4000000000000) (t : Tm) (hz : t.size ≤ 2000000000000) : FnD Tryz.prog 134 [tA t, .c (.fp [.arr (by_.map Pr.d)])] (.one (tA (app by_ t))) := by
  refine Fn.of Tryz.func134 rfl Tryz.ntmps134 rfl (Nat.le_of_ble_eq_true rfl) ?_
  (refine wlk ?_)
  (refine SqA.b1 (op_call none rfl rfl rfl (by kernel_rfl) (FnD.use (ap by_ hl t hz)) rfl rfl rfl rfl rfl rfl) rfl rfl ?_)
  (refine wlk ?_)
  (refine wfC ?_)
  rfl
end Go.Proofs.YtmanhdacnkpclaaGreat
/- What functions do: the document's list takes a clause in. -/
namespace Go.Proofs.YtmanhdacnkpclaaGreat
set_option linter.all false
open Go.RowKit
set_option maxHeartbeats 4000000 in
set_option maxRecDepth 100000 in
theorem ladd (m : Mk) (s : List Pr) (c : List Lt) (hsl : s.length ≤ 4000000000000) (hz : clSz c) (hcl : c.length ≤ 1000) (hk : clOkv (each (app s) c)) (hf : clFew (each (app s) c)) (hz2 : clSz (each (app s) c)) (hm : m.1.length ≤ 1000000) :
    FnB Tryz.prog 101 [.c (.ptr EXT 0), lA Pr.d s, lA Lt.d c] (mkBox m) (.tup []) (mkBox (addR m s c)) := by
  have a1 := rEach1 134 [.arr (s.map Pr.d)] (app s) (by kernel_rfl) c (by omega) fun x hx => by
    have := hz x hx
    exact ⟨ladd1 s hsl x.left (by omega), ladd1 s hsl x.right (by omega)⟩
  have a2 := rnorm (each (app s) c) hk hf hz2 (by rw [each_len]; omega)
  refine Fn.of Tryz.func101 rfl Tryz.ntmps101 rfl (Nat.le_of_ble_eq_true rfl) ?_
  obtain ⟨m1, m2⟩ := m
  dsimp only at hm
  rcases hn : norm (each (app s) c) with ⟨n, e⟩
  have hadd : addR (m1, m2) s c = if e = 4 then (m1, true) else if e = 0 then (if m1.any fun x => clSame x n then (m1, m2) else (m1 ++ [n], m2)) else (m1, m2) := by
    unfold addR; rw [hn]
  rw [hadd]
  rw [hn] at a2
  dsimp only at a2
  by_cases h0 : e = 0
  rotate_left
  · by_cases h4 : e = 4
    · (refine wlR ?_)
      refine dwp_wk (Wk.frzF (t := 4) (j := 4) (fs := [.arr (s.map Pr.d)]) rfl rfl rfl rfl rfl) ?_
      (refine wlk ?_)
      (refine SqA.b1 (op_mkFn rfl rfl rfl) rfl rfl ?_)
      (refine wlk ?_)
      (refine wlC a1 ?_)
      (refine wlk ?_)
      (refine wlC a2 ?_)
      (refine wlk ?_)
      (refine wbU ?_)
      exact XB rfl (by simp [h4]; rfl)
    · (refine wlR ?_)
      refine dwp_wk (Wk.frzF (t := 4) (j := 4) (fs := [.arr (s.map Pr.d)]) rfl rfl rfl rfl rfl) ?_
      (refine wlk ?_)
      (refine SqA.b1 (op_mkFn rfl rfl rfl) rfl rfl ?_)
      (refine wlk ?_)
      (refine wlC a1 ?_)
      (refine wlk ?_)
      (refine wlC a2 ?_)
      (refine wlk ?_)
      (refine wbU ?_)
      exact XB rfl (by simp [h4, h0])
  have h4 : ¬ e = 4 := by omega
  (refine wlR ?_)
  refine dwp_wk (Wk.frzF (t := 4) (j := 4) (fs := [.arr (s.map Pr.d)]) rfl rfl rfl rfl rfl) ?_
  refine dwp_isOB (j := EXT) (q := 0) rfl rfl rfl ⟨0, rfl⟩ fun v => ?_
  (refine wlk ?_)
  (refine SqA.b1 (op_mkFn rfl rfl rfl) rfl rfl ?_)
  (refine wlk ?_)
  (refine wlC a1 ?_)
  (refine wlk ?_)
  (refine wlC a2 ?_)
  (refine wlk ?_)
  (refine SqA.b1 (op_lenKT (T := TB) (f := Cl.d) (l := m1) (tp := 0) (j := EXT) (q := 0) rfl rfl rfl rfl rfl rfl rfl rfl) rfl rfl ?_)
  (refine wlk ?_)
  refine dwp_loop (fun k : Nat => [(.t 0, some (.one (.c (.ptr EXT 0)))), (.b EXT, some (.box [.ownK v 39 1 (m1.map Cl.d), .val (.bool m2)])), (.t 6, some (.one (lA Lt.d n))), (.t 27, some (.one (.c (.val v)))), (.t 28, some (.one (iA m1.length))), (.t 29, some (.one (iA k)))])
    (fun k => k ≤ m1.length ∧ ∀ j x, j < k → m1[j]? = some x → clSame x n = false) (fun k => m1.length - k) 0 ⟨by omega, fun j x h => absurd h (by omega)⟩ fgs ?_
  rintro k ⟨hkk, hno⟩
  by_cases hkl : k < m1.length
  · obtain ⟨x, hx⟩ := get_of_lt hkl
    have g := rsameClause x n
    cases e1 : clSame x n
    · rw [e1] at g
      (refine wlk ?_)
      (refine SqA.b1 (op_idxK (T := TB) (tp := 0) (j := EXT) (q := 0) (k := k) (q' := k) rfl rfl rfl rfl rfl rfl rfl rfl rfl rfl (by simp; omega) (Nat.mul_one k)) rfl rfl ?_)
      (refine SqA.b1 (op_loadKE (f := Cl.d) (l := m1) (x := x) (k := k) (tp := 0) (j := EXT) (q := 0) rfl rfl (rw_of rfl) rfl rfl rfl rfl rfl hx rfl rfl) rfl rfl ?_)
      (refine wlk ?_)
      (refine wlC g ?_)
      (refine wlk ?_)
      exact ⟨k + 1, ⟨by omega, upto_succ hno hx e1⟩, fgs, by omega⟩
    · rw [e1] at g
      have hany : (m1.any fun x => clSame x n) = true := List.any_eq_true.2 ⟨x, List.mem_of_getElem? hx, e1⟩
      (refine wlk ?_)
      (refine SqA.b1 (op_idxK (T := TB) (tp := 0) (j := EXT) (q := 0) (k := k) (q' := k) rfl rfl rfl rfl rfl rfl rfl rfl rfl rfl (by simp; omega) (Nat.mul_one k)) rfl rfl ?_)
      (refine SqA.b1 (op_loadKE (f := Cl.d) (l := m1) (x := x) (k := k) (tp := 0) (j := EXT) (q := 0) rfl rfl (rw_of rfl) rfl rfl rfl rfl rfl hx rfl rfl) rfl rfl ?_)
      (refine wlk ?_)
      (refine wlC g ?_)
      (refine wlk ?_)
      refine fin_wk (fun n => Wk.ofKB (j := EXT) (q := 0) rfl rfl rfl rfl) ?_
      (refine wbU ?_)
      exact XB rfl (by simp [h0, hany])
  · have : k = m1.length := by omega
    subst this
    have hany : (m1.any fun x => clSame x n) = false := List.any_eq_false.2 fun x hx => by rw [any_upto hno x hx]; simp
    have hsn : m1 ++ [n] = m1 ++ [n] := rfl
    refine dwp_wk (Wk.ofKB (j := EXT) (q := 0) rfl rfl rfl rfl) ?_
    (refine wlk ?_)
    (refine SqA.b1 (op_bsT (T := TB) (f := Cl.d) [n] rfl rfl rfl rfl rfl rfl rfl rfl rfl rfl rfl) rfl rfl ?_)
    (refine wlk ?_)
    (refine wbU ?_)
    exact XB rfl (by simp [h0, hany])
end Go.Proofs.YtmanhdacnkpclaaGreat
