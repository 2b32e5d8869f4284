/- Contracts: count (a map of counts), above, Compare of the program. -/
import Derived.Test.YtmanhdacnkpclaaA8
import Derived.Maps.RangeWalk
import Derived.Maps.OwnOps
import Derived.Maps.Views
namespace Go.Proofs.Ytmanhdacnkpclaa
open Go.RowKit Go.Maps

theorem lawInt : Keyed Try.prog 3 := int_keyed Try.underlying3

/-- block r is a map from numbers to numbers, that says f (0 where there is no entry), of at most n entries -/
def CM (w : World) (r n : Nat) (f : Int → Int) : Prop :=
  ∃ D : DataW Unit, w.ownsMap Try.prog 3 (plainElem Try.prog 3) r n D ∧ IsMap D ∧ ∀ x : Int, (Lit.int .i64 x).wf = true → D.atKey (.int .i64 x) (.lit (.int .i64 0)) = .lit (.int .i64 (f x))

theorem CM.kept {w w' : World} {r n : Nat} {f : Int → Int} {row : Option Nat} (h : CM w r n f) (hg : w.grownBy w' row) (hne : some r ≠ row) : CM w' r n f := by
  obtain ⟨D, h1, h2⟩ := h; exact ⟨D, h1.kept hg hne, h2⟩
theorem CM.alloc {w : World} {r n : Nat} {f : Int → Int} (h : CM w r n f) (o : Obj) : CM (w.alloc o) r n f := h.kept (World.grownBy_alloc w o none) (by simp)
theorem CM.lt {w : World} {r n : Nat} {f : Int → Int} (h : CM w r n f) : r < w.heap.size := by obtain ⟨D, h1, _⟩ := h; exact h1.lt
theorem CM.mono {w : World} {r n m : Nat} {f : Int → Int} (h : CM w r n f) (hm : n ≤ m) : CM w r m f := by obtain ⟨D, h1, h2⟩ := h; exact ⟨D, h1.mono hm, h2⟩
theorem CM.congr {w : World} {r n : Nat} {f g : Int → Int} (h : CM w r n f) (hg : ∀ x, f x = g x) : CM w r n g := by
  obtain ⟨D, h1, h2, h3⟩ := h; exact ⟨D, h1, h2, fun x hx => by rw [← hg]; exact h3 x hx⟩
theorem cv_of {f : Int → Int} {D : DataW Unit} {x c : Int} (h : ∀ x : Int, (Lit.int .i64 x).wf = true → D.atKey (.int .i64 x) (.lit (.int .i64 0)) = .lit (.int .i64 (f x))) (hx : (Lit.int .i64 x).wf = true) (hc : D.atKey (.int .i64 x) (.lit (.int .i64 0)) = .lit (.int .i64 c)) : c = f x := by
  have := h x hx
  rw [hc] at this
  simpa using this
theorem cv_of_le {a b c : Int} {p : Int} (h : c = a) (hb : p ≤ a ∧ a ≤ b) : p ≤ c ∧ c ≤ b := by subst h; exact hb
theorem cell_grown {w w' : World} {r b o : Nat} {v : Value} (hg : w.grownBy w' (some r)) (h : w.cell? ⟨b, o, none⟩ = some v) (hne : r < b ∨ b < r) : w'.cell? ⟨b, o, none⟩ = some v :=
  hg.cell h (by intro e; injection e with e; simp at e; omega)
theorem CM.made (w : World) : CM (w.alloc (.map #[] 0)) w.heap.size 0 (fun _ => 0) :=
  ⟨.map [], World.ownsMap_made _ _ _ _, ⟨[], rfl⟩, fun x _ => rfl⟩

/-- what block r reads is not touched -/
theorem RdL.grown {α : Type} {f : α → D} {w w' : World} {S : Nat → Prop} {l : List α} {v : Value} {r : Nat} (h : RdL f w S l v) (hg : w.grownBy w' (some r)) (hr : ¬ S r) : RdL f w' S l v :=
  h.keep hg.size (fun _ _ h => h) (fun b hb hS => hg.block b hb (fun e => by injection e with e; subst e; exact hr hS))
theorem RdT.grown {w w' : World} {S : Nat → Prop} {t : Tm} {v : Value} {r : Nat} (h : RdT w S t v) (hg : w.grownBy w' (some r)) (hr : ¬ S r) : RdT w' S t v :=
  h.keep hg.size (fun _ _ h => h) (fun b hb hS => hg.block b hb (fun e => by injection e with e; subst e; exact hr hS))
theorem grown_trans {a b c : World} {r : Nat} (h : a.grownBy b (some r)) (k : b.grownBy c (some r)) : a.grownBy c (some r) :=
  ⟨k.os.trans h.os, k.tape.trans h.tape, k.output.trans h.output, Nat.le_trans h.size k.size, fun i hi hne => (k.block i (Nat.lt_of_lt_of_le hi h.size) hne).trans (h.block i hi hne)⟩
theorem grown_alloc {a b : World} {row : Option Nat} (h : a.grownBy b row) (o : Obj) : a.grownBy (b.alloc o) row :=
  ⟨h.os, h.tape, h.output, Nat.le_trans h.size (by simp), fun i hi hne => (Below.heap_alloc b o i (Nat.lt_of_lt_of_le hi h.size)).trans (h.block i hi hne)⟩

def CountC (t : Tm) : Prop := ∀ (by_ : Int) (f : Int → Int) (r n : Nat) (w : World) (S : Nat → Prop) (v : Value), RdT w S t v → ¬ S r → CM w r n f → (by_ = 1 ∨ by_ = -1) →
  n + t.size ≤ 4611686018427387904 → (∀ x, -4611686018427387904 + t.size ≤ f x ∧ f x + t.size ≤ 4611686018427387904) →
  (∀ x, ¬ (Lit.int .i64 x).wf = true → times x t = 0) →
  Calls Try.prog 129 #[.map (some r), v, .int .i64 by_] w fun e w' => e = .returned (.tuple #[]) ∧ CM w' r (n + t.size) (fun x => f x + by_ * times x t) ∧ w.grownBy w' (some r)

set_option maxHeartbeats 1000000 in
set_option maxRecDepth 100000 in
theorem count_any : ∀ t, CountC t := by
  refine Tm.ind ?_
  intro vr N l ih by_ f r n w S v hv hSr hcm hby hn hf hwf
  obtain ⟨a, c, rfl, hs⟩ := hv
  simp only at hs ⊢
  obtain ⟨_, _, he, hl, hm⟩ := hs.form
  clear he
  have hn' : n + (1 + Tm.sizes l) ≤ 4611686018427387904 := hn
  have hf' : ∀ x, -4611686018427387904 + (1 + (Tm.sizes l : Int)) ≤ f x ∧ f x + (1 + (Tm.sizes l : Int)) ≤ 4611686018427387904 := fun x => by
    have h := hf x
    have e : (Tm.size ⟨vr, N, l⟩ : Int) = 1 + (Tm.sizes l : Int) := by simp [Tm.size]
    omega
  clear hn hf
  have IH := Lib.hid ih; clear ih
  have HV := Lib.hid hs; clear hs
  have HF := Lib.hid hf'; clear hf'
  have HW := Lib.hid hwf; clear hwf
  have HSR := Lib.hid hSr; clear hSr
  have HCM := Lib.hid hcm
  have hrw := hcm.lt
  clear hcm
  cases vr
  case false =>
    have hfin : Hid (∀ x, times x ⟨false, N, l⟩ = timess x l) := fun x => by simp [times]
    go_enter Try.func129, Try.ntmps129
    go_wp2_with fail
    go_loopw [19] (fun i wr => ∃ k : Nat, k ≤ l.length ∧ i = .int .i64 k ∧ CM wr r (n + Tm.sizes (l.take k)) (fun x => f x + by_ * timess x (l.take k)) ∧ w.grownBy wr (some r))
      (fun i _ => l.length - (intOf i).toNat)
    case atStart => exact ⟨0, Nat.zero_le _, rfl, (HCM.out.alloc _).mono (by simp) |>.congr (fun x => by simp [timess]), World.grownBy_alloc _ _ _⟩
    case round =>
      obtain ⟨k, hk, rfl, hcm, hgr⟩ := hrel
      have HC := Lib.hid hcm; clear hcm
      have hbs := hgr.size
      by_cases hkl : k < l.length
      · obtain ⟨x, b, o, a', c', hx, hSb, hbw, hix, c0, c1, c2, hxs⟩ := (HV.out.grown hgr HSR.out).nthT slTerm hkl
        have HX := Lib.hid hxs; clear hxs
        have hsz := Lib.hid (sizes_take_succ l k x hx.out)
        have hle := sizes_take_le l (k + 1)
        have hle2 : Tm.sizes (l.take k) + x.size ≤ Tm.sizes l := by have := hsz.out; omega
        go_wp2_with fail
        refine (IH.out x (mem_of_get hx.out) by_ _ r _ _ S _ (RdT.alloc ⟨a', c', rfl, HX.out⟩ _) HSR.out (HC.out.alloc _) hby (by omega) (fun y => ?_) (fun y hy => ?_)).mono ?_
        · have h1 := HF.out y
          have h2 := timess_le_sizes y (l.take k)
          have h3 : (timess y (l.take k) : Int) ≤ Tm.sizes (l.take k) := by omega
          rcases hby with rfl | rfl <;> omega
        · have h1 := HW.out y hy
          rw [hfin.out] at h1
          have h2 := timess_snoc y (l.take k) x
          rw [← take_succ_of hx.out] at h2
          have h3 := timess_take_le y l (k + 1)
          omega
        rintro e w1 ⟨rfl, hcm1, hg1⟩
        have hgr1 : w.grownBy w1 (some r) := grown_trans (grown_alloc hgr _) hg1
        have HC1 := Lib.hid hcm1; clear hcm1 hg1
        go_wp2_with fail
        go_roundw
        case rel =>
          refine ⟨k + 1, by omega, by go_num, ?_, hgr1⟩
          refine (HC1.out.mono (by rw [hsz.out]; omega)).congr fun y => ?_
          rw [take_succ_of hx.out, timess_snoc]
          rcases hby with rfl | rfl <;> simp <;> omega
        case measure => simp [intOf]; omega
      · go_wp2_with fail
        go_end0
        have : k = l.length := by omega
        subst this
        have := HC.out
        rw [List.take_length] at this
        exact ⟨rfl, (this.mono (by simp [Tm.size])).congr (fun x => by rw [hfin.out]), hgr⟩
  case true =>
    have hfin : Hid (∀ x, times x ⟨true, N, l⟩ = (if N = x then 1 else 0) + timess x l) := fun x => by simp [times]
    have hNw : (Lit.int .i64 N).wf = true := by
      rcases Bool.eq_false_or_eq_true ((Lit.int .i64 N).wf) with h | h
      · exact h
      · have := HW.out N (by rw [h]; simp)
        rw [hfin.out] at this
        simp at this
    have hz : ∀ W : World, (zeroValue 3).run Try.prog W = .ok (.int .i64 0) W := fun W => by kernel_rfl
    obtain ⟨D, hown, hD, hat⟩ := HCM.out.alloc (.cells #[.bool true, .int .i64 N, .slice a l.length c] 26)
    have HZ := Lib.hid hz; clear hz
    have HAT := Lib.hid hat; clear hat
    have hb0 : -4611686018427387903 ≤ f N ∧ f N ≤ 4611686018427387903 := by have := HF.out N; omega
    have hby1 : -1 ≤ by_ ∧ by_ ≤ 1 := by omega
    go_enter Try.func129, Try.ntmps129
    go_wp2_with (first | (at_lookup; refine wpList_lookup_own_int _ rfl _ _ 31 rfl 3 3 .i64 lawInt Try.underlying31 Try.underlying3 (HZ.out _) r n D rfl hown _ (.int .i64 N) rfl (keyOf_int_mk Try.underlying3 hNw) ?_; intro cv hatc hwc; have HCV := Lib.hid (cv_of HAT.out hNw hatc); have hcv1 := cv_of_le HCV.out hb0; clear hatc) | (at_mapUpdate; go_loud (refine wpList_mapUpdate_own _ rfl _ _ _ 31 rfl 3 3 lawInt Try.underlying31 (plainElem Try.prog 3) r n D rfl hown (by simp only [maxLen]; omega) _ (.int .i64 (cv + by_)) (.int .i64 N) rfl rfl (keyOf_int_mk Try.underlying3 hNw) _ [] (plainElem_int Try.underlying3 (WalkArith.wf_i64 (by omega))) ?_); intro w2 hown2 hg2; have hq : w2.cell? ⟨w.heap.size, 2, none⟩ = some (.slice a l.length c) := cell_grown hg2 (by simp) (by omega)))
    have HC0 : Hid (CM w2 r (n + 1) (fun x => f x + by_ * (if N = x then 1 else 0))) := by
      refine ⟨_, hown2, hD.put _ _, fun x hx => ?_⟩
      by_cases hxN : N = x
      · subst hxN
        rw [atKey_put_same hD (k := .int .i64 N) trivial]
        simp [HCV.out]
      · rw [atKey_put_other (k := .int .i64 N) (k' := .int .i64 x) (by intro e; injection e with _ e; exact hxN e.symm)]
        rw [HAT.out x hx]; simp [hxN]
    have hg0 : w.grownBy w2 (some r) := grown_trans (World.grownBy_alloc _ _ _) hg2
    clear hown hown2 hD hg2
    go_loopw [19] (fun i wr => ∃ k : Nat, k ≤ l.length ∧ i = .int .i64 k ∧ CM wr r (n + 1 + Tm.sizes (l.take k)) (fun x => f x + by_ * (if N = x then 1 else 0) + by_ * timess x (l.take k)) ∧ w.grownBy wr (some r))
      (fun i _ => l.length - (intOf i).toNat)
    case atStart => exact ⟨0, Nat.zero_le _, rfl, (HC0.out.mono (by omega)).congr (fun x => by simp [timess]), hg0⟩
    case round =>
      obtain ⟨k, hk, rfl, hcm, hgr⟩ := hrel
      have HC := Lib.hid hcm; clear hcm
      have hbs := hgr.size
      by_cases hkl : k < l.length
      · obtain ⟨x, b, o, a', c', hx, hSb, hbw, hix, c0, c1, c2, hxs⟩ := (HV.out.grown hgr HSR.out).nthT slTerm hkl
        have HX := Lib.hid hxs; clear hxs
        have hsz := Lib.hid (sizes_take_succ l k x hx.out)
        have hle := sizes_take_le l (k + 1)
        have hle2 : Tm.sizes (l.take k) + x.size ≤ Tm.sizes l := by have := hsz.out; omega
        go_wp2_with fail
        refine (IH.out x (mem_of_get hx.out) by_ _ r _ _ S _ (RdT.alloc ⟨a', c', rfl, HX.out⟩ _) HSR.out (HC.out.alloc _) hby (by omega) (fun y => ?_) (fun y hy => ?_)).mono ?_
        · have h1 := HF.out y
          have h2 := timess_le_sizes y (l.take k)
          have h3 : (timess y (l.take k) : Int) ≤ Tm.sizes (l.take k) := by omega
          rcases hby with rfl | rfl <;> split <;> omega
        · have h1 := HW.out y hy
          rw [hfin.out] at h1
          have h2 := timess_snoc y (l.take k) x
          rw [← take_succ_of hx.out] at h2
          have h3 := timess_take_le y l (k + 1)
          omega
        rintro e w1 ⟨rfl, hcm1, hg1⟩
        have hgr1 : w.grownBy w1 (some r) := grown_trans (grown_alloc hgr _) hg1
        have HC1 := Lib.hid hcm1; clear hcm1 hg1
        go_wp2_with fail
        go_roundw
        case rel =>
          refine ⟨k + 1, by omega, by go_num, ?_, hgr1⟩
          refine (HC1.out.mono (by rw [hsz.out]; omega)).congr fun y => ?_
          rw [take_succ_of hx.out, timess_snoc]
          rcases hby with rfl | rfl <;> simp <;> omega
        case measure => simp [intOf]; omega
      · go_wp2_with fail
        go_end0
        have : k = l.length := by omega
        subst this
        have := HC.out
        rw [List.take_length] at this
        exact ⟨rfl, (this.mono (by simp [Tm.size]; omega)).congr (fun x => by rw [hfin.out]; rcases hby with rfl | rfl <;> split <;> simp <;> omega), hgr⟩
end Go.Proofs.Ytmanhdacnkpclaa
