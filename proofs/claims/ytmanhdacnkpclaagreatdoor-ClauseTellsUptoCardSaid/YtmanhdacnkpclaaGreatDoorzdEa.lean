/- Worlds with new blocks. -/
import Derived.Test.YtmanhdacnkpclaaGreatDoorzdFa
import Derived.Deep.RegionHeld3
import Derived.Test.YtmanhdacnkpclaaGreatDoorRows
import Derived.LoopTactic
import Derived.Outline
import Derived.BigQuiet
/- Worlds with new blocks. -/
namespace Go.Proofs.YtmanhdacnkpclaaGreatDoor
set_option linter.unusedVariables false
set_option linter.unusedSimpArgs false
open Go.RowKit
theorem bw1 (w : World) (A : Obj) : Below w.heap.size w (w.alloc A) := (Below.refl _ _).alloc (Nat.le_refl _) _
theorem bw2 (w : World) (A B : Obj) : Below w.heap.size w ((w.alloc A).alloc B) := (bw1 w A).alloc (by simp) _
theorem bw3 (w : World) (A B C : Obj) : Below w.heap.size w (((w.alloc A).alloc B).alloc C) := (bw2 w A B).alloc (by simp; omega) _
end Go.Proofs.YtmanhdacnkpclaaGreatDoor

/- Steps through a region that draws its order, by hand. -/
namespace Go.Proofs.YtmanhdacnkpclaaGreatDoor
set_option linter.unusedVariables false
set_option linter.unusedSimpArgs false
open Go.RowKit

end Go.Proofs.YtmanhdacnkpclaaGreatDoor

/- Contracts: Size, find, Apply. -/
namespace Go.Proofs.YtmanhdacnkpclaaGreatDoor
set_option linter.unusedVariables false
set_option linter.unusedSimpArgs false
open Go.RowKit

theorem slTerm : SliceOf Tryz.prog 34 36 3 40 (.agg #[.bool false, .int .i64 0, .slice none 0 0]) := ⟨by kernel_rfl, by kernel_rfl, rfl, by decide⟩
theorem slSub : SliceOf Tryz.prog 27 38 4 48 (.agg #[.int .i64 0, .bool false, .int .i64 0, .slice none 0 0]) := ⟨by kernel_rfl, by kernel_rfl, rfl, by decide⟩
theorem slInt : SliceOf Tryz.prog 22 3 1 8 (.int .i64 0) := ⟨by kernel_rfl, by kernel_rfl, rfl, by decide⟩

/-- a term that was measured: sizes wrap round as Go's int does -/
def SizeW (f : Nat) (t : Tm) : Prop := ∀ (w : World) (S : Nat → Prop) (v : Value), RdT w S t v →
  Calls Tryz.prog f #[v] w fun e w' => e = .returned (.int .i64 (wrap64 t.size)) ∧ Below w.heap.size w w'

def SizeC (f : Nat) (t : Tm) : Prop := ∀ (w : World) (S : Nat → Prop) (v : Value), RdT w S t v → t.size ≤ 4611686018427387904 →
  Calls Tryz.prog f #[v] w fun e w' => e = .returned (.int .i64 t.size) ∧ Below w.heap.size w w'

theorem wrap64_wrap_add (a b : Int) : wrap64 (wrap64 a + wrap64 b) = wrap64 (a + b) := by unfold wrap64; omega

set_option maxHeartbeats 400000 in
theorem rsizeW_any : ∀ t, SizeW 36 t := by
  refine Tm.ind ?_
  intro vr n l ih w S v hv
  obtain ⟨a, c, rfl, hs⟩ := hv
  simp only at hs ⊢
  obtain ⟨_, _, he, hl, hm⟩ := hs.form
  clear he
  have IH := Lib.hid ih; clear ih
  have HV := Lib.hid hs; clear hs
  go_enter Tryz.func36, Tryz.ntmps36
  go_wp2_with fail
  go_loopw [3, 8] (fun m i wr => ∃ k : Nat, k ≤ l.length ∧ i = .int .i64 k ∧ m = .int .i64 (wrap64 ((1 + Tm.sizes (l.take k) : Nat) : Int)) ∧ Below w.heap.size w wr ∧ w.heap.size < wr.heap.size ∧
      wr.cell? ⟨w.heap.size, 2, none⟩ = some (.slice a l.length c))
    (fun _ i _ => l.length - (intOf i).toNat)
  case atStart => exact ⟨0, Nat.zero_le _, rfl, by simp [Tm.sizes, wrap64], (Below.refl _ _).alloc (Nat.le_refl _) _, by simp, by simp⟩
  case round =>
    obtain ⟨k, hk, rfl, rfl, hbel, hlt, hcell⟩ := hrel
    by_cases hkl : k < l.length
    · obtain ⟨x, b, o, a', c', hx, hSb, hbw, hix, c0, c1, c2, hxs⟩ := (HV.out.below hbel (Nat.le_refl _)).nthT slTerm hkl
      have hsucc := Lib.hid (sizes_take_succ l k x hx.out)
      have HX := Lib.hid hxs; clear hxs
      obtain ⟨A, hA⟩ : ∃ A, A = wrap64 ((1 + Tm.sizes (l.take k) : Nat) : Int) := ⟨_, rfl⟩
      have HA := Lib.hid hA
      rw [← hA]; clear hA
      go_wp2_with fail
      refine (IH.out x (mem_of_get hx.out) wr S _ ⟨a', c', rfl, HX.out⟩).mono ?_
      rintro e w1 ⟨rfl, hb1⟩
      have hcell1 := (hb1.cell (p := ⟨w.heap.size, 2, none⟩) hlt).trans hcell
      have hlt1 := hb1.size
      clear hcell
      obtain ⟨C, hC⟩ : ∃ C, C = wrap64 (x.size : Int) := ⟨_, rfl⟩
      have HC := Lib.hid hC
      rw [← hC]; clear hC
      go_wp2_with fail
      go_roundw
      case rel => exact ⟨k + 1, by omega, by go_num, by rw [hsucc.out, HA.out, HC.out]; exact congrArg (fun z => Value.int .i64 z) ((wrap64_wrap_add _ _).trans (congrArg wrap64 (by omega))), hbel.trans (hb1.mono (by omega)), by omega, hcell1⟩
      case measure => simp [intOf]; omega
    · go_wp2_with fail
      go_ret
      have : k = l.length := by omega
      subst this
      exact ⟨by simp [Tm.size], hbel⟩

set_option maxHeartbeats 400000 in
theorem psizeW_any : ∀ t, SizeW 40 t := by
  refine Tm.ind ?_
  intro vr n l ih w S v hv
  obtain ⟨a, c, rfl, hs⟩ := hv
  simp only at hs ⊢
  obtain ⟨_, _, he, hl, hm⟩ := hs.form
  clear he
  have IH := Lib.hid ih; clear ih
  have HV := Lib.hid hs; clear hs
  go_enter Tryz.func40, Tryz.ntmps40
  go_wp2_with fail
  go_loopw [3, 9] (fun m i wr => ∃ k : Nat, k ≤ l.length ∧ i = .int .i64 k ∧ m = .int .i64 (wrap64 ((1 + Tm.sizes (l.take k) : Nat) : Int)) ∧ Below w.heap.size w wr)
    (fun _ i _ => l.length - (intOf i).toNat)
  case atStart => exact ⟨0, Nat.zero_le _, rfl, by simp [Tm.sizes, wrap64], (Below.refl _ _).alloc (Nat.le_refl _) _⟩
  case round =>
    obtain ⟨k, hk, rfl, rfl, hbel⟩ := hrel
    by_cases hkl : k < l.length
    · obtain ⟨x, b, o, a', c', hx, hSb, hbw, hix, c0, c1, c2, hxs⟩ := (HV.out.below hbel (Nat.le_refl _)).nthT slTerm hkl
      have hsucc := Lib.hid (sizes_take_succ l k x hx.out)
      have HX := Lib.hid hxs; clear hxs
      have hbs := hbel.size
      obtain ⟨A, hA⟩ : ∃ A, A = wrap64 ((1 + Tm.sizes (l.take k) : Nat) : Int) := ⟨_, rfl⟩
      have HA := Lib.hid hA
      rw [← hA]; clear hA
      go_wp2_with fail
      refine (IH.out x (mem_of_get hx.out) _ S _ (RdT.alloc ⟨a', c', rfl, HX.out⟩ _)).mono ?_
      rintro e w1 ⟨rfl, hb1⟩
      obtain ⟨C, hC⟩ : ∃ C, C = wrap64 (x.size : Int) := ⟨_, rfl⟩
      have HC := Lib.hid hC
      rw [← hC]; clear hC
      go_wp2_with fail
      go_roundw
      case rel => exact ⟨k + 1, by omega, by go_num, by rw [hsucc.out, HA.out, HC.out]; exact congrArg (fun z => Value.int .i64 z) ((wrap64_wrap_add _ _).trans (congrArg wrap64 (by omega))), (hbel.alloc hbs _).trans (hb1.mono (by simp; omega))⟩
      case measure => simp [intOf]; omega
    · go_wp2_with fail
      go_ret
      have : k = l.length := by omega
      subst this
      exact ⟨by simp [Tm.size], hbel⟩

theorem SizeC.ofW {f : Nat} {t : Tm} (h : SizeW f t) : SizeC f t := fun w S v hv hs => (h w S v hv).mono fun e w' ⟨he, hb⟩ => ⟨by rw [he, IntWalk.wrap64_in _ ⟨by omega, by omega⟩], hb⟩
theorem rsize_any (t : Tm) : SizeC 36 t := .ofW (rsizeW_any t)
theorem psize_any (t : Tm) : SizeC 40 t := .ofW (psizeW_any t)
end Go.Proofs.YtmanhdacnkpclaaGreatDoor

/- Contracts: Same. -/
namespace Go.Proofs.YtmanhdacnkpclaaGreatDoor
set_option linter.unusedVariables false
set_option linter.unusedSimpArgs false
open Go.RowKit

def SameC (f : Nat) (t : Tm) : Prop := ∀ (u : Tm) (w : World) (S : Nat → Prop) (v v' : Value), RdT w S t v → RdT w S u v' →
  Calls Tryz.prog f #[v, v'] w fun e w' => e = .returned (.bool (t.same u)) ∧ Below w.heap.size w w'

set_option maxHeartbeats 1000000 in
theorem rsame_any : ∀ t, SameC 41 t := by
  refine Tm.ind ?_
  intro vr n l ih u w S v v' hv hv'
  obtain ⟨vr', n', l'⟩ := u
  obtain ⟨a, c, rfl, hs⟩ := hv
  obtain ⟨a', c', rfl, hs'⟩ := hv'
  simp only at hs hs' ⊢
  obtain ⟨_, _, he, hl, hm⟩ := hs.form
  clear he
  obtain ⟨_, _, he, hl', hm'⟩ := hs'.form
  clear he
  have IH := Lib.hid ih; clear ih
  have HV := Lib.hid hs; clear hs
  have HV' := Lib.hid hs'; clear hs'
  rcases Decidable.em (vr = vr') with h1 | h1
  rotate_left
  · have h1' : (vr == vr') = false := by simpa using h1
    have h1'' : (vr != vr') = true := by simpa using h1
    clear h1
    have hfin : Hid ((⟨vr, n, l⟩ : Tm).same ⟨vr', n', l'⟩ = false) := by simp [Tm.same, h1', Hid]
    go_enter Tryz.func41, Tryz.ntmps41
    go_wp2_with fail
    go_ret
    rw [hfin.out]
    exact ⟨rfl, ((Below.refl _ _).alloc (Nat.le_refl _) _).alloc (by simp) _⟩
  subst h1
  rcases Decidable.em (n = n') with h2 | h2
  rotate_left
  · have h2' : ((n : Int) == n') = false := by simpa using h2
    have h2'' : ((n : Int) != n') = true := by simpa using h2
    clear h2
    have hfin : Hid ((⟨vr, n, l⟩ : Tm).same ⟨vr, n', l'⟩ = false) := by simp [Tm.same, h2', Hid]
    go_enter Tryz.func41, Tryz.ntmps41
    go_wp2_with fail
    go_ret
    rw [hfin.out]
    exact ⟨rfl, ((Below.refl _ _).alloc (Nat.le_refl _) _).alloc (by simp) _⟩
  subst h2
  rcases Decidable.em (l.length = l'.length) with h3 | h3
  rotate_left
  · have hfin : Hid ((⟨vr, n, l⟩ : Tm).same ⟨vr, n, l'⟩ = false) := by simp [Tm.same, Hid, Tm.sames_len h3]
    have h3'' : ((l.length : Int) != (l'.length : Int)) = true := by simp; omega
    clear h3
    go_enter Tryz.func41, Tryz.ntmps41
    go_wp2_with fail
    go_ret
    rw [hfin.out]
    exact ⟨rfl, ((Below.refl _ _).alloc (Nat.le_refl _) _).alloc (by simp) _⟩
  have hfin : Hid ((⟨vr, n, l⟩ : Tm).same ⟨vr, n, l'⟩ = Tm.sames l l') := by simp [Tm.same, Hid]
  have h3'' : ((l.length : Int) != (l'.length : Int)) = false := by simp; omega
  have H3 := Lib.hid h3; clear h3
  go_enter Tryz.func41, Tryz.ntmps41
  go_wp2_with fail
  go_loopw [30] (fun i wr => ∃ k : Nat, k ≤ l.length ∧ i = .int .i64 k ∧ l.take k = l'.take k ∧ Below w.heap.size w wr ∧ w.heap.size + 1 < wr.heap.size ∧
      wr.cell? ⟨w.heap.size, 2, none⟩ = some (.slice a l.length c) ∧ wr.cell? ⟨w.heap.size + 1, 2, none⟩ = some (.slice a' l'.length c'))
    (fun i _ => l.length - (intOf i).toNat)
  case atStart => exact ⟨0, Nat.zero_le _, rfl, rfl, ((Below.refl _ _).alloc (Nat.le_refl _) _).alloc (by simp) _, by simp, by simp, by simp⟩
  case round =>
    obtain ⟨k, hk, rfl, htk, hbel, hlt, hcell, hcell'⟩ := hrel
    have HTK := Lib.hid htk; clear htk
    by_cases hkl : k < l.length
    · obtain ⟨x, b, o, a1, c1, hx, hSb, hbw, hix, p0, p1, p2, hxs⟩ := (HV.out.below hbel (Nat.le_refl _)).nthT slTerm hkl
      have hkl' : k < l'.length := by have := H3.out; omega
      obtain ⟨y, b', o', a2, c2, hy, hSb', hbw', hix', q0, q1, q2, hys⟩ := (HV'.out.below hbel (Nat.le_refl _)).nthT slTerm hkl'
      have hlt0 : w.heap.size < wr.heap.size := by omega
      have HX := Lib.hid hxs; clear hxs
      have HY := Lib.hid hys; clear hys
      cases hxy : x.same y
      all_goals go_wp2_with fail
      all_goals go_region_held3 (fun w' => w'.cell? ⟨w.heap.size, 2, none⟩ = some (.slice a l.length c) ∧ w'.cell? ⟨w.heap.size + 1, 2, none⟩ = some (.slice a' l'.length c') ∧
          w'.cell? ⟨b, o + k * 3, none⟩ = some (.bool x.var) ∧ w'.cell? ⟨b, o + k * 3 + 1, none⟩ = some (.int .i64 x.n) ∧ w'.cell? ⟨b, o + k * 3 + 2, none⟩ = some (.slice a1 x.args.length c1) ∧
          w'.cell? ⟨b', o' + k * 3, none⟩ = some (.bool y.var) ∧ w'.cell? ⟨b', o' + k * 3 + 1, none⟩ = some (.int .i64 y.n) ∧ w'.cell? ⟨b', o' + k * 3 + 2, none⟩ = some (.slice a2 y.args.length c2)) (go_keep) ((go_at_call 41; refine (IH.out x (mem_of_get hx.out) y _ S _ _ (RdT.same_ ⟨a1, c1, rfl, HX.out⟩ (by rfl)) (RdT.same_ ⟨a2, c2, rfl, HY.out⟩ (by rfl))).mono ?_; rintro e w1 ⟨rfl, hb1⟩; have bc1 : ∀ b o, b < wr.heap.size → w1.cell? ⟨b, o, none⟩ = wr.cell? ⟨b, o, none⟩ := fun b o h => hb1.cell (p := ⟨b, o, none⟩) h))
      · go_wp2_with fail
        go_ret
        exact ⟨by rw [hfin.out, Tm.sames_no hx.out hy.out hxy]; rfl, hbel.drew.trans (hb1.mono (Nat.le_of_lt hlt0))⟩
      · go_wp2_with fail
        go_roundw
        case rel =>
          have hxe := (Tm.same_iff x y).1 hxy
          have hz : wr.heap.size ≤ w1.heap.size := hb1.size
          exact ⟨k + 1, by omega, by go_num, by rw [take_succ_of hx.out, take_succ_of hy.out, HTK.out, hxe], hbel.drew.trans (hb1.mono (Nat.le_of_lt hlt0)), by omega, (bc1 _ _ hlt0).trans hcell, (bc1 _ _ hlt).trans hcell'⟩
        case measure => simp [intOf]; omega
    · go_wp2_with fail
      go_ret
      have : k = l.length := by omega
      subst this
      have hy := Tm.sames_yes H3.out HTK.out
      rw [hfin.out, hy]
      exact ⟨rfl, hbel⟩

end Go.Proofs.YtmanhdacnkpclaaGreatDoor

/- Contracts: EqualFunc at terms, term.Same, WrongSig. -/
namespace Go.Proofs.YtmanhdacnkpclaaGreatDoor
set_option linter.unusedVariables false
set_option linter.unusedSimpArgs false
open Go.RowKit

theorem slSig : SliceOf Tryz.prog 23 3 1 8 (.int .i64 0) := ⟨by kernel_rfl, by kernel_rfl, rfl, by decide⟩

set_option maxHeartbeats 1000000 in
/-- slices.EqualFunc at terms, with Same -/
theorem eqFunc_any (l l' : List Tm) (ih : ∀ x ∈ l, SameC 37 x) (w : World) (S : Nat → Prop) (a a' : Option Addr) (c c' : Nat)
    (hs : RdTs w S l (.slice a l.length c)) (hs' : RdTs w S l' (.slice a' l'.length c')) :
    Calls Tryz.prog 58 #[.slice a l.length c, .slice a' l'.length c', .func (.func 37) #[] #[]] w
      fun e w' => e = .returned (.bool (Tm.sames l l')) ∧ Below w.heap.size w w' := by
  obtain ⟨_, _, he, hl, hm⟩ := hs.form
  clear he
  obtain ⟨_, _, he, hl', hm'⟩ := hs'.form
  clear he
  have IH := Lib.hid ih; clear ih
  have HV := Lib.hid hs; clear hs
  have HV' := Lib.hid hs'; clear hs'
  rcases Decidable.em (l.length = l'.length) with h3 | h3
  rotate_left
  · have hfin := Lib.hid (Tm.sames_len h3)
    have h3'' : ((l.length : Int) != (l'.length : Int)) = true := by simp; omega
    clear h3
    go_enter Tryz.func58, Tryz.ntmps58
    go_wp2_with fail
    go_ret
    rw [hfin.out]
    exact ⟨rfl, Below.refl _ _⟩
  have h3'' : ((l.length : Int) != (l'.length : Int)) = false := by simp; omega
  have H3 := Lib.hid h3; clear h3
  go_enter Tryz.func58, Tryz.ntmps58
  go_wp2_with fail
  go_loopw [17] (fun i wr => ∃ k : Nat, k ≤ l.length ∧ i = .int .i64 k ∧ l.take k = l'.take k ∧ Below w.heap.size w wr)
    (fun i _ => l.length - (intOf i).toNat)
  case atStart => exact ⟨0, Nat.zero_le _, rfl, rfl, Below.refl _ _⟩
  case round =>
    obtain ⟨k, hk, rfl, htk, hbel⟩ := hrel
    have HTK := Lib.hid htk; clear htk
    by_cases hkl : k < l.length
    · obtain ⟨x, b, o, a1, c1, hx, hSb, hbw, hix, p0, p1, p2, hxs⟩ := (HV.out.below hbel (Nat.le_refl _)).nthT slTerm hkl
      have hkl' : k < l'.length := by have := H3.out; omega
      obtain ⟨y, b', o', a2, c2, hy, hSb', hbw', hix', q0, q1, q2, hys⟩ := (HV'.out.below hbel (Nat.le_refl _)).nthT slTerm hkl'
      have HX := Lib.hid hxs; clear hxs
      have HY := Lib.hid hys; clear hys
      have hbs := hbel.size
      go_wp2_with fail
      refine (IH.out x (mem_of_get hx.out) y _ S _ _ ((RdT.alloc ⟨a1, c1, rfl, HX.out⟩ _).alloc _) ((RdT.alloc ⟨a2, c2, rfl, HY.out⟩ _).alloc _)).mono ?_
      rintro e w1 ⟨rfl, hb1⟩
      have hb2 : Below w.heap.size w w1 := ((hbel.alloc hbs _).alloc (by simp; omega) _).trans (hb1.mono (by simp; omega))
      clear hb1
      cases hxy : x.same y
      · go_wp2_with fail
        go_ret
        exact ⟨by rw [Tm.sames_no hx.out hy.out hxy]; rfl, hb2⟩
      · go_wp2_with fail
        go_roundw
        case rel => exact ⟨k + 1, by omega, by go_num, by rw [take_succ_of hx.out, take_succ_of hy.out, HTK.out, (Tm.same_iff x y).1 hxy], hb2⟩
        case measure => simp [intOf]; omega
    · go_wp2_with fail
      go_ret
      have : k = l.length := by omega
      subst this
      rw [Tm.sames_yes H3.out HTK.out]
      exact ⟨rfl, hbel⟩

set_option maxHeartbeats 1000000 in
theorem psame_any : ∀ t, SameC 37 t := by
  refine Tm.ind ?_
  intro vr n l ih u w S v v' hv hv'
  obtain ⟨vr', n', l'⟩ := u
  obtain ⟨a, c, rfl, hs⟩ := hv
  obtain ⟨a', c', rfl, hs'⟩ := hv'
  simp only at hs hs' ⊢
  have IH := Lib.hid ih; clear ih
  have HV := Lib.hid hs; clear hs
  have HV' := Lib.hid hs'; clear hs'
  rcases Decidable.em (vr = vr') with h1 | h1
  rotate_left
  · have h1' : (vr == vr') = false := by simpa using h1
    clear h1
    have hfin : Hid ((⟨vr, n, l⟩ : Tm).same ⟨vr', n', l'⟩ = false) := by simp [Tm.same, h1', Hid]
    go_enter Tryz.func37, Tryz.ntmps37
    go_wp2_with fail
    go_ret
    rw [hfin.out]
    exact ⟨rfl, ((Below.refl _ _).alloc (Nat.le_refl _) _).alloc (by simp) _⟩
  subst h1
  rcases Decidable.em (n = n') with h2 | h2
  rotate_left
  · have h2' : ((n : Int) == n') = false := by simpa using h2
    clear h2
    have hfin : Hid ((⟨vr, n, l⟩ : Tm).same ⟨vr, n', l'⟩ = false) := by simp [Tm.same, h2', Hid]
    go_enter Tryz.func37, Tryz.ntmps37
    go_wp2_with fail
    go_ret
    rw [hfin.out]
    exact ⟨rfl, ((Below.refl _ _).alloc (Nat.le_refl _) _).alloc (by simp) _⟩
  subst h2
  have hfin : Hid ((⟨vr, n, l⟩ : Tm).same ⟨vr, n, l'⟩ = Tm.sames l l') := by simp [Tm.same, Hid]
  go_enter Tryz.func37, Tryz.ntmps37
  go_wp2_with fail
  refine (eqFunc_any l l' IH.out _ S _ _ _ _ ((HV.out.alloc _).alloc _) ((HV'.out.alloc _).alloc _)).mono ?_
  rintro e w1 ⟨rfl, hb1⟩
  go_wp2_with fail
  go_ret
  rw [hfin.out]
  exact ⟨rfl, (((Below.refl _ _).alloc (Nat.le_refl _) _).alloc (by simp) _).trans (hb1.mono (by simp; omega))⟩

end Go.Proofs.YtmanhdacnkpclaaGreatDoor

/- Contracts: walk, Wrong. -/
namespace Go.Proofs.YtmanhdacnkpclaaGreatDoor
set_option linter.unusedVariables false
set_option linter.unusedSimpArgs false
open Go.RowKit

end Go.Proofs.YtmanhdacnkpclaaGreatDoor
