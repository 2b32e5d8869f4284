/- Contracts: Size, find, Apply. -/
import Derived.Test.YtmanhdacnkpclaaPure
import Derived.Test.YtmanhdacnkpclaaRows
import Derived.LoopTactic
import Derived.Outline
namespace Go.Proofs.Ytmanhdacnkpclaa
open Go.RowKit

theorem slTerm : SliceOf Try.prog 24 26 3 40 (.agg #[.bool false, .int .i64 0, .slice none 0 0]) := ⟨by kernel_rfl, by kernel_rfl, rfl, by decide⟩
theorem slSub : SliceOf Try.prog 36 42 4 48 (.agg #[.int .i64 0, .bool false, .int .i64 0, .slice none 0 0]) := ⟨by kernel_rfl, by kernel_rfl, rfl, by decide⟩
theorem slInt : SliceOf Try.prog 22 3 1 8 (.int .i64 0) := ⟨by kernel_rfl, by kernel_rfl, rfl, by decide⟩

/-- a term that was measured: sizes wrap round as Go's int does -/
def SizeW (f : Nat) (t : Tm) : Prop := ∀ (w : World) (S : Nat → Prop) (v : Value), RdT w S t v →
  Calls Try.prog f #[v] w fun e w' => e = .returned (.int .i64 (wrap64 t.size)) ∧ Below w.heap.size w w'

def SizeC (f : Nat) (t : Tm) : Prop := ∀ (w : World) (S : Nat → Prop) (v : Value), RdT w S t v → t.size ≤ 4611686018427387904 →
  Calls Try.prog f #[v] w fun e w' => e = .returned (.int .i64 t.size) ∧ Below w.heap.size w w'

theorem wrap64_wrap_add (a b : Int) : wrap64 (wrap64 a + wrap64 b) = wrap64 (a + b) := by unfold wrap64; omega

set_option maxHeartbeats 400000 in
theorem rsizeW_any : ∀ t, SizeW 87 t := by
  refine Tm.ind ?_
  intro vr n l ih w S v hv
  obtain ⟨a, c, rfl, hs⟩ := hv
  simp only at hs ⊢
  obtain ⟨_, _, he, hl, hm⟩ := hs.form
  clear he
  have IH := Lib.hid ih; clear ih
  have HV := Lib.hid hs; clear hs
  go_enter Try.func87, Try.ntmps87
  go_wp2_with fail
  go_loopw [3, 8] (fun m i wr => ∃ k : Nat, k ≤ l.length ∧ i = .int .i64 k ∧ m = .int .i64 (wrap64 ((1 + Tm.sizes (l.take k) : Nat) : Int)) ∧ Below w.heap.size w wr ∧ w.heap.size < wr.heap.size ∧
      wr.cell? ⟨w.heap.size, 2, none⟩ = some (.slice a l.length c))
    (fun _ i _ => l.length - (intOf i).toNat)
  case atStart => exact ⟨0, Nat.zero_le _, rfl, by simp [Tm.sizes, wrap64], (Below.refl _ _).alloc (Nat.le_refl _) _, by simp, by simp⟩
  case round =>
    obtain ⟨k, hk, rfl, rfl, hbel, hlt, hcell⟩ := hrel
    by_cases hkl : k < l.length
    · obtain ⟨x, b, o, a', c', hx, hSb, hbw, hix, c0, c1, c2, hxs⟩ := (HV.out.below hbel (Nat.le_refl _)).nthT slTerm hkl
      have hsucc := Lib.hid (sizes_take_succ l k x hx.out)
      have HX := Lib.hid hxs; clear hxs
      obtain ⟨A, hA⟩ : ∃ A, A = wrap64 ((1 + Tm.sizes (l.take k) : Nat) : Int) := ⟨_, rfl⟩
      have HA := Lib.hid hA
      rw [← hA]; clear hA
      go_wp2_with fail
      refine (IH.out x (mem_of_get hx.out) wr S _ ⟨a', c', rfl, HX.out⟩).mono ?_
      rintro e w1 ⟨rfl, hb1⟩
      have hcell1 := (hb1.cell (p := ⟨w.heap.size, 2, none⟩) hlt).trans hcell
      have hlt1 := hb1.size
      clear hcell
      obtain ⟨C, hC⟩ : ∃ C, C = wrap64 (x.size : Int) := ⟨_, rfl⟩
      have HC := Lib.hid hC
      rw [← hC]; clear hC
      go_wp2_with fail
      go_roundw
      case rel => exact ⟨k + 1, by omega, by go_num, by rw [hsucc.out, HA.out, HC.out]; exact congrArg (fun z => Value.int .i64 z) ((wrap64_wrap_add _ _).trans (congrArg wrap64 (by omega))), hbel.trans (hb1.mono (by omega)), by omega, hcell1⟩
      case measure => simp [intOf]; omega
    · go_wp2_with fail
      go_ret
      have : k = l.length := by omega
      subst this
      exact ⟨by simp [Tm.size], hbel⟩

set_option maxHeartbeats 400000 in
theorem psizeW_any : ∀ t, SizeW 130 t := by
  refine Tm.ind ?_
  intro vr n l ih w S v hv
  obtain ⟨a, c, rfl, hs⟩ := hv
  simp only at hs ⊢
  obtain ⟨_, _, he, hl, hm⟩ := hs.form
  clear he
  have IH := Lib.hid ih; clear ih
  have HV := Lib.hid hs; clear hs
  go_enter Try.func130, Try.ntmps130
  go_wp2_with fail
  go_loopw [3, 9] (fun m i wr => ∃ k : Nat, k ≤ l.length ∧ i = .int .i64 k ∧ m = .int .i64 (wrap64 ((1 + Tm.sizes (l.take k) : Nat) : Int)) ∧ Below w.heap.size w wr)
    (fun _ i _ => l.length - (intOf i).toNat)
  case atStart => exact ⟨0, Nat.zero_le _, rfl, by simp [Tm.sizes, wrap64], (Below.refl _ _).alloc (Nat.le_refl _) _⟩
  case round =>
    obtain ⟨k, hk, rfl, rfl, hbel⟩ := hrel
    by_cases hkl : k < l.length
    · obtain ⟨x, b, o, a', c', hx, hSb, hbw, hix, c0, c1, c2, hxs⟩ := (HV.out.below hbel (Nat.le_refl _)).nthT slTerm hkl
      have hsucc := Lib.hid (sizes_take_succ l k x hx.out)
      have HX := Lib.hid hxs; clear hxs
      have hbs := hbel.size
      obtain ⟨A, hA⟩ : ∃ A, A = wrap64 ((1 + Tm.sizes (l.take k) : Nat) : Int) := ⟨_, rfl⟩
      have HA := Lib.hid hA
      rw [← hA]; clear hA
      go_wp2_with fail
      refine (IH.out x (mem_of_get hx.out) _ S _ (RdT.alloc ⟨a', c', rfl, HX.out⟩ _)).mono ?_
      rintro e w1 ⟨rfl, hb1⟩
      obtain ⟨C, hC⟩ : ∃ C, C = wrap64 (x.size : Int) := ⟨_, rfl⟩
      have HC := Lib.hid hC
      rw [← hC]; clear hC
      go_wp2_with fail
      go_roundw
      case rel => exact ⟨k + 1, by omega, by go_num, by rw [hsucc.out, HA.out, HC.out]; exact congrArg (fun z => Value.int .i64 z) ((wrap64_wrap_add _ _).trans (congrArg wrap64 (by omega))), (hbel.alloc hbs _).trans (hb1.mono (by simp; omega))⟩
      case measure => simp [intOf]; omega
    · go_wp2_with fail
      go_ret
      have : k = l.length := by omega
      subst this
      exact ⟨by simp [Tm.size], hbel⟩

theorem SizeC.ofW {f : Nat} {t : Tm} (h : SizeW f t) : SizeC f t := fun w S v hv hs => (h w S v hv).mono fun e w' ⟨he, hb⟩ => ⟨by rw [he, IntWalk.wrap64_in _ ⟨by omega, by omega⟩], hb⟩
theorem rsize_any (t : Tm) : SizeC 87 t := .ofW (rsizeW_any t)
theorem psize_any (t : Tm) : SizeC 130 t := .ofW (psizeW_any t)
end Go.Proofs.Ytmanhdacnkpclaa
