/- Contracts: the laws' 'right'; Vars, times, Above, Compare of the reference. -/
import Derived.Test.YtmanhdacnkpclaaA4
import Derived.Test.YtmanhdacnkpclaaPure2
namespace Go.Proofs.Ytmanhdacnkpclaa
open Go.RowKit

/-- 'right' of mplaw3 -/
def rightB (s : List Int) (l : List Tm) : Bool := decide (wrongSig s = 0) && l.all (fun t => decide (wrong s t = 0))

def TimesC (t : Tm) : Prop := ∀ (v : Int) (w : World) (S : Nat → Prop) (tv : Value), RdT w S t tv → t.size ≤ 4611686018427387904 →
  Calls Try.prog 131 #[.int .i64 v, tv] w fun e w' => e = .returned (.int .i64 (times v t)) ∧ Below w.heap.size w w'

set_option maxHeartbeats 1000000 in
theorem rtimes_any : ∀ t, TimesC t := by
  refine Tm.ind ?_
  intro vr n l ih v w S tv hv hsz
  obtain ⟨a, c, rfl, hs⟩ := hv
  simp only at hs ⊢
  obtain ⟨_, _, he, hl, hm⟩ := hs.form
  clear he
  have hsz' : 1 + Tm.sizes l ≤ 4611686018427387904 := hsz
  clear hsz
  have IH := Lib.hid ih; clear ih
  have HV := Lib.hid hs; clear hs
  obtain ⟨n0, hn0⟩ : ∃ n0 : Nat, Hid (n0 = if vr && n == v then 1 else 0) := ⟨_, rfl⟩
  have hn1 : n0 ≤ 1 := by rw [hn0.out]; split <;> omega
  have hfin : Hid (times v ⟨vr, n, l⟩ = n0 + timess v l) := by rw [hn0.out]; simp [times, Hid]
  have hcut : ∀ (K : Prop), K → K := fun _ h => h
  clear hcut
  cases vr
  case false =>
    have hn00 : n0 = 0 := by rw [hn0.out]; simp
    subst hn00
    go_enter Try.func131, Try.ntmps131
    go_wp2_with fail
    go_loopw [5, 19] (fun m i wr => ∃ k : Nat, k ≤ l.length ∧ i = .int .i64 k ∧ m = .int .i64 ((0 + timess v (l.take k) : Nat) : Int) ∧ Below w.heap.size w wr)
      (fun _ i _ => l.length - (intOf i).toNat)
    case atStart => exact ⟨0, Nat.zero_le _, rfl, by simp [timess], (Below.refl _ _).alloc (Nat.le_refl _) _⟩
    case round =>
      obtain ⟨k, hk, rfl, rfl, hbel⟩ := hrel
      have hbs := hbel.size
      by_cases hkl : k < l.length
      · obtain ⟨x, b, o, a', c', hx, hSb, hbw, hix, c0, c1, c2, hxs⟩ := (HV.out.below hbel (Nat.le_refl _)).nthT slTerm hkl
        have hsucc : Hid (timess v (l.take (k + 1)) = timess v (l.take k) + times v x) := by rw [take_succ_of hx.out]; exact timess_snoc _ _ _
        have hle2 : timess v (l.take k) + times v x ≤ Tm.sizes l := by have := hsucc.out; have := timess_take_le v l (k + 1); have := timess_le_sizes v l; omega
        have hle3 : x.size ≤ Tm.sizes l := by have := sizes_take_succ l k x hx.out; have := sizes_take_le l (k + 1); omega
        have HX := Lib.hid hxs; clear hxs
        go_wp2_with fail
        refine (IH.out x (mem_of_get hx.out) v _ S _ (RdT.alloc ⟨a', c', rfl, HX.out⟩ _) (by omega)).mono ?_
        rintro e w1 ⟨rfl, hb1⟩
        go_wp2_with fail
        go_roundw
        case rel => exact ⟨k + 1, by omega, by go_num, by rw [hsucc.out]; go_num, (hbel.alloc hbs _).trans (hb1.mono (by simp; omega))⟩
        case measure => simp [intOf]; omega
      · go_wp2_with fail
        go_ret
        have : k = l.length := by omega
        subst this
        exact ⟨by rw [hfin.out, List.take_length]; rfl, hbel⟩
  case true =>
    rcases Decidable.em (n = v) with hnv | hnv
    · have hn00 : n0 = 1 := by rw [hn0.out]; simp [hnv]
      subst hn00
      have hnv' : ((n : Int) == v) = true := by rw [beq_iff_eq]; exact hnv
      clear hnv
      go_enter Try.func131, Try.ntmps131
      go_wp2_with fail
      go_loopw [5, 19] (fun m i wr => ∃ k : Nat, k ≤ l.length ∧ i = .int .i64 k ∧ m = .int .i64 ((1 + timess v (l.take k) : Nat) : Int) ∧ Below w.heap.size w wr)
        (fun _ i _ => l.length - (intOf i).toNat)
      case atStart => exact ⟨0, Nat.zero_le _, rfl, by simp [timess], (Below.refl _ _).alloc (Nat.le_refl _) _⟩
      case round =>
        obtain ⟨k, hk, rfl, rfl, hbel⟩ := hrel
        have hbs := hbel.size
        by_cases hkl : k < l.length
        · obtain ⟨x, b, o, a', c', hx, hSb, hbw, hix, c0, c1, c2, hxs⟩ := (HV.out.below hbel (Nat.le_refl _)).nthT slTerm hkl
          have hsucc : Hid (timess v (l.take (k + 1)) = timess v (l.take k) + times v x) := by rw [take_succ_of hx.out]; exact timess_snoc _ _ _
          have hle2 : timess v (l.take k) + times v x ≤ Tm.sizes l := by have := hsucc.out; have := timess_take_le v l (k + 1); have := timess_le_sizes v l; omega
          have hle3 : x.size ≤ Tm.sizes l := by have := sizes_take_succ l k x hx.out; have := sizes_take_le l (k + 1); omega
          have HX := Lib.hid hxs; clear hxs
          go_wp2_with fail
          refine (IH.out x (mem_of_get hx.out) v _ S _ (RdT.alloc ⟨a', c', rfl, HX.out⟩ _) (by omega)).mono ?_
          rintro e w1 ⟨rfl, hb1⟩
          go_wp2_with fail
          go_roundw
          case rel => exact ⟨k + 1, by omega, by go_num, by rw [hsucc.out]; go_num, (hbel.alloc hbs _).trans (hb1.mono (by simp; omega))⟩
          case measure => simp [intOf]; omega
        · go_wp2_with fail
          go_ret
          have : k = l.length := by omega
          subst this
          exact ⟨by rw [hfin.out, List.take_length]; rfl, hbel⟩
    · have hn00 : n0 = 0 := by rw [hn0.out]; simp [hnv]
      subst hn00
      have hnv' : ((n : Int) == v) = false := beq_eq_false_iff_ne.2 hnv
      clear hnv
      go_enter Try.func131, Try.ntmps131
      go_wp2_with fail
      go_loopw [5, 19] (fun m i wr => ∃ k : Nat, k ≤ l.length ∧ i = .int .i64 k ∧ m = .int .i64 ((0 + timess v (l.take k) : Nat) : Int) ∧ Below w.heap.size w wr)
        (fun _ i _ => l.length - (intOf i).toNat)
      case atStart => exact ⟨0, Nat.zero_le _, rfl, by simp [timess], (Below.refl _ _).alloc (Nat.le_refl _) _⟩
      case round =>
        obtain ⟨k, hk, rfl, rfl, hbel⟩ := hrel
        have hbs := hbel.size
        by_cases hkl : k < l.length
        · obtain ⟨x, b, o, a', c', hx, hSb, hbw, hix, c0, c1, c2, hxs⟩ := (HV.out.below hbel (Nat.le_refl _)).nthT slTerm hkl
          have hsucc : Hid (timess v (l.take (k + 1)) = timess v (l.take k) + times v x) := by rw [take_succ_of hx.out]; exact timess_snoc _ _ _
          have hle2 : timess v (l.take k) + times v x ≤ Tm.sizes l := by have := hsucc.out; have := timess_take_le v l (k + 1); have := timess_le_sizes v l; omega
          have hle3 : x.size ≤ Tm.sizes l := by have := sizes_take_succ l k x hx.out; have := sizes_take_le l (k + 1); omega
          have HX := Lib.hid hxs; clear hxs
          go_wp2_with fail
          refine (IH.out x (mem_of_get hx.out) v _ S _ (RdT.alloc ⟨a', c', rfl, HX.out⟩ _) (by omega)).mono ?_
          rintro e w1 ⟨rfl, hb1⟩
          go_wp2_with fail
          go_roundw
          case rel => exact ⟨k + 1, by omega, by go_num, by rw [hsucc.out]; go_num, (hbel.alloc hbs _).trans (hb1.mono (by simp; omega))⟩
          case measure => simp [intOf]; omega
        · go_wp2_with fail
          go_ret
          have : k = l.length := by omega
          subst this
          exact ⟨by rw [hfin.out, List.take_length]; rfl, hbel⟩

end Go.Proofs.Ytmanhdacnkpclaa
