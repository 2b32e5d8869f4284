/- Contracts: EqualFunc at terms, term.Same, WrongSig. -/
import Derived.Test.YtmanhdacnkpclaaA2
namespace Go.Proofs.Ytmanhdacnkpclaa
open Go.RowKit

theorem slSig : SliceOf Try.prog 23 3 1 8 (.int .i64 0) := ⟨by kernel_rfl, by kernel_rfl, rfl, by decide⟩

set_option maxHeartbeats 1000000 in
/-- slices.EqualFunc at terms, with Same -/
theorem eqFunc_any (l l' : List Tm) (ih : ∀ x ∈ l, SameC 82 x) (w : World) (S : Nat → Prop) (a a' : Option Addr) (c c' : Nat)
    (hs : RdTs w S l (.slice a l.length c)) (hs' : RdTs w S l' (.slice a' l'.length c')) :
    Calls Try.prog 128 #[.slice a l.length c, .slice a' l'.length c', .func (.func 82) #[] #[]] w
      fun e w' => e = .returned (.bool (Tm.sames l l')) ∧ Below w.heap.size w w' := by
  obtain ⟨_, _, he, hl, hm⟩ := hs.form
  clear he
  obtain ⟨_, _, he, hl', hm'⟩ := hs'.form
  clear he
  have IH := Lib.hid ih; clear ih
  have HV := Lib.hid hs; clear hs
  have HV' := Lib.hid hs'; clear hs'
  rcases Decidable.em (l.length = l'.length) with h3 | h3
  rotate_left
  · have hfin := Lib.hid (Tm.sames_len h3)
    have h3'' : ((l.length : Int) != (l'.length : Int)) = true := by simp; omega
    clear h3
    go_enter Try.func128, Try.ntmps128
    go_wp2_with fail
    go_ret
    rw [hfin.out]
    exact ⟨rfl, Below.refl _ _⟩
  have h3'' : ((l.length : Int) != (l'.length : Int)) = false := by simp; omega
  have H3 := Lib.hid h3; clear h3
  go_enter Try.func128, Try.ntmps128
  go_wp2_with fail
  go_loopw [17] (fun i wr => ∃ k : Nat, k ≤ l.length ∧ i = .int .i64 k ∧ l.take k = l'.take k ∧ Below w.heap.size w wr)
    (fun i _ => l.length - (intOf i).toNat)
  case atStart => exact ⟨0, Nat.zero_le _, rfl, rfl, Below.refl _ _⟩
  case round =>
    obtain ⟨k, hk, rfl, htk, hbel⟩ := hrel
    have HTK := Lib.hid htk; clear htk
    by_cases hkl : k < l.length
    · obtain ⟨x, b, o, a1, c1, hx, hSb, hbw, hix, p0, p1, p2, hxs⟩ := (HV.out.below hbel (Nat.le_refl _)).nthT slTerm hkl
      have hkl' : k < l'.length := by have := H3.out; omega
      obtain ⟨y, b', o', a2, c2, hy, hSb', hbw', hix', q0, q1, q2, hys⟩ := (HV'.out.below hbel (Nat.le_refl _)).nthT slTerm hkl'
      have HX := Lib.hid hxs; clear hxs
      have HY := Lib.hid hys; clear hys
      have hbs := hbel.size
      go_wp2_with fail
      refine (IH.out x (mem_of_get hx.out) y _ S _ _ ((RdT.alloc ⟨a1, c1, rfl, HX.out⟩ _).alloc _) ((RdT.alloc ⟨a2, c2, rfl, HY.out⟩ _).alloc _)).mono ?_
      rintro e w1 ⟨rfl, hb1⟩
      have hb2 : Below w.heap.size w w1 := ((hbel.alloc hbs _).alloc (by simp; omega) _).trans (hb1.mono (by simp; omega))
      clear hb1
      cases hxy : x.same y
      · go_wp2_with fail
        go_ret
        exact ⟨by rw [Tm.sames_no hx.out hy.out hxy]; rfl, hb2⟩
      · go_wp2_with fail
        go_roundw
        case rel => exact ⟨k + 1, by omega, by go_num, by rw [take_succ_of hx.out, take_succ_of hy.out, HTK.out, (Tm.same_iff x y).1 hxy], hb2⟩
        case measure => simp [intOf]; omega
    · go_wp2_with fail
      go_ret
      have : k = l.length := by omega
      subst this
      rw [Tm.sames_yes H3.out HTK.out]
      exact ⟨rfl, hbel⟩

set_option maxHeartbeats 1000000 in
theorem psame_any : ∀ t, SameC 82 t := by
  refine Tm.ind ?_
  intro vr n l ih u w S v v' hv hv'
  obtain ⟨vr', n', l'⟩ := u
  obtain ⟨a, c, rfl, hs⟩ := hv
  obtain ⟨a', c', rfl, hs'⟩ := hv'
  simp only at hs hs' ⊢
  have IH := Lib.hid ih; clear ih
  have HV := Lib.hid hs; clear hs
  have HV' := Lib.hid hs'; clear hs'
  rcases Decidable.em (vr = vr') with h1 | h1
  rotate_left
  · have h1' : (vr == vr') = false := by simpa using h1
    clear h1
    have hfin : Hid ((⟨vr, n, l⟩ : Tm).same ⟨vr', n', l'⟩ = false) := by simp [Tm.same, h1', Hid]
    go_enter Try.func82, Try.ntmps82
    go_wp2_with fail
    go_ret
    rw [hfin.out]
    exact ⟨rfl, ((Below.refl _ _).alloc (Nat.le_refl _) _).alloc (by simp) _⟩
  subst h1
  rcases Decidable.em (n = n') with h2 | h2
  rotate_left
  · have h2' : ((n : Int) == n') = false := by simpa using h2
    clear h2
    have hfin : Hid ((⟨vr, n, l⟩ : Tm).same ⟨vr, n', l'⟩ = false) := by simp [Tm.same, h2', Hid]
    go_enter Try.func82, Try.ntmps82
    go_wp2_with fail
    go_ret
    rw [hfin.out]
    exact ⟨rfl, ((Below.refl _ _).alloc (Nat.le_refl _) _).alloc (by simp) _⟩
  subst h2
  have hfin : Hid ((⟨vr, n, l⟩ : Tm).same ⟨vr, n, l'⟩ = Tm.sames l l') := by simp [Tm.same, Hid]
  go_enter Try.func82, Try.ntmps82
  go_wp2_with fail
  refine (eqFunc_any l l' IH.out _ S _ _ _ _ ((HV.out.alloc _).alloc _) ((HV'.out.alloc _).alloc _)).mono ?_
  rintro e w1 ⟨rfl, hb1⟩
  go_wp2_with fail
  go_ret
  rw [hfin.out]
  exact ⟨rfl, (((Below.refl _ _).alloc (Nat.le_refl _) _).alloc (by simp) _).trans (hb1.mono (by simp; omega))⟩

def WrongSigC (f : Nat) : Prop := ∀ (s : List Int) (w : World) (S : Nat → Prop) (v : Value), RdI w S s v →
  Calls Try.prog f #[v] w fun e w' => e = .returned (.int .i64 (wrongSig s)) ∧ w = w'

theorem any_take {l : List Int} {p : Int → Bool} (h : l.any p = false) (k : Nat) (x : Int) (hx : l[k]? = some x) : p x = false := by
  rw [List.any_eq_false] at h
  simpa using h x (mem_of_get hx)

set_option maxHeartbeats 1000000 in
theorem rwrongSig_any : WrongSigC 26 := by
  intro s w S v hv
  obtain ⟨a, c, rfl, hl, hm⟩ := hv.form
  have HV := Lib.hid hv; clear hv
  by_cases h0 : s.length = 0
  · have hfin : Hid (wrongSig s = 5) := by simp [wrongSig, h0, Hid]
    have h0' : ((s.length : Int) == 0) = true := by rw [beq_iff_eq]; omega
    have h0'' : (s.length : Int) < 1 := by omega
    clear h0
    go_enter Try.func26, Try.ntmps26
    go_wp2_with fail
    go_ret
    rw [hfin.out]
    exact ⟨rfl, rfl⟩
  have h0' : ((s.length : Int) == 0) = false := beq_eq_false_iff_ne.2 (by omega)
  by_cases h6 : 6 < s.length
  · have hfin : Hid (wrongSig s = 5) := by simp [wrongSig, h6, Hid]
    have h0'' : 1 ≤ s.length := by omega
    clear h0
    go_enter Try.func26, Try.ntmps26
    go_wp2_with fail
    go_ret
    rw [hfin.out]
    exact ⟨rfl, rfl⟩
  have hfin : Hid (wrongSig s = if s.any (fun n => decide (n < 0 ∨ 2 < n)) then 3 else 0) := by simp [wrongSig, h0, h6, Hid]
  have h0'' : 1 ≤ s.length := by omega
  clear h0
  have h6' : s.length ≤ 6 := by omega
  clear h6
  go_enter Try.func26, Try.ntmps26
  go_wp2_with fail
  go_loop [15] (fun i => ∃ k : Nat, k ≤ s.length ∧ i = .int .i64 k ∧ ∀ j x, j < k → s[j]? = some x → ¬ (x < 0 ∨ 2 < x))
    (fun i => s.length - (intOf i).toNat)
  case atStart => exact ⟨0, Nat.zero_le _, rfl, fun j x hj => absurd hj (by omega)⟩
  case round =>
    obtain ⟨k, hk, rfl, hno⟩ := hrel
    have HNO := Lib.hid hno; clear hno
    by_cases hkl : k < s.length
    · obtain ⟨x, b, o, hx, hSb, hbw, hix, p0⟩ := HV.out.nthI slSig hkl
      by_cases hx0 : x < 0
      · go_wp2_with fail
        go_ret
        have : s.any (fun n => decide (n < 0 ∨ 2 < n)) = true := List.any_eq_true.2 ⟨x, mem_of_get hx.out, by simp [hx0]⟩
        rw [hfin.out, this]
        exact ⟨rfl, rfl⟩
      by_cases hx2 : 2 < x
      · go_wp2_with fail
        go_ret
        have : s.any (fun n => decide (n < 0 ∨ 2 < n)) = true := List.any_eq_true.2 ⟨x, mem_of_get hx.out, by simp [hx2]⟩
        rw [hfin.out, this]
        exact ⟨rfl, rfl⟩
      go_wp2_with fail
      go_round
      case rel =>
        refine ⟨k + 1, by omega, by go_num, fun j y hj hy => ?_⟩
        rcases Nat.lt_or_ge j k with h | h
        · exact HNO.out j y h hy
        · have : j = k := by omega
          subst this
          have := hx.out
          rw [this] at hy
          injection hy with hy
          omega
      case measure => simp [intOf]; omega
    · go_wp2_with fail
      go_ret
      have : s.any (fun n => decide (n < 0 ∨ 2 < n)) = false := by
        rw [List.any_eq_false]
        intro x hx
        obtain ⟨j, hj, rfl⟩ := List.getElem_of_mem hx
        have := HNO.out j _ (by omega) (List.getElem?_eq_getElem hj)
        simpa using this
      rw [hfin.out, this]
      exact ⟨rfl, rfl⟩
set_option maxHeartbeats 1000000 in
theorem pwrongSig_any : WrongSigC 119 := by
  intro s w S v hv
  obtain ⟨a, c, rfl, hl, hm⟩ := hv.form
  have HV := Lib.hid hv; clear hv
  by_cases h0 : s.length = 0
  · have hfin : Hid (wrongSig s = 5) := by simp [wrongSig, h0, Hid]
    have h0' : ((s.length : Int) == 0) = true := by rw [beq_iff_eq]; omega
    have h0'' : (s.length : Int) < 1 := by omega
    clear h0
    go_enter Try.func119, Try.ntmps119
    go_wp2_with fail
    go_ret
    rw [hfin.out]
    exact ⟨rfl, rfl⟩
  have h0' : ((s.length : Int) == 0) = false := beq_eq_false_iff_ne.2 (by omega)
  by_cases h6 : 6 < s.length
  · have hfin : Hid (wrongSig s = 5) := by simp [wrongSig, h6, Hid]
    have h0'' : 1 ≤ s.length := by omega
    clear h0
    go_enter Try.func119, Try.ntmps119
    go_wp2_with fail
    go_ret
    rw [hfin.out]
    exact ⟨rfl, rfl⟩
  have hfin : Hid (wrongSig s = if s.any (fun n => decide (n < 0 ∨ 2 < n)) then 3 else 0) := by simp [wrongSig, h0, h6, Hid]
  have h0'' : 1 ≤ s.length := by omega
  clear h0
  have h6' : s.length ≤ 6 := by omega
  clear h6
  go_enter Try.func119, Try.ntmps119
  go_wp2_with fail
  go_loop [15] (fun i => ∃ k : Nat, k ≤ s.length ∧ i = .int .i64 k ∧ ∀ j x, j < k → s[j]? = some x → ¬ (x < 0 ∨ 2 < x))
    (fun i => s.length - (intOf i).toNat)
  case atStart => exact ⟨0, Nat.zero_le _, rfl, fun j x hj => absurd hj (by omega)⟩
  case round =>
    obtain ⟨k, hk, rfl, hno⟩ := hrel
    have HNO := Lib.hid hno; clear hno
    by_cases hkl : k < s.length
    · obtain ⟨x, b, o, hx, hSb, hbw, hix, p0⟩ := HV.out.nthI slSig hkl
      by_cases hx0 : x < 0
      · go_wp2_with fail
        go_ret
        have : s.any (fun n => decide (n < 0 ∨ 2 < n)) = true := List.any_eq_true.2 ⟨x, mem_of_get hx.out, by simp [hx0]⟩
        rw [hfin.out, this]
        exact ⟨rfl, rfl⟩
      by_cases hx2 : 2 < x
      · go_wp2_with fail
        go_ret
        have : s.any (fun n => decide (n < 0 ∨ 2 < n)) = true := List.any_eq_true.2 ⟨x, mem_of_get hx.out, by simp [hx2]⟩
        rw [hfin.out, this]
        exact ⟨rfl, rfl⟩
      go_wp2_with fail
      go_round
      case rel =>
        refine ⟨k + 1, by omega, by go_num, fun j y hj hy => ?_⟩
        rcases Nat.lt_or_ge j k with h | h
        · exact HNO.out j y h hy
        · have : j = k := by omega
          subst this
          have := hx.out
          rw [this] at hy
          injection hy with hy
          omega
      case measure => simp [intOf]; omega
    · go_wp2_with fail
      go_ret
      have : s.any (fun n => decide (n < 0 ∨ 2 < n)) = false := by
        rw [List.any_eq_false]
        intro x hx
        obtain ⟨j, hj, rfl⟩ := List.getElem_of_mem hx
        have := HNO.out j _ (by omega) (List.getElem?_eq_getElem hj)
        simpa using this
      rw [hfin.out, this]
      exact ⟨rfl, rfl⟩

end Go.Proofs.Ytmanhdacnkpclaa
