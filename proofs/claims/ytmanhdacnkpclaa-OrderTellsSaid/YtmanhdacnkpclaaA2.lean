/- Contracts: Same. -/
import Derived.Test.YtmanhdacnkpclaaA1
import Derived.Deep.RegionHeld3
import Derived.BigQuiet
namespace Go.Proofs.Ytmanhdacnkpclaa
open Go.RowKit

def SameC (f : Nat) (t : Tm) : Prop := ∀ (u : Tm) (w : World) (S : Nat → Prop) (v v' : Value), RdT w S t v → RdT w S u v' →
  Calls Try.prog f #[v, v'] w fun e w' => e = .returned (.bool (t.same u)) ∧ Below w.heap.size w w'

set_option maxHeartbeats 1000000 in
theorem rsame_any : ∀ t, SameC 20 t := by
  refine Tm.ind ?_
  intro vr n l ih u w S v v' hv hv'
  obtain ⟨vr', n', l'⟩ := u
  obtain ⟨a, c, rfl, hs⟩ := hv
  obtain ⟨a', c', rfl, hs'⟩ := hv'
  simp only at hs hs' ⊢
  obtain ⟨_, _, he, hl, hm⟩ := hs.form
  clear he
  obtain ⟨_, _, he, hl', hm'⟩ := hs'.form
  clear he
  have IH := Lib.hid ih; clear ih
  have HV := Lib.hid hs; clear hs
  have HV' := Lib.hid hs'; clear hs'
  rcases Decidable.em (vr = vr') with h1 | h1
  rotate_left
  · have h1' : (vr == vr') = false := by simpa using h1
    have h1'' : (vr != vr') = true := by simpa using h1
    clear h1
    have hfin : Hid ((⟨vr, n, l⟩ : Tm).same ⟨vr', n', l'⟩ = false) := by simp [Tm.same, h1', Hid]
    go_enter Try.func20, Try.ntmps20
    go_wp2_with fail
    go_ret
    rw [hfin.out]
    exact ⟨rfl, ((Below.refl _ _).alloc (Nat.le_refl _) _).alloc (by simp) _⟩
  subst h1
  rcases Decidable.em (n = n') with h2 | h2
  rotate_left
  · have h2' : ((n : Int) == n') = false := by simpa using h2
    have h2'' : ((n : Int) != n') = true := by simpa using h2
    clear h2
    have hfin : Hid ((⟨vr, n, l⟩ : Tm).same ⟨vr, n', l'⟩ = false) := by simp [Tm.same, h2', Hid]
    go_enter Try.func20, Try.ntmps20
    go_wp2_with fail
    go_ret
    rw [hfin.out]
    exact ⟨rfl, ((Below.refl _ _).alloc (Nat.le_refl _) _).alloc (by simp) _⟩
  subst h2
  rcases Decidable.em (l.length = l'.length) with h3 | h3
  rotate_left
  · have hfin : Hid ((⟨vr, n, l⟩ : Tm).same ⟨vr, n, l'⟩ = false) := by simp [Tm.same, Hid, Tm.sames_len h3]
    have h3'' : ((l.length : Int) != (l'.length : Int)) = true := by simp; omega
    clear h3
    go_enter Try.func20, Try.ntmps20
    go_wp2_with fail
    go_ret
    rw [hfin.out]
    exact ⟨rfl, ((Below.refl _ _).alloc (Nat.le_refl _) _).alloc (by simp) _⟩
  have hfin : Hid ((⟨vr, n, l⟩ : Tm).same ⟨vr, n, l'⟩ = Tm.sames l l') := by simp [Tm.same, Hid]
  have h3'' : ((l.length : Int) != (l'.length : Int)) = false := by simp; omega
  have H3 := Lib.hid h3; clear h3
  go_enter Try.func20, Try.ntmps20
  go_wp2_with fail
  go_loopw [30] (fun i wr => ∃ k : Nat, k ≤ l.length ∧ i = .int .i64 k ∧ l.take k = l'.take k ∧ Below w.heap.size w wr ∧ w.heap.size + 1 < wr.heap.size ∧
      wr.cell? ⟨w.heap.size, 2, none⟩ = some (.slice a l.length c) ∧ wr.cell? ⟨w.heap.size + 1, 2, none⟩ = some (.slice a' l'.length c'))
    (fun i _ => l.length - (intOf i).toNat)
  case atStart => exact ⟨0, Nat.zero_le _, rfl, rfl, ((Below.refl _ _).alloc (Nat.le_refl _) _).alloc (by simp) _, by simp, by simp, by simp⟩
  case round =>
    obtain ⟨k, hk, rfl, htk, hbel, hlt, hcell, hcell'⟩ := hrel
    have HTK := Lib.hid htk; clear htk
    by_cases hkl : k < l.length
    · obtain ⟨x, b, o, a1, c1, hx, hSb, hbw, hix, p0, p1, p2, hxs⟩ := (HV.out.below hbel (Nat.le_refl _)).nthT slTerm hkl
      have hkl' : k < l'.length := by have := H3.out; omega
      obtain ⟨y, b', o', a2, c2, hy, hSb', hbw', hix', q0, q1, q2, hys⟩ := (HV'.out.below hbel (Nat.le_refl _)).nthT slTerm hkl'
      have hlt0 : w.heap.size < wr.heap.size := by omega
      have HX := Lib.hid hxs; clear hxs
      have HY := Lib.hid hys; clear hys
      cases hxy : x.same y
      all_goals go_wp2_with fail
      all_goals go_region_held3 (fun w' => w'.cell? ⟨w.heap.size, 2, none⟩ = some (.slice a l.length c) ∧ w'.cell? ⟨w.heap.size + 1, 2, none⟩ = some (.slice a' l'.length c') ∧
          w'.cell? ⟨b, o + k * 3, none⟩ = some (.bool x.var) ∧ w'.cell? ⟨b, o + k * 3 + 1, none⟩ = some (.int .i64 x.n) ∧ w'.cell? ⟨b, o + k * 3 + 2, none⟩ = some (.slice a1 x.args.length c1) ∧
          w'.cell? ⟨b', o' + k * 3, none⟩ = some (.bool y.var) ∧ w'.cell? ⟨b', o' + k * 3 + 1, none⟩ = some (.int .i64 y.n) ∧ w'.cell? ⟨b', o' + k * 3 + 2, none⟩ = some (.slice a2 y.args.length c2)) (go_keep) ((go_at_call 20; refine (IH.out x (mem_of_get hx.out) y _ S _ _ (RdT.same_ ⟨a1, c1, rfl, HX.out⟩ (by rfl)) (RdT.same_ ⟨a2, c2, rfl, HY.out⟩ (by rfl))).mono ?_; rintro e w1 ⟨rfl, hb1⟩; have bc1 : ∀ b o, b < wr.heap.size → w1.cell? ⟨b, o, none⟩ = wr.cell? ⟨b, o, none⟩ := fun b o h => hb1.cell (p := ⟨b, o, none⟩) h))
      · go_wp2_with fail
        go_ret
        exact ⟨by rw [hfin.out, Tm.sames_no hx.out hy.out hxy]; rfl, hbel.drew.trans (hb1.mono (Nat.le_of_lt hlt0))⟩
      · go_wp2_with fail
        go_roundw
        case rel =>
          have hxe := (Tm.same_iff x y).1 hxy
          have hz : wr.heap.size ≤ w1.heap.size := hb1.size
          exact ⟨k + 1, by omega, by go_num, by rw [take_succ_of hx.out, take_succ_of hy.out, HTK.out, hxe], hbel.drew.trans (hb1.mono (Nat.le_of_lt hlt0)), by omega, (bc1 _ _ hlt0).trans hcell, (bc1 _ _ hlt).trans hcell'⟩
        case measure => simp [intOf]; omega
    · go_wp2_with fail
      go_ret
      have : k = l.length := by omega
      subst this
      have hy := Tm.sames_yes H3.out HTK.out
      rw [hfin.out, hy]
      exact ⟨rfl, hbel⟩

end Go.Proofs.Ytmanhdacnkpclaa
