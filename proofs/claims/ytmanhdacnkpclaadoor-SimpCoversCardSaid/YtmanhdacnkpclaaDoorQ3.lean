/- What functions do: Down, Rewrite. -/
import Derived.Test.YtmanhdacnkpclaaDoorQ1
import Derived.Test.YtmanhdacnkpclaaDoorQ2
import Derived.Test.YtmanhdacnkpclaaDoorN1
import Derived.Test.YtmanhdacnkpclaaDoorN2
namespace Go.Proofs.YtmanhdacnkpclaaDoor
set_option linter.all false
open Go.RowKit

theorem wf_arz {S : List Int} {t : Tm} (h : t.wf S = true) : t.ar S = true := Tm.wf_ar t h
theorem downS_size {S : List Int} {us : List (List Lt)} (hu : UsSz S us) {t t' : Tm} (ht : t.ar S = true) (h : downS us t = some t') : t'.ar S = true ∧ t'.size ≤ t.size := by
  obtain ⟨h1, h2, _⟩ := downS_some hu.ok ht h
  exact ⟨h1, (above_size (Tm.ar_okv _ h1) h2).1⟩
set_option maxHeartbeats 40000000 in
set_option maxRecDepth 100000 in
theorem pDown {S : List Int} {us : List (List Lt)} (hu : UsSz S us) (t : Tm) (ht : t.ar S = true) (hz : t.size ≤ 12) : FnD Tryd.prog 50 [tA t, lA Cl.d us] (.one (tA (dn us t))) := by
  refine Fn.of Tryd.func50 rfl Tryd.ntmps50 rfl (Nat.le_of_ble_eq_true rfl) ?_
  obtain ⟨f0, hf0⟩ := (dn_downs hu.ok ht).steps
  generalize dn us t = r at hf0
  (refine wlk ?_)
  refine dwp_loop (fun x : Nat × Tm × Bool => [(.t 1, some (.one (lA Cl.d us))), (.t 2, some (.one (.c (.ptr 2 0)))), (.b 2, some (.box (tA x.2.1).cells)), (.t 4, some (.one (.c (.ptr 4 0)))), (.b 4, some (.box [.val (.bool false), .val (.int .i64 0), .val (.slice none 0 0)])), (.t 5, some (.one (bA x.2.2)))])
    (fun x => x.2.1.ar S = true ∧ x.2.1.size ≤ 12 ∧ ((x.2.2 = true ∧ downF us x.1 x.2.1 = some r) ∨ (x.2.2 = false ∧ x.2.1 = r))) (fun x => if x.2.2 then x.1 + 1 else 0) (f0, t, true) ⟨ht, hz, .inl ⟨rfl, hf0⟩⟩ fgs ?_
  rintro ⟨f, t, again⟩ ⟨ht, hz, hd⟩
  dsimp only at ht hz hd ⊢
  cases again
  · obtain ⟨h, _⟩ | ⟨_, rfl⟩ := hd
    · cases h
    (refine wlk ?_)
    (first | (refine finR (.cellN rfl rfl (rw_of rfl) rfl rfl .nil) rfl rfl ?_) | (refine finN (.cellN rfl rfl (rw_of rfl) rfl rfl .nil) rfl rfl ?_))
    rfl
  · obtain ⟨_, hd⟩ | ⟨h, _⟩ := hd
    rotate_left
    · cases h
    obtain ⟨f, rfl⟩ : ∃ g, f = g + 1 := by
      cases f with
      | zero => simp [downF] at hd
      | succ g => exact ⟨g, rfl⟩
    have hpl := pplaces t (by omega)
    have hkp := places_len t
    have hdS : downS us t = downP us t (places t) := rfl
    (refine wlk ?_)
    (refine SqA.b1 (op_call none rfl rfl rfl (by kernel_rfl) (FnD.use (hpl)) rfl rfl rfl rfl rfl rfl) rfl rfl ?_)
    (refine wlk ?_)
    refine dwp_loop (fun k : Nat => [(.t 1, some (.one (lA Cl.d us))), (.t 2, some (.one (.c (.ptr 2 0)))), (.b 2, some (.box (tA t).cells)), (.t 4, some (.one (.c (.ptr 4 0)))), (.b 4, some (.box [.val (.bool false), .val (.int .i64 0), .val (.slice none 0 0)])), (.t 5, some (.one (bA false))),
        (.t 14, some (.one (lA Is.d (places t)))), (.t 15, some (.one (iA (places t).length))), (.t 16, some (.one (iA k)))])
      (fun k => k ≤ (places t).length ∧ ∀ j p, j < k → (places t)[j]? = some p → down1 us (at_ t p).1 = none) (fun k => (places t).length - k) 0 ⟨by omega, fun j x h => absurd h (by omega)⟩ fgs ?_
    rintro k ⟨hk, hno⟩
    by_cases hkl : k < (places t).length
    · obtain ⟨p, hx⟩ := get_of_lt hkl
      have hp := List.mem_of_getElem? hx
      have hat := at_ar (S := S) p t ht hp
      have haz := at_size p t hp
      have g1 := pat p t
      have g2 := pdown hu (at_ t p).1 hat (by omega)
      cases hr : down1 us (at_ t p).1 with
      | none =>
        rw [hr] at g2
        (refine wlk ?_)
        (refine SqA.b1 (op_call none rfl rfl rfl (by kernel_rfl) (FnD.use (g1)) rfl rfl rfl rfl rfl rfl) rfl rfl ?_)
        (refine wlk ?_)
        (refine SqA.b1 (op_call none rfl rfl rfl (by kernel_rfl) (FnD.use (g2)) rfl rfl rfl rfl rfl rfl) rfl rfl ?_)
        (refine wlk ?_)
        exact ⟨k + 1, ⟨by omega, upto_succ hno hx hr⟩, fgs, by omega⟩
      | some q =>
        rw [hr] at g2
        have hds : downS us t = some (put t p q) := downP_hit hno hx hr
        obtain ⟨h1, h2⟩ := downS_size hu ht hds
        have hd' : downF us f (put t p q) = some r := by simpa [downF, hds] using hd
        have g3 := pput q p t (by omega)
        (refine wlk ?_)
        (refine SqA.b1 (op_call none rfl rfl rfl (by kernel_rfl) (FnD.use (g1)) rfl rfl rfl rfl rfl rfl) rfl rfl ?_)
        (refine wlk ?_)
        (refine SqA.b1 (op_call none rfl rfl rfl (by kernel_rfl) (FnD.use (g2)) rfl rfl rfl rfl rfl rfl) rfl rfl ?_)
        (refine wlk ?_)
        (refine SqA.b1 (op_call none rfl rfl rfl (by kernel_rfl) (FnD.use (g3)) rfl rfl rfl rfl rfl rfl) rfl rfl ?_)
        (refine wlk ?_)
        exact ⟨(f, put t p q, true), ⟨h1, by simp only; omega, .inl ⟨rfl, hd'⟩⟩, fgs, by simp⟩
    · have : k = (places t).length := by omega
      subst this
      have hds : downS us t = none := downP_none.2 fun p hp => any_upto hno p hp
      have hr : t = r := by simpa [downF, hds] using hd
      (refine wlk ?_)
      exact ⟨(f, t, false), ⟨ht, hz, .inr ⟨rfl, hr⟩⟩, fgs, by simp⟩
theorem dn_small {S : List Int} {us : List (List Lt)} (hu : UsSz S us) {c : List Lt} (hc : COk S c) : clSz (each (dn us) c) := fun l hl => by
  simp only [each, List.mem_map] at hl
  obtain ⟨x, hx, rfl⟩ := hl
  have h1 := (dn_wf hu.ok (hc.wf x hx).1).2
  have h2 := (dn_wf hu.ok (hc.wf x hx).2).2
  have := hc.size x hx
  dsimp only
  omega
set_option maxHeartbeats 8000000 in
set_option maxRecDepth 100000 in
theorem pRewrite {S : List Int} {us : List (List Lt)} (hu : UsSz S us) (c : List Lt) (hc : COk S c) : FnD Tryd.prog 53 [lA Lt.d c, lA Cl.d us] (.tup [lA Lt.d (rewr us c).1, iA (rewr us c).2]) := by
  have hw := dn_cl hu.ok hc.wf
  have hn := pnorm (each (dn us) c) hw.okv hw.few (dn_small hu hc) (by rw [each_len]; have := hc.len; omega)
  have hcl := hc.len
  refine Fn.of Tryd.func53 rfl Tryd.ntmps53 rfl (Nat.le_of_ble_eq_true rfl) ?_
  (refine wlk ?_)
  refine dwp_loop (fun k : Nat => [(.t 1, some (.one (lA Cl.d us))), (.t 6, some (.one (.c (.own 67 7 ((each (dn us) (c.take k)).map Lt.d))))), (.t 9, some (.one (lA Lt.d c))), (.t 10, some (.one (iA c.length))), (.t 11, some (.one (iA k)))])
    (fun k => k ≤ c.length) (fun k => c.length - k) 0 (by omega) ((Wk.nilOwn (d := 6) (E := 67) (m := 7) rfl).trans fgs) ?_
  intro k hk
  by_cases hkl : k < c.length
  · obtain ⟨⟨ng, xl, xr⟩, hx⟩ := get_of_lt hkl
    have hm := List.mem_of_getElem? hx
    have hwx := hc.wf _ hm
    have hzx := hc.size _ hm
    dsimp only at hwx hzx
    have h1 := pDown hu xl (Tm.wf_ar _ hwx.1) hzx.1
    have h2 := pDown hu xr (Tm.wf_ar _ hwx.2) hzx.2
    have hsn := each_snoc (g := dn us) hx
    have hel : (each (dn us) (c.take (k + 1))).length ≤ 1000 := by rw [each_len, List.length_take]; omega
    (refine wlk ?_)
    (refine SqA.b1 (op_call none rfl rfl rfl (by kernel_rfl) (FnD.use (h1)) rfl rfl rfl rfl rfl rfl) rfl rfl ?_)
    (refine wlk ?_)
    (refine SqA.b1 (op_call none rfl rfl rfl (by kernel_rfl) (FnD.use (h2)) rfl rfl rfl rfl rfl rfl) rfl rfl ?_)
    (refine wlk ?_)
    (refine SqA.b1 (op_bsT (T := TB) (f := Lt.d) [(⟨ng, dn us xl, dn us xr⟩ : Lt)] rfl rfl rfl rfl rfl rfl rfl rfl rfl rfl rfl) rfl rfl ?_)
    (refine wlk ?_)
    exact ⟨k + 1, by omega, fgs, by omega⟩
  · have : k = c.length := by omega
    subst this
    rw [List.take_length]
    refine dwp_wk (Wk.freezeAt (d := 6) rfl) ?_
    (refine wlk ?_)
    (refine SqA.b1 (op_call none rfl rfl rfl (by kernel_rfl) (FnD.use (hn)) rfl rfl rfl rfl rfl rfl) rfl rfl ?_)
    (refine wlk ?_)
    (first | (refine finR (.tmp rfl (.tmp rfl .nil)) rfl rfl ?_) | (refine finN (.tmp rfl (.tmp rfl .nil)) rfl rfl ?_))
    rfl
end Go.Proofs.YtmanhdacnkpclaaDoor
