/- What functions do: Down, Rewrite of the document's answer. -/
import Derived.Test.YtmanhdacnkpclaaDoorQ1
import Derived.Test.YtmanhdacnkpclaaDoorN2
namespace Go.Proofs.YtmanhdacnkpclaaDoor
set_option linter.all false
open Go.RowKit

theorem match_more {p t : Tm} {s : List Pr} (h : moreR [] p t = (s, true)) : matchR p t = (s, true) := by unfold matchR; rw [h]
theorem match_no {p t : Tm} {s : List Pr} (h : moreR [] p t = (s, false)) : matchR p t = ([], false) := by unfold matchR; rw [h]
theorem downS_size' {S : List Int} {us : List (List Lt)} (hu : UsSz S us) {t t' : Tm} (ht : t.ar S = true) (h : downS us t = some t') : t'.ar S = true ∧ t'.size ≤ t.size := by
  obtain ⟨h1, h2, _⟩ := downS_some hu.ok ht h
  exact ⟨h1, (above_size (Tm.ar_okv _ h1) h2).1⟩
theorem dn_small' {S : List Int} {us : List (List Lt)} (hu : UsSz S us) {c : List Lt} (hc : COk S c) : clSz (each (dn us) c) := fun l hl => by
  simp only [each, List.mem_map] at hl
  obtain ⟨x, hx, rfl⟩ := hl
  have h1 := (dn_wf hu.ok (hc.wf x hx).1).2
  have h2 := (dn_wf hu.ok (hc.wf x hx).2).2
  have := hc.size x hx
  dsimp only
  omega
end Go.Proofs.YtmanhdacnkpclaaDoor
