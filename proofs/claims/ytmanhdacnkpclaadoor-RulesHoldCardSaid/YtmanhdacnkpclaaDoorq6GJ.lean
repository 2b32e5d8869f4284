/- Lending by the header's value. -/
import Derived.Test.YtmanhdacnkpclaaDoorq6Ff
namespace Go.Proofs.YtmanhdacnkpclaaDoor
set_option linter.all false
open Go.RowKit
section
variable {P : Program} {n : Nat} {o : Oper} {σ : St}
theorem lend_val {L : Tag → Prop} {s : Operand} {t E m : Nat} {v : Value} {ds : List D} (hs : St.ev σ s = some (.one (.c (.val v)))) (hk : St.get σ (.t t) = some (.one (.c (.ownK v E m ds)))) (hL : L (.own (.t t) 0 0)) : Lend n σ L (opKey s ++ [.t t]) s (.c (.arr ds)) := fun σ' hag C who a w hr k p => by
  have e : a.eval s = v := hr.ev ((ev_agree fun k hk => hag k (List.mem_append_left _ hk)).trans hs)
  obtain ⟨e2, h1⟩ := hr.slot t _ ((hag (.t t) (by simp)).trans hk)
  have h2 : cvm w (tagAll (.own (.t t) 0 0) .froz who) .froz (.arr ds) (a.tmps.getD t undef) := cvm.tag_frz (E := E) (m := m) h1
  rw [e2] at h2
  rw [e]
  exact rd.wide h2 fun b _ hb => lendT_tag (by simp) hL hb
theorem lend_valB {L : Tag → Prop} {s : Operand} {j q E m tp : Nat} {v : Value} {ds : List D} {cs : List CV} (hs : St.ev σ s = some (.one (.c (.val v)))) (hp : St.get σ (.t tp) = some (.one (.c (.ptr j 0)))) (hb : St.get σ (.b j) = some (.box cs)) (hq : cs[q]? = some (.ownK v E m ds)) (hmc : Nat.ble j EXT = true) (hL : L (.own (.b j) 0 q)) :
    Lend n σ L (opKey s ++ [.t tp, .b j]) s (.c (.arr ds)) := fun σ' hag C who a w hr k p => by
  have e : a.eval s = v := hr.ev ((ev_agree fun k hk => hag k (List.mem_append_left _ hk)).trans hs)
  obtain ⟨b, _, hbw⟩ := hr.slot tp _ ((hag (.t tp) (by simp)).trans hp)
  obtain ⟨vs, E', h1, h2, h3, h4⟩ := box_cell hr hbw ((hag (.b j) (by simp)).trans hb) hmc
  have hlt : q < vs.length := by rw [h2]; exact (List.getElem?_eq_some_iff.1 hq).1
  obtain ⟨e2, h5⟩ := h4 q _ _ hq (List.getElem?_eq_getElem hlt)
  have h6 : cvm w (tagAll (.own (.b j) 0 q) .froz who) .froz (.arr ds) vs[q] := cvm.tag_frz (E := E) (m := m) h5
  rw [e2] at h6
  rw [e]
  exact rd.wide h6 fun b _ hb => lendT_tag (by simp) hL hb
end
end Go.Proofs.YtmanhdacnkpclaaDoor
