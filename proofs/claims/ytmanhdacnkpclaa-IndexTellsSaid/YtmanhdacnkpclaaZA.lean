/- Nothing, kept as an empty list. -/
import Derived.Test.YtmanhdacnkpclaaGZ
namespace Go.Proofs.Ytmanhdacnkpclaa
set_option linter.unusedVariables false
set_option linter.unusedSimpArgs false
open Go.RowKit
section
variable {P : Program} {n : Nat} {o : Oper} {σ : St}
theorem Op1.wk {i : Info} {d : Nat} {x x' : X} (h : Op1 P n o i σ [(.t d, some x)]) (hi : x'.ids = x.ids) (hw : ∀ w who v, Xm w who (.t d) x v → Xm w who (.t d) x' v) : Op1 P n o i σ [(.t d, some x')] where
  does := fun σ' hag hal C who a w hr hdst K Q hK => h.does σ' hag hal C who a w hr hdst K Q fun who' v w' hr' => by
    have h1 := hr'.addSlot (x := x') (hw _ _ _ (hr'.slot d x St.get_same))
    refine hK who' v w' (h1.forget fun k y hy => ?_)
    rcases Classical.em (Key.t d = k) with rfl | hne
    · rw [List.singleton_append, St.get_same] at hy
      rw [St.get_same]; exact hy
    · rw [List.singleton_append, St.get_ne (by simpa using hne)] at hy
      rw [St.get_ne (by simpa using hne), List.singleton_append, St.get_ne (by simpa using hne)]
      exact hy
  wr := fun e he => by
    simp at he; subst he
    exact h.wr (.t d, some x) (by simp)
  me := fun j hj => h.me j (by simpa [St.ids, oids, hi] using hj)
  al := h.al
theorem op_bsNil {T : Tabs P} {d t E b : Nat} {zs : List Value} {ps : Array (Nat × Operand)} (hd : o.dst = some d) (ho : o.op = .buildSlice t 1 ps) (hT : T.sl t = some (E, 1, b)) (hz : T.zo E = some zs)
    (hzo : zs.all Value.oneCell' = true) (hzm : zs.length = 1) (hb : buildC σ ((List.range 1).map fun i => (i * 1, 1)) ps.toList ((List.replicate 1 (zs.map CV.val)).flatten) = some [.val (.slice none 0 0)]) :
    Op1 P n o ⟨partKeys ps.toList, [.t d], []⟩ σ [(.t d, some (.one (.c (.own E 1 ([[]].map Is.d)))))] := by
  obtain ⟨z, hzz⟩ := T.sl_ok hT
  refine Op1.wk (op_bsOwn (ds := [.lit (.slice none 0 0)]) hd ho hzz (by decide) (by decide) (T.zo_ok hz) hzo hzm hb rfl rfl rfl) rfl ?_
  rintro w who v ⟨⟨xs, h1, h2, h3⟩, h4⟩
  refine ⟨⟨xs, h1, ?_, h3⟩, h4⟩
  obtain ⟨c1, c2, rfl, e1, e2⟩ := h2
  have e1 : c1 = [.slice none 0 0] := e1
  subst e1
  exact ⟨_, _, rfl, rd_nil, e2⟩
end
end Go.Proofs.Ytmanhdacnkpclaa
