/- From the reading that a row speaks of to our own: more kinds. -/
import Derived.Test.YtmanhdacnkpclaaRow
import Derived.Test.YtmanhdacnkpclaaGY
namespace Go.Proofs.Ytmanhdacnkpclaa
set_option linter.unusedVariables false
set_option linter.unusedSimpArgs false
open Go.ChangeShapes Go.WideShapes Go.ChangeAt Go.RowKit
section
variable {H : Type} {enc : TypeId × Value → H} {w : World} {base : Nat} {spare : Nat → Bool} {held : Bool}
/-- how long a slice is, as the row's reading has it -/
theorem trod_len {P : Program} {T E : Nat} (hT : P.underlying T = some (.slice E)) {a : Option Addr} {len cap : Nat} {d : DataW H} {p : List MemPlace} (h : DataW.Trod enc P w base spare held T (.slice a len cap) d p) :
    len = 0 ∨ ∃ elems rest, d = .slice elems rest ∧ elems.length = len := by
  obtain ⟨fuel, hf⟩ := h
  rcases DataW.trod_slice hT hf with ⟨e, _⟩ | ⟨a', len', cap', elems, rest, n, _, e, ex, _, _, _, hl, _⟩
  · left
    simp [Value.cells] at e
    exact e.2.1
  · right
    simp [Value.cells] at e
    injection ex with e1 e2
    exact ⟨_, _, e1, by rw [List.length_map, hl]; exact e.2.1.symm⟩

set_option maxRecDepth 100000 in
theorem trod_lt (fuel : Nat) (cs : List Value) (x : DataW H × List MemPlace) (h : DataW.trod enc Try.prog w base spare held fuel 59 cs = some x) : ∃ l : Lt, rd w (fun _ => True) l.d cs := by
  obtain ⟨xs, n, rfl, hx, hcl, hxl, hf⟩ := DataW.trod_struct Try.underlying59 h
  have hcl' : cs.length = 7 := hcl.trans (by kernel_rfl)
  match cs, hcl', xs, hxl with
  | [c0, c1, c2, c3, c4, c5, c6], _, [x0, x1, x2], _ =>
    have e4 : Try.prog.cellsOf 4 = 1 := by kernel_rfl
    have e3 : Try.prog.cellsOf 26 = 3 := by kernel_rfl
    have f0 : DataW.trod enc Try.prog w base spare held n 4 [c0] = some x0 := (congrArg (fun k => DataW.trod enc Try.prog w base spare held n 4 (List.take k [c0, c1, c2, c3, c4, c5, c6])) e4).symm.trans (hf 0 _ rfl)
    have f1 : DataW.trod enc Try.prog w base spare held n 26 [c1, c2, c3] = some x1 := (congrArg (fun k => DataW.trod enc Try.prog w base spare held n 26 (List.take k [c1, c2, c3, c4, c5, c6])) e3).symm.trans (hf 1 _ rfl)
    have f2 : DataW.trod enc Try.prog w base spare held n 26 [c4, c5, c6] = some x2 := (congrArg (fun k => DataW.trod enc Try.prog w base spare held n 26 (List.take k [c4, c5, c6])) e3).symm.trans (hf 2 _ rfl)
    obtain ⟨b, hb, _⟩ := DataW.trod_bool Try.underlying4 f0
    obtain ⟨t, ht⟩ := trod_tm _ _ _ f1
    obtain ⟨u, hu⟩ := trod_tm _ _ _ f2
    simp at hb
    subst hb
    exact ⟨⟨b, t, u⟩, [.bool b], [c1, c2, c3, c4, c5, c6], rfl, rfl, [c1, c2, c3], [c4, c5, c6], rfl, ht, [c4, c5, c6], [], rfl, hu, rfl⟩
set_option maxRecDepth 100000 in
/-- an argument that is a clause -/
theorem open_clause {r : Reach} {b0 : Nat} {v : Value} {d : DataW H} {p : List MemPlace} (hv : Value.okWide Try.prog w r b0 48 v) (h : DataW.Trod enc Try.prog w base spare held 48 v d p) :
    ∃ l : List Lt, RdL Lt.d w (fun _ => True) l v := by
  obtain ⟨a0, len, cap, rfl⟩ := okWide_slice Try.underlying48 hv
  obtain ⟨fuel, hf⟩ := h
  obtain ⟨l, v, e, hl⟩ := trod_list (f := Lt.d) Try.underlying48 (m := 7) (by kernel_rfl) (by omega) (fun n cs x _ ht => trod_lt n cs x ht) hf
  simp [Value.cells] at e
  subst e
  exact ⟨l, hl⟩
set_option maxRecDepth 100000 in
/-- an argument that is three numbers -/
theorem open_i3 {r : Reach} {b0 : Nat} {v : Value} {d : DataW H} {p : List MemPlace} (hv : Value.okWide Try.prog w r b0 46 v) (h : DataW.Trod enc Try.prog w base spare held 46 v d p) :
    ∃ x y z : Int, v = .agg #[.int .i64 x, .int .i64 y, .int .i64 z] := by
  simp only [Value.okWide, ar3] at hv
  obtain ⟨cs, rfl, h1, _⟩ := hv
  obtain ⟨fuel, hf⟩ := h
  obtain ⟨xs, n, rfl, hx, hcl, hxl, hg⟩ := DataW.trod_array ar3 hf
  have hc3 : Try.prog.cellsOf 46 = 3 := by kernel_rfl
  have hc1 : Try.prog.cellsOf 3 = 1 := by kernel_rfl
  obtain ⟨cs⟩ := cs
  have hcl' : cs.length = 3 := by rw [hc3] at h1; simpa using h1
  match cs, hcl', xs, hxl with
  | [c0, c1, c2], _, [x0, x1, x2], _ =>
    have f0 := hg 0 (by omega)
    have f1 := hg 1 (by omega)
    have f2 := hg 2 (by omega)
    rw [hc1] at f0 f1 f2
    obtain ⟨a, ha, _⟩ := DataW.trod_int Try.underlying3 (show DataW.trod enc Try.prog w base spare held n 3 [c0] = some x0 from f0)
    obtain ⟨b, hb, _⟩ := DataW.trod_int Try.underlying3 (show DataW.trod enc Try.prog w base spare held n 3 [c1] = some x1 from f1)
    obtain ⟨c, hc, _⟩ := DataW.trod_int Try.underlying3 (show DataW.trod enc Try.prog w base spare held n 3 [c2] = some x2 from f2)
    simp at ha hb hc
    exact ⟨a, b, c, by rw [ha, hb, hc]⟩
theorem i3_argS {w : World} {S : Nat → Prop} {x y z : Int} : ArgS w S (i3 x y z) (.agg #[.int .i64 x, .int .i64 y, .int .i64 z]) := by
  refine ⟨[_, _, _], rfl, rfl, fun q c v hq hv => ?_⟩
  match q with
  | 0 => simp at hq hv; subst hq hv; exact ⟨rfl, rfl⟩
  | 1 => simp at hq hv; subst hq hv; exact ⟨rfl, rfl⟩
  | 2 => simp at hq hv; subst hq hv; exact ⟨rfl, rfl⟩
  | q + 3 => simp at hq
end
end Go.Proofs.Ytmanhdacnkpclaa
