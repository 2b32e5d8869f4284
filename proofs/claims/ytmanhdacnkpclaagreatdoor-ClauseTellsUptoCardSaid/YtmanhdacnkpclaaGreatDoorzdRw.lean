/- From the reading that a row speaks of to our own: terms, lists, numbers. -/
import Derived.Test.YtmanhdacnkpclaaGreatDoorzdFa
import Derived.Test.YtmanhdacnkpclaaGreatDoorRows
import Derived.ProofKit
import Derived.SizedLaws
import Derived.OpenShut
import Derived.Test.YtmanhdacnkpclaaGreatDoorzdFd
import Derived.Test.YtmanhdacnkpclaaGreatDoorzdPb1
/- From the reading that a row speaks of to our own: terms, lists, numbers. -/
namespace Go.Proofs.YtmanhdacnkpclaaGreatDoor
set_option linter.unusedVariables false
set_option linter.unusedSimpArgs false
open Go.ChangeShapes Go.WideShapes Go.ChangeAt Go.RowKit

theorem Tryz.own : ownKnob Tryz.prog.godebug = none := by kernel_rfl
theorem Tryz.laidOut : laidOutB Tryz.prog = true := by kernel_rfl

theorem exists_list {α : Type} {R : Nat → α → Prop} : ∀ n, (∀ i, i < n → ∃ x, R i x) → ∃ l : List α, l.length = n ∧ ∀ i x, l[i]? = some x → R i x
  | 0, _ => ⟨[], rfl, by simp⟩
  | n + 1, h => by
    obtain ⟨l, hl, hR⟩ := exists_list n (fun i hi => h i (by omega))
    obtain ⟨y, hy⟩ := h n (by omega)
    refine ⟨l ++ [y], by simp [hl], fun i x hx => ?_⟩
    rcases Nat.lt_or_ge i n with hi | hi
    · rw [List.getElem?_append_left (by omega)] at hx; exact hR i x hx
    · rw [List.getElem?_append_right (by omega)] at hx
      have : i - l.length = 0 := by
        rcases Nat.eq_zero_or_pos (i - l.length) with h0 | h0
        · exact h0
        · rw [List.getElem?_eq_none (by simp; omega)] at hx; cases hx
      rw [this] at hx
      simp at hx; subst hx
      have : i = n := by omega
      subst this; exact hy

theorem rds_cells {α : Type} {f : α → D} {w : World} {S : Nat → Prop} {m b : Nat} : ∀ (l : List α) (o : Nat),
    (∀ i x, l[i]? = some x → ∃ cs, cs.length = m ∧ rd w S (f x) cs ∧ ∀ j u, cs[j]? = some u → w.cell? ⟨b, o + i * m + j, none⟩ = some u) →
    ∃ xs, rds w S (l.map f) xs ∧ ∀ j u, xs[j]? = some u → w.cell? ⟨b, o + j, none⟩ = some u
  | [], _, _ => ⟨[], rfl, by simp⟩
  | y :: l, o, h => by
    obtain ⟨cs, hc, hr, hcell⟩ := h 0 y rfl
    obtain ⟨xs, hx, hxc⟩ := rds_cells l (o + m) (fun i x hi => by
      obtain ⟨cs, h1, h2, h3⟩ := h (i + 1) x (by simpa using hi)
      exact ⟨cs, h1, h2, fun j u hu => by
        have := h3 j u hu
        rw [Nat.add_mul, Nat.one_mul] at this
        rw [show o + m + i * m + j = o + (i * m + m) + j by omega]; exact this⟩)
    refine ⟨cs ++ xs, ⟨cs, xs, rfl, hr, hx⟩, fun j u hu => ?_⟩
    rcases Nat.lt_or_ge j cs.length with hj | hj
    · rw [List.getElem?_append_left hj] at hu
      have := hcell j u hu
      simpa using this
    · rw [List.getElem?_append_right hj, hc] at hu
      have := hxc _ u hu
      rw [show o + m + (j - m) = o + j by omega] at this; exact this

section
variable {H : Type} {enc : TypeId × Value → H} {P : Program} {w : World} {base : Nat} {spare : Nat → Bool} {held : Bool}
theorem trod_list {α : Type} {f : α → D} {T E m : Nat} (hT : P.underlying T = some (.slice E)) (hE : P.cellsOf E = m) (hm : 0 < m) {fuel : Nat}
    (ih : ∀ n cs x, n < fuel → DataW.trod enc P w base spare held n E cs = some x → ∃ y, rd w (fun _ => True) (f y) cs) {cs : List Value} {x : DataW H × List MemPlace}
    (h : DataW.trod enc P w base spare held fuel T cs = some x) : ∃ l v, cs = [v] ∧ RdL f w (fun _ => True) l v := by
  rcases DataW.trod_slice hT h with ⟨rfl, _⟩ | ⟨a, len, cap, elems, rest, n, rfl, rfl, _, hb, hl, hm', hlen, hel, _⟩
  · exact ⟨[], _, rfl, RdL.nil 0 (by omega) none⟩
  · rw [hE] at hel
    have hi : ∀ i, i < len → ∃ y, ∃ cs, cs.length = m ∧ rd w (fun _ => True) (f y) cs ∧ ∀ j, j < m → w.cell? ((a.add (i * m)).add j) = cs[j]? := by
      intro i hi
      have h1 := hel i hi
      have h2 : elems[i]? = some (elems[i]'(by omega)) := List.getElem?_eq_getElem (by omega)
      rw [h2] at h1
      obtain ⟨cs, hcs, htr⟩ := Option.bind_eq_some_iff.1 h1
      obtain ⟨y, hy⟩ := ih n cs _ (by omega) htr
      obtain ⟨_, hcl, hc⟩ := World.cells?_some hcs
      exact ⟨y, cs, hcl, hy, hc⟩
    obtain ⟨l, hll, hR⟩ := exists_list len hi
    refine ⟨l, _, rfl, ?_⟩
    refine ⟨some a, cap, by simp [hll], by simpa [hll] using hl, hm', ?_⟩
    rcases Nat.eq_zero_or_pos len with h0 | h0
    · left; simp [hll, h0]
    · right
      obtain ⟨b, o, sp⟩ := a
      have hsp : sp = none := by
        obtain ⟨y, cs, h1, _, h3⟩ := hi 0 h0
        have := h3 0 hm
        rw [List.getElem?_eq_getElem (by omega)] at this
        simpa [Addr.add] using World.cell?_spot this
      subst hsp
      have hadd : ∀ i j, ((⟨b, o, none⟩ : Addr).add (i * m)).add j = ⟨b, o + i * m + j, none⟩ := by
        intro i j; rw [add_lit, add_lit]
      obtain ⟨xs, hx, hxc⟩ := rds_cells (f := f) (w := w) (S := fun _ => True) (m := m) (b := b) l o (fun i y hy => by
        have hil : i < l.length := (List.getElem?_eq_some_iff.1 hy).1
        obtain ⟨cs, h1, h2, h3⟩ := hR i y hy
        refine ⟨cs, h1, h2, fun j u hu => ?_⟩
        have hj : j < m := by rw [← h1]; exact (List.getElem?_eq_some_iff.1 hu).1
        rw [← hadd, h3 j hj]; exact hu)
      have hbs : b < w.heap.size := by
        obtain ⟨y, cs, h1, _, h3⟩ := hi 0 h0
        have := h3 0 hm
        rw [List.getElem?_eq_getElem (by omega), hadd] at this
        exact World.block_lt_of_cell? w _ this
      exact ⟨b, o, xs, rfl, trivial, hbs, hx, hxc⟩
end

section
variable {H : Type} {enc : TypeId × Value → H} {w : World} {base : Nat} {spare : Nat → Bool} {held : Bool}
theorem trod_intD {fuel : Nat} {cs : List Value} {x : DataW H × List MemPlace} (h : DataW.trod enc Tryz.prog w base spare held fuel 3 cs = some x) : ∃ y, rd w (fun _ => True) (Int.d y) cs := by
  obtain ⟨n, rfl, _⟩ := DataW.trod_int Tryz.underlying3 h
  exact ⟨n, rfl⟩
set_option maxRecDepth 100000 in
theorem trod_tm : ∀ (fuel : Nat) (cs : List Value) (x : DataW H × List MemPlace), DataW.trod enc Tryz.prog w base spare held fuel 36 cs = some x → ∃ t : Tm, rd w (fun _ => True) t.d cs := by
  intro fuel
  induction fuel using Nat.strongRecOn with
  | ind fuel ih =>
    intro cs x h
    obtain ⟨xs, n, rfl, hx, hcl, hxl, hf⟩ := DataW.trod_struct Tryz.underlying36 h
    have hcl' : cs.length = 3 := hcl.trans (by kernel_rfl)
    match cs, hcl', xs, hxl with
    | [c0, c1, c2], _, [x0, x1, x2], _ =>
      have e4 : Tryz.prog.cellsOf 4 = 1 := by kernel_rfl
      have e3 : Tryz.prog.cellsOf 3 = 1 := by kernel_rfl
      have e24 : Tryz.prog.cellsOf 34 = 1 := by kernel_rfl
      have f0 : DataW.trod enc Tryz.prog w base spare held n 4 [c0] = some x0 := (congrArg (fun k => DataW.trod enc Tryz.prog w base spare held n 4 (List.take k [c0, c1, c2])) e4).symm.trans (hf 0 _ rfl)
      have f1 : DataW.trod enc Tryz.prog w base spare held n 3 [c1] = some x1 := (congrArg (fun k => DataW.trod enc Tryz.prog w base spare held n 3 (List.take k [c1, c2])) e3).symm.trans (hf 1 _ rfl)
      have f2 : DataW.trod enc Tryz.prog w base spare held n 34 [c2] = some x2 := (congrArg (fun k => DataW.trod enc Tryz.prog w base spare held n 34 (List.take k [c2])) e24).symm.trans (hf 2 _ rfl)
      obtain ⟨b, hb, _⟩ := DataW.trod_bool Tryz.underlying4 f0
      obtain ⟨m, hm, _⟩ := DataW.trod_int Tryz.underlying3 f1
      obtain ⟨l, v, hv, hl⟩ := trod_list (f := Tm.d) Tryz.underlying34 (m := 3) (by kernel_rfl) (by omega) (fun n' cs x hn ht => ih n' (by omega) cs x ht) f2
      simp at hb hm hv
      subst hb hm hv
      obtain ⟨a, c, rfl, _⟩ := hl.form
      exact ⟨⟨b, m, l⟩, rd_tm.2 ⟨a, c, rfl, hl⟩⟩

set_option maxRecDepth 100000 in
/-- an argument that is a slice of numbers, of whatever name -/
theorem open_nums {T : Nat} (hT : Tryz.prog.underlying T = some (.slice 3)) {r : Reach} {b0 : Nat} {v : Value} {d : DataW H} {p : List MemPlace} (hv : Value.okWide Tryz.prog w r b0 T v) (h : DataW.Trod enc Tryz.prog w base spare held T v d p) :
    ∃ l : List Int, RdI w (fun _ => True) l v := by
  obtain ⟨a0, len, cap, rfl⟩ := okWide_slice hT hv
  obtain ⟨fuel, hf⟩ := h
  obtain ⟨l, v, e, hl⟩ := trod_list (f := Int.d) hT (m := 1) (by kernel_rfl) (by omega) (fun n cs x _ ht => trod_intD ht) hf
  simp [Value.cells] at e
  subst e
  exact ⟨l, hl⟩
set_option maxRecDepth 100000 in
/-- arguments read behind a call that has only made memory as they read ahead of it -/
theorem trodAll_below {W W' : World} (hb : Below W.heap.size W W') : ∀ (ts : List TypeId) (vs : List Value) (ds : List (DataW H)) (ps : List MemPlace),
    (∀ t ∈ ts, Tryz.prog.readableRec t = true ∧ t < Tryz.prog.types.size) → DataW.TrodAll enc Tryz.prog W 0 (fun _ => true) true ts vs ds ps → (∀ x ∈ ps, x.block < W.heap.size) →
    DataW.TrodAll enc Tryz.prog W' 0 (fun b => decide (b < W.heap.size)) true ts vs ds ps
  | [], vs, ds, ps, _, h, _ => by obtain ⟨rfl, rfl, rfl⟩ := trodAll_nil h; exact trodAll_mk0
  | t :: ts, vs, ds, ps, hts, h, hlt => by
    obtain ⟨v, vs', d, ds', p, q, rfl, rfl, rfl, hd, hr⟩ := trodAll_cons h
    refine trodAll_cons_mk (Below.trod Tryz.laidOut (hts t (by simp)).1 (hts t (by simp)).2 hd hb (fun x hx => hlt x (by simp [hx]))) (trodAll_below hb ts vs' ds' q (fun t' ht' => hts t' (by simp [ht'])) hr (fun x hx => hlt x (by simp [hx])))
end
end Go.Proofs.YtmanhdacnkpclaaGreatDoor

/- From the reading that a row speaks of to our own: more kinds. -/
namespace Go.Proofs.YtmanhdacnkpclaaGreatDoor
set_option linter.unusedVariables false
set_option linter.unusedSimpArgs false
open Go.ChangeShapes Go.WideShapes Go.ChangeAt Go.RowKit
section
variable {H : Type} {enc : TypeId × Value → H} {w : World} {base : Nat} {spare : Nat → Bool} {held : Bool}
/-- how long a slice is, as the row's reading has it -/
theorem trod_len {P : Program} {T E : Nat} (hT : P.underlying T = some (.slice E)) {a : Option Addr} {len cap : Nat} {d : DataW H} {p : List MemPlace} (h : DataW.Trod enc P w base spare held T (.slice a len cap) d p) :
    len = 0 ∨ ∃ elems rest, d = .slice elems rest ∧ elems.length = len := by
  obtain ⟨fuel, hf⟩ := h
  rcases DataW.trod_slice hT hf with ⟨e, _⟩ | ⟨a', len', cap', elems, rest, n, _, e, ex, _, _, _, hl, _⟩
  · left
    simp [Value.cells] at e
    exact e.2.1
  · right
    simp [Value.cells] at e
    injection ex with e1 e2
    exact ⟨_, _, e1, by rw [List.length_map, hl]; exact e.2.1.symm⟩

set_option maxRecDepth 100000 in
theorem trod_lt (fuel : Nat) (cs : List Value) (x : DataW H × List MemPlace) (h : DataW.trod enc Tryz.prog w base spare held fuel 44 cs = some x) : ∃ l : Lt, rd w (fun _ => True) l.d cs := by
  obtain ⟨xs, n, rfl, hx, hcl, hxl, hf⟩ := DataW.trod_struct Tryz.underlying44 h
  have hcl' : cs.length = 7 := hcl.trans (by kernel_rfl)
  match cs, hcl', xs, hxl with
  | [c0, c1, c2, c3, c4, c5, c6], _, [x0, x1, x2], _ =>
    have e4 : Tryz.prog.cellsOf 4 = 1 := by kernel_rfl
    have e3 : Tryz.prog.cellsOf 36 = 3 := by kernel_rfl
    have f0 : DataW.trod enc Tryz.prog w base spare held n 4 [c0] = some x0 := (congrArg (fun k => DataW.trod enc Tryz.prog w base spare held n 4 (List.take k [c0, c1, c2, c3, c4, c5, c6])) e4).symm.trans (hf 0 _ rfl)
    have f1 : DataW.trod enc Tryz.prog w base spare held n 36 [c1, c2, c3] = some x1 := (congrArg (fun k => DataW.trod enc Tryz.prog w base spare held n 36 (List.take k [c1, c2, c3, c4, c5, c6])) e3).symm.trans (hf 1 _ rfl)
    have f2 : DataW.trod enc Tryz.prog w base spare held n 36 [c4, c5, c6] = some x2 := (congrArg (fun k => DataW.trod enc Tryz.prog w base spare held n 36 (List.take k [c4, c5, c6])) e3).symm.trans (hf 2 _ rfl)
    obtain ⟨b, hb, _⟩ := DataW.trod_bool Tryz.underlying4 f0
    obtain ⟨t, ht⟩ := trod_tm _ _ _ f1
    obtain ⟨u, hu⟩ := trod_tm _ _ _ f2
    simp at hb
    subst hb
    exact ⟨⟨b, t, u⟩, [.bool b], [c1, c2, c3, c4, c5, c6], rfl, rfl, [c1, c2, c3], [c4, c5, c6], rfl, ht, [c4, c5, c6], [], rfl, hu, rfl⟩
set_option maxRecDepth 100000 in
/-- an argument that is a clause -/
theorem open_clause {r : Reach} {b0 : Nat} {v : Value} {d : DataW H} {p : List MemPlace} (hv : Value.okWide Tryz.prog w r b0 25 v) (h : DataW.Trod enc Tryz.prog w base spare held 25 v d p) :
    ∃ l : List Lt, RdL Lt.d w (fun _ => True) l v := by
  obtain ⟨a0, len, cap, rfl⟩ := okWide_slice Tryz.underlying25 hv
  obtain ⟨fuel, hf⟩ := h
  obtain ⟨l, v, e, hl⟩ := trod_list (f := Lt.d) Tryz.underlying25 (m := 7) (by kernel_rfl) (by omega) (fun n cs x _ ht => trod_lt n cs x ht) hf
  simp [Value.cells] at e
  subst e
  exact ⟨l, hl⟩
end
end Go.Proofs.YtmanhdacnkpclaaGreatDoor

/- From the reading that a row speaks of to our own: bindings, literals, models, more. -/
namespace Go.Proofs.YtmanhdacnkpclaaGreatDoor
set_option linter.all false
open Go.ChangeShapes Go.WideShapes Go.ChangeAt Go.RowKit
section
variable {H : Type} {enc : TypeId × Value → H} {w : World} {base : Nat} {spare : Nat → Bool} {held : Bool}
set_option maxRecDepth 100000 in
theorem trod_pr (fuel : Nat) (cs : List Value) (x : DataW H × List MemPlace) (h : DataW.trod enc Tryz.prog w base spare held fuel 38 cs = some x) : ∃ l : Pr, rd w (fun _ => True) (Pr.d l) cs := by
  obtain ⟨xs, n, rfl, hx, hcl, hxl, hf⟩ := DataW.trod_struct Tryz.underlying38 h
  have hcl' : cs.length = 4 := hcl.trans (by kernel_rfl)
  match cs, hcl', xs, hxl with
  | [c0, c1, c2, c3], _, [x0, x1], _ =>
    have e4 : Tryz.prog.cellsOf 3 = 1 := by kernel_rfl
    have e3 : Tryz.prog.cellsOf 36 = 3 := by kernel_rfl
    have f0 : DataW.trod enc Tryz.prog w base spare held n 3 [c0] = some x0 := (congrArg (fun k => DataW.trod enc Tryz.prog w base spare held n 3 (List.take k [c0, c1, c2, c3])) e4).symm.trans (hf 0 _ rfl)
    have f1 : DataW.trod enc Tryz.prog w base spare held n 36 [c1, c2, c3] = some x1 := (congrArg (fun k => DataW.trod enc Tryz.prog w base spare held n 36 (List.take k [c1, c2, c3])) e3).symm.trans (hf 1 _ rfl)
    obtain ⟨b, hb, _⟩ := DataW.trod_int Tryz.underlying3 f0
    obtain ⟨t, ht⟩ := trod_tm _ _ _ f1
    simp at hb
    subst hb
    exact ⟨(b, t), [.int .i64 b], [c1, c2, c3], rfl, rfl, [c1, c2, c3], [], rfl, ht, rfl⟩
set_option maxRecDepth 100000 in
/-- an argument that is bindings -/
theorem open_sub {r : Reach} {b0 : Nat} {v : Value} {d : DataW H} {p : List MemPlace} (hv : Value.okWide Tryz.prog w r b0 27 v) (h : DataW.Trod enc Tryz.prog w base spare held 27 v d p) :
    ∃ l : List Pr, RdL Pr.d w (fun _ => True) l v := by
  obtain ⟨a0, len, cap, rfl⟩ := okWide_slice Tryz.underlying27 hv
  obtain ⟨fuel, hf⟩ := h
  obtain ⟨l, v, e, hl⟩ := trod_list (f := Pr.d) Tryz.underlying27 (m := 4) (by kernel_rfl) (by omega) (fun n cs x _ ht => trod_pr n cs x ht) hf
  simp [Value.cells] at e
  subst e
  exact ⟨l, hl⟩
end
end Go.Proofs.YtmanhdacnkpclaaGreatDoor
