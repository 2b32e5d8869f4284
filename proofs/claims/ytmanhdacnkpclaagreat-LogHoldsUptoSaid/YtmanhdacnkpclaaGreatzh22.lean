/- From the reading that a row speaks of to our own: terms, lists, numbers. -/
import Derived.Test.YtmanhdacnkpclaaGreatzh01
import Derived.Test.YtmanhdacnkpclaaGreatRows
import Derived.ProofKit
import Derived.SizedLaws
import Derived.OpenShut
import Derived.Test.YtmanhdacnkpclaaGreatzh04
import Derived.Test.YtmanhdacnkpclaaGreatzh08
import Derived.Test.YtmanhdacnkpclaaGreatzh17
import Derived.JoinedCond
/- From the reading that a row speaks of to our own: terms, lists, numbers. -/
namespace Go.Proofs.YtmanhdacnkpclaaGreat
set_option linter.unusedVariables false
set_option linter.unusedSimpArgs false
open Go.ChangeShapes Go.WideShapes Go.ChangeAt Go.RowKit
theorem Tryz.own : ownKnob Tryz.prog.godebug = none := by kernel_rfl
theorem Tryz.laidOut : laidOutB Tryz.prog = true := by kernel_rfl
theorem exists_list {α : Type} {R : Nat → α → Prop} : ∀ n, (∀ i, i < n → ∃ x, R i x) → ∃ l : List α, l.length = n ∧ ∀ i x, l[i]? = some x → R i x
  | 0, _ => ⟨[], rfl, by simp⟩
  | n + 1, h => by
    obtain ⟨l, hl, hR⟩ := exists_list n (fun i hi => h i (by omega))
    obtain ⟨y, hy⟩ := h n (by omega)
    refine ⟨l ++ [y], by simp [hl], fun i x hx => ?_⟩
    rcases Nat.lt_or_ge i n with hi | hi
    · rw [List.getElem?_append_left (by omega)] at hx; exact hR i x hx
    · rw [List.getElem?_append_right (by omega)] at hx
      have : i - l.length = 0 := by
        rcases Nat.eq_zero_or_pos (i - l.length) with h0 | h0
        · exact h0
        · rw [List.getElem?_eq_none (by simp; omega)] at hx; cases hx
      rw [this] at hx
      simp at hx; subst hx
      have : i = n := by omega
      subst this; exact hy
theorem rds_cells {α : Type} {f : α → D} {w : World} {S : Nat → Prop} {m b : Nat} : ∀ (l : List α) (o : Nat),
    (∀ i x, l[i]? = some x → ∃ cs, cs.length = m ∧ rd w S (f x) cs ∧ ∀ j u, cs[j]? = some u → w.cell? ⟨b, o + i * m + j, none⟩ = some u) →
    ∃ xs, rds w S (l.map f) xs ∧ ∀ j u, xs[j]? = some u → w.cell? ⟨b, o + j, none⟩ = some u
  | [], _, _ => ⟨[], rfl, by simp⟩
  | y :: l, o, h => by
    obtain ⟨cs, hc, hr, hcell⟩ := h 0 y rfl
    obtain ⟨xs, hx, hxc⟩ := rds_cells l (o + m) (fun i x hi => by
      obtain ⟨cs, h1, h2, h3⟩ := h (i + 1) x (by simpa using hi)
      exact ⟨cs, h1, h2, fun j u hu => by
        have := h3 j u hu
        rw [Nat.add_mul, Nat.one_mul] at this
        rw [show o + m + i * m + j = o + (i * m + m) + j by omega]; exact this⟩)
    refine ⟨cs ++ xs, ⟨cs, xs, rfl, hr, hx⟩, fun j u hu => ?_⟩
    rcases Nat.lt_or_ge j cs.length with hj | hj
    · rw [List.getElem?_append_left hj] at hu
      have := hcell j u hu
      simpa using this
    · rw [List.getElem?_append_right hj, hc] at hu
      have := hxc _ u hu
      rw [show o + m + (j - m) = o + j by omega] at this; exact this
section
variable {H : Type} {enc : TypeId × Value → H} {P : Program} {w : World} {base : Nat} {spare : Nat → Bool} {held : Bool}
theorem trod_list {α : Type} {f : α → D} {T E m : Nat} (hT : P.underlying T = some (.slice E)) (hE : P.cellsOf E = m) (hm : 0 < m) {fuel : Nat}
    (ih : ∀ n cs x, n < fuel → DataW.trod enc P w base spare held n E cs = some x → ∃ y, rd w (fun _ => True) (f y) cs) {cs : List Value} {x : DataW H × List MemPlace}
    (h : DataW.trod enc P w base spare held fuel T cs = some x) : ∃ l v, cs = [v] ∧ RdL f w (fun _ => True) l v := by
  rcases DataW.trod_slice hT h with ⟨rfl, _⟩ | ⟨a, len, cap, elems, rest, n, rfl, rfl, _, hb, hl, hm', hlen, hel, _⟩
  · exact ⟨[], _, rfl, RdL.nil 0 (by omega) none⟩
  · rw [hE] at hel
    have hi : ∀ i, i < len → ∃ y, ∃ cs, cs.length = m ∧ rd w (fun _ => True) (f y) cs ∧ ∀ j, j < m → w.cell? ((a.add (i * m)).add j) = cs[j]? := by
      intro i hi
      have h1 := hel i hi
      have h2 : elems[i]? = some (elems[i]'(by omega)) := List.getElem?_eq_getElem (by omega)
      rw [h2] at h1
      obtain ⟨cs, hcs, htr⟩ := Option.bind_eq_some_iff.1 h1
      obtain ⟨y, hy⟩ := ih n cs _ (by omega) htr
      obtain ⟨_, hcl, hc⟩ := World.cells?_some hcs
      exact ⟨y, cs, hcl, hy, hc⟩
    obtain ⟨l, hll, hR⟩ := exists_list len hi
    refine ⟨l, _, rfl, ?_⟩
    refine ⟨some a, cap, by simp [hll], by simpa [hll] using hl, hm', ?_⟩
    rcases Nat.eq_zero_or_pos len with h0 | h0
    · left; simp [hll, h0]
    · right
      obtain ⟨b, o, sp⟩ := a
      have hsp : sp = none := by
        obtain ⟨y, cs, h1, _, h3⟩ := hi 0 h0
        have := h3 0 hm
        rw [List.getElem?_eq_getElem (by omega)] at this
        simpa [Addr.add] using World.cell?_spot this
      subst hsp
      have hadd : ∀ i j, ((⟨b, o, none⟩ : Addr).add (i * m)).add j = ⟨b, o + i * m + j, none⟩ := by
        intro i j; rw [add_lit, add_lit]
      obtain ⟨xs, hx, hxc⟩ := rds_cells (f := f) (w := w) (S := fun _ => True) (m := m) (b := b) l o (fun i y hy => by
        have hil : i < l.length := (List.getElem?_eq_some_iff.1 hy).1
        obtain ⟨cs, h1, h2, h3⟩ := hR i y hy
        refine ⟨cs, h1, h2, fun j u hu => ?_⟩
        have hj : j < m := by rw [← h1]; exact (List.getElem?_eq_some_iff.1 hu).1
        rw [← hadd, h3 j hj]; exact hu)
      have hbs : b < w.heap.size := by
        obtain ⟨y, cs, h1, _, h3⟩ := hi 0 h0
        have := h3 0 hm
        rw [List.getElem?_eq_getElem (by omega), hadd] at this
        exact World.block_lt_of_cell? w _ this
      exact ⟨b, o, xs, rfl, trivial, hbs, hx, hxc⟩
end
section
variable {H : Type} {enc : TypeId × Value → H} {w : World} {base : Nat} {spare : Nat → Bool} {held : Bool}
theorem trod_intD {fuel : Nat} {cs : List Value} {x : DataW H × List MemPlace} (h : DataW.trod enc Tryz.prog w base spare held fuel 3 cs = some x) : ∃ y, rd w (fun _ => True) (Int.d y) cs := by
  obtain ⟨n, rfl, _⟩ := DataW.trod_int Tryz.underlying3 h
  exact ⟨n, rfl⟩
set_option maxRecDepth 100000 in
theorem trod_tm : ∀ (fuel : Nat) (cs : List Value) (x : DataW H × List MemPlace), DataW.trod enc Tryz.prog w base spare held fuel 75 cs = some x → ∃ t : Tm, rd w (fun _ => True) t.d cs := by
  intro fuel
  induction fuel using Nat.strongRecOn with
  | ind fuel ih =>
    intro cs x h
    obtain ⟨xs, n, rfl, hx, hcl, hxl, hf⟩ := DataW.trod_struct Tryz.underlying75 h
    have hcl' : cs.length = 3 := hcl.trans (by kernel_rfl)
    match cs, hcl', xs, hxl with
    | [c0, c1, c2], _, [x0, x1, x2], _ =>
      have e4 : Tryz.prog.cellsOf 4 = 1 := by kernel_rfl
      have e3 : Tryz.prog.cellsOf 3 = 1 := by kernel_rfl
      have e24 : Tryz.prog.cellsOf 73 = 1 := by kernel_rfl
      have f0 : DataW.trod enc Tryz.prog w base spare held n 4 [c0] = some x0 := (congrArg (fun k => DataW.trod enc Tryz.prog w base spare held n 4 (List.take k [c0, c1, c2])) e4).symm.trans (hf 0 _ rfl)
      have f1 : DataW.trod enc Tryz.prog w base spare held n 3 [c1] = some x1 := (congrArg (fun k => DataW.trod enc Tryz.prog w base spare held n 3 (List.take k [c1, c2])) e3).symm.trans (hf 1 _ rfl)
      have f2 : DataW.trod enc Tryz.prog w base spare held n 73 [c2] = some x2 := (congrArg (fun k => DataW.trod enc Tryz.prog w base spare held n 73 (List.take k [c2])) e24).symm.trans (hf 2 _ rfl)
      obtain ⟨b, hb, _⟩ := DataW.trod_bool Tryz.underlying4 f0
      obtain ⟨m, hm, _⟩ := DataW.trod_int Tryz.underlying3 f1
      obtain ⟨l, v, hv, hl⟩ := trod_list (f := Tm.d) Tryz.underlying73 (m := 3) (by kernel_rfl) (by omega) (fun n' cs x hn ht => ih n' (by omega) cs x ht) f2
      simp at hb hm hv
      subst hb hm hv
      obtain ⟨a, c, rfl, _⟩ := hl.form
      exact ⟨⟨b, m, l⟩, rd_tm.2 ⟨a, c, rfl, hl⟩⟩
set_option maxRecDepth 100000 in
theorem open_nums {T : Nat} (hT : Tryz.prog.underlying T = some (.slice 3)) {r : Reach} {b0 : Nat} {v : Value} {d : DataW H} {p : List MemPlace} (hv : Value.okWide Tryz.prog w r b0 T v) (h : DataW.Trod enc Tryz.prog w base spare held T v d p) :
    ∃ l : List Int, RdI w (fun _ => True) l v := by
  obtain ⟨a0, len, cap, rfl⟩ := okWide_slice hT hv
  obtain ⟨fuel, hf⟩ := h
  obtain ⟨l, v, e, hl⟩ := trod_list (f := Int.d) hT (m := 1) (by kernel_rfl) (by omega) (fun n cs x _ ht => trod_intD ht) hf
  simp [Value.cells] at e
  subst e
  exact ⟨l, hl⟩
set_option maxRecDepth 100000 in
theorem trodAll_below {W W' : World} (hb : Below W.heap.size W W') : ∀ (ts : List TypeId) (vs : List Value) (ds : List (DataW H)) (ps : List MemPlace),
    (∀ t ∈ ts, Tryz.prog.readableRec t = true ∧ t < Tryz.prog.types.size) → DataW.TrodAll enc Tryz.prog W 0 (fun _ => true) true ts vs ds ps → (∀ x ∈ ps, x.block < W.heap.size) →
    DataW.TrodAll enc Tryz.prog W' 0 (fun b => decide (b < W.heap.size)) true ts vs ds ps
  | [], vs, ds, ps, _, h, _ => by obtain ⟨rfl, rfl, rfl⟩ := trodAll_nil h; exact trodAll_mk0
  | t :: ts, vs, ds, ps, hts, h, hlt => by
    obtain ⟨v, vs', d, ds', p, q, rfl, rfl, rfl, hd, hr⟩ := trodAll_cons h
    refine trodAll_cons_mk (Below.trod Tryz.laidOut (hts t (by simp)).1 (hts t (by simp)).2 hd hb (fun x hx => hlt x (by simp [hx]))) (trodAll_below hb ts vs' ds' q (fun t' ht' => hts t' (by simp [ht'])) hr (fun x hx => hlt x (by simp [hx])))
end
end Go.Proofs.YtmanhdacnkpclaaGreat
/- From the reading that a row speaks of to our own: more kinds. -/
namespace Go.Proofs.YtmanhdacnkpclaaGreat
set_option linter.unusedVariables false
set_option linter.unusedSimpArgs false
open Go.ChangeShapes Go.WideShapes Go.ChangeAt Go.RowKit
section
variable {H : Type} {enc : TypeId × Value → H} {w : World} {base : Nat} {spare : Nat → Bool} {held : Bool}
set_option maxRecDepth 100000 in
theorem trod_lt (fuel : Nat) (cs : List Value) (x : DataW H × List MemPlace) (h : DataW.trod enc Tryz.prog w base spare held fuel 77 cs = some x) : ∃ l : Lt, rd w (fun _ => True) l.d cs := by
  obtain ⟨xs, n, rfl, hx, hcl, hxl, hf⟩ := DataW.trod_struct Tryz.underlying77 h
  have hcl' : cs.length = 7 := hcl.trans (by kernel_rfl)
  match cs, hcl', xs, hxl with
  | [c0, c1, c2, c3, c4, c5, c6], _, [x0, x1, x2], _ =>
    have e4 : Tryz.prog.cellsOf 4 = 1 := by kernel_rfl
    have e3 : Tryz.prog.cellsOf 75 = 3 := by kernel_rfl
    have f0 : DataW.trod enc Tryz.prog w base spare held n 4 [c0] = some x0 := (congrArg (fun k => DataW.trod enc Tryz.prog w base spare held n 4 (List.take k [c0, c1, c2, c3, c4, c5, c6])) e4).symm.trans (hf 0 _ rfl)
    have f1 : DataW.trod enc Tryz.prog w base spare held n 75 [c1, c2, c3] = some x1 := (congrArg (fun k => DataW.trod enc Tryz.prog w base spare held n 75 (List.take k [c1, c2, c3, c4, c5, c6])) e3).symm.trans (hf 1 _ rfl)
    have f2 : DataW.trod enc Tryz.prog w base spare held n 75 [c4, c5, c6] = some x2 := (congrArg (fun k => DataW.trod enc Tryz.prog w base spare held n 75 (List.take k [c4, c5, c6])) e3).symm.trans (hf 2 _ rfl)
    obtain ⟨b, hb, _⟩ := DataW.trod_bool Tryz.underlying4 f0
    obtain ⟨t, ht⟩ := trod_tm _ _ _ f1
    obtain ⟨u, hu⟩ := trod_tm _ _ _ f2
    simp at hb
    subst hb
    exact ⟨⟨b, t, u⟩, [.bool b], [c1, c2, c3, c4, c5, c6], rfl, rfl, [c1, c2, c3], [c4, c5, c6], rfl, ht, [c4, c5, c6], [], rfl, hu, rfl⟩
set_option maxRecDepth 100000 in
theorem open_clause {r : Reach} {b0 : Nat} {v : Value} {d : DataW H} {p : List MemPlace} (hv : Value.okWide Tryz.prog w r b0 39 v) (h : DataW.Trod enc Tryz.prog w base spare held 39 v d p) :
    ∃ l : List Lt, RdL Lt.d w (fun _ => True) l v := by
  obtain ⟨a0, len, cap, rfl⟩ := okWide_slice Tryz.underlying39 hv
  obtain ⟨fuel, hf⟩ := h
  obtain ⟨l, v, e, hl⟩ := trod_list (f := Lt.d) Tryz.underlying39 (m := 7) (by kernel_rfl) (by omega) (fun n cs x _ ht => trod_lt n cs x ht) hf
  simp [Value.cells] at e
  subst e
  exact ⟨l, hl⟩
end
end Go.Proofs.YtmanhdacnkpclaaGreat
/- From the reading that a row speaks of to our own: bindings, literals, models, more. -/
namespace Go.Proofs.YtmanhdacnkpclaaGreat
set_option linter.all false
open Go.ChangeShapes Go.WideShapes Go.ChangeAt Go.RowKit
section
variable {H : Type} {enc : TypeId × Value → H} {w : World} {base : Nat} {spare : Nat → Bool} {held : Bool}
abbrev mA (m : Md) : A1 := .agg [.val (.int .i64 m.size), .arr (m.tables.map Is.d)]
set_option maxRecDepth 100000 in
theorem trod_ints (fuel : Nat) (cs : List Value) (x : DataW H × List MemPlace) (h : DataW.trod enc Tryz.prog w base spare held fuel 22 cs = some x) : ∃ l : List Int, rd w (fun _ => True) (Is.d l) cs := by
  obtain ⟨l, v, e, hl⟩ := trod_list (f := Int.d) Tryz.underlying22 (m := 1) (by kernel_rfl) (by omega) (fun n cs x _ ht => trod_intD ht) h
  subst e
  exact ⟨l, hl⟩
set_option maxRecDepth 100000 in
theorem open_model {r : Reach} {b0 : Nat} {v : Value} {d : DataW H} {p : List MemPlace} (hv : Value.okWide Tryz.prog w r b0 34 v) (h : DataW.Trod enc Tryz.prog w base spare held 34 v d p) :
    ∃ m : Md, ArgS w (fun _ => True) (mA m) v := by
  obtain ⟨cs, rfl, hsz⟩ := okWide_struct Tryz.underlying34 hv
  obtain ⟨fuel, hf⟩ := h
  obtain ⟨cs⟩ := cs
  obtain ⟨xs, n, rfl, hx, hcl, hxl, hg⟩ := DataW.trod_struct Tryz.underlying34 hf
  have hcl' : cs.length = 2 := by simpa [Value.cells] using hcl.trans (show Tryz.prog.cellsOf 34 = 2 by kernel_rfl)
  match cs, hcl', xs, hxl with
  | [c0, c1], _, [x0, x1], _ =>
    have e4 : Tryz.prog.cellsOf 3 = 1 := by kernel_rfl
    have e3 : Tryz.prog.cellsOf 32 = 1 := by kernel_rfl
    have f0 : DataW.trod enc Tryz.prog w base spare held n 3 [c0] = some x0 := (congrArg (fun k => DataW.trod enc Tryz.prog w base spare held n 3 (List.take k [c0, c1])) e4).symm.trans (hg 0 _ rfl)
    have f1 : DataW.trod enc Tryz.prog w base spare held n 32 [c1] = some x1 := (congrArg (fun k => DataW.trod enc Tryz.prog w base spare held n 32 (List.take k [c1])) e3).symm.trans (hg 1 _ rfl)
    obtain ⟨b, hb, _⟩ := DataW.trod_int Tryz.underlying3 f0
    obtain ⟨l, v, e, hl⟩ := trod_list (f := Is.d) Tryz.underlying32 (m := 1) (by kernel_rfl) (by omega) (fun n cs x _ ht => trod_ints n cs x ht) f1
    simp at hb e
    subst hb e
    refine ⟨⟨b, l⟩, _, rfl, rfl, fun q c v hq hv => ?_⟩
    match q with
    | 0 => simp at hq hv; subst hq hv; exact ⟨rfl, rfl⟩
    | 1 =>
      simp at hq hv; subst hq hv
      obtain ⟨a, c, rfl, _⟩ := hl.form
      exact ⟨rfl, hl⟩
    | q + 2 => simp at hq
set_option maxRecDepth 100000 in
theorem trod_cl (fuel : Nat) (cs : List Value) (x : DataW H × List MemPlace) (h : DataW.trod enc Tryz.prog w base spare held fuel 39 cs = some x) : ∃ l : List Lt, rd w (fun _ => True) (Cl.d l) cs := by
  obtain ⟨l, v, e, hl⟩ := trod_list (f := Lt.d) Tryz.underlying39 (m := 7) (by kernel_rfl) (by omega) (fun n cs x _ ht => trod_lt n cs x ht) h
  subst e
  exact ⟨l, hl⟩
set_option maxRecDepth 100000 in
theorem open_clauses {r : Reach} {b0 : Nat} {v : Value} {d : DataW H} {p : List MemPlace} (hv : Value.okWide Tryz.prog w r b0 24 v) (h : DataW.Trod enc Tryz.prog w base spare held 24 v d p) :
    ∃ l : List (List Lt), RdL Cl.d w (fun _ => True) l v := by
  obtain ⟨a0, len, cap, rfl⟩ := okWide_slice Tryz.underlying24 hv
  obtain ⟨fuel, hf⟩ := h
  obtain ⟨l, v, e, hl⟩ := trod_list (f := Cl.d) Tryz.underlying24 (m := 1) (by kernel_rfl) (by omega) (fun n cs x _ ht => trod_cl n cs x ht) hf
  simp [Value.cells] at e
  subst e
  exact ⟨l, hl⟩
end
end Go.Proofs.YtmanhdacnkpclaaGreat
namespace Go.Proofs.YtmanhdacnkpclaaGreat
set_option linter.all false
set_option maxRecDepth 1000000
set_option maxHeartbeats 32000000
open Go.ChangeShapes Go.WideShapes Go.ChangeAt Go.RowKit
section
variable {H : Type}
theorem bulk_pos (d : DataW H) : 1 ≤ Rows.uptoBulk d := by
  cases d with
  | lit l => cases l <;> simp [Rows.uptoBulk]
  | _ => simp [Rows.uptoBulk]
theorem bulk_len : ∀ l : List (DataW H), l.length ≤ Rows.uptoBulkAll l
  | [] => Nat.zero_le _
  | d :: l => by
    have h1 := bulk_pos d
    have h2 := bulk_len l
    simp only [Rows.uptoBulkAll, List.length_cons]; omega
theorem bulk_mem : ∀ {l : List (DataW H)} {d : DataW H}, d ∈ l → Rows.uptoBulk d ≤ Rows.uptoBulkAll l
  | [], _, h => by cases h
  | x :: l, d, h => by
    simp only [Rows.uptoBulkAll]
    rcases List.mem_cons.1 h with rfl | h
    · omega
    · have := bulk_mem h; omega
end
section
variable {H : Type} {enc : TypeId × Value → H} {P : Program} {w : World} {base : Nat} {spare : Nat → Bool} {held : Bool}
theorem trod_listR {α : Type} {f : α → D} {R : α → DataW H × List MemPlace → Prop} {T E m : Nat} (hT : P.underlying T = some (.slice E)) (hE : P.cellsOf E = m) (hm : 0 < m) {fuel : Nat}
    (ih : ∀ n cs x, n < fuel → DataW.trod enc P w base spare held n E cs = some x → ∃ y, rd w (fun _ => True) (f y) cs ∧ R y x) {cs : List Value} {x : DataW H × List MemPlace}
    (h : DataW.trod enc P w base spare held fuel T cs = some x) : ∃ l v, cs = [v] ∧ RdL f w (fun _ => True) l v ∧ (l = [] ∨ ∃ (elems rest : List (DataW H × List MemPlace)) (ps : List MemPlace), x = (.slice (elems.map (·.1)) (rest.map (·.1)), ps) ∧ elems.length = l.length ∧ ∀ (i : Nat) (y : α), l[i]? = some y → ∃ e, elems[i]? = some e ∧ R y e) := by
  rcases DataW.trod_slice hT h with ⟨rfl, _⟩ | ⟨a, len, cap, elems, rest, n, rfl, rfl, rfl, hb, hl, hm', hlen, hel, _⟩
  · exact ⟨[], _, rfl, RdL.nil 0 (by omega) none, .inl rfl⟩
  · rw [hE] at hel
    have hi : ∀ i, i < len → ∃ y, ∃ cs, (∃ e, elems[i]? = some e ∧ R y e) ∧ cs.length = m ∧ rd w (fun _ => True) (f y) cs ∧ ∀ j, j < m → w.cell? ((a.add (i * m)).add j) = cs[j]? := by
      intro i hi
      have h1 := hel i hi
      have h2 : elems[i]? = some (elems[i]'(by omega)) := List.getElem?_eq_getElem (by omega)
      rw [h2] at h1
      obtain ⟨cs, hcs, htr⟩ := Option.bind_eq_some_iff.1 h1
      obtain ⟨y, hy, hRy⟩ := ih n cs _ (by omega) htr
      obtain ⟨_, hcl, hc⟩ := World.cells?_some hcs
      exact ⟨y, cs, ⟨_, h2, hRy⟩, hcl, hy, hc⟩
    obtain ⟨l, hll, hR⟩ := exists_list len hi
    refine ⟨l, _, rfl, ?_, .inr ⟨elems, rest, _, rfl, by rw [hlen, hll], fun i y hy => by obtain ⟨_, h1, _⟩ := hR i y hy; exact h1⟩⟩
    refine ⟨some a, cap, by simp [hll], by simpa [hll] using hl, hm', ?_⟩
    rcases Nat.eq_zero_or_pos len with h0 | h0
    · left; simp [hll, h0]
    · right
      obtain ⟨b, o, sp⟩ := a
      have hsp : sp = none := by
        obtain ⟨y, cs, _, h1, _, h3⟩ := hi 0 h0
        have := h3 0 hm
        rw [List.getElem?_eq_getElem (by omega)] at this
        simpa [Addr.add] using World.cell?_spot this
      subst hsp
      have hadd : ∀ i j, ((⟨b, o, none⟩ : Addr).add (i * m)).add j = ⟨b, o + i * m + j, none⟩ := by
        intro i j; rw [add_lit, add_lit]
      obtain ⟨xs, hx, hxc⟩ := rds_cells (f := f) (w := w) (S := fun _ => True) (m := m) (b := b) l o (fun i y hy => by
        have hil : i < l.length := (List.getElem?_eq_some_iff.1 hy).1
        obtain ⟨cs, _, h1, h2, h3⟩ := hR i y hy
        refine ⟨cs, h1, h2, fun j u hu => ?_⟩
        have hj : j < m := by rw [← h1]; exact (List.getElem?_eq_some_iff.1 hu).1
        rw [← hadd, h3 j hj]; exact hu)
      have hbs : b < w.heap.size := by
        obtain ⟨y, cs, _, h1, _, h3⟩ := hi 0 h0
        have := h3 0 hm
        rw [List.getElem?_eq_getElem (by omega), hadd] at this
        exact World.block_lt_of_cell? w _ this
      exact ⟨b, o, xs, rfl, trivial, hbs, hx, hxc⟩
end
section
variable {H : Type} {enc : TypeId × Value → H} {w : World} {base : Nat} {spare : Nat → Bool} {held : Bool}
theorem trod_sp (fuel : Nat) (cs : List Value) (x : DataW H × List MemPlace) (h : DataW.trod enc Tryz.prog w base spare held fuel 41 cs = some x) : ∃ l : Sp, rd w (fun _ => True) (Sp.d l) cs ∧ l.frm.length ≤ Rows.uptoBulk x.1 := by
  obtain ⟨xs, n, rfl, hx, hcl, hxl, hf⟩ := DataW.trod_struct Tryz.underlying41 h
  have hcl' : cs.length = 3 := hcl.trans (by kernel_rfl)
  match cs, hcl', xs, hxl with
  | [c0, c1, c2], _, [x0, x1, x2], _ =>
    have e4 : Tryz.prog.cellsOf 3 = 1 := by kernel_rfl
    have e3 : Tryz.prog.cellsOf 22 = 1 := by kernel_rfl
    have e2 : Tryz.prog.cellsOf 39 = 1 := by kernel_rfl
    have f0 : DataW.trod enc Tryz.prog w base spare held n 3 [c0] = some x0 := (congrArg (fun k => DataW.trod enc Tryz.prog w base spare held n 3 (List.take k [c0, c1, c2])) e4).symm.trans (hf 0 _ rfl)
    have f1 : DataW.trod enc Tryz.prog w base spare held n 22 [c1] = some x1 := (congrArg (fun k => DataW.trod enc Tryz.prog w base spare held n 22 (List.take k [c1, c2])) e3).symm.trans (hf 1 _ rfl)
    have f2 : DataW.trod enc Tryz.prog w base spare held n 39 [c2] = some x2 := (congrArg (fun k => DataW.trod enc Tryz.prog w base spare held n 39 (List.take k [c2])) e2).symm.trans (hf 2 _ rfl)
    obtain ⟨b, hb, _⟩ := DataW.trod_int Tryz.underlying3 f0
    obtain ⟨l, v, hv, hl, hbl⟩ := trod_listR (f := Int.d) (R := fun _ _ => True) Tryz.underlying22 (m := 1) (by kernel_rfl) (by omega) (fun n cs x _ ht => by
      obtain ⟨y, hy⟩ := trod_intD ht
      exact ⟨y, hy, trivial⟩) f1
    obtain ⟨c, hc⟩ := trod_cl _ _ _ f2
    simp at hb hv
    subst hb hv
    refine ⟨⟨b, l, c⟩, ⟨[.int .i64 b], [c1, c2], rfl, rfl, [c1], [c2], rfl, hl, [c2], [], rfl, hc, rfl⟩, ?_⟩
    subst hx
    have h1 : Rows.uptoBulk x1.1 ≤ Rows.uptoBulk (DataW.agg ([x0, x1, x2].map (·.1))) := by
      have := bulk_mem (l := [x0, x1, x2].map (·.1)) (d := x1.1) (by simp)
      simp only [Rows.uptoBulk]; omega
    refine Nat.le_trans ?_ h1
    rcases hbl with rfl | ⟨elems, rest, ps, rfl, he, _⟩
    · exact Nat.zero_le _
    · have := bulk_len (elems.map (·.1))
      rw [List.length_map] at this
      simp only [Rows.uptoBulk]
      show l.length ≤ _
      omega
theorem open_steps {r : Reach} {b0 : Nat} {v : Value} {d : DataW H} {p : List MemPlace} (hv : Value.okWide Tryz.prog w r b0 25 v) (h : DataW.Trod enc Tryz.prog w base spare held 25 v d p) :
    ∃ l : List Sp, RdL Sp.d w (fun _ => True) l v ∧ ∀ y ∈ l, y.frm.length ≤ Rows.uptoBulk d := by
  obtain ⟨a0, len, cap, rfl⟩ := okWide_slice Tryz.underlying25 hv
  obtain ⟨fuel, hf⟩ := h
  obtain ⟨l, v, e, hl, hbl⟩ := trod_listR (f := Sp.d) (R := fun y x => y.frm.length ≤ Rows.uptoBulk x.1) Tryz.underlying25 (m := 3) (by kernel_rfl) (by omega) (fun n cs x _ ht => trod_sp n cs x ht) hf
  simp [Value.cells] at e
  subst e
  refine ⟨l, hl, fun y hy => ?_⟩
  rcases hbl with rfl | ⟨elems, rest, ps, hx, he, hR⟩
  · cases hy
  · obtain ⟨i, hi⟩ := List.getElem?_of_mem hy
    obtain ⟨e, h1, h2⟩ := hR i y hi
    injection hx with hx1 hx2
    subst hx1
    have h3 := bulk_mem (l := elems.map (·.1)) (d := e.1) (List.mem_map.2 ⟨e, List.mem_of_getElem? h1, rfl⟩)
    simp only [Rows.uptoBulk]; omega
end
end Go.Proofs.YtmanhdacnkpclaaGreat
