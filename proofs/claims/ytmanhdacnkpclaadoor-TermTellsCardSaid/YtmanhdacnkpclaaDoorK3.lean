/- Keys, plainly: what may be the same goes together. -/
import Derived.Test.YtmanhdacnkpclaaDoorPb1
import Derived.Test.YtmanhdacnkpclaaDoorPa1
namespace Go.Proofs.YtmanhdacnkpclaaDoor
set_option linter.all false
open Go.RowKit

theorem mark_ren (k : Int) : ∀ (p : List Int) (t : Tm), mark (ren k t) p = mark t p
  | [], ⟨v, n, l⟩ => by cases v <;> simp [ren, mark]
  | i :: p, ⟨v, n, l⟩ => by
    cases v
    · simp only [ren, mark, rens_eq, List.length_map, Bool.false_eq_true, if_false]
      split
      · rfl
      · rename_i h
        rcases Nat.lt_or_ge i.toNat l.length with h1 | h1
        · rw [List.getD_eq_getElem?_getD, List.getD_eq_getElem?_getD, List.getElem?_map, List.getElem?_eq_getElem h1]
          simp only [Option.map_some, Option.getD_some]
          exact mark_ren k p _
        · rw [List.getD_eq_getElem?_getD, List.getD_eq_getElem?_getD, List.getElem?_map, List.getElem?_eq_none h1]; rfl
    · simp [ren, mark]
theorem mark0 {S : List Int} (hS : S.length ≤ 6) {t : Tm} (ht : t.ar S = true) : (t.var = true ∧ mark t [] = 0) ∨ (t.var = false ∧ mark t [] = t.n + 1 ∧ 0 < mark t []) := by
  obtain ⟨v, n, l⟩ := t
  cases v
  · right
    simp only [Tm.ar, Bool.and_eq_true, decide_eq_true_eq] at ht
    have hw : wrap64 (n + 1) = n + 1 := IntWalk.wrap64_in _ ⟨by omega, by omega⟩
    simp only [mark, Bool.false_eq_true, if_false, hw, true_and]
    omega
  · left; simp [mark]
theorem head_of {s : List Pr} {a b : Tm} (ha : a.var = false) (hb : b.var = false) (h : app s a = app s b) : a.n = b.n ∧ a.args.length = b.args.length ∧ ∀ (k : Nat) (x y : Tm), a.args[k]? = some x → b.args[k]? = some y → app s x = app s y := by
  obtain ⟨va, na, la⟩ := a
  obtain ⟨vb, nb, lb⟩ := b
  simp only at ha hb
  subst ha hb
  rw [app_sym, app_sym] at h
  injection h with _ h1 h2
  refine ⟨h1, by simpa using congrArg List.length h2, fun k x y hx hy => ?_⟩
  have := congrArg (·[k]?) h2
  simp only [List.getElem?_map] at this
  simp only at hx hy
  rw [hx, hy] at this
  simpa using this
theorem mayU_0 {S : List Int} (hS : S.length ≤ 6) {s : List Pr} {a b : Tm} (ha : a.ar S = true) (hb : b.ar S = true) (h : app s a = app s b) : mayU (mark a []) (mark b []) = true ∧ mayU (mark b []) (mark a []) = true := by
  rcases mark0 hS ha with ⟨h1, h2⟩ | ⟨h1, h2, h3⟩ <;> rcases mark0 hS hb with ⟨g1, g2⟩ | ⟨g1, g2, g3⟩
  · simp [mayU, h2, g2]
  · simp only [mayU, decide_eq_true_eq]; omega
  · simp only [mayU, decide_eq_true_eq]; omega
  · have := (head_of h1 g1 h).1
    simp only [mayU, decide_eq_true_eq]; omega
theorem mark1 {t : Tm} {i : Nat} : mark t [(i : Int)] = if t.var then -1 else match t.args[i]? with | none => -2 | some x => mark x [] := by
  obtain ⟨v, n, l⟩ := t
  cases v
  · simp only [mark, Bool.false_eq_true, if_false]
    rcases Nat.lt_or_ge i l.length with h | h
    · rw [if_neg (by omega), List.getElem?_eq_getElem h, List.getD_eq_getElem?_getD, Int.toNat_natCast, List.getElem?_eq_getElem h]; rfl
    · rw [if_pos (by omega), List.getElem?_eq_none h]
  · simp [mark]
theorem ar_arg {S : List Int} {t x : Tm} {k : Nat} (ht : t.ar S = true) (hv : t.var = false) (hx : t.args[k]? = some x) : x.ar S = true := by
  obtain ⟨v, n, l⟩ := t
  simp only at hv hx
  subst hv
  simp only [Tm.ar, Bool.and_eq_true] at ht
  exact Tm.ars_iff.1 ht.2 x (List.mem_of_getElem? hx)
theorem mayU_1 {S : List Int} (hS : S.length ≤ 6) {s : List Pr} {a b : Tm} (ha : a.ar S = true) (hb : b.ar S = true) (h : app s a = app s b) (i : Nat) : mayU (mark a [(i : Int)]) (mark b [(i : Int)]) = true ∧ mayU (mark b [(i : Int)]) (mark a [(i : Int)]) = true := by
  rw [mark1, mark1]
  cases hva : a.var
  · cases hvb : b.var
    · obtain ⟨h1, h2, h3⟩ := head_of hva hvb h
      simp only [Bool.false_eq_true, if_false]
      cases hx : a.args[i]? with
      | none =>
        have : b.args[i]? = none := by rw [List.getElem?_eq_none_iff] at hx ⊢; omega
        rw [this]; simp [mayU]
      | some x =>
        have hl := (List.getElem?_eq_some_iff.1 hx).1
        obtain ⟨y, hy⟩ : ∃ y, b.args[i]? = some y := ⟨_, List.getElem?_eq_getElem (by omega)⟩
        rw [hy]
        exact mayU_0 hS (ar_arg ha hva hx) (ar_arg hb hvb hy) (h3 i x y hx hy)
    · simp [mayU]
  · simp [mayU]
theorem mayK_of {S : List Int} (hS : S.length ≤ 6) {s : List Pr} {a b : Tm} (ha : a.ar S = true) (hb : b.ar S = true) (h : app s a = app s b) : mayK a b = true ∧ mayK b a = true := by
  have h0 := mayU_0 hS ha hb h
  have h1 := mayU_1 hS ha hb h 0
  have h2 := mayU_1 hS ha hb h 1
  simp only [mayK, Bool.and_eq_true]
  exact ⟨⟨h0.1, h1.1, h2.1⟩, h0.2, h1.2, h2.2⟩
theorem mayM_0 {S : List Int} (hS : S.length ≤ 6) {s : List Pr} {a b : Tm} (ha : a.ar S = true) (hb : b.ar S = true) (h : app s a = b) : mayM (mark a []) (mark b []) = true := by
  rcases mark0 hS ha with ⟨h1, h2⟩ | ⟨h1, h2, h3⟩ <;> rcases mark0 hS hb with ⟨g1, g2⟩ | ⟨g1, g2, g3⟩
  · simp [mayM, h2, g2]
  · simp only [mayM, decide_eq_true_eq]; omega
  · obtain ⟨v, n, l⟩ := a
    simp only at h1
    subst h1
    rw [app_sym] at h
    rw [← h] at g1; cases g1
  · obtain ⟨v, n, l⟩ := a
    simp only at h1
    subst h1
    rw [app_sym] at h
    rw [← h] at g2 ⊢
    simp only at g2 h2
    simp only [mayM, decide_eq_true_eq]; omega
theorem mayM_1 {S : List Int} (hS : S.length ≤ 6) {s : List Pr} {a b : Tm} (ha : a.ar S = true) (hb : b.ar S = true) (h : app s a = b) (i : Nat) : mayM (mark a [(i : Int)]) (mark b [(i : Int)]) = true := by
  rw [mark1, mark1]
  cases hva : a.var
  · obtain ⟨v, n, l⟩ := a
    simp only at hva
    subst hva
    rw [app_sym] at h
    subst h
    simp only [Bool.false_eq_true, if_false, List.getElem?_map]
    cases hx : l[i]? with
    | none => simp [mayM]
    | some x =>
      simp only [Option.map_some]
      have har : x.ar S = true := ar_arg (t := ⟨false, n, l⟩) ha rfl hx
      have hbr : (app s x).ar S = true := ar_arg (t := ⟨false, n, l.map (app s)⟩) (k := i) hb rfl (by simp [hx])
      exact mayM_0 hS har hbr rfl
  · simp [mayM]
end Go.Proofs.YtmanhdacnkpclaaDoor
