/- Texts of terms, plainly: written, and read again. -/
import Derived.Test.YtmanhdacnkpclaaDoorq6Da
import Derived.Test.YtmanhdacnkpclaaDoorq6Pa1
namespace Go.Proofs.YtmanhdacnkpclaaDoor
set_option linter.all false

/-- a digit -/
def dig (n : Int) : UInt8 := UInt8.ofNat (48 + n.toNat)
mutual
/-- Text, where variables are of one digit -/
def text : Tm → List UInt8
  | ⟨v, n, l⟩ => if v then [88, dig n] else UInt8.ofNat (97 + n.toNat) :: (match l with | [] => [] | a :: l => 40 :: (text a ++ (texts l ++ [41])))
def texts : List Tm → List UInt8
  | [] => []
  | a :: l => 44 :: (text a ++ texts l)
end
theorem texts_snoc : ∀ (l : List Tm) (t : Tm), texts (l ++ [t]) = texts l ++ 44 :: text t
  | [], t => by simp [texts]
  | a :: l, t => by simp [texts, texts_snoc l t]
theorem text_nil (n : Int) : text ⟨false, n, []⟩ = [UInt8.ofNat (97 + n.toNat)] := by simp [text]
theorem text_cons (n : Int) (a : Tm) (l : List Tm) : text ⟨false, n, a :: l⟩ = UInt8.ofNat (97 + n.toNat) :: 40 :: (text a ++ (texts l ++ [41])) := by simp [text]
theorem text_len : ∀ t : Tm, (text t).length + 2 ≤ 4 * t.size := by
  refine Tm.ind ?_
  intro v n l ih
  have key : ∀ l : List Tm, (∀ a ∈ l, (text a).length + 2 ≤ 4 * a.size) → (texts l).length ≤ 4 * Tm.sizes l := by
    intro l
    induction l with
    | nil => intro _; simp [texts]
    | cons a l ih =>
      intro h
      have h1 := h a (by simp)
      have h2 := ih fun b hb => h b (by simp [hb])
      simp only [texts, Tm.sizes, List.length_cons, List.length_append]; omega
  cases v
  · cases l with
    | nil => simp [text, Tm.size, Tm.sizes]
    | cons a l =>
      have h1 := ih a (by simp)
      have h2 := key l fun b hb => ih b (by simp [hb])
      rw [text_cons]
      simp only [Tm.size, Tm.sizes, List.length_cons, List.length_append, List.length_nil]; omega
  · cases l <;> simp [text, Tm.size] <;> omega
theorem texts_len : ∀ l : List Tm, (texts l).length ≤ 4 * Tm.sizes l
  | [] => by simp [texts]
  | a :: l => by
    have h1 := text_len a
    have h2 := texts_len l
    simp only [texts, Tm.sizes, List.length_cons, List.length_append]; omega
theorem texts_take (l : List Tm) (k : Nat) (x : Tm) (h : l[k]? = some x) : texts (l.take (k + 1)) = texts (l.take k) ++ 44 :: text x := by rw [take_succ_of h, texts_snoc]

/-! ## what is put is there -/
theorem at_put : ∀ (p : List Int) (t u : Tm), p ∈ places t → at_ (put t p u) p = (u, true)
  | [], t, u, _ => by simp [put, at_]
  | i :: p, ⟨v, n, l⟩, u, hp => by
    obtain ⟨rfl, h0 | ⟨k, x, p', hx, e1, hp'⟩⟩ := places_cons hp
    · cases h0
    · injection e1 with e1 e2
      subst e1 e2
      rw [put_cons hx, at_cons (x := put x p u) (by simp [(List.getElem?_eq_some_iff.1 hx).1])]
      exact at_put p x u hp'
theorem size_put : ∀ (p : List Int) (t u : Tm), p ∈ places t → (put t p u).size + (at_ t p).1.size = t.size + u.size
  | [], t, u, _ => by simp only [put, at_]; omega
  | i :: p, ⟨v, n, l⟩, u, hp => by
    obtain ⟨rfl, h0 | ⟨k, x, p', hx, e1, hp'⟩⟩ := places_cons hp
    · cases h0
    · injection e1 with e1 e2
      subst e1 e2
      have ih := size_put p x u hp'
      have hz := sizes_set (y := put x p u) hx
      rw [put_cons hx, at_cons hx]
      simp only [Tm.size]
      omega
end Go.Proofs.YtmanhdacnkpclaaDoor
