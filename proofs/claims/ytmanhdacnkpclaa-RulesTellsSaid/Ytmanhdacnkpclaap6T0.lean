/- Texts of terms, plainly: written, and read again. -/
import Derived.Test.Ytmanhdacnkpclaap6Da
import Derived.Test.Ytmanhdacnkpclaap6Pa1
namespace Go.Proofs.Ytmanhdacnkpclaa
set_option linter.all false

/-- a digit -/
def dig (n : Int) : UInt8 := UInt8.ofNat (48 + n.toNat)
mutual
/-- Text, where variables are of one digit -/
def text : Tm → List UInt8
  | ⟨v, n, l⟩ => if v then [88, dig n] else UInt8.ofNat (97 + n.toNat) :: (match l with | [] => [] | a :: l => 40 :: (text a ++ (texts l ++ [41])))
def texts : List Tm → List UInt8
  | [] => []
  | a :: l => 44 :: (text a ++ texts l)
end
/-! ## what is put is there -/
theorem at_put : ∀ (p : List Int) (t u : Tm), p ∈ places t → at_ (put t p u) p = (u, true)
  | [], t, u, _ => by simp [put, at_]
  | i :: p, ⟨v, n, l⟩, u, hp => by
    obtain ⟨rfl, h0 | ⟨k, x, p', hx, e1, hp'⟩⟩ := places_cons hp
    · cases h0
    · injection e1 with e1 e2
      subst e1 e2
      rw [put_cons hx, at_cons (x := put x p u) (by simp [(List.getElem?_eq_some_iff.1 hx).1])]
      exact at_put p x u hp'
theorem size_put : ∀ (p : List Int) (t u : Tm), p ∈ places t → (put t p u).size + (at_ t p).1.size = t.size + u.size
  | [], t, u, _ => by simp only [put, at_]; omega
  | i :: p, ⟨v, n, l⟩, u, hp => by
    obtain ⟨rfl, h0 | ⟨k, x, p', hx, e1, hp'⟩⟩ := places_cons hp
    · cases h0
    · injection e1 with e1 e2
      subst e1 e2
      have ih := size_put p x u hp'
      have hz := sizes_set (y := put x p u) hx
      rw [put_cons hx, at_cons hx]
      simp only [Tm.size]
      omega
end Go.Proofs.Ytmanhdacnkpclaa
