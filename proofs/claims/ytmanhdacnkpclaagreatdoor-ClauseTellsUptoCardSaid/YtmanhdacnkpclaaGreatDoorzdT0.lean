/- Texts of terms, plainly: written, and read again. -/
import Derived.Test.YtmanhdacnkpclaaGreatDoorzdDa
import Derived.Test.YtmanhdacnkpclaaGreatDoorzdPa1
namespace Go.Proofs.YtmanhdacnkpclaaGreatDoor
set_option linter.all false

/-- a digit -/
def dig (n : Int) : UInt8 := UInt8.ofNat (48 + n.toNat)
mutual
/-- Text, where variables are of one digit -/
def text : Tm → List UInt8
  | ⟨v, n, l⟩ => if v then [88, dig n] else UInt8.ofNat (97 + n.toNat) :: (match l with | [] => [] | a :: l => 40 :: (text a ++ (texts l ++ [41])))
def texts : List Tm → List UInt8
  | [] => []
  | a :: l => 44 :: (text a ++ texts l)
end
theorem texts_snoc : ∀ (l : List Tm) (t : Tm), texts (l ++ [t]) = texts l ++ 44 :: text t
  | [], t => by simp [texts]
  | a :: l, t => by simp [texts, texts_snoc l t]
theorem text_nil (n : Int) : text ⟨false, n, []⟩ = [UInt8.ofNat (97 + n.toNat)] := by simp [text]
theorem text_cons (n : Int) (a : Tm) (l : List Tm) : text ⟨false, n, a :: l⟩ = UInt8.ofNat (97 + n.toNat) :: 40 :: (text a ++ (texts l ++ [41])) := by simp [text]
theorem text_len : ∀ t : Tm, (text t).length + 2 ≤ 4 * t.size := by
  refine Tm.ind ?_
  intro v n l ih
  have key : ∀ l : List Tm, (∀ a ∈ l, (text a).length + 2 ≤ 4 * a.size) → (texts l).length ≤ 4 * Tm.sizes l := by
    intro l
    induction l with
    | nil => intro _; simp [texts]
    | cons a l ih =>
      intro h
      have h1 := h a (by simp)
      have h2 := ih fun b hb => h b (by simp [hb])
      simp only [texts, Tm.sizes, List.length_cons, List.length_append]; omega
  cases v
  · cases l with
    | nil => simp [text, Tm.size, Tm.sizes]
    | cons a l =>
      have h1 := ih a (by simp)
      have h2 := key l fun b hb => ih b (by simp [hb])
      rw [text_cons]
      simp only [Tm.size, Tm.sizes, List.length_cons, List.length_append, List.length_nil]; omega
  · cases l <;> simp [text, Tm.size] <;> omega
theorem texts_len : ∀ l : List Tm, (texts l).length ≤ 4 * Tm.sizes l
  | [] => by simp [texts]
  | a :: l => by
    have h1 := text_len a
    have h2 := texts_len l
    simp only [texts, Tm.sizes, List.length_cons, List.length_append]; omega
theorem texts_take (l : List Tm) (k : Nat) (x : Tm) (h : l[k]? = some x) : texts (l.take (k + 1)) = texts (l.take k) ++ 44 :: text x := by rw [take_succ_of h, texts_snoc]

/-! ## written, and read again -/
/-- what stands before the last bracket -/
def opens : List Tm → List UInt8
  | [] => []
  | a :: l => 40 :: (text a ++ texts l)
def shuts : List Tm → List UInt8
  | [] => []
  | _ => [41]
theorem text_sym (n : Int) (l : List Tm) : text ⟨false, n, l⟩ = UInt8.ofNat (97 + n.toNat) :: (opens l ++ shuts l) := by
  cases l <;> simp [text, opens, shuts]
theorem opens_snoc (l : List Tm) (a : Tm) : opens (l ++ [a]) = opens l ++ UInt8.ofNat (if l.length = 0 then 40 else 44) :: text a := by
  cases l with
  | nil => simp [opens, texts]
  | cons b l => simp [opens, texts_snoc]
theorem rdIs_err {c : Nat} {l : List UInt8} {e : Int} (h : e ≠ 0) : rdIs c (l, e) = (l, e) := by simp [rdIs, h]
theorem rdT_err {s : List Int} {f : Nat} {l : List UInt8} {e : Int} (h : e ≠ 0) : rdT s f (l, e) = (Tm.zero, (l, e)) := by
  cases f <;> simp [rdT, h]
theorem rdN_err {s : List Int} {f : Nat} {st : RSt} : ∀ {k j : Nat}, (rdN (rdT s f) k st).2.2 ≠ 0 → (rdN (rdT s f) (k + j) st).2 = (rdN (rdT s f) k st).2
  | k, 0, _ => rfl
  | k, j + 1, h => by
    have ih := rdN_err (j := j) h
    rw [← Nat.add_assoc]
    simp only [rdN]
    rw [ih]
    generalize (rdN (rdT s f) k st).2 = q at h ⊢
    obtain ⟨l, e⟩ := q
    rw [rdIs_err h, rdT_err h]
end Go.Proofs.YtmanhdacnkpclaaGreatDoor
