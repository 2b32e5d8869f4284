/- What the functions compute, on plain data: terms and bindings. No program in sight. -/
import Derived.Test.YtmanhdacnkpclaaTm
namespace Go.Proofs.Ytmanhdacnkpclaa
set_option linter.unusedVariables false
set_option linter.unusedSimpArgs false

mutual
def Tm.size : Tm → Nat
  | ⟨_, _, l⟩ => 1 + Tm.sizes l
def Tm.sizes : List Tm → Nat
  | [] => 0
  | a :: l => Tm.size a + Tm.sizes l
end

theorem Tm.sizes_eq : ∀ l, Tm.sizes l = (l.map Tm.size).sum
  | [] => rfl
  | a :: l => by simp [Tm.sizes, Tm.sizes_eq l]

theorem sizes_take_succ (l : List Tm) (k : Nat) (x : Tm) (h : l[k]? = some x) : Tm.sizes (l.take (k + 1)) = Tm.sizes (l.take k) + x.size := by
  obtain ⟨hk, rfl⟩ := List.getElem?_eq_some_iff.1 h
  rw [List.take_succ_eq_append_getElem hk, Tm.sizes_eq, Tm.sizes_eq, List.map_append, List.sum_append]; simp
theorem sizes_take_le (l : List Tm) (k : Nat) : Tm.sizes (l.take k) ≤ Tm.sizes l := by
  induction l generalizing k with
  | nil => simp [Tm.sizes]
  | cons a l ih => cases k <;> simp [Tm.sizes]; exact ih _

/-- a step of a loop over a list -/
theorem take_succ_of {α : Type} {l : List α} {k : Nat} {x : α} (h : l[k]? = some x) : l.take (k + 1) = l.take k ++ [x] := by
  obtain ⟨hk, rfl⟩ := List.getElem?_eq_some_iff.1 h
  exact List.take_succ_eq_append_getElem hk
theorem mem_of_get {α : Type} {l : List α} {k : Nat} {x : α} (h : l[k]? = some x) : x ∈ l := List.mem_of_getElem? h

mutual
def Tm.same : Tm → Tm → Bool
  | ⟨v, n, l⟩, ⟨v', n', l'⟩ => v == v' && n == n' && Tm.sames l l'
def Tm.sames : List Tm → List Tm → Bool
  | [], [] => true
  | a :: l, b :: l' => Tm.same a b && Tm.sames l l'
  | [], _ :: _ => false
  | _ :: _, [] => false
end
mutual
theorem Tm.same_iff : ∀ a b, Tm.same a b = true ↔ a = b
  | ⟨v, n, l⟩, ⟨v', n', l'⟩ => by
    have := Tm.sames_iff l l'
    simp [Tm.same, this, and_assoc]
theorem Tm.sames_iff : ∀ l l', Tm.sames l l' = true ↔ l = l'
  | [], [] => by simp [Tm.sames]
  | a :: l, b :: l' => by
    have h1 := Tm.same_iff a b
    have h2 := Tm.sames_iff l l'
    simp [Tm.sames, h1, h2]
  | [], _ :: _ => by simp [Tm.sames]
  | _ :: _, [] => by simp [Tm.sames]
end
instance : DecidableEq Tm := fun a b => decidable_of_iff _ (Tm.same_iff a b)
theorem Tm.same_eq (a b : Tm) : Tm.same a b = decide (a = b) := by
  rw [Bool.eq_iff_iff, Tm.same_iff]; simp
theorem Tm.same_refl (a : Tm) : Tm.same a a = true := (Tm.same_iff a a).2 rfl
theorem Tm.sames_len {l l' : List Tm} (h : l.length ≠ l'.length) : Tm.sames l l' = false := by
  cases hs : Tm.sames l l' with
  | false => rfl
  | true => exact absurd (congrArg List.length ((Tm.sames_iff l l').1 hs)) h
/-- a walk over two lists of one length: what is decided at k -/
theorem Tm.sames_no {l l' : List Tm} {k : Nat} {x y : Tm} (hx : l[k]? = some x) (hy : l'[k]? = some y) (h : Tm.same x y = false) : Tm.sames l l' = false := by
  cases hs : Tm.sames l l' with
  | false => rfl
  | true =>
    have := (Tm.sames_iff l l').1 hs
    subst this
    rw [hx] at hy; injection hy with hy; subst hy
    rw [Tm.same_refl] at h; cases h
theorem Tm.sames_yes {l l' : List Tm} (hl : l.length = l'.length) (h : l.take l.length = l'.take l.length) : Tm.sames l l' = true := by
  rw [Tm.sames_iff]
  rw [List.take_length, hl, List.take_length] at h
  exact h

/-- WrongSig -/
def wrongSig (s : List Int) : Int := if s.length = 0 ∨ 6 < s.length then 5 else if s.any (fun n => decide (n < 0 ∨ 2 < n)) then 3 else 0
mutual
/-- what is wrong with a term, but for how much it is; 'deep' less 1 terms are around it -/
def walk (s : List Int) : Tm → Int → Int
  | ⟨v, n, l⟩, d => if 12 < d then 4 else if v then (if n < 0 ∨ 4 < n then 3 else if l.length = 0 then 0 else 5)
      else if n < 0 ∨ (s.length : Int) ≤ n then 7 else if (l.length : Int) = s.getD n.toNat 0 then walks s l (d + 1) else 5
def walks (s : List Int) : List Tm → Int → Int
  | [], _ => 0
  | a :: l, d => if walk s a d = 0 then walks s l d else walk s a d
end
/-- Wrong: the size as Go's int reckons it -/
def wrong (s : List Int) (t : Tm) : Int := if walk s t 1 = 0 then (if 12 < Go.RowKit.wrap64 t.size then 4 else 0) else walk s t 1

theorem walks_no {s : List Int} {d : Int} : ∀ {l : List Tm} {k : Nat} {x : Tm}, walks s (l.take k) d = 0 → l[k]? = some x → walk s x d ≠ 0 → walks s l d = walk s x d
  | [], _, _, _, h, _ => by simp at h
  | a :: l, 0, x, _, h, hx => by simp at h; subst h; simp [walks, hx]
  | a :: l, k + 1, x, h0, h, hx => by
    simp only [List.take_succ_cons, walks] at h0
    simp only [List.getElem?_cons_succ] at h
    split at h0
    · rename_i ha; simp only [walks, ha, if_true]; exact walks_no h0 h hx
    · rename_i ha; exact absurd h0 ha
theorem walks_succ {s : List Int} {d : Int} : ∀ {l : List Tm} {k : Nat} {x : Tm}, walks s (l.take k) d = 0 → l[k]? = some x → walk s x d = 0 → walks s (l.take (k + 1)) d = 0
  | [], _, _, _, h, _ => by simp at h
  | a :: l, 0, x, _, h, hx => by simp at h; subst h; simp [walks, hx]
  | a :: l, k + 1, x, h0, h, hx => by
    simp only [List.take_succ_cons, walks] at h0 ⊢
    simp only [List.getElem?_cons_succ] at h
    split at h0
    · rename_i ha; simp only [ha, if_true]; exact walks_succ h0 h hx
    · rename_i ha; exact absurd h0 ha

/-- what a variable is bound to -/
def find (s : List Pr) (v : Int) : Option Tm := (s.find? (fun p => p.1 == v)).map (·.2)

mutual
def apply (s : List Pr) : Tm → Tm
  | ⟨true, n, l⟩ => (find s n).getD ⟨true, n, l⟩
  | ⟨false, n, l⟩ => ⟨false, n, applys s l⟩
def applys (s : List Pr) : List Tm → List Tm
  | [] => []
  | a :: l => apply s a :: applys s l
end
theorem applys_eq (s : List Pr) : ∀ l, applys s l = l.map (apply s)
  | [] => rfl
  | a :: l => by simp [applys, applys_eq s l]

end Go.Proofs.Ytmanhdacnkpclaa
