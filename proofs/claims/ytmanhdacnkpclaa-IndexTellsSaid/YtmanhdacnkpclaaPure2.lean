/- What the functions compute, on plain data: variables, the order. -/
import Derived.Test.YtmanhdacnkpclaaPure
namespace Go.Proofs.Ytmanhdacnkpclaa
set_option linter.unusedVariables false
set_option linter.unusedSimpArgs false

mutual
/-- variables, behind others -/
def vars (l : List Int) : Tm → List Int
  | ⟨true, n, _⟩ => if n ∈ l then l else l ++ [n]
  | ⟨false, _, as_⟩ => varss l as_
def varss (l : List Int) : List Tm → List Int
  | [] => l
  | a :: r => varss (vars l a) r
end
theorem varss_snoc : ∀ (l : List Int) (ts : List Tm) (t : Tm), varss l (ts ++ [t]) = vars (varss l ts) t
  | _, [], _ => by simp [varss]
  | l, a :: r, t => by simp [varss, varss_snoc (vars l a) r t]

mutual
theorem vars_len (l : List Int) : ∀ t : Tm, (vars l t).length ≤ l.length + t.size
  | ⟨true, n, as_⟩ => by simp only [vars, Tm.size]; split <;> simp <;> omega
  | ⟨false, n, as_⟩ => by have := varss_len l as_; simp only [vars, Tm.size]; omega
theorem varss_len (l : List Int) : ∀ ts : List Tm, (varss l ts).length ≤ l.length + Tm.sizes ts
  | [] => by simp [varss]
  | a :: r => by have := vars_len l a; have := varss_len (vars l a) r; simp only [varss, Tm.sizes]; omega
end
mutual
/-- how often a variable is in a term -/
def times (v : Int) : Tm → Nat
  | ⟨b, n, l⟩ => (if b && n == v then 1 else 0) + timess v l
def timess (v : Int) : List Tm → Nat
  | [] => 0
  | a :: l => times v a + timess v l
end
theorem timess_snoc (v : Int) : ∀ (l : List Tm) (t : Tm), timess v (l ++ [t]) = timess v l + times v t
  | [], t => by simp [timess]
  | a :: r, t => by simp [timess, timess_snoc v r t]; omega
theorem timess_take_le (v : Int) (l : List Tm) (k : Nat) : timess v (l.take k) ≤ timess v l := by
  induction l generalizing k with
  | nil => simp [timess]
  | cons a l ih => cases k <;> simp [timess]; exact ih _
mutual
theorem times_le_size (v : Int) : ∀ t : Tm, times v t ≤ t.size
  | ⟨b, n, l⟩ => by
    have := timess_le_sizes v l
    simp only [times, Tm.size]
    split <;> omega
theorem timess_le_sizes (v : Int) : ∀ l : List Tm, timess v l ≤ Tm.sizes l
  | [] => by simp [timess, Tm.sizes]
  | a :: l => by
    have := times_le_size v a
    have := timess_le_sizes v l
    simp only [timess, Tm.sizes]; omega
end

mutual
/-- above -/
def above : Tm → Tm → Bool
  | ⟨va, na, la⟩, b =>
    if va then false
    else if (vars [] b).any (fun v => decide (times v ⟨va, na, la⟩ < times v b)) then false
    else if (⟨va, na, la⟩ : Tm).size = b.size then
      (if b.var then false else if na < b.n then false else if b.n < na then true else aboves la b.args)
    else decide (b.size < (⟨va, na, la⟩ : Tm).size)
def aboves : List Tm → List Tm → Bool
  | a :: la, b :: lb => if a.same b then aboves la lb else above a b
  | [], _ => false
  | _ :: _, [] => false
end
theorem aboves_none : ∀ {la lb : List Tm} {k : Nat}, la.take k = lb.take k → (la.length ≤ k ∨ lb.length ≤ k) → aboves la lb = false
  | [], _, _, _, _ => by simp [aboves]
  | _ :: _, [], _, _, _ => by simp [aboves]
  | a :: la, b :: lb, 0, _, h => by simp at h
  | a :: la, b :: lb, k + 1, e, h => by
    simp only [List.take_succ_cons, List.cons.injEq] at e
    obtain ⟨rfl, e⟩ := e
    simp only [aboves, Tm.same_refl, if_true]
    exact aboves_none e (by simpa using h)
theorem aboves_at : ∀ {la lb : List Tm} {k : Nat} {x y : Tm}, la.take k = lb.take k → la[k]? = some x → lb[k]? = some y → x.same y = false → aboves la lb = above x y
  | [], _, _, _, _, _, h, _, _ => by simp at h
  | _ :: _, [], _, _, _, _, _, h, _ => by simp at h
  | a :: la, b :: lb, 0, x, y, _, h, h', hxy => by simp at h h'; subst h h'; simp [aboves, hxy]
  | a :: la, b :: lb, k + 1, x, y, e, h, h', hxy => by
    simp only [List.take_succ_cons, List.cons.injEq] at e
    obtain ⟨rfl, e⟩ := e
    simp only [aboves, Tm.same_refl, if_true]
    exact aboves_at e (by simpa using h) (by simpa using h') hxy

/-- how two terms are to each other -/
def compare (a b : Tm) : Int := if a.same b then 2 else if above a b then 3 else if above b a then 1 else 0

end Go.Proofs.Ytmanhdacnkpclaa
