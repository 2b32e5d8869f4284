/- How clauses are looked at, of models: one binding behind another, and as numbers. -/
import Derived.Test.YtmanhdacnkpclaaDoordcPb1
namespace Go.Proofs.YtmanhdacnkpclaaDoor
set_option linter.all false

/-- one after another, until one says no -/
def loopE (g : Nat → List Int → Bool × List Int) : Nat → Nat → List Int → Bool × List Int
  | 0, _, e => (true, e)
  | r + 1, x, e => if (g x e).1 = true then loopE g r (x + 1) (g x e).2 else (false, (g x e).2)
def walkE (m : Md) (c : List Lt) : List Int → List Int → Bool × List Int
  | [], e => (some_ m e c, e)
  | v :: vs, e => loopE (fun x e => walkE m c vs (e.set v.toNat (x : Int))) m.size.toNat 0 e
theorem loopE_keep {R : List Int → List Int → Prop} (h0 : ∀ e, R e e) (ht : ∀ a b c, R a b → R b c → R a c) {g : Nat → List Int → Bool × List Int} : ∀ (r x : Nat) (e : List Int), (∀ x' e, x' < x + r → R e (g x' e).2) → R e (loopE g r x e).2
  | 0, x, e, _ => h0 e
  | r + 1, x, e, hg => by
    simp only [loopE]
    split
    · exact ht _ _ _ (hg x e (by omega)) (loopE_keep h0 ht r (x + 1) _ fun x' e h => hg x' e (by omega))
    · exact hg x e (by omega)
def OutE (vs e e' : List Int) : Prop := e'.length = e.length ∧ ∀ j : Nat, (∀ v ∈ vs, v.toNat ≠ j) → e'[j]? = e[j]?
theorem OutE.refl {vs e : List Int} : OutE vs e e := ⟨rfl, fun _ _ => rfl⟩
theorem OutE.trans {vs a b c : List Int} (h : OutE vs a b) (h' : OutE vs b c) : OutE vs a c := ⟨h'.1.trans h.1, fun j hj => (h'.2 j hj).trans (h.2 j hj)⟩
theorem OutE.set {v : Int} {vs e : List Int} {x : Int} : OutE (v :: vs) e (e.set v.toNat x) := ⟨by simp, fun j hj => by rw [List.getElem?_set_ne (hj v (by simp))]⟩
theorem OutE.more {v : Int} {vs e e' : List Int} (h : OutE vs e e') : OutE (v :: vs) e e' := ⟨h.1, fun j hj => h.2 j fun u hu => hj u (by simp [hu])⟩
theorem walkE_out {m : Md} {c : List Lt} : ∀ (vs e : List Int), OutE vs e (walkE m c vs e).2
  | [], e => OutE.refl
  | v :: vs, e => by
    simp only [walkE]
    exact loopE_keep (R := OutE (v :: vs)) (fun _ => OutE.refl) (fun _ _ _ => OutE.trans) _ _ _ fun x e _ => OutE.set.trans (walkE_out vs _).more
/-- digits -/
def dgE1 (z : Nat) (p : Nat × List Int) (v : Int) : Nat × List Int := (p.1 / z, p.2.set v.toNat ((p.1 % z : Nat) : Int))
def dgE (z : Nat) (vs : List Int) (p : Nat × List Int) : Nat × List Int := vs.foldl (dgE1 z) p
theorem dgE_snoc {z : Nat} {vs : List Int} {k : Nat} {v : Int} {p : Nat × List Int} (h : vs[k]? = some v) : dgE z (vs.take (k + 1)) p = dgE1 z (dgE z (vs.take k) p) v := by
  rw [take_succ_of h]
  simp only [dgE, List.foldl_append, List.foldl_cons, List.foldl_nil]
theorem dgE_len {z : Nat} : ∀ (vs : List Int) (p : Nat × List Int), (dgE z vs p).2.length = p.2.length
  | [], _ => rfl
  | v :: vs, p => by
    have := dgE_len (z := z) vs (dgE1 z p v)
    simp only [dgE, List.foldl_cons] at this ⊢
    rw [this]; simp [dgE1]
theorem dgE_le {z : Nat} : ∀ (vs : List Int) (p : Nat × List Int), (dgE z vs p).1 ≤ p.1
  | [], _ => Nat.le_refl _
  | v :: vs, p => by
    have := dgE_le (z := z) vs (dgE1 z p v)
    simp only [dgE, List.foldl_cons] at this ⊢
    exact Nat.le_trans this (Nat.div_le_self _ _)
theorem dgE_ok {m : Md} {z : Nat} (hz : (z : Int) = m.size) (h1 : 1 ≤ z) : ∀ (vs : List Int) (p : Nat × List Int), EOk m p.2 → EOk m (dgE z vs p).2
  | [], _, h => h
  | v :: vs, p, h => by
    simp only [dgE, List.foldl_cons]
    refine dgE_ok hz h1 vs (dgE1 z p v) ?_
    have := Nat.mod_lt p.1 (show 0 < z by omega)
    exact h.set (by omega) (by omega)
theorem dgE_all {m : Md} {c : List Lt} {z : Nat} (hz : m.size.toNat = z) (h1 : 1 ≤ z) : ∀ (vs e : List Int), allE m c e vs = true ↔ ∀ n, n < z ^ vs.length → some_ m (dgE z vs (n, e)).2 c = true
  | [], e => by
    simp only [allE, List.length_nil, Nat.pow_zero, dgE, List.foldl_nil]
    exact ⟨fun h n _ => h, fun h => h 0 (by omega)⟩
  | v :: vs, e => by
    simp only [allE, List.all_eq_true, List.mem_range, hz, List.length_cons]
    have e1 : z ^ (vs.length + 1) = z * z ^ vs.length := by rw [Nat.pow_succ, Nat.mul_comm]
    have ih := fun e => dgE_all (c := c) hz h1 vs e
    constructor
    · intro h n hn
      rw [e1] at hn
      exact (ih _).1 (h (n % z) (Nat.mod_lt _ (by omega))) (n / z) (Nat.div_lt_of_lt_mul hn)
    · intro h x hx
      refine (ih _).2 fun n hn => ?_
      have h2 : z * n + x < z * z ^ vs.length := by
        have := Nat.mul_le_mul_left z (show n + 1 ≤ z ^ vs.length by omega)
        rw [Nat.mul_add, Nat.mul_one] at this; omega
      have h3 := h (z * n + x) (by rw [e1]; exact h2)
      have h4 : (z * n + x) / z = n := by rw [Nat.mul_add_div (by omega), Nat.div_eq_of_lt hx, Nat.add_zero]
      have h5 : (z * n + x) % z = x := by rw [Nat.mul_add_mod, Nat.mod_eq_of_lt hx]
      simp only [dgE, List.foldl_cons, dgE1, h4, h5] at h3 ⊢
      exact h3
/-- how many variables right clauses have -/
theorem clVars_five {s : List Int} {c : List Lt} (h : clWf s c) : (clVars [] c).length ≤ 5 := nodup_le 5 _ (clVars_nodup c [] List.nodup_nil) fun x hx => by
  have := clVars_range h x hx; omega
theorem some_no {m : Md} {env : List Int} {c : List Lt} {k : Nat} {l : Lt} (h : c[k]? = some l) (hl : lit m env l = true) : some_ m env c = true := List.any_eq_true.2 ⟨l, List.mem_of_getElem? h, hl⟩
end Go.Proofs.YtmanhdacnkpclaaDoor
