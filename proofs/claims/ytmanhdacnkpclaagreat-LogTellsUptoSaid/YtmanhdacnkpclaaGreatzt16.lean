/- What functions do: New. -/
import Derived.Test.YtmanhdacnkpclaaGreatzt15
import Derived.Test.YtmanhdacnkpclaaGreatzt06
import Derived.Test.YtmanhdacnkpclaaGreatzt10
import Derived.Test.YtmanhdacnkpclaaGreatzt13
import Derived.Test.YtmanhdacnkpclaaGreatzt14
import Derived.Test.YtmanhdacnkpclaaGreatzt12
import Derived.Deep.RegionLaw
import Derived.Lib.AppendZeros
namespace Go.Proofs.YtmanhdacnkpclaaGreat
set_option linter.all false
set_option maxRecDepth 1000000
set_option maxHeartbeats 32000000
open Go.RowKit
theorem pwrongCl (s : List Int) (c : List Lt) : FnD Tryz.prog 29 [lA Int.d s, lA Lt.d c] (.one (iA (wrongCl s c))) := by
  refine Fn.of Tryz.func29 rfl Tryz.ntmps29 rfl (Nat.le_of_ble_eq_true rfl) ?_
  by_cases h4 : 4 < c.length
  · (refine wlk ?_)
    (refine wfT ?_)
    exact Xi (b := 5) (by simp [wrongCl, h4])
  (refine wlk ?_)
  refine dwp_loop (fun k : Nat => [(.t 0, some (.one (lA Int.d s))), (.t 13, some (.one (lA Lt.d c))), (.t 14, some (.one (iA c.length))), (.t 15, some (.one (iA k)))])
    (fun k => k ≤ c.length ∧ ∀ j y, j < k → c[j]? = some y → wrong s y.left = 0 ∧ wrong s y.right = 0) (fun k => c.length - k) 0 ⟨by omega, fun j x h => absurd h (by omega)⟩ fgs ?_
  rintro k ⟨hk, hno⟩
  by_cases hkl : k < c.length
  rotate_left
  · have : k = c.length := by omega
    subst this
    (refine wlk ?_)
    (refine wfT ?_)
    exact Xi (b := 0) (by simp [wrongCl, h4, wrongLits_yes hno])
  obtain ⟨x, hx⟩ := get_of_lt hkl
  have hw := wrongLits_no hno hx
  (refine wlk ?_)
  (refine SqA.b1 (op_bsT (T := TB) (f := Tm.d) [x.left, x.right] rfl rfl rfl rfl rfl rfl rfl rfl rfl rfl rfl) rfl rfl ?_)
  (refine wlk ?_)
  refine dwp_loop (fun i : Nat => [(.t 0, some (.one (lA Int.d s))), (.t 13, some (.one (lA Lt.d c))), (.t 14, some (.one (iA c.length))), (.t 15, some (.one (iA k))), (.t 23, some (.one (lA Tm.d [x.left, x.right]))), (.t 24, some (.one (iA (2 : Nat)))), (.t 25, some (.one (iA i)))])
    (fun i => i ≤ 2 ∧ ∀ j y, j < i → [x.left, x.right][j]? = some y → wrong s y = 0) (fun i => 2 - i) 0 ⟨by omega, fun j x h => absurd h (by omega)⟩ fgs ?_
  rintro i ⟨hi, hin⟩
  by_cases hi2 : i < 2
  rotate_left
  · have : i = 2 := by omega
    subst this
    have h1 := hin 0 x.left (by omega) rfl
    have h2 := hin 1 x.right (by omega) rfl
    (refine wlk ?_)
    exact ⟨k + 1, ⟨by omega, upto_succ hno hx ⟨h1, h2⟩⟩, fgs, by omega⟩
  obtain ⟨y, hy⟩ := get_of_lt (s := [x.left, x.right]) (k := i) hi2
  by_cases h1 : wrong s y = 0
  · (refine wlk ?_)
    (refine SqA.b1 (op_call none rfl rfl rfl (by kernel_rfl) (FnD.use (pwrong s y)) rfl rfl rfl rfl rfl rfl) rfl rfl ?_)
    (refine wlk ?_)
    exact ⟨i + 1, ⟨by omega, upto_succ hin hy h1⟩, fgs, by omega⟩
  · have hres : wrongCl s c = wrong s y := by
      rcases Nat.lt_or_ge i 1 with h0 | h0
      · have : i = 0 := by omega
        subst this
        simp at hy; subst hy
        simp [wrongCl, h4, hw, wrongLits, h1]
      · have : i = 1 := by omega
        subst this
        simp at hy; subst hy
        have h2 := hin 0 x.left (by omega) rfl
        simp [wrongCl, h4, hw, wrongLits, h1, h2]
    (refine wlk ?_)
    (refine SqA.b1 (op_call none rfl rfl rfl (by kernel_rfl) (FnD.use (pwrong s y)) rfl rfl rfl rfl rfl rfl) rfl rfl ?_)
    (refine wlk ?_)
    (refine wfT ?_)
    exact Xi (b := wrong s y) hres.symm
abbrev tmG : Tm → List FC := fun t => [.val (.bool t.var), .val (.int .i64 t.n), .arr (t.args.map Tm.d)]
theorem pput (u : Tm) : ∀ (p : List Int) (t : Tm), t.size ≤ 1000000000 → FnD Tryz.prog 122 [tA t, lA Int.d p, tA u] (.one (tA (put t p u)))
  | [], t, hsz => by
    refine Fn.of Tryz.func122 rfl Tryz.ntmps122 rfl (Nat.le_of_ble_eq_true rfl) ?_
    have h0 : ([] : List Int).length = 0 := rfl
    (refine wlk ?_)
    (refine wfC ?_)
    exact Xt (b := u) (by simp [put])
  | i :: p, ⟨v, n, l⟩, hsz => by
    have ih := pput u p
    refine Fn.of Tryz.func122 rfl Tryz.ntmps122 rfl (Nat.le_of_ble_eq_true rfl) ?_
    have h0 : (i :: p)[0]? = some i := rfl
    have hl1 : (i :: p).length = p.length + 1 := rfl
    have hll := sizes_len l
    simp only [Tm.size] at hsz
    by_cases hi0 : i < 0
    · (refine wlk ?_)
      (refine wfC ?_)
      exact Xt (b := ⟨v, n, l⟩) (by simp [put, hi0])
    by_cases hil : (l.length : Int) ≤ i
    · (refine wlk ?_)
      (refine wfC ?_)
      exact Xt (b := ⟨v, n, l⟩) (by simp [put, hil])
    obtain ⟨j, rfl⟩ := Int.eq_ofNat_of_zero_le (a := i) (by omega)
    have hjl : j < l.length := by omega
    obtain ⟨y, hx⟩ := get_of_lt hjl
    have hxs := size_at hx
    have hput : put ⟨v, n, l⟩ ((j : Int) :: p) u = ⟨v, n, l.set j (put y p u)⟩ := by
      simp only [put]
      rw [if_neg (by omega), Int.toNat_natCast, getD_of hx]
    rw [hput]
    have hih := ih y (by omega)
    have hsl : (l.set j (put y p u)).length = l.length := List.length_set ..
    (refine wlk ?_)
    (refine SqA.b1 (op_call none rfl rfl rfl (by kernel_rfl) (FnD.use (cloneT l (by omega))) rfl rfl rfl rfl rfl rfl) rfl rfl ?_)
    (refine wlE ?_)
    refine dwp_ownElsB (f := Tm.d) (tp := 3) (b0 := 3) (q0 := 2) (T := 27) rfl rfl rfl (by omega) rfl rfl rfl rfl rfl rfl rfl fun e => ?_
    (refine wlk ?_)
    (refine SqA.b1 (op_loadEl (g := tmG) (m := 3) (fun _ => rfl) (k := j) (x := y) rfl rfl (rw_of rfl) rfl rfl rfl rfl hx rfl rfl rfl) rfl rfl ?_)
    (refine wlk ?_)
    (refine wlC hih ?_)
    (refine wlk ?_)
    (refine SqA.b1 (op_storeEl0 (g := tmG) (m := 3) (fun _ => rfl) (put y p u) rfl rfl (rw_of rfl) rfl rfl rfl rfl rfl rfl rfl rfl hjl rfl) rfl rfl ?_)
    (refine wlD ?_)
    refine dwp_wk (Wk.frzSlB (f := Tm.d) (b0 := 3) (q := 2) (j := 27) (k := l.length) (l := l.set j (put y p u)) rfl rfl rfl (els_take _ _) hsl rfl rfl rfl rfl rfl rfl) ?_
    (refine wlk ?_)
    (refine wfC ?_)
    rfl
theorem downS_size {S : List Int} {us : List (List Lt)} (hu : UsSz S us) {t t' : Tm} (ht : t.ar S = true) (h : downS us t = some t') : t'.ar S = true ∧ t'.size ≤ t.size := by
  obtain ⟨h1, h2, _⟩ := downS_some hu.ok ht h
  exact ⟨h1, (above_size (Tm.ar_okv _ h1) h2).1⟩
theorem pDown {S : List Int} {us : List (List Lt)} (hu : UsSz S us) (t : Tm) (ht : t.ar S = true) (hz : t.size ≤ 12) : FnD Tryz.prog 86 [tA t, lA Cl.d us] (.one (tA (dn us t))) := by
  refine Fn.of Tryz.func86 rfl Tryz.ntmps86 rfl (Nat.le_of_ble_eq_true rfl) ?_
  obtain ⟨f0, hf0⟩ := (dn_downs hu.ok ht).steps
  generalize dn us t = r at hf0
  (refine wlk ?_)
  refine dwp_loop (fun x : Nat × Tm × Bool => [(.t 1, some (.one (lA Cl.d us))), (.t 2, some (.one (.c (.ptr 2 0)))), (.b 2, some (.box (tA x.2.1).cells)), (.t 4, some (.one (.c (.ptr 4 0)))), (.b 4, some (.box [.val (.bool false), .val (.int .i64 0), .val (.slice none 0 0)])), (.t 5, some (.one (bA x.2.2)))])
    (fun x => x.2.1.ar S = true ∧ x.2.1.size ≤ 12 ∧ ((x.2.2 = true ∧ downF us x.1 x.2.1 = some r) ∨ (x.2.2 = false ∧ x.2.1 = r))) (fun x => if x.2.2 then x.1 + 1 else 0) (f0, t, true) ⟨ht, hz, .inl ⟨rfl, hf0⟩⟩ fgs ?_
  rintro ⟨f, t, again⟩ ⟨ht, hz, hd⟩
  dsimp only at ht hz hd ⊢
  cases again
  · obtain ⟨h, _⟩ | ⟨_, rfl⟩ := hd
    · cases h
    (refine wlk ?_)
    (refine wfC ?_)
    rfl
  · obtain ⟨_, hd⟩ | ⟨h, _⟩ := hd
    rotate_left
    · cases h
    obtain ⟨f, rfl⟩ : ∃ g, f = g + 1 := by
      cases f with
      | zero => simp [downF] at hd
      | succ g => exact ⟨g, rfl⟩
    have hpl := pplaces t (by omega)
    have hkp := places_len t
    have hdS : downS us t = downP us t (places t) := rfl
    (refine wlk ?_)
    (refine wlC hpl ?_)
    (refine wlk ?_)
    refine dwp_loop (fun k : Nat => [(.t 1, some (.one (lA Cl.d us))), (.t 2, some (.one (.c (.ptr 2 0)))), (.b 2, some (.box (tA t).cells)), (.t 4, some (.one (.c (.ptr 4 0)))), (.b 4, some (.box [.val (.bool false), .val (.int .i64 0), .val (.slice none 0 0)])), (.t 5, some (.one (bA false))),
        (.t 14, some (.one (lA Is.d (places t)))), (.t 15, some (.one (iA (places t).length))), (.t 16, some (.one (iA k)))])
      (fun k => k ≤ (places t).length ∧ ∀ j p, j < k → (places t)[j]? = some p → down1 us (at_ t p).1 = none) (fun k => (places t).length - k) 0 ⟨by omega, fun j x h => absurd h (by omega)⟩ fgs ?_
    rintro k ⟨hk, hno⟩
    by_cases hkl : k < (places t).length
    · obtain ⟨p, hx⟩ := get_of_lt hkl
      have hp := List.mem_of_getElem? hx
      have hat := at_ar (S := S) p t ht hp
      have haz := at_size p t hp
      have g1 := pat p t
      have g2 := pdown hu (at_ t p).1 hat (by omega)
      cases hr : down1 us (at_ t p).1 with
      | none =>
        rw [hr] at g2
        (refine wlk ?_)
        (refine wlC g1 ?_)
        (refine wlk ?_)
        (refine wlC g2 ?_)
        (refine wlk ?_)
        exact ⟨k + 1, ⟨by omega, upto_succ hno hx hr⟩, fgs, by omega⟩
      | some q =>
        rw [hr] at g2
        have hds : downS us t = some (put t p q) := downP_hit hno hx hr
        obtain ⟨h1, h2⟩ := downS_size hu ht hds
        have hd' : downF us f (put t p q) = some r := by simpa [downF, hds] using hd
        have g3 := pput q p t (by omega)
        (refine wlk ?_)
        (refine wlC g1 ?_)
        (refine wlk ?_)
        (refine wlC g2 ?_)
        (refine wlk ?_)
        (refine wlC g3 ?_)
        (refine wlk ?_)
        exact ⟨(f, put t p q, true), ⟨h1, by simp only; omega, .inl ⟨rfl, hd'⟩⟩, fgs, by simp⟩
    · have : k = (places t).length := by omega
      subst this
      have hds : downS us t = none := downP_none.2 fun p hp => any_upto hno p hp
      have hr : t = r := by simpa [downF, hds] using hd
      (refine wlk ?_)
      exact ⟨(f, t, false), ⟨ht, hz, .inr ⟨rfl, hr⟩⟩, fgs, by simp⟩
theorem dn_small {S : List Int} {us : List (List Lt)} (hu : UsSz S us) {c : List Lt} (hc : COk S c) : clSz (each (dn us) c) := fun l hl => by
  simp only [each, List.mem_map] at hl
  obtain ⟨x, hx, rfl⟩ := hl
  have h1 := (dn_wf hu.ok (hc.wf x hx).1).2
  have h2 := (dn_wf hu.ok (hc.wf x hx).2).2
  have := hc.size x hx
  dsimp only
  omega
theorem pRewrite {S : List Int} {us : List (List Lt)} (hu : UsSz S us) (c : List Lt) (hc : COk S c) : FnD Tryz.prog 49 [lA Lt.d c, lA Cl.d us] (.tup [lA Lt.d (rewr us c).1, iA (rewr us c).2]) := by
  have hw := dn_cl hu.ok hc.wf
  have hn := pnorm (each (dn us) c) hw.okv hw.few (dn_small hu hc) (by rw [each_len]; have := hc.len; omega)
  have hcl := hc.len
  refine Fn.of Tryz.func49 rfl Tryz.ntmps49 rfl (Nat.le_of_ble_eq_true rfl) ?_
  (refine wlk ?_)
  refine dwp_loop (fun k : Nat => [(.t 1, some (.one (lA Cl.d us))), (.t 6, some (.one (.c (.own 77 7 ((each (dn us) (c.take k)).map Lt.d))))), (.t 9, some (.one (lA Lt.d c))), (.t 10, some (.one (iA c.length))), (.t 11, some (.one (iA k)))])
    (fun k => k ≤ c.length) (fun k => c.length - k) 0 (by omega) ((Wk.nilOwn (d := 6) (E := 77) (m := 7) rfl).trans fgs) ?_
  intro k hk
  by_cases hkl : k < c.length
  · obtain ⟨⟨ng, xl, xr⟩, hx⟩ := get_of_lt hkl
    have hm := List.mem_of_getElem? hx
    have hwx := hc.wf _ hm
    have hzx := hc.size _ hm
    dsimp only at hwx hzx
    have h1 := pDown hu xl (Tm.wf_ar _ hwx.1) hzx.1
    have h2 := pDown hu xr (Tm.wf_ar _ hwx.2) hzx.2
    have hsn := each_snoc (g := dn us) hx
    have hel : (each (dn us) (c.take (k + 1))).length ≤ 1000 := by rw [each_len, List.length_take]; omega
    (refine wlk ?_)
    (refine wlC h1 ?_)
    (refine wlk ?_)
    (refine wlC h2 ?_)
    (refine wlk ?_)
    (refine SqA.b1 (op_bsT (T := TB) (f := Lt.d) [(⟨ng, dn us xl, dn us xr⟩ : Lt)] rfl rfl rfl rfl rfl rfl rfl rfl rfl rfl rfl) rfl rfl ?_)
    (refine wlk ?_)
    exact ⟨k + 1, by omega, fgs, by omega⟩
  · have : k = c.length := by omega
    subst this
    rw [List.take_length]
    refine dwp_wk (Wk.freezeAt (d := 6) rfl) ?_
    (refine wlk ?_)
    (refine wlC hn ?_)
    (refine wlk ?_)
    (refine wfTT ?_)
    rfl
end Go.Proofs.YtmanhdacnkpclaaGreat
/- What functions do: a maker of clauses takes one in. -/
namespace Go.Proofs.YtmanhdacnkpclaaGreat
set_option linter.all false
open Go.RowKit
abbrev mkBox (m : Mk) : List CV := [.own 39 1 (m.1.map Cl.d), .val (.bool m.2)]
set_option maxRecDepth 100000 in
theorem padd1 (n x : List Lt) : FnD Tryz.prog 127 [lA Lt.d x, .c (.fp [.arr (n.map Lt.d)])] (.one (bA (clSame x n))) := by
  refine Fn.of Tryz.func127 rfl Tryz.ntmps127 rfl (Nat.le_of_ble_eq_true rfl) ?_
  (refine wlk ?_)
  (refine SqA.b1 (op_call none rfl rfl rfl (by kernel_rfl) (FnD.use (psameClause x n)) rfl rfl rfl rfl rfl rfl) rfl rfl ?_)
  (refine wlk ?_)
  (refine wfT ?_)
  rfl
set_option maxHeartbeats 4000000 in
set_option maxRecDepth 100000 in
theorem padd (m : Mk) (s : List Pr) (c : List Lt) (hz : clSz c) (hcl : c.length ≤ 1000) (hk : clOkv (each (app s) c)) (hf : clFew (each (app s) c)) (hz2 : clSz (each (app s) c)) (hm : m.1.length ≤ 1000000) :
    FnB Tryz.prog 91 [.c (.ptr EXT 0), lA Pr.d s, lA Lt.d c] (mkBox m) (.tup []) (mkBox (addR m s c)) := by
  have a1 := papplyC s c (by omega) hz
  have a2 := pnorm (each (app s) c) hk hf hz2 (by rw [each_len]; omega)
  refine Fn.of Tryz.func91 rfl Tryz.ntmps91 rfl (Nat.le_of_ble_eq_true rfl) ?_
  have hcode := norm_code (each (app s) c)
  obtain ⟨m1, m2⟩ := m
  dsimp only at hm
  rcases hn : norm (each (app s) c) with ⟨n, e⟩
  have hadd : addR (m1, m2) s c = if e = 4 then (m1, true) else if e = 0 then (if m1.any fun x => clSame x n then (m1, m2) else (m1 ++ [n], m2)) else (m1, m2) := by
    unfold addR; rw [hn]
  rw [hadd]
  rw [hn] at a2
  dsimp only at a2
  by_cases h4 : e = 4
  · (refine wlk ?_)
    (refine wlC a1 ?_)
    (refine wlk ?_)
    (refine wlC a2 ?_)
    (refine wlk ?_)
    (refine wbU ?_)
    exact XB rfl (by simp [h4]; rfl)
  by_cases h0 : e = 0
  rotate_left
  · (refine wlk ?_)
    (refine wlC a1 ?_)
    (refine wlk ?_)
    (refine wlC a2 ?_)
    (refine wlk ?_)
    (refine SqA.noG1 rfl rfl ?_)
    (refine wlk ?_)
    (refine wbU ?_)
    exact XB rfl (by simp [h4, h0])
  have g := contFC 127 [.arr (n.map Lt.d)] (fun x => clSame x n) (by kernel_rfl) m1 (fun x hx => padd1 n x)
  cases hany : m1.any fun x => clSame x n
  · rw [hany] at g
    have hsn : m1 ++ [n] = m1 ++ [n] := rfl
    refine dwp_isOB (j := EXT) (q := 0) rfl rfl rfl ⟨0, rfl⟩ fun v => ?_
    (refine wlk ?_)
    (refine wlC a1 ?_)
    (refine wlk ?_)
    (refine wlC a2 ?_)
    (refine wlE ?_)
    refine dwp_wk (Wk.frzF (t := 6) (j := 6) (fs := [.arr (n.map Lt.d)]) rfl rfl rfl rfl rfl) ?_
    (refine wlk ?_)
    (refine SqA.b1 (op_mkFn rfl rfl rfl) rfl rfl ?_)
    (refine wlk ?_)
    (refine SqA.b1 (op_callL (fun t => t = .own (.b EXT) 0 0) rfl rfl rfl (by kernel_rfl) g (LendL.cons (lend_valB (j := EXT) (q := 0) (tp := 0) rfl rfl rfl rfl rfl rfl) (LendL.cons (lend_same rfl rfl rfl) .nil)) rfl rfl) rfl rfl ?_)
    (refine wlE ?_)
    refine dwp_wk (Wk.ofKB (j := EXT) (q := 0) rfl rfl rfl rfl) ?_
    refine dwp_isB (t := 0) (j := EXT) rfl fun pv => ?_
    (repeat (first | (with_reducible refine dwp_seq ?_) | (with_reducible refine dwp_block ?_) | ((with_reducible refine id_reg ?_); first | (refine dwp_reg rfl ?_) | (refine dwp_drw mixed rfl ?_)) | ((with_reducible refine id_cond ?_); first | (refine dwp_condT rfl ?_) | (refine dwp_condF rfl ?_) | (refine dwp_yes rfl (by first | assumption | exact congrArg Bool.not (by assumption) | rfl) ?_) | (refine dwp_nope rfl (by first | assumption | exact congrArg Bool.not (by assumption) | rfl) ?_)) | (with_reducible refine dwp_skip ?_) | (with_reducible refine dwp_exit ?_) | (with_reducible refine dwp_ret ?_) | (with_reducible refine dwp_label ?_)))
    (refine SqA.b1 (op_moveBK (t := 0) rfl (Or.inl rfl) rfl) rfl rfl ?_)
    (refine SqA.b1 (op_moveBK (t := 0) rfl (Or.inl rfl) rfl) rfl rfl ?_)
    (refine SqA.b1 (op_nilBK (tp := 0) rfl rfl rfl rfl) rfl rfl ?_)
    (refine wlk ?_)
    (refine SqA.b1 (op_bsT (T := TB) (f := Cl.d) [n] rfl rfl rfl rfl rfl rfl rfl rfl rfl rfl rfl) rfl rfl ?_)
    (refine wlk ?_)
    (refine SqA.b1 (op_nilBK (tp := 0) rfl rfl rfl rfl) rfl rfl ?_)
    (refine wlk ?_)
    (refine wbU ?_)
    exact XB rfl (by simp [h0])
  · rw [hany] at g
    refine dwp_isOB (j := EXT) (q := 0) rfl rfl rfl ⟨0, rfl⟩ fun v => ?_
    (refine wlk ?_)
    (refine wlC a1 ?_)
    (refine wlk ?_)
    (refine wlC a2 ?_)
    (refine wlE ?_)
    refine dwp_wk (Wk.frzF (t := 6) (j := 6) (fs := [.arr (n.map Lt.d)]) rfl rfl rfl rfl rfl) ?_
    (refine wlk ?_)
    (refine SqA.b1 (op_mkFn rfl rfl rfl) rfl rfl ?_)
    (refine wlk ?_)
    (refine SqA.b1 (op_callL (fun t => t = .own (.b EXT) 0 0) rfl rfl rfl (by kernel_rfl) g (LendL.cons (lend_valB (j := EXT) (q := 0) (tp := 0) rfl rfl rfl rfl rfl rfl) (LendL.cons (lend_same rfl rfl rfl) .nil)) rfl rfl) rfl rfl ?_)
    (refine wlE ?_)
    refine dwp_wk (Wk.ofKB (j := EXT) (q := 0) rfl rfl rfl rfl) ?_
    (refine wlk ?_)
    (refine wbU ?_)
    exact XB rfl (by simp [h0])
end Go.Proofs.YtmanhdacnkpclaaGreat
/- What functions do: a clause without one of its literals (the document's answer). -/
namespace Go.Proofs.YtmanhdacnkpclaaGreat
set_option linter.all false
open Go.RowKit
set_option maxRecDepth 100000 in
theorem rbut (c : List Lt) (i : Nat) (hi : i < c.length) (hl : c.length ≤ 1000) : FnD Tryz.prog 102 [lA Lt.d c, iA i] (.one (lA Lt.d (c.eraseIdx i))) := by
  have h2 : c.take (i : Int).toNat ++ c.drop ((i : Int) + 1).toNat = c.eraseIdx i := by rw [List.eraseIdx_eq_take_drop_succ]; rfl
  have h3 : (c.eraseIdx i).length ≤ 1000 := by rw [List.length_eraseIdx]; split <;> omega
  refine Fn.of Tryz.func102 rfl Tryz.ntmps102 rfl (Nat.le_of_ble_eq_true rfl) ?_
  (refine wlk ?_)
  (refine SqA.b1 (op_sliceHiT (T := TB) (f := Lt.d) (l := c) rfl rfl rfl rfl rfl (by omega) (by omega)) rfl rfl ?_)
  (refine SqA.b2 (op_appT (T := TB) (f := Lt.d) (l := []) (es := c.take (i : Int).toNat) (rs := c.take (i : Int).toNat) rfl rfl rfl rfl rfl rfl (by simp only [List.length_take]; omega) (by decide)) rfl rfl ?_)
  (refine wlk ?_)
  refine fin_wk (fun n => Wk.freezeAt (d := 4) rfl) ?_
  (refine wfT ?_)
  rfl
set_option maxRecDepth 100000 in
theorem rbutO (c : List Lt) (i : Nat) (hi : i < c.length) (hl : c.length ≤ 1000) : FnD Tryz.prog 102 [lA Lt.d c, iA i] (.one (.c (.own 77 7 ((c.eraseIdx i).map Lt.d)))) := by
  have h2 : c.take (i : Int).toNat ++ c.drop ((i : Int) + 1).toNat = c.eraseIdx i := by rw [List.eraseIdx_eq_take_drop_succ]; rfl
  have h3 : (c.eraseIdx i).length ≤ 1000 := by rw [List.length_eraseIdx]; split <;> omega
  refine Fn.of Tryz.func102 rfl Tryz.ntmps102 rfl (Nat.le_of_ble_eq_true rfl) ?_
  (refine wlk ?_)
  (refine SqA.b1 (op_sliceHiT (T := TB) (f := Lt.d) (l := c) rfl rfl rfl rfl rfl (by omega) (by omega)) rfl rfl ?_)
  (refine SqA.b2 (op_appT (T := TB) (f := Lt.d) (l := []) (es := c.take (i : Int).toNat) (rs := c.take (i : Int).toNat) rfl rfl rfl rfl rfl rfl (by simp only [List.length_take]; omega) (by decide)) rfl rfl ?_)
  (refine wlk ?_)
  (refine finO (E := _) rfl ?_)
  rfl
end Go.Proofs.YtmanhdacnkpclaaGreat
/- What functions do: both ways of a literal; renaming in the document's answer. -/
namespace Go.Proofs.YtmanhdacnkpclaaGreat
set_option linter.all false
open Go.RowKit
set_option maxRecDepth 100000 in
theorem pways (l : Lt) : FnD Tryz.prog 94 [ltA l] (.one (lA Tw.d (waysL l))) := by
  obtain ⟨ng, xl, xr⟩ := l
  refine Fn.of Tryz.func94 rfl Tryz.ntmps94 rfl (Nat.le_of_ble_eq_true rfl) ?_
  (refine wlk ?_)
  (refine SqA.b1 (op_bsT (T := TB) (f := Tw.d) [((xl, xr) : Tm × Tm), (xr, xl)] rfl rfl rfl rfl rfl rfl rfl rfl rfl rfl rfl) rfl rfl ?_)
  (refine wlk ?_)
  (refine wfT ?_)
  rfl
set_option maxRecDepth 100000 in
theorem rsup1 (t : Tm) (hk : t.okv = true) (hz : t.size ≤ 2000000000000) : FnD Tryz.prog 104 [tA t] (.one (tA (ren 5 t))) := by
  refine Fn.of Tryz.func104 rfl Tryz.ntmps104 rfl (Nat.le_of_ble_eq_true rfl) ?_
  (refine wlk ?_)
  (refine SqA.b1 (op_call none rfl rfl rfl (by kernel_rfl) (FnD.use (rrename 5 (by decide) (by decide) t hk hz)) rfl rfl rfl rfl rfl rfl) rfl rfl ?_)
  (refine wlk ?_)
  (refine wfC ?_)
  rfl
set_option maxRecDepth 100000 in
theorem ladd1 (by_ : List Pr) (hl : by_.length ≤ 4000000000000) (t : Tm) (hz : t.size ≤ 2000000000000) : FnD Tryz.prog 134 [tA t, .c (.fp [.arr (by_.map Pr.d)])] (.one (tA (app by_ t))) := by
  refine Fn.of Tryz.func134 rfl Tryz.ntmps134 rfl (Nat.le_of_ble_eq_true rfl) ?_
  (refine wlk ?_)
  (refine SqA.b1 (op_call none rfl rfl rfl (by kernel_rfl) (FnD.use (ap by_ hl t hz)) rfl rfl rfl rfl rfl rfl) rfl rfl ?_)
  (refine wlk ?_)
  (refine wfC ?_)
  rfl
end Go.Proofs.YtmanhdacnkpclaaGreat
/- What functions do: the document's list takes a clause in. -/
namespace Go.Proofs.YtmanhdacnkpclaaGreat
set_option linter.all false
open Go.RowKit
set_option maxHeartbeats 4000000 in
set_option maxRecDepth 100000 in
theorem ladd (m : Mk) (s : List Pr) (c : List Lt) (hsl : s.length ≤ 4000000000000) (hz : clSz c) (hcl : c.length ≤ 1000) (hk : clOkv (each (app s) c)) (hf : clFew (each (app s) c)) (hz2 : clSz (each (app s) c)) (hm : m.1.length ≤ 1000000) :
    FnB Tryz.prog 101 [.c (.ptr EXT 0), lA Pr.d s, lA Lt.d c] (mkBox m) (.tup []) (mkBox (addR m s c)) := by
  have a1 := rEach1 134 [.arr (s.map Pr.d)] (app s) (by kernel_rfl) c (by omega) fun x hx => by
    have := hz x hx
    exact ⟨ladd1 s hsl x.left (by omega), ladd1 s hsl x.right (by omega)⟩
  have a2 := rnorm (each (app s) c) hk hf hz2 (by rw [each_len]; omega)
  refine Fn.of Tryz.func101 rfl Tryz.ntmps101 rfl (Nat.le_of_ble_eq_true rfl) ?_
  obtain ⟨m1, m2⟩ := m
  dsimp only at hm
  rcases hn : norm (each (app s) c) with ⟨n, e⟩
  have hadd : addR (m1, m2) s c = if e = 4 then (m1, true) else if e = 0 then (if m1.any fun x => clSame x n then (m1, m2) else (m1 ++ [n], m2)) else (m1, m2) := by
    unfold addR; rw [hn]
  rw [hadd]
  rw [hn] at a2
  dsimp only at a2
  by_cases h0 : e = 0
  rotate_left
  · by_cases h4 : e = 4
    · (refine wlR ?_)
      refine dwp_wk (Wk.frzF (t := 4) (j := 4) (fs := [.arr (s.map Pr.d)]) rfl rfl rfl rfl rfl) ?_
      (refine wlk ?_)
      (refine SqA.b1 (op_mkFn rfl rfl rfl) rfl rfl ?_)
      (refine wlk ?_)
      (refine wlC a1 ?_)
      (refine wlk ?_)
      (refine wlC a2 ?_)
      (refine wlk ?_)
      (refine wbU ?_)
      exact XB rfl (by simp [h4]; rfl)
    · (refine wlR ?_)
      refine dwp_wk (Wk.frzF (t := 4) (j := 4) (fs := [.arr (s.map Pr.d)]) rfl rfl rfl rfl rfl) ?_
      (refine wlk ?_)
      (refine SqA.b1 (op_mkFn rfl rfl rfl) rfl rfl ?_)
      (refine wlk ?_)
      (refine wlC a1 ?_)
      (refine wlk ?_)
      (refine wlC a2 ?_)
      (refine wlk ?_)
      (refine wbU ?_)
      exact XB rfl (by simp [h4, h0])
  have h4 : ¬ e = 4 := by omega
  (refine wlR ?_)
  refine dwp_wk (Wk.frzF (t := 4) (j := 4) (fs := [.arr (s.map Pr.d)]) rfl rfl rfl rfl rfl) ?_
  refine dwp_isOB (j := EXT) (q := 0) rfl rfl rfl ⟨0, rfl⟩ fun v => ?_
  (refine wlk ?_)
  (refine SqA.b1 (op_mkFn rfl rfl rfl) rfl rfl ?_)
  (refine wlk ?_)
  (refine wlC a1 ?_)
  (refine wlk ?_)
  (refine wlC a2 ?_)
  (refine wlk ?_)
  (refine SqA.b1 (op_lenKT (T := TB) (f := Cl.d) (l := m1) (tp := 0) (j := EXT) (q := 0) rfl rfl rfl rfl rfl rfl rfl rfl) rfl rfl ?_)
  (refine wlk ?_)
  refine dwp_loop (fun k : Nat => [(.t 0, some (.one (.c (.ptr EXT 0)))), (.b EXT, some (.box [.ownK v 39 1 (m1.map Cl.d), .val (.bool m2)])), (.t 6, some (.one (lA Lt.d n))), (.t 27, some (.one (.c (.val v)))), (.t 28, some (.one (iA m1.length))), (.t 29, some (.one (iA k)))])
    (fun k => k ≤ m1.length ∧ ∀ j x, j < k → m1[j]? = some x → clSame x n = false) (fun k => m1.length - k) 0 ⟨by omega, fun j x h => absurd h (by omega)⟩ fgs ?_
  rintro k ⟨hkk, hno⟩
  by_cases hkl : k < m1.length
  · obtain ⟨x, hx⟩ := get_of_lt hkl
    have g := rsameClause x n
    cases e1 : clSame x n
    · rw [e1] at g
      (refine wlk ?_)
      (refine SqA.b1 (op_idxK (T := TB) (tp := 0) (j := EXT) (q := 0) (k := k) (q' := k) rfl rfl rfl rfl rfl rfl rfl rfl rfl rfl (by simp; omega) (Nat.mul_one k)) rfl rfl ?_)
      (refine SqA.b1 (op_loadKE (f := Cl.d) (l := m1) (x := x) (k := k) (tp := 0) (j := EXT) (q := 0) rfl rfl (rw_of rfl) rfl rfl rfl rfl rfl hx rfl rfl) rfl rfl ?_)
      (refine wlk ?_)
      (refine wlC g ?_)
      (refine wlk ?_)
      exact ⟨k + 1, ⟨by omega, upto_succ hno hx e1⟩, fgs, by omega⟩
    · rw [e1] at g
      have hany : (m1.any fun x => clSame x n) = true := List.any_eq_true.2 ⟨x, List.mem_of_getElem? hx, e1⟩
      (refine wlk ?_)
      (refine SqA.b1 (op_idxK (T := TB) (tp := 0) (j := EXT) (q := 0) (k := k) (q' := k) rfl rfl rfl rfl rfl rfl rfl rfl rfl rfl (by simp; omega) (Nat.mul_one k)) rfl rfl ?_)
      (refine SqA.b1 (op_loadKE (f := Cl.d) (l := m1) (x := x) (k := k) (tp := 0) (j := EXT) (q := 0) rfl rfl (rw_of rfl) rfl rfl rfl rfl rfl hx rfl rfl) rfl rfl ?_)
      (refine wlk ?_)
      (refine wlC g ?_)
      (refine wlk ?_)
      refine fin_wk (fun n => Wk.ofKB (j := EXT) (q := 0) rfl rfl rfl rfl) ?_
      (refine wbU ?_)
      exact XB rfl (by simp [h0, hany])
  · have : k = m1.length := by omega
    subst this
    have hany : (m1.any fun x => clSame x n) = false := List.any_eq_false.2 fun x hx => by rw [any_upto hno x hx]; simp
    have hsn : m1 ++ [n] = m1 ++ [n] := rfl
    refine dwp_wk (Wk.ofKB (j := EXT) (q := 0) rfl rfl rfl rfl) ?_
    (refine wlk ?_)
    (refine SqA.b1 (op_bsT (T := TB) (f := Cl.d) [n] rfl rfl rfl rfl rfl rfl rfl rfl rfl rfl rfl) rfl rfl ?_)
    (refine wlk ?_)
    (refine wbU ?_)
    exact XB rfl (by simp [h0, hany])
end Go.Proofs.YtmanhdacnkpclaaGreat
/- slices.Delete of one element: what its code does. -/
namespace Go.Proofs.YtmanhdacnkpclaaGreat
set_option linter.all false
open Go.RowKit
theorem run_clear_k {P : Program} (w : World) (t e ty : TypeId) (z : Value) (ht : P.underlying t = some (.slice e)) (hv : ∀ w, (zeroValue e).run P w = .ok z w) (h1 : ∀ n, ∀ x ∈ (Builtin.zeroCells z.cells n).toList, x.oneCell' = true) (b o n c : Nat) (hn : 0 < n)
    (hc : ∀ j, j < (Builtin.zeroCells z.cells n).toList.length → (w.cell? ⟨b, o + j, none⟩).isSome = true) (hf : ∀ j, j < (Builtin.zeroCells z.cells n).toList.length → w.frozen? ⟨b, o + j, none⟩ = false) :
    (Builtin.clear_ #[t] ty #[.slice (some ⟨b, o, none⟩) n c]).run P w = .ok (.tuple #[]) (w.setCells b o (Builtin.zeroCells z.cells n).toList) := by
  have hst := run_storeCells_cells (P := P) b o (Builtin.zeroCells z.cells n).toList 0 w (by simpa using hc) (by simpa using hf) (h1 n)
  simp only [Nat.add_zero] at hst
  obtain ⟨m, rfl⟩ : ∃ m, n = m + 1 := ⟨n - 1, by omega⟩
  simp [Builtin.clear_, run_underlying ht, hv, hst]
theorem zero_one {cs : Array Value} {m : Nat} (hm : cs.size = m) (h : cs.toList.all (fun x => x.oneCell') = true) (n : Nat) : ∀ x ∈ (Builtin.zeroCells cs n).toList, x.oneCell' = true := fun x hx => by
  simp only [Builtin.zeroCells, Array.toList_map, Array.toList_range, List.mem_map, List.mem_range] at hx
  obtain ⟨i, hi, rfl⟩ := hx
  have hp : 0 < cs.size := by
    rcases Nat.eq_zero_or_pos cs.size with h0 | h0
    · rw [h0] at hi; omega
    · exact h0
  have hlt : i % cs.size < cs.size := Nat.mod_lt _ hp
  rw [getElem!_pos cs _ hlt]
  exact List.all_eq_true.1 h _ (by simp)
theorem cell_of {w : World} {g E : Nat} {cur : Array Value} (h : w.heap[g]? = some (.cells cur E (0, 0))) (k : Nat) (hk : k < cur.size) : w.cell? ⟨g, k, none⟩ = cur[k]? ∧ w.frozen? ⟨g, k, none⟩ = false := by
  constructor
  · simp [World.cell?, h]
  · simp [World.frozen?, h]
set_option maxHeartbeats 4000000 in
set_option maxRecDepth 1000000 in
theorem delL : DelC Tryz.prog 128 77 7 := by
  intro w g n cap i cur hg hlc hcm hcs hone hi
  rw [show ((i : Int) + 1) = ((i + 1 : Nat) : Int) by omega]
  obtain ⟨j, hj⟩ : ∃ j, j = i + 1 := ⟨_, rfl⟩
  rw [← hj]
  have hij : i ≤ j := by omega
  have hne : ¬ (i = j) := by omega
  have hjn : j ≤ n := by omega
  have hmm : cap ≤ 9223372036854775807 := by simpa [maxLen] using hcm
  have hn7 : n * 7 ≤ cap * 7 := Nat.mul_le_mul_right 7 hlc
  have hj7 : j * 7 ≤ n * 7 := Nat.mul_le_mul_right 7 hjn
  have hi7 : j * 7 = i * 7 + 7 := by rw [hj, Nat.add_mul]
  have hd7 : (n - j) * 7 = n * 7 - j * 7 := Nat.sub_mul ..
  obtain ⟨i0, hi0', hz0', hz1', _⟩ := info_parts slClause.info
  have hzv : ∀ w, (zeroValue 77).run Tryz.prog w = .ok (.agg #[.bool false, .bool false, .int .i64 0, .slice none 0 0, .bool false, .int .i64 0, .slice none 0 0]) w := fun w => by simp [zeroValue, typeInfo, hi0', hz0']
  obtain ⟨zc, hzc⟩ : ∃ zc : Value, zc = (.agg #[.bool false, .bool false, .int .i64 0, .slice none 0 0, .bool false, .int .i64 0, .slice none 0 0]) := ⟨_, rfl⟩
  have hi0 : Hid (Tryz.prog.info? 77 = some i0) := hi0'
  have hz1 : Hid (i0.size = 7) := hz1'
  have hone0 : ∀ n, ∀ x ∈ (Builtin.zeroCells (Value.cells (.agg #[.bool false, .bool false, .int .i64 0, .slice none 0 0, .bool false, .int .i64 0, .slice none 0 0])) n).toList, x.oneCell' = true := fun n x hx => zero_one rfl rfl n x hx
  rw [← hzc] at hzv hone0
  have hzl1 : (Builtin.zeroCells zc.cells 1).toList.length = 7 := by
    rw [hzc]
    simp only [Builtin.zeroCells, Array.toList_map, List.length_map, Array.toList_range, List.length_range, Nat.one_mul]
    exact slClause.zsize
  clear hi0' hz0' hz1'
  obtain ⟨news, hnews⟩ : ∃ news, news = (cur.toList.take (n * 7)).drop (j * 7) := ⟨_, rfl⟩
  have hnl : news.length = (n - j) * 7 := by rw [hnews, List.length_drop, List.length_take, Array.length_toList, hcs]; omega
  have hget : ∀ t u, news[t]? = some u → w.drew.cell? ⟨g, j * 7 + t, none⟩ = some u := fun t u hu => by
    have ht : t < (n - j) * 7 := by rw [← hnl]; exact (List.getElem?_eq_some_iff.1 hu).1
    rw [(cell_of (w := w.drew) hg (j * 7 + t) (by omega)).1]
    rw [hnews, List.getElem?_drop, List.getElem?_take, if_pos (by omega), Array.getElem?_toList] at hu
    exact hu
  have hsome : ∀ k, k < cap * 7 → (w.drew.cell? ⟨g, k, none⟩).isSome = true ∧ w.drew.frozen? ⟨g, k, none⟩ = false := fun k hk => by
    obtain ⟨h1, h2⟩ := cell_of (w := w.drew) hg k (by omega)
    rw [h1, h2]
    exact ⟨by rw [Array.getElem?_eq_getElem (by omega)]; exact Option.isSome_some, rfl⟩
  obtain ⟨A, hA, hsrc⟩ : ∃ A : Addr, (if cap = j then some (⟨g, 0, none⟩ : Addr) else some ⟨g, j * 7, none⟩) = some A ∧ Hid (∀ t u, news[t]? = some u → w.drew.cell? (A.add t) = some u) := by
    by_cases h : cap = j
    · refine ⟨⟨g, 0, none⟩, by simp [h], fun t u hu => ?_⟩
      have h0 : news.length = 0 := by have : n - j = 0 := by omega
                                      simp [hnl, this]
      rw [List.length_eq_zero_iff.1 h0] at hu
      simp at hu
    · refine ⟨⟨g, j * 7, none⟩, by simp [h], fun t u hu => ?_⟩
      rw [add_lit]
      exact hget t u hu
  have s1 : Hid (news.length = (n - j) * 7) := hnl
  have s2 : Hid (∀ u ∈ news, u.oneCell' = true) := fun u hu => by
    rw [hnews] at hu
    exact hone u (List.mem_of_mem_drop hu)
  have s3 : Hid (∀ t, t < news.length → (w.drew.cell? ⟨g, 0 + i * 7 + t, none⟩).isSome = true ∧ w.drew.frozen? ⟨g, 0 + i * 7 + t, none⟩ = false) := fun t ht => by
    rw [hnl] at ht
    exact hsome _ (by omega)
  obtain ⟨W1, hW1⟩ : ∃ W1, W1 = w.drew.setCells g (0 + i * 7) news := ⟨_, rfl⟩
  have hg0 : w.drew.heap[g]? = some (.cells cur.toList.toArray 77 (0, 0)) := by
    show w.heap[g]? = _
    simpa using hg
  obtain ⟨a1, a2, a3, a4, a5, a6⟩ := setCells_blk news w.drew g (0 + i * 7) cur.toList 77 hg0
  rw [← hW1] at a1
  obtain ⟨zl, hzl0⟩ : ∃ zl, zl = (Builtin.zeroCells zc.cells 1).toList := ⟨_, rfl⟩
  have hcl : ∀ ty, (Builtin.clear_ #[39] ty #[.slice (some ⟨g, (i + (n - j)) * 7, none⟩) (n - (i + (n - j))) (cap - (i + (n - j)))]).run Tryz.prog W1 = .ok (.tuple #[]) (W1.setCells g ((i + (n - j)) * 7) zl) := fun ty => by
    have e1 : n - (i + (n - j)) = 1 := by omega
    rw [e1, hzl0]
    have hk : ∀ q, q < (Builtin.zeroCells zc.cells 1).toList.length → (i + (n - j)) * 7 + q < (splL cur.toList (0 + i * 7) news).toArray.size := fun q hq => by
      rw [hzl1] at hq
      rw [List.size_toArray, splL_len, Array.length_toList, hcs]
      omega
    exact run_clear_k W1 _ _ ty zc (by kernel_rfl) hzv hone0 g _ 1 _ (by omega) (fun q hq => by
      have := hk q hq
      rw [(cell_of a1 _ this).1, Array.getElem?_eq_getElem this]; rfl) (fun q hq => (cell_of a1 _ (hk q hq)).2)
  have X : Aside (W1 = w.drew.setCells g (0 + i * 7) news) := hW1
  have hW : Hid (W1 = w.drew.setCells g (0 + i * 7) news) := hW1
  have N : Aside (news = (cur.toList.take (n * 7)).drop (j * 7)) := hnews
  have hic : i ≤ cap := by omega
  have hjc : j ≤ cap := by omega
  have J : Aside (j = i + 1) := hj
  clear hj hi7 hd7 hn7 hj7
  (try rw [Nat.mul_one] at hA)
  clear hW1 hget hsome hnews hnl a1 a2 a3 a4 a5 a6 hg0 hcs hone hzv hone0 hzc
  have hzl : Hid (zl.length = 7) := by rw [hzl0]; exact hzl1
  clear hzl1 hzl0 zc
  go_enter Tryz.func128, Tryz.ntmps128
  go_wp2_with fail
  go_region_law (refine step_append_room rfl (.tmp 22) (.tmp 25) 39 rfl 77 i0 7 (by kernel_rfl) hi0.out hz1.out g 0 i cap (by simp [Act.eval, Act.put]) A (n - j) (cap - j) news (by first | (simp [Act.eval, Act.put]; done) | (simp [Act.eval, Act.put]; simpa using hA)) s1.out hsrc.out s2.out (by omega) s3.out ?_; rw [← hW.out])
  go_wp2
  go_ret
  refine ⟨by rw [show i + (n - j) = n - 1 by have := J.out; omega]; rfl, 1, zl, hzl.out, ?_⟩
  have e2 : i + (n - j) = n - 1 := by have := J.out; omega
  rw [e2, X.out, N.out, Nat.zero_add]
  (try simp only [Nat.mul_one])
  rfl
end Go.Proofs.YtmanhdacnkpclaaGreat
/- A slice that grows from nothing (slices.Grow), and clauses one behind the other (slices.Concat). -/
namespace Go.Proofs.YtmanhdacnkpclaaGreat
set_option linter.all false
open Go.RowKit
open Classical in
noncomputable def tagOwn (v : Value) (who : Nat → Tag) : Nat → Tag := fun b => if v.ownBlock = some b then .own (.t 0) 0 0 else who b
theorem Fn.ofElderOwn {P : Program} {f : FuncId} {args : List A1} {E m : Nat} {ds : List D} (h : ∀ (who : Nat → Tag) (w : World) (vs : List Value), vs.length = args.length → (∀ (i : Nat) (A : A1) (v : Value), args[i]? = some A → vs[i]? = some v → A1m w who (.t i) 0 A v) →
    Calls P f vs.toArray w fun e w' => ∃ v, e = .returned v ∧ Own w' w.heap.size E m (Fz who) v ds ∧ Below w.heap.size w w') : FnD P f args (.one (.c (.own E m ds))) := fun who w vs hfz hbu hin hl ha _ => by
  refine (h who w vs hl ha).mono ?_
  rintro e w' ⟨v, rfl, ho, hb⟩
  have hnew : ∀ k, v.ownBlock = some k → w.heap.size ≤ k ∧ k < w'.heap.size := fun k hk => ho.lt k hk
  have hold : ∀ b, b < w.heap.size → tagOwn v who b = who b := fun b hlt => if_neg fun e => by have := hnew b e; omega
  refine ⟨v, _, [], tagOwn v who, rfl, rfl, rfl, ⟨ho.wide (fun b _ hF => ?_) (Nat.zero_le _), fun k hk => if_pos hk⟩, (fun h => by cases h), ⟨hb.os, hb.tape, hb.output, hb.size, fun b hlt _ => hb.block b hlt, fun b hlt _ => hold b hlt⟩, fun b h => ?_, fun b b' j h h' => ?_⟩
  · have : b < w.heap.size := hfz.1 b (by rw [show who b = .froz from hF]; simp)
    exact (hold b this).trans hF
  · rcases Classical.em (v.ownBlock = some b) with e | e
    · exact (hnew b e).2
    · rw [show tagOwn v who b = who b from if_neg e] at h
      exact Nat.lt_of_lt_of_le (hfz.1 b h) hb.size
  · have key : ∀ b, tagOwn v who b = .bx j → who b = .bx j := fun b h => by
      rcases Classical.em (v.ownBlock = some b) with e | e
      · rw [show tagOwn v who b = .own (.t 0) 0 0 from if_pos e] at h; cases h
      · rw [show tagOwn v who b = who b from if_neg e] at h; exact h
    exact hbu b b' j (key b h) (key b' h')
set_option maxHeartbeats 4000000 in
set_option maxRecDepth 1000000 in
theorem growL (n : Nat) (hn : n ≤ 1000000000) : FnD Tryz.prog 144 [.c (.val (.slice none 0 0)), iA n] (.one (.c (.own 77 7 []))) := by
  refine Fn.ofElderOwn fun who w vs hl ha => ?_
  match vs, hl with
  | [v0, v1], _ =>
    have h0 : v0 = .slice none 0 0 := ha 0 _ v0 rfl rfl
    have h1 : v1 = .int .i64 n := ha 1 _ v1 rfl rfl
    subst h0 h1
    rcases Nat.eq_zero_or_pos n with rfl | hp
    · clear hn ha
      go_enter Tryz.func144, Tryz.ntmps144
      go_wp2
      all_goals (go_ret; exact ⟨_, rfl, Own.nil .., Below.refl _ _⟩)
    · obtain ⟨i0, hi, hz, hs1, hby⟩ := info_parts slClause.info
      have hrun := Lib.run_append_nil_zeros (P := Tryz.prog) w 39 3 39 77 i0 _ .i64 .i64 (by kernel_rfl) (by kernel_rfl) hi hz n hp (by omega) (by omega) (by rw [hby]; omega)
      have hcap := grownCap_le_maxLen w n 0 77 (by simp [maxLen]; omega)
      have hge := grownCap_ge w n 0 77
      have hr : Hid _ := hrun
      clear hrun hi hz hs1 hby ha
      go_enter Tryz.func144, Tryz.ntmps144
      go_wp2_with (at_builtin; refine Lib.wpList_append_run _ rfl _ _ _ _ rfl _ _ rfl rfl _ _ hr.out ?_)
      go_ret
      refine ⟨_, rfl, ⟨[], ⟨rfl, .inr ⟨w.heap.size, grownCap w n 0 77, _, rfl, Nat.le_refl _, heap_alloc_new w _, Nat.zero_le _, hcap, ?_, by simp⟩⟩, rfl, by simp⟩, ⟨rfl, rfl, rfl, by show w.heap.size ≤ (w.heap.push _).size; rw [Array.size_push]; omega, fun k hk => heap_alloc_old w _ hk⟩⟩
      simp only [Array.size_append, size_zeroCells, List.size_toArray, List.length_cons, List.length_nil]
      omega
def lensL (l : List (List Lt)) : Nat := (l.map List.length).sum
theorem lens_take {l : List (List Lt)} {k : Nat} {x : List Lt} (h : l[k]? = some x) : lensL (l.take (k + 1)) = lensL (l.take k) + x.length := by
  unfold lensL
  rw [List.take_add_one, h]
  simp
theorem lens_le (l : List (List Lt)) (k : Nat) : lensL (l.take k) ≤ lensL l := by
  have h : lensL l = lensL (l.take k) + lensL (l.drop k) := by
    unfold lensL
    rw [← List.sum_append, ← List.map_append, List.take_append_drop]
  omega
theorem flat_take {l : List (List Lt)} {k : Nat} {x : List Lt} (h : l[k]? = some x) : (l.take (k + 1)).flatten = (l.take k).flatten ++ x := by
  rw [List.take_add_one, h]
  simp
theorem flatL_len (l : List (List Lt)) (k : Nat) : (l.take k).flatten.length = lensL (l.take k) := by
  unfold lensL; rw [List.length_flatten]
set_option maxHeartbeats 4000000 in
set_option maxRecDepth 100000 in
theorem pconcat (l : List (List Lt)) (hn : lensL l ≤ 1000000) : FnD Tryz.prog 131 [lA Cl.d l] (.one (.c (.own 77 7 (l.flatten.map Lt.d)))) := by
  refine Fn.of Tryz.func131 rfl Tryz.ntmps131 rfl (Nat.le_of_ble_eq_true rfl) ?_
  refine dwp_len (t := 0) (ds := l.map Cl.d) rfl fun hbl => ?_
  rw [List.length_map] at hbl
  (refine wlk ?_)
  refine dwp_loop (fun k : Nat => [(.t 0, some (.one (lA Cl.d l))), (.t 3, some (.one (iA (lensL (l.take k))))), (.t 9, some (.one (lA Cl.d l))), (.t 10, some (.one (iA l.length))), (.t 11, some (.one (iA k)))])
    (fun k => k ≤ l.length) (fun k => l.length - k) 0 (by omega) fgs ?_
  intro k hk
  by_cases hkl : k < l.length
  · obtain ⟨x, hx⟩ := get_of_lt hkl
    have h1 := lens_take hx
    have h2 := lens_le l (k + 1)
    (refine wlk ?_)
    refine ⟨k + 1, by omega, ?_, by omega⟩
    rw [h1]
    exact fgs
  have hkc : k = l.length := by omega
  subst hkc
  have ht : l.take l.length = l := List.take_length
  rw [ht]
  (refine wlk ?_)
  (refine SqA.b1 (op_call none rfl rfl rfl (by kernel_rfl) (FnD.use (growL (lensL l) (by omega))) rfl rfl rfl rfl rfl rfl) rfl rfl ?_)
  (refine wlk ?_)
  refine dwp_loop (fun k : Nat => [(.t 6, some (.one (.c (.own 77 7 ((l.take k).flatten.map Lt.d))))), (.t 25, some (.one (lA Cl.d l))), (.t 26, some (.one (iA l.length))), (.t 27, some (.one (iA k)))])
    (fun k => k ≤ l.length) (fun k => l.length - k) 0 (by omega) fgs ?_
  intro k hk
  by_cases hkl : k < l.length
  · obtain ⟨x, hx⟩ := get_of_lt hkl
    have h1 := lens_take hx
    have h2 := lens_le l (k + 1)
    have h3 := (flat_take hx).symm
    have h4 := flatL_len l (k + 1)
    (refine wlk ?_)
    exact ⟨k + 1, by omega, fgs, by omega⟩
  have hkc : k = l.length := by omega
  subst hkc
  rw [ht]
  (refine wlk ?_)
  (refine finO (E := _) rfl ?_)
  rfl
end Go.Proofs.YtmanhdacnkpclaaGreat
/- What functions do: a clause without one of its literals (the program). -/
namespace Go.Proofs.YtmanhdacnkpclaaGreat
set_option linter.all false
open Go.RowKit
theorem map_erase {α β : Type} (f : α → β) (l : List α) (i : Nat) : (l.map f).eraseIdx i = (l.eraseIdx i).map f := by simp [List.eraseIdx_eq_take_drop_succ, List.map_take, List.map_drop]
set_option maxRecDepth 100000 in
theorem pwithout (c : List Lt) (i : Nat) (hi : i < c.length) (hl : c.length ≤ 1000000000) : FnD Tryz.prog 92 [lA Lt.d c, iA i] (.one (.c (.own 77 7 ((c.eraseIdx i).map Lt.d)))) := by
  refine Fn.of Tryz.func92 rfl Tryz.ntmps92 rfl (Nat.le_of_ble_eq_true rfl) ?_
  (refine wlk ?_)
  (refine SqA.b1 (op_call none rfl rfl rfl (by kernel_rfl) (FnD.use (cloneL c hl)) rfl rfl rfl rfl rfl rfl) rfl rfl ?_)
  (refine wlk ?_)
  (refine SqA.b2 (op_del (i := i) rfl rfl rfl (by kernel_rfl) delL rfl (FCs.lenL c) rfl rfl rfl rfl (by rw [List.length_map]; exact hi) (map_erase _ _ _)) rfl rfl ?_)
  (refine wlk ?_)
  (refine finO (E := _) rfl ?_)
  rfl
end Go.Proofs.YtmanhdacnkpclaaGreat
/- What functions do: Resolve, of the program and of the document's answer. -/
namespace Go.Proofs.YtmanhdacnkpclaaGreat
set_option linter.all false
open Go.RowKit
set_option maxHeartbeats 4000000 in
set_option maxRecDepth 100000 in
theorem presolve {S : List Int} {c : List Lt} (h : CG S c) : FnD Tryz.prog 51 [lA Lt.d c] (.tup [lA Cl.d (resolve c).1, bA (resolve c).2]) := by
  have hl4 := h.len
  refine Fn.of Tryz.func51 rfl Tryz.ntmps51 rfl (Nat.le_of_ble_eq_true rfl) ?_
  (refine wlk ?_)
  refine dwp_loop (fun x : Nat × Mk => [(.t 0, some (.one (lA Lt.d c))), (.t 4, some (.one (.c (.ptr 10 0)))), (.b 10, some (.box (mkBox x.2))), (.t 11, some (.one (lA Lt.d c))), (.t 12, some (.one (iA c.length))), (.t 13, some (.one (iA x.1)))])
    (fun x => x.1 ≤ c.length ∧ x.2 = (List.range x.1).foldl (resolve1 c) ([], false)) (fun x => c.length - x.1) (0, [], false) ⟨by simp, rfl⟩ ((Wk.nilOwnB (j := 10) (q := 0) (E := 39) (m := 1) rfl rfl rfl).trans fgs) ?_
  rintro ⟨k, m⟩ ⟨hk, hm⟩
  dsimp only at hk hm ⊢
  by_cases hkl : k < c.length
  · obtain ⟨x, hx⟩ := get_of_lt hkl
    have ho := h.old hx
    have hml := resolve_len c k
    have hnext := range_fold (resolve1 c) ([], false) k
    rw [← hm] at hml hnext
    have hu := bunify ho.1.1 ho.2.1
    cases hs : unify x.left x.right with
    | none =>
      rw [hs] at hu
      have e : resolve1 c m k = m := by unfold resolve1; rw [hx]; simp [hs]
      rw [e] at hnext
      (refine wlk ?_)
      (refine wlC hu ?_)
      (refine wlk ?_)
      exact ⟨(k + 1, m), ⟨by simp only; omega, hnext.symm⟩, fgs, by simp only; omega⟩
    | some s =>
      rw [hs] at hu
      cases hn : x.neg
      · have e : resolve1 c m k = m := by unfold resolve1; rw [hx]; simp [hn]
        rw [e] at hnext
        (refine wlk ?_)
        (refine wlC hu ?_)
        (refine wlk ?_)
        exact ⟨(k + 1, m), ⟨by simp only; omega, hnext.symm⟩, fgs, by simp only; omega⟩
      · have e : resolve1 c m k = addR m s (c.eraseIdx k) := by unfold resolve1; rw [hx]; simp [hn, hs]
        rw [e] at hnext
        have hok := h.resolve hx hs
        (refine wlk ?_)
        (refine wlC hu ?_)
        (refine wlk ?_)
        (refine SqA.b1 (op_call none rfl rfl rfl (by kernel_rfl) (FnD.use (pwithout c k hkl (by omega))) rfl rfl rfl rfl rfl rfl) rfl rfl ?_)
        (refine SqA.b3 (Op1.frzIn (t := 35) rfl (op_call (some (10)) rfl rfl rfl (by kernel_rfl) (FnB.use (padd m s (c.eraseIdx k) hok.sz hok.len hok.okv hok.few hok.sz2 (by omega))) rfl rfl rfl rfl rfl rfl)) rfl rfl ?_)
        (refine wlk ?_)
        exact ⟨(k + 1, addR m s (c.eraseIdx k)), ⟨by simp only; omega, hnext.symm⟩, fgs, by simp only; omega⟩
  · have hkc : k = c.length := by omega
    subst hkc
    refine dwp_wk (Wk.freezeB (j := 10) (q := 0) rfl rfl rfl) ?_
    (refine wlk ?_)
    (refine wfTT ?_)
    rw [hm]
    rfl
set_option maxHeartbeats 4000000 in
set_option maxRecDepth 100000 in
theorem rresolve {S : List Int} {c : List Lt} (h : CG S c) : FnD Tryz.prog 58 [lA Lt.d c] (.tup [lA Cl.d (resolve c).1, bA (resolve c).2]) := by
  have hl4 := h.len
  refine Fn.of Tryz.func58 rfl Tryz.ntmps58 rfl (Nat.le_of_ble_eq_true rfl) ?_
  (refine wlk ?_)
  refine dwp_loop (fun x : Nat × Mk => [(.t 0, some (.one (lA Lt.d c))), (.t 4, some (.one (.c (.ptr 10 0)))), (.b 10, some (.box (mkBox x.2))), (.t 11, some (.one (lA Lt.d c))), (.t 12, some (.one (iA c.length))), (.t 13, some (.one (iA x.1)))])
    (fun x => x.1 ≤ c.length ∧ x.2 = (List.range x.1).foldl (resolve1 c) ([], false)) (fun x => c.length - x.1) (0, [], false) ⟨by simp, rfl⟩ ((Wk.nilOwnB (j := 10) (q := 0) (E := 39) (m := 1) rfl rfl rfl).trans fgs) ?_
  rintro ⟨k, m⟩ ⟨hk, hm⟩
  dsimp only at hk hm ⊢
  by_cases hkl : k < c.length
  · obtain ⟨x, hx⟩ := get_of_lt hkl
    have ho := h.old hx
    have hml := resolve_len c k
    have hnext := range_fold (resolve1 c) ([], false) k
    rw [← hm] at hml hnext
    have hu := runify ho.1.1 ho.2.1
    cases hn : x.neg
    · have e : resolve1 c m k = m := by unfold resolve1; rw [hx]; simp [hn]
      rw [e] at hnext
      (refine wlk ?_)
      exact ⟨(k + 1, m), ⟨by simp only; omega, hnext.symm⟩, fgs, by simp only; omega⟩
    · cases hs : unify x.left x.right with
      | none =>
        rw [hs] at hu
        have e : resolve1 c m k = m := by unfold resolve1; rw [hx]; simp [hs]
        rw [e] at hnext
        (refine wlk ?_)
        (refine wlC hu ?_)
        (refine wlk ?_)
        exact ⟨(k + 1, m), ⟨by simp only; omega, hnext.symm⟩, fgs, by simp only; omega⟩
      | some s =>
        rw [hs] at hu
        have e : resolve1 c m k = addR m s (c.eraseIdx k) := by unfold resolve1; rw [hx]; simp [hn, hs]
        rw [e] at hnext
        have hok := h.resolve hx hs
        (refine wlk ?_)
        (refine wlC hu ?_)
        (refine wlk ?_)
        (refine SqA.b1 (op_call none rfl rfl rfl (by kernel_rfl) (FnD.use (rbut c k hkl (by omega))) rfl rfl rfl rfl rfl rfl) rfl rfl ?_)
        (refine SqA.b2 (op_call (some (10)) rfl rfl rfl (by kernel_rfl) (FnB.use (ladd m s (c.eraseIdx k) (by have := hok.slen; omega) hok.sz hok.len hok.okv hok.few hok.sz2 (by omega))) rfl rfl rfl rfl rfl rfl) rfl rfl ?_)
        (refine wlk ?_)
        exact ⟨(k + 1, addR m s (c.eraseIdx k)), ⟨by simp only; omega, hnext.symm⟩, fgs, by simp only; omega⟩
  · have hkc : k = c.length := by omega
    subst hkc
    refine dwp_wk (Wk.freezeB (j := 10) (q := 0) rfl rfl rfl) ?_
    (refine wlk ?_)
    (refine wfTT ?_)
    rw [hm]
    rfl
end Go.Proofs.YtmanhdacnkpclaaGreat
/- What functions do: Factor, of the program. -/
namespace Go.Proofs.YtmanhdacnkpclaaGreat
set_option linter.all false
open Go.RowKit
theorem ways_len (l : Lt) : (waysL l).length = 2 := rfl
set_option maxHeartbeats 16000000 in
set_option maxRecDepth 100000 in
theorem pfactor {S : List Int} {c : List Lt} (h : CG S c) : FnD Tryz.prog 53 [lA Lt.d c] (.tup [lA Cl.d (factor c).1, bA (factor c).2]) := by
  have hl4 := h.len
  refine Fn.of Tryz.func53 rfl Tryz.ntmps53 rfl (Nat.le_of_ble_eq_true rfl) ?_
  (refine wlk ?_)
  refine dwp_loop (fun x : Nat × Mk => [(.t 0, some (.one (lA Lt.d c))), (.t 4, some (.one (.c (.ptr 14 0)))), (.b 14, some (.box (mkBox x.2))), (.t 16, some (.one (iA c.length))), (.t 17, some (.one (iA x.1)))])
    (fun x => x.1 ≤ c.length ∧ x.2 = (List.range x.1).foldl (factor4 c) ([], false) ∧ x.2.1.length ≤ 100 * x.1) (fun x => c.length - x.1) (0, [], false) ⟨by simp, rfl, by simp⟩ ((Wk.nilOwnB (j := 14) (q := 0) (E := 39) (m := 1) rfl rfl rfl).trans fgs) ?_
  rintro ⟨i, m1⟩ ⟨hk, hm, hb1⟩
  dsimp only at hk hm hb1 ⊢
  by_cases hkl : i < c.length
  rotate_left
  · have hkc : i = c.length := by omega
    subst hkc
    refine dwp_wk (Wk.freezeB (j := 14) (q := 0) rfl rfl rfl) ?_
    (refine wlk ?_)
    (refine wfTT ?_)
    rw [hm]
    rfl
  obtain ⟨⟨xn, xl, xr⟩, hx⟩ := get_of_lt hkl
  have hnext := range_fold (factor4 c) ([], false) i
  rw [← hm] at hnext
  have hf4 : factor4 c m1 i = ((List.range c.length).drop (i + 1)).foldl (factor3 c i ⟨xn, xl, xr⟩) m1 := by unfold factor4; rw [hx]
  rw [hf4] at hnext
  have hel : (c.eraseIdx i).length ≤ 4 := (h.erase i).len
  (refine wlk ?_)
  refine dwp_loop (fun x : Nat × Mk => [(.t 0, some (.one (lA Lt.d c))), (.t 4, some (.one (.c (.ptr 14 0)))), (.b 14, some (.box (mkBox x.2))), (.t 5, some (.one (iA i))), (.t 6, some (.one (iA (i + 1 + x.1 : Nat)))), (.t 16, some (.one (iA c.length))), (.t 17, some (.one (iA i)))])
    (fun y => i + 1 + y.1 ≤ c.length ∧ y.2 = (((List.range c.length).drop (i + 1)).take y.1).foldl (factor3 c i ⟨xn, xl, xr⟩) m1 ∧ y.2.1.length ≤ 100 * i + 10 * y.1) (fun y => c.length - (i + 1 + y.1)) (0, m1) ⟨by simp only; omega, rfl, by simp only; omega⟩ fgs ?_
  rintro ⟨d, m2⟩ ⟨hd, hm2, hb2⟩
  dsimp only at hd hm2 hb2 ⊢
  by_cases hdl : i + 1 + d < c.length
  rotate_left
  · rw [fold_all _ _ (by rw [List.length_drop, List.length_range]; omega)] at hm2
    rw [← hm2] at hnext
    (refine wlk ?_)
    exact ⟨(i + 1, m2), ⟨by simp only; omega, hnext.symm, by simp only; omega⟩, fgs, by simp only; omega⟩
  obtain ⟨⟨yn, yl, yr⟩, hy⟩ := get_of_lt hdl
  have hnext2 := fold_take (factor3 c i ⟨xn, xl, xr⟩) m1 (range_drop hdl)
  rw [← hm2] at hnext2
  cases xn
  rotate_left
  · have hf3 : factor3 c i ⟨true, xl, xr⟩ m2 (i + 1 + d) = m2 := by unfold factor3; rw [hy]; simp
    rw [hf3] at hnext2
    (refine wlk ?_)
    exact ⟨(d + 1, m2), ⟨by simp only; omega, hnext2.symm, by simp only; omega⟩, fgs, by simp only; omega⟩
  cases yn
  rotate_left
  · have hf3 : factor3 c i ⟨false, xl, xr⟩ m2 (i + 1 + d) = m2 := by unfold factor3; rw [hy]; simp
    rw [hf3] at hnext2
    (refine wlk ?_)
    (refine SqA.b1 (op_idxT (T := TB) rfl rfl rfl rfl rfl (hx) (by first | rfl | omega)) rfl rfl ?_)
    (refine wlk ?_)
    exact ⟨(d + 1, m2), ⟨by simp only; omega, hnext2.symm, by simp only; omega⟩, fgs, by simp only; omega⟩
  have hf3 : factor3 c i ⟨false, xl, xr⟩ m2 (i + 1 + d) = (waysL ⟨false, xl, xr⟩).foldl (factor2 (c.eraseIdx i) ⟨false, yl, yr⟩) m2 := by unfold factor3; rw [hy]; simp
  rw [hf3] at hnext2
  have hwl := ways_len ⟨false, xl, xr⟩
  have hwy := ways_len ⟨false, yl, yr⟩
  (refine wlk ?_)
  (refine SqA.b1 (op_idxT (T := TB) rfl rfl rfl rfl rfl (hx) (by first | rfl | omega)) rfl rfl ?_)
  (refine wlk ?_)
  (refine SqA.b1 (op_idxT (T := TB) rfl rfl rfl rfl rfl (hx) (by first | rfl | omega)) rfl rfl ?_)
  (refine wlk ?_)
  (refine SqA.b1 (op_call none rfl rfl rfl (by kernel_rfl) (FnD.use (pways ⟨false, xl, xr⟩)) rfl rfl rfl rfl rfl rfl) rfl rfl ?_)
  (refine wlk ?_)
  refine dwp_loop (fun z : Nat × Mk => [(.t 0, some (.one (lA Lt.d c))), (.t 4, some (.one (.c (.ptr 14 0)))), (.b 14, some (.box (mkBox z.2))), (.t 5, some (.one (iA i))), (.t 6, some (.one (iA (i + 1 + d : Nat)))), (.t 16, some (.one (iA c.length))), (.t 17, some (.one (iA i))),
      (.t 44, some (.one (lA Tw.d (waysL ⟨false, xl, xr⟩)))), (.t 45, some (.one (iA (waysL ⟨false, xl, xr⟩).length))), (.t 46, some (.one (iA z.1)))])
    (fun z => z.1 ≤ 2 ∧ z.2 = ((waysL ⟨false, xl, xr⟩).take z.1).foldl (factor2 (c.eraseIdx i) ⟨false, yl, yr⟩) m2 ∧ z.2.1.length ≤ 100 * i + 10 * d + 2 * z.1) (fun z => 2 - z.1) (0, m2) ⟨by simp only; omega, rfl, by simp only; omega⟩ fgs ?_
  rintro ⟨p, m3⟩ ⟨hp, hm3, hb3⟩
  dsimp only at hp hm3 hb3 ⊢
  by_cases hpl : p < 2
  rotate_left
  · rw [fold_all _ _ (by omega)] at hm3
    rw [← hm3] at hnext2
    (refine wlk ?_)
    exact ⟨(d + 1, m3), ⟨by simp only; omega, hnext2.symm, by simp only; omega⟩, fgs, by simp only; omega⟩
  obtain ⟨⟨a1, a2⟩, ha⟩ := get_of_lt (s := waysL ⟨false, xl, xr⟩) (k := p) (by omega)
  have hnext3 := fold_take (factor2 (c.eraseIdx i) ⟨false, yl, yr⟩) m2 ha
  rw [← hm3] at hnext3
  have hf2 : factor2 (c.eraseIdx i) ⟨false, yl, yr⟩ m3 (a1, a2) = (waysL ⟨false, yl, yr⟩).foldl (factor1 (c.eraseIdx i) (a1, a2)) m3 := rfl
  rw [hf2] at hnext3
  (refine wlk ?_)
  (refine SqA.b1 (op_call none rfl rfl rfl (by kernel_rfl) (FnD.use (pways ⟨false, yl, yr⟩)) rfl rfl rfl rfl rfl rfl) rfl rfl ?_)
  (refine wlk ?_)
  refine dwp_loop (fun z : Nat × Mk => [(.t 0, some (.one (lA Lt.d c))), (.t 4, some (.one (.c (.ptr 14 0)))), (.b 14, some (.box (mkBox z.2))), (.t 5, some (.one (iA i))), (.t 6, some (.one (iA (i + 1 + d : Nat)))), (.t 16, some (.one (iA c.length))), (.t 17, some (.one (iA i))),
      (.t 44, some (.one (lA Tw.d (waysL ⟨false, xl, xr⟩)))), (.t 45, some (.one (iA (waysL ⟨false, xl, xr⟩).length))), (.t 46, some (.one (iA p))), (.t 8, some (.one (.c (.ptr 8 0)))), (.b 8, some (.box ((tA a1).cells ++ (tA a2).cells))), (.t 54, some (.one (lA Tw.d (waysL ⟨false, yl, yr⟩)))), (.t 55, some (.one (iA (waysL ⟨false, yl, yr⟩).length))), (.t 56, some (.one (iA z.1)))])
    (fun z => z.1 ≤ 2 ∧ z.2 = ((waysL ⟨false, yl, yr⟩).take z.1).foldl (factor1 (c.eraseIdx i) (a1, a2)) m3 ∧ z.2.1.length ≤ 100 * i + 10 * d + 2 * p + z.1) (fun z => 2 - z.1) (0, m3) ⟨by simp only; omega, rfl, by simp only; omega⟩ fgs ?_
  rintro ⟨q, m4⟩ ⟨hq, hm4, hb4⟩
  dsimp only at hq hm4 hb4 ⊢
  by_cases hql : q < 2
  rotate_left
  · rw [fold_all _ _ (by omega)] at hm4
    rw [← hm4] at hnext3
    (refine wlk ?_)
    exact ⟨(p + 1, m4), ⟨by simp only; omega, hnext3.symm, by simp only; omega⟩, fgs, by simp only; omega⟩
  obtain ⟨⟨b1, b2⟩, hb⟩ := get_of_lt (s := waysL ⟨false, yl, yr⟩) (k := q) (by omega)
  have hnext4 := fold_take (factor1 (c.eraseIdx i) (a1, a2)) m3 hb
  rw [← hm4] at hnext4
  have oa := h.way hx (List.mem_of_getElem? ha)
  have ob := h.way hy (List.mem_of_getElem? hb)
  have hu := bunify oa.1.1 ob.1.1
  dsimp only at hu
  have hlen4 := factor1_len (c.eraseIdx i) (a1, a2) m4 (b1, b2)
  cases hs : unify a1 b1 with
  | none =>
    rw [hs] at hu
    have hf1 : factor1 (c.eraseIdx i) (a1, a2) m4 (b1, b2) = m4 := by unfold factor1; simp [hs]
    rw [hf1] at hnext4
    (refine wlk ?_)
    (refine SqA.b1 (op_idx2B (k := 0) rfl rfl rfl rfl rfl (by decide)) rfl rfl ?_)
    (refine wlk ?_)
    (refine SqA.b1 (op_idx2B (k := 0) rfl rfl rfl rfl rfl (by decide)) rfl rfl ?_)
    (refine wlk ?_)
    (refine wlC hu ?_)
    (refine wlk ?_)
    exact ⟨(q + 1, m4), ⟨by simp only; omega, hnext4.symm, by simp only; omega⟩, fgs, by simp only; omega⟩
  | some s =>
    rw [hs] at hu
    have hf1 : factor1 (c.eraseIdx i) (a1, a2) m4 (b1, b2) = addR m4 s (c.eraseIdx i ++ [⟨true, a2, b2⟩]) := by unfold factor1; simp [hs]
    rw [hf1] at hnext4 hlen4
    have hok := h.factor hx hy (List.mem_of_getElem? ha) (List.mem_of_getElem? hb) hs
    dsimp only at hok
    (refine wlk ?_)
    (refine SqA.b1 (op_idx2B (k := 0) rfl rfl rfl rfl rfl (by decide)) rfl rfl ?_)
    (refine wlk ?_)
    (refine SqA.b1 (op_idx2B (k := 0) rfl rfl rfl rfl rfl (by decide)) rfl rfl ?_)
    (refine wlk ?_)
    (refine wlC hu ?_)
    (refine wlk ?_)
    (refine SqA.b1 (op_call none rfl rfl rfl (by kernel_rfl) (FnD.use (pwithout c i hkl (by omega))) rfl rfl rfl rfl rfl rfl) rfl rfl ?_)
    (refine wlk ?_)
    (refine SqA.b1 (op_idx2B (k := 1) rfl rfl rfl rfl rfl (by decide)) rfl rfl ?_)
    (refine wlk ?_)
    (refine SqA.b1 (op_idx2B (k := 1) rfl rfl rfl rfl rfl (by decide)) rfl rfl ?_)
    (refine wlk ?_)
    (refine SqA.b1 (op_bsT (T := TB) (f := Lt.d) [(⟨true, a2, b2⟩ : Lt)] rfl rfl rfl rfl rfl rfl rfl rfl rfl rfl rfl) rfl rfl ?_)
    (refine wlk ?_)
    (refine SqA.b3 (Op1.frzIn (t := 80) rfl (op_call (some (14)) rfl rfl rfl (by kernel_rfl) (FnB.use (padd m4 s (c.eraseIdx i ++ [⟨true, a2, b2⟩]) hok.sz hok.len hok.okv hok.few hok.sz2 (by omega))) rfl rfl rfl rfl rfl rfl)) rfl rfl ?_)
    (refine wlk ?_)
    exact ⟨(q + 1, addR m4 s (c.eraseIdx i ++ [⟨true, a2, b2⟩])), ⟨by simp only; omega, hnext4.symm, by simp only; omega⟩, fgs, by simp only; omega⟩
end Go.Proofs.YtmanhdacnkpclaaGreat
