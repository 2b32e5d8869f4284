/- Contracts: the laws' 'right'; Vars, times, Above, Compare of the reference. -/
import Derived.Test.YtmanhdacnkpclaaGreatDoorzdEa
import Derived.Test.YtmanhdacnkpclaaGreatDoorzdFa
import Derived.Maps.RangeWalk
import Derived.Maps.OwnOps
import Derived.Maps.Views
/- Contracts: the laws' 'right'; Vars, times, Above, Compare of the reference. -/
namespace Go.Proofs.YtmanhdacnkpclaaGreatDoor
set_option linter.unusedVariables false
set_option linter.unusedSimpArgs false
open Go.RowKit

def TimesC (t : Tm) : Prop := ∀ (v : Int) (w : World) (S : Nat → Prop) (tv : Value), RdT w S t tv → t.size ≤ 4611686018427387904 →
  Calls Tryz.prog 62 #[.int .i64 v, tv] w fun e w' => e = .returned (.int .i64 (times v t)) ∧ Below w.heap.size w w'

set_option maxHeartbeats 1000000 in
theorem rtimes_any : ∀ t, TimesC t := by
  refine Tm.ind ?_
  intro vr n l ih v w S tv hv hsz
  obtain ⟨a, c, rfl, hs⟩ := hv
  simp only at hs ⊢
  obtain ⟨_, _, he, hl, hm⟩ := hs.form
  clear he
  have hsz' : 1 + Tm.sizes l ≤ 4611686018427387904 := hsz
  clear hsz
  have IH := Lib.hid ih; clear ih
  have HV := Lib.hid hs; clear hs
  obtain ⟨n0, hn0⟩ : ∃ n0 : Nat, Hid (n0 = if vr && n == v then 1 else 0) := ⟨_, rfl⟩
  have hn1 : n0 ≤ 1 := by rw [hn0.out]; split <;> omega
  have hfin : Hid (times v ⟨vr, n, l⟩ = n0 + timess v l) := by rw [hn0.out]; simp [times, Hid]
  have hcut : ∀ (K : Prop), K → K := fun _ h => h
  clear hcut
  cases vr
  case false =>
    have hn00 : n0 = 0 := by rw [hn0.out]; simp
    subst hn00
    go_enter Tryz.func62, Tryz.ntmps62
    go_wp2_with fail
    go_loopw [5, 19] (fun m i wr => ∃ k : Nat, k ≤ l.length ∧ i = .int .i64 k ∧ m = .int .i64 ((0 + timess v (l.take k) : Nat) : Int) ∧ Below w.heap.size w wr)
      (fun _ i _ => l.length - (intOf i).toNat)
    case atStart => exact ⟨0, Nat.zero_le _, rfl, by simp [timess], (Below.refl _ _).alloc (Nat.le_refl _) _⟩
    case round =>
      obtain ⟨k, hk, rfl, rfl, hbel⟩ := hrel
      have hbs := hbel.size
      by_cases hkl : k < l.length
      · obtain ⟨x, b, o, a', c', hx, hSb, hbw, hix, c0, c1, c2, hxs⟩ := (HV.out.below hbel (Nat.le_refl _)).nthT slTerm hkl
        have hsucc : Hid (timess v (l.take (k + 1)) = timess v (l.take k) + times v x) := by rw [take_succ_of hx.out]; exact timess_snoc _ _ _
        have hle2 : timess v (l.take k) + times v x ≤ Tm.sizes l := by have := hsucc.out; have := timess_take_le v l (k + 1); have := timess_le_sizes v l; omega
        have hle3 : x.size ≤ Tm.sizes l := by have := sizes_take_succ l k x hx.out; have := sizes_take_le l (k + 1); omega
        have HX := Lib.hid hxs; clear hxs
        go_wp2_with fail
        refine (IH.out x (mem_of_get hx.out) v _ S _ (RdT.alloc ⟨a', c', rfl, HX.out⟩ _) (by omega)).mono ?_
        rintro e w1 ⟨rfl, hb1⟩
        go_wp2_with fail
        go_roundw
        case rel => exact ⟨k + 1, by omega, by go_num, by rw [hsucc.out]; go_num, (hbel.alloc hbs _).trans (hb1.mono (by simp; omega))⟩
        case measure => simp [intOf]; omega
      · go_wp2_with fail
        go_ret
        have : k = l.length := by omega
        subst this
        exact ⟨by rw [hfin.out, List.take_length]; rfl, hbel⟩
  case true =>
    rcases Decidable.em (n = v) with hnv | hnv
    · have hn00 : n0 = 1 := by rw [hn0.out]; simp [hnv]
      subst hn00
      have hnv' : ((n : Int) == v) = true := by rw [beq_iff_eq]; exact hnv
      clear hnv
      go_enter Tryz.func62, Tryz.ntmps62
      go_wp2_with fail
      go_loopw [5, 19] (fun m i wr => ∃ k : Nat, k ≤ l.length ∧ i = .int .i64 k ∧ m = .int .i64 ((1 + timess v (l.take k) : Nat) : Int) ∧ Below w.heap.size w wr)
        (fun _ i _ => l.length - (intOf i).toNat)
      case atStart => exact ⟨0, Nat.zero_le _, rfl, by simp [timess], (Below.refl _ _).alloc (Nat.le_refl _) _⟩
      case round =>
        obtain ⟨k, hk, rfl, rfl, hbel⟩ := hrel
        have hbs := hbel.size
        by_cases hkl : k < l.length
        · obtain ⟨x, b, o, a', c', hx, hSb, hbw, hix, c0, c1, c2, hxs⟩ := (HV.out.below hbel (Nat.le_refl _)).nthT slTerm hkl
          have hsucc : Hid (timess v (l.take (k + 1)) = timess v (l.take k) + times v x) := by rw [take_succ_of hx.out]; exact timess_snoc _ _ _
          have hle2 : timess v (l.take k) + times v x ≤ Tm.sizes l := by have := hsucc.out; have := timess_take_le v l (k + 1); have := timess_le_sizes v l; omega
          have hle3 : x.size ≤ Tm.sizes l := by have := sizes_take_succ l k x hx.out; have := sizes_take_le l (k + 1); omega
          have HX := Lib.hid hxs; clear hxs
          go_wp2_with fail
          refine (IH.out x (mem_of_get hx.out) v _ S _ (RdT.alloc ⟨a', c', rfl, HX.out⟩ _) (by omega)).mono ?_
          rintro e w1 ⟨rfl, hb1⟩
          go_wp2_with fail
          go_roundw
          case rel => exact ⟨k + 1, by omega, by go_num, by rw [hsucc.out]; go_num, (hbel.alloc hbs _).trans (hb1.mono (by simp; omega))⟩
          case measure => simp [intOf]; omega
        · go_wp2_with fail
          go_ret
          have : k = l.length := by omega
          subst this
          exact ⟨by rw [hfin.out, List.take_length]; rfl, hbel⟩
    · have hn00 : n0 = 0 := by rw [hn0.out]; simp [hnv]
      subst hn00
      have hnv' : ((n : Int) == v) = false := beq_eq_false_iff_ne.2 hnv
      clear hnv
      go_enter Tryz.func62, Tryz.ntmps62
      go_wp2_with fail
      go_loopw [5, 19] (fun m i wr => ∃ k : Nat, k ≤ l.length ∧ i = .int .i64 k ∧ m = .int .i64 ((0 + timess v (l.take k) : Nat) : Int) ∧ Below w.heap.size w wr)
        (fun _ i _ => l.length - (intOf i).toNat)
      case atStart => exact ⟨0, Nat.zero_le _, rfl, by simp [timess], (Below.refl _ _).alloc (Nat.le_refl _) _⟩
      case round =>
        obtain ⟨k, hk, rfl, rfl, hbel⟩ := hrel
        have hbs := hbel.size
        by_cases hkl : k < l.length
        · obtain ⟨x, b, o, a', c', hx, hSb, hbw, hix, c0, c1, c2, hxs⟩ := (HV.out.below hbel (Nat.le_refl _)).nthT slTerm hkl
          have hsucc : Hid (timess v (l.take (k + 1)) = timess v (l.take k) + times v x) := by rw [take_succ_of hx.out]; exact timess_snoc _ _ _
          have hle2 : timess v (l.take k) + times v x ≤ Tm.sizes l := by have := hsucc.out; have := timess_take_le v l (k + 1); have := timess_le_sizes v l; omega
          have hle3 : x.size ≤ Tm.sizes l := by have := sizes_take_succ l k x hx.out; have := sizes_take_le l (k + 1); omega
          have HX := Lib.hid hxs; clear hxs
          go_wp2_with fail
          refine (IH.out x (mem_of_get hx.out) v _ S _ (RdT.alloc ⟨a', c', rfl, HX.out⟩ _) (by omega)).mono ?_
          rintro e w1 ⟨rfl, hb1⟩
          go_wp2_with fail
          go_roundw
          case rel => exact ⟨k + 1, by omega, by go_num, by rw [hsucc.out]; go_num, (hbel.alloc hbs _).trans (hb1.mono (by simp; omega))⟩
          case measure => simp [intOf]; omega
        · go_wp2_with fail
          go_ret
          have : k = l.length := by omega
          subst this
          exact ⟨by rw [hfin.out, List.take_length]; rfl, hbel⟩

end Go.Proofs.YtmanhdacnkpclaaGreatDoor

/- Contracts: Vars of the reference. -/
namespace Go.Proofs.YtmanhdacnkpclaaGreatDoor
set_option linter.unusedVariables false
set_option linter.unusedSimpArgs false
open Go.RowKit

def VarsC (f : Nat) (t : Tm) : Prop := ∀ (l : List Int) (w : World) (S : Nat → Prop) (v v' : Value), RdI w S l v → RdT w S t v' → l.length + t.size ≤ 17592186044416 →
  Calls Tryz.prog f #[v, v'] w (Ret fun u w' => RdI w' (Up S w.heap.size) (vars l t) u ∧ Below w.heap.size w w')

set_option maxHeartbeats 1000000 in
set_option maxRecDepth 100000 in
theorem rvars_any : ∀ t, VarsC 49 t := by
  refine Tm.ind ?_
  intro vr n ts ih l w S v v' hv hv' hsz
  obtain ⟨a, c, rfl, hs⟩ := hv'
  obtain ⟨la, lc, rfl, hll, hlm⟩ := hv.form
  simp only at hs ⊢
  obtain ⟨_, _, he, hl, hm⟩ := hs.form
  clear he
  have hsz' : l.length + (1 + Tm.sizes ts) ≤ 17592186044416 := hsz
  clear hsz
  have IH := Lib.hid ih; clear ih
  have HV := Lib.hid hs; clear hs
  have HL := Lib.hid hv; clear hv
  cases vr
  case false =>
    have hfin : Hid (vars l ⟨false, n, ts⟩ = varss l ts) := rfl
    go_enter Tryz.func49, Tryz.ntmps49
    go_wp2_with fail
    go_loopw [0, 15] (fun lv i wr => ∃ k : Nat, k ≤ ts.length ∧ i = .int .i64 k ∧ RdI wr (Up S w.heap.size) (varss l (ts.take k)) lv ∧ Below w.heap.size w wr)
      (fun _ i _ => ts.length - (intOf i).toNat)
    case atStart => exact ⟨0, Nat.zero_le _, rfl, (HL.out.alloc _).wide (fun _ _ h => .inl h), (Below.refl _ _).alloc (Nat.le_refl _) _⟩
    case round =>
      obtain ⟨k, hk, rfl, hrd, hbel⟩ := hrel
      have hbs := hbel.size
      have HR := Lib.hid hrd; clear hrd
      by_cases hkl : k < ts.length
      · obtain ⟨x, b, o, a', c', hx, hSb, hbw, hix, c0, c1, c2, hxs⟩ := (HV.out.below hbel (Nat.le_refl _)).nthT slTerm hkl
        have hsucc : Hid (varss l (ts.take (k + 1)) = vars (varss l (ts.take k)) x) := by rw [take_succ_of hx.out]; exact varss_snoc _ _ _
        have hle : (varss l (ts.take k)).length + x.size ≤ 17592186044416 := by
          have := varss_len l (ts.take k); have := sizes_take_succ ts k x hx.out; have := sizes_take_le ts (k + 1); omega
        have HX := Lib.hid hxs; clear hxs
        go_wp2_with fail
        refine (IH.out x (mem_of_get hx.out) _ _ (Up S w.heap.size) _ _ (HR.out.alloc _) (RdT.wide (RdT.alloc ⟨a', c', rfl, HX.out⟩ _) (fun _ _ h => .inl h)) hle).mono ?_
        rintro e w1 ⟨u, rfl, hu, hb1⟩
        have hb2 : Below w.heap.size w w1 := (hbel.alloc hbs _).trans (hb1.mono (by simp; omega))
        have HU := Lib.hid (hu.wide (S' := Up S w.heap.size) (fun b _ h => h.mono id (by simp; omega))); clear hu hb1
        go_wp2_with fail
        go_roundw
        case rel => exact ⟨k + 1, by omega, by go_num, by rw [hsucc.out]; exact HU.out, hb2⟩
        case measure => simp [intOf]; omega
      · go_wp2_with fail
        go_ret
        have : k = ts.length := by omega
        subst this
        have := HR.out
        rw [List.take_length] at this
        exact ⟨_, rfl, by rw [hfin.out]; exact this, hbel⟩
  case true =>
    go_enter Tryz.func49, Tryz.ntmps49
    go_wp2_with fail
    go_loop [26] (fun i => ∃ k : Nat, k ≤ l.length ∧ i = .int .i64 k ∧ ∀ j x, j < k → l[j]? = some x → x ≠ n)
      (fun i => l.length - (intOf i).toNat)
    case atStart => exact ⟨0, Nat.zero_le _, rfl, fun j x hj => absurd hj (by omega)⟩
    case round =>
      obtain ⟨k, hk, rfl, hno⟩ := hrel
      have HNO := Lib.hid hno; clear hno
      by_cases hkl : k < l.length
      · obtain ⟨x, b, o, hx, hSb, hbw, hix, p0⟩ := (HL.out.alloc (.cells #[.bool true, .int .i64 n, .slice a ts.length c] 36)).nthI slInt hkl
        rcases Decidable.em (x = n) with hxn | hxn
        · have hxn' : ((x : Int) == n) = true := by rw [beq_iff_eq]; exact hxn
          have hfin : Hid (vars l ⟨true, n, ts⟩ = l) := by
            have : n ∈ l := by rw [← hxn]; exact mem_of_get hx.out
            simp [vars, this, Hid]
          clear hxn
          go_wp2_with fail
          go_ret
          exact ⟨_, rfl, by rw [hfin.out]; exact (HL.out.alloc _).wide (fun _ _ h => .inl h), (Below.refl _ _).alloc (Nat.le_refl _) _⟩
        · have hxn' : ((x : Int) == n) = false := beq_eq_false_iff_ne.2 hxn
          have HXN := Lib.hid hxn; clear hxn
          go_wp2_with fail
          go_round
          case rel =>
            refine ⟨k + 1, by omega, by go_num, fun j y hj hy => ?_⟩
            rcases Nat.lt_or_ge j k with h | h
            · exact HNO.out j y h hy
            · have : j = k := by omega
              subst this
              have := hx.out
              rw [this] at hy
              injection hy with hy
              rw [← hy]; exact HXN.out
          case measure => simp [intOf]; omega
      · have hfin : Hid (vars l ⟨true, n, ts⟩ = l ++ [n]) := by
          have : ¬ n ∈ l := by
            intro hmem
            obtain ⟨j, hj, e⟩ := List.getElem_of_mem hmem
            exact HNO.out j _ (by omega) (List.getElem?_eq_getElem hj) e
          simp [vars, this, Hid]
        obtain ⟨news, hsrc, hlen, hone, hrds⟩ := (HL.out.alloc (.cells #[.bool true, .int .i64 n, .slice a ts.length c] 36)).src rd_int_len Int.d_one
        go_wp2_with fail
        go_region_held3 (fun w' => w'.cell? ⟨w.heap.size, 1, none⟩ = some (.int .i64 n)) 
          (first | go_keep | (refine cell_keep hb2 (Nat.lt_succ_self _) ?_; assumption) | (refine cell_keep hb1 (Nat.lt_succ_self _) ?_; assumption))
          (first | (refine step_appG _ (by rfl) (.tmp 36) (.tmp 37) (by rfl) slInt (by rfl) (Own.blk (B := w.heap.size + 1) (S := S) (by simp [blk_alloc, blk_drew]) (by simp)) (by rfl) (hsrc.below (by repeat (first | exact Below.refl _ _ | refine Below.drew ?_ | refine Below.alloc ?_ (by simp) _))) hlen hone (rds_int_any hrds) (by simp; try omega) (by simp only [List.length_nil]; omega) (by simp only [List.length_nil]; omega) ?_; intro v1 w1 hown1 hg1 hb1 hk1) | (refine step_appG _ (by rfl) (.tmp 38) (.tmp 41) (by rfl) slInt (by rfl) (by first | exact hown1 | exact Own.same_ hown1 (by rfl) | exact hown1.alloc _ | exact Own.same_ (hown1.alloc _) (by rfl)) (by rfl) (m := 1) (n := 1) (news := [.int .i64 n]) (ns := [n].map Int.d) (by first | (refine SrcAt.blk (E := 3) ?_ rfl; simp [blk_alloc, blk_drew]; done) | (refine SrcAt.grown (SrcAt.blk (E := 3) ?_ rfl) hg1 ?_ <;> simp [blk_alloc, blk_drew, Value.ownBlock]; done)) (by rfl) (by simp [Value.oneCell']) (rds_int_one _ _ n) (by have := hb1.size; simp at this ⊢; omega) (by simp; omega) (by simp; omega) ?_; intro v2 w2 hown2 hg2 hb2 hk2))
        all_goals go_wp2_with fail
        all_goals go_ret
        all_goals
          have B1 : Below w.heap.size w w1 := Below.trans (by repeat (first | exact Below.refl _ _ | refine Below.drew ?_ | refine Below.alloc ?_ (by simp; try omega) _)) (hb1.mono (Nat.le_succ _))
          have B1s := B1.size
          have B2 : Below w.heap.size w w2 := Below.trans (by repeat (first | exact B1 | refine Below.drew ?_ | refine Below.alloc ?_ (by first | assumption | (simp; done) | (simp; omega)) _)) (hb2.mono (Nat.le_succ _))
          exact ⟨_, rfl, by rw [hfin.out]; simpa [RdL] using hown2.rd.wide (S' := Up S w.heap.size) (fun b _ h => h.mono .inl (by omega)), B2⟩
end Go.Proofs.YtmanhdacnkpclaaGreatDoor

/- Contracts: Above, Compare of the reference. -/
namespace Go.Proofs.YtmanhdacnkpclaaGreatDoor
set_option linter.unusedVariables false
set_option linter.unusedSimpArgs false
open Go.RowKit

theorem above_var {n : Int} {l : List Tm} {b : Tm} : above ⟨true, n, l⟩ b = false := by simp [above]

def AboveC (f : Nat) (t : Tm) : Prop := ∀ (u : Tm) (w : World) (S : Nat → Prop) (v v' : Value), RdT w S t v → RdT w S u v' → t.size ≤ 4398046511104 → u.size ≤ 4398046511104 →
  Calls Tryz.prog f #[v, v'] w fun e w' => e = .returned (.bool (above t u)) ∧ Below w.heap.size w w'

set_option maxHeartbeats 800000 in
set_option maxRecDepth 100000 in
theorem rabove_any : ∀ t, AboveC 42 t := by
  refine Tm.ind ?_
  intro vr n l ih u w S v v' hv hv' hsz hsz'
  obtain ⟨vr', n', l'⟩ := u
  obtain ⟨a, c, rfl, hs⟩ := hv
  obtain ⟨a', c', rfl, hs'⟩ := hv'
  simp only at hs hs' ⊢
  obtain ⟨_, _, he, hl, hm⟩ := hs.form
  clear he
  obtain ⟨_, _, he, hl', hm'⟩ := hs'.form
  clear he
  have IH := Lib.hid ih; clear ih
  have HV := Lib.hid hs; clear hs
  have HV' := Lib.hid hs'; clear hs'
  cases vr
  case true =>
    go_enter Tryz.func42, Tryz.ntmps42
    go_wp2_with fail
    go_ret
    rw [above_var]
    exact ⟨rfl, ((Below.refl _ _).alloc (Nat.le_refl _) _).alloc (by simp) _⟩
  obtain ⟨T, hT⟩ : ∃ T : Tm, T = ⟨false, n, l⟩ := ⟨_, rfl⟩
  obtain ⟨U, hU⟩ : ∃ U : Tm, U = ⟨vr', n', l'⟩ := ⟨_, rfl⟩
  rw [← hT] at hsz
  rw [← hU] at hsz'
  have HVa := Lib.hid (RdT.mk' hT HV.out)
  have HVb := Lib.hid (RdT.mk' hU HV'.out)
  have HT := Lib.hid hT; clear hT
  have HU := Lib.hid hU; clear hU
  go_enter Tryz.func42, Tryz.ntmps42
  go_wp2_with fail
  refine (rvars_any U [] _ S _ _ (RdL.nil 0 (by omega) none) ((HVb.out.alloc _).alloc _) (by simp; omega)).mono ?_
  rintro e w1 ⟨uv, rfl, hu, hb1⟩
  obtain ⟨ua, uc, rfl, hul, hum⟩ := hu.form
  have HUV := Lib.hid hu; clear hu
  have hb2 : Below w.heap.size w w1 := (((Below.refl _ _).alloc (Nat.le_refl _) _).alloc (by simp) _).trans (hb1.mono (by simp; omega))
  have B0 : blk w1 w.heap.size = some (.cells #[.bool false, .int .i64 n, .slice a l.length c] 36) := blk_below (by simp [blk_alloc]) hb1 (by simp; omega)
  have B1 : blk w1 (w.heap.size + 1) = some (.cells #[.bool vr', .int .i64 n', .slice a' l'.length c'] 36) := blk_below (by simp [blk_alloc]) hb1 (by simp)
  clear hb1
  go_wp2_with fail
  go_loopw [13] (fun i wr => ∃ k : Nat, k ≤ (vars [] U).length ∧ i = .int .i64 k ∧ (∀ j x, j < k → (vars [] U)[j]? = some x → ¬ times x T < times x U) ∧ Below w1.heap.size w1 wr)
    (fun i _ => (vars [] U).length - (intOf i).toNat)
  case atStart => exact ⟨0, Nat.zero_le _, rfl, fun j x hj => absurd hj (by omega), Below.refl _ _⟩
  case round =>
    obtain ⟨k, hk, rfl, hno, hbel⟩ := hrel
    have HNO := Lib.hid hno; clear hno
    have hbs := hbel.size
    have hws := hb2.size
    have hl0 : w.heap.size < w1.heap.size := blk_lt B0
    have hl1 : w.heap.size + 1 < w1.heap.size := blk_lt B1
    have hl0' : w.heap.size < wr.heap.size := by omega
    have hl1' : w.heap.size + 1 < wr.heap.size := by omega
    obtain ⟨a0, a1, a2⟩ := blk3 (blk_below B0 hbel hl0)
    obtain ⟨b0, b1, b2⟩ := blk3 (blk_below B1 hbel hl1)
    have hbw : Below w.heap.size w wr := hb2.trans (hbel.mono (by omega))
    by_cases hkl : k < (vars [] U).length
    · obtain ⟨x, b, o, hx, hSb, hbw', hix, p0⟩ := (HUV.out.below hbel (Nat.le_refl _)).nthI slInt hkl
      go_wp2_with fail
      go_region_held3 (fun w' => w'.cell? ⟨w.heap.size, 0, none⟩ = some (.bool false) ∧ w'.cell? ⟨w.heap.size, 1, none⟩ = some (.int .i64 n) ∧ w'.cell? ⟨w.heap.size, 2, none⟩ = some (.slice a l.length c) ∧
          w'.cell? ⟨w.heap.size + 1, 0, none⟩ = some (.bool vr') ∧ w'.cell? ⟨w.heap.size + 1, 1, none⟩ = some (.int .i64 n') ∧ w'.cell? ⟨w.heap.size + 1, 2, none⟩ = some (.slice a' l'.length c')) (go_keep)
        (first | (go_at_call 62; refine Calls.mono (rtimes_any U x _ S _ ?_ (by omega)) ?_; exact RdT.same_ (HVb.out.below hbw (Nat.le_refl _)) (by rfl); rintro e w2 ⟨rfl, hb3⟩; have bc1 : ∀ b o, b < wr.heap.size → w2.cell? ⟨b, o, none⟩ = wr.cell? ⟨b, o, none⟩ := fun b o h => bc hb3 b o h; have hbw2 : Below w.heap.size w w2 := hbw.drew.trans (hb3.mono hbw.size)) | (go_at_call 62; refine Calls.mono (rtimes_any T x _ S _ ?_ (by omega)) ?_; exact HVa.out.below hbw2 (Nat.le_refl _); rintro e w3 ⟨rfl, hb4⟩; have bc2 : ∀ b o, b < w2.heap.size → w3.cell? ⟨b, o, none⟩ = w2.cell? ⟨b, o, none⟩ := fun b o h => bc hb4 b o h; have hz3 : w.heap.size < w2.heap.size := Nat.lt_of_lt_of_le hl0' hb3.size; have hz4 : w.heap.size + 1 < w2.heap.size := Nat.lt_of_lt_of_le hl1' hb3.size))
      have hbw3 : Below w.heap.size w w3 := hbw2.trans (hb4.mono hbw2.size)
      have hbel3 : Below w1.heap.size w1 w3 := (hbel.drew.trans (hb3.mono hbs)).trans (hb4.mono (Nat.le_trans hbs hb3.size))
      by_cases hxy : times x T < times x U
      · have hfin : Hid (above T U = false) := by
          have : (vars [] U).any (fun v => decide (times v T < times v U)) = true := List.any_eq_true.2 ⟨x, mem_of_get hx.out, by simpa using hxy⟩
          have e := HT.out
          rw [e] at this ⊢
          simp [above, this, Hid]
        go_wp2_with fail
        go_ret
        rw [← HT.out, ← HU.out, hfin.out]
        exact ⟨rfl, hbw3⟩
      · go_wp2_with fail
        go_roundw
        case rel =>
          refine ⟨k + 1, by omega, by go_num, fun j y hj hy => ?_, hbel3⟩
          rcases Nat.lt_or_ge j k with h | h
          · exact HNO.out j y h hy
          · have : j = k := by omega
            subst this
            have := hx.out
            rw [this] at hy
            injection hy with hy
            rw [← hy]; omega
        case measure => simp [intOf]; omega
    · have hno' : Hid ((vars [] U).any (fun v => decide (times v T < times v U)) = false) := by
        show _ = _
        rw [List.any_eq_false]
        intro x hx
        obtain ⟨j, hj, rfl⟩ := List.getElem_of_mem hx
        have := HNO.out j _ (by omega) (List.getElem?_eq_getElem hj)
        simpa using this
      rcases Decidable.em (T.size = U.size) with hzz | hzz
      rotate_left
      · have hzz' : ((T.size : Int) != (U.size : Int)) = true := by rw [bne_iff_ne]; omega
        have hfin : Hid (above T U = decide (U.size < T.size)) := by
          have e := HT.out
          have h1 := hno'.out
          rw [e] at h1 hzz ⊢
          simp [above, h1, hzz, Hid]
        clear hzz
        go_wp2_with fail
        go_region_held3 (fun w' => w'.cell? ⟨w.heap.size, 0, none⟩ = some (.bool false) ∧ w'.cell? ⟨w.heap.size, 1, none⟩ = some (.int .i64 n) ∧ w'.cell? ⟨w.heap.size, 2, none⟩ = some (.slice a l.length c) ∧
                  w'.cell? ⟨w.heap.size + 1, 0, none⟩ = some (.bool vr') ∧ w'.cell? ⟨w.heap.size + 1, 1, none⟩ = some (.int .i64 n') ∧ w'.cell? ⟨w.heap.size + 1, 2, none⟩ = some (.slice a' l'.length c')) (go_keep)
          (first | (go_at_call 36; refine Calls.mono (rsize_any T _ S _ ?_ (by omega)) ?_; exact RdT.same_ (HVa.out.below hbw (Nat.le_refl _)) (by rfl); rintro e w2 ⟨rfl, hb3⟩; have bc1 : ∀ b o, b < wr.heap.size → w2.cell? ⟨b, o, none⟩ = wr.cell? ⟨b, o, none⟩ := fun b o h => bc hb3 b o h; have hbww2 : Below w.heap.size w w2 := hbw.drew.trans (hb3.mono hbw.size); have hz0w2 : w.heap.size < w2.heap.size := Nat.lt_of_lt_of_le hl0' hb3.size; have hz1w2 : w.heap.size + 1 < w2.heap.size := Nat.lt_of_lt_of_le hl1' hb3.size) | (go_at_call 36; refine Calls.mono (rsize_any U _ S _ ?_ (by omega)) ?_; exact HVb.out.below hbww2 (Nat.le_refl _); rintro e w3 ⟨rfl, hb4⟩; have bc2 : ∀ b o, b < w2.heap.size → w3.cell? ⟨b, o, none⟩ = w2.cell? ⟨b, o, none⟩ := fun b o h => bc hb4 b o h; have hbww3 : Below w.heap.size w w3 := hbww2.trans (hb4.mono hbww2.size); have hz0w3 : w.heap.size < w3.heap.size := Nat.lt_of_lt_of_le hz0w2 hb4.size; have hz1w3 : w.heap.size + 1 < w3.heap.size := Nat.lt_of_lt_of_le hz1w2 hb4.size))
        go_wp2_with fail
        go_region_held3 (fun w' => w'.cell? ⟨w.heap.size, 0, none⟩ = some (.bool false) ∧ w'.cell? ⟨w.heap.size, 1, none⟩ = some (.int .i64 n) ∧ w'.cell? ⟨w.heap.size, 2, none⟩ = some (.slice a l.length c) ∧
                  w'.cell? ⟨w.heap.size + 1, 0, none⟩ = some (.bool vr') ∧ w'.cell? ⟨w.heap.size + 1, 1, none⟩ = some (.int .i64 n') ∧ w'.cell? ⟨w.heap.size + 1, 2, none⟩ = some (.slice a' l'.length c')) (go_keep)
          (first | (go_at_call 36; refine Calls.mono (rsize_any T _ S _ ?_ (by omega)) ?_; exact RdT.same_ (HVa.out.below hbww3 (Nat.le_refl _)) (by rfl); rintro e w4 ⟨rfl, hb5⟩; have bc1 : ∀ b o, b < w3.heap.size → w4.cell? ⟨b, o, none⟩ = w3.cell? ⟨b, o, none⟩ := fun b o h => bc hb5 b o h; have hbww4 : Below w.heap.size w w4 := hbww3.drew.trans (hb5.mono hbww3.size); have hz0w4 : w.heap.size < w4.heap.size := Nat.lt_of_lt_of_le hz0w3 hb5.size; have hz1w4 : w.heap.size + 1 < w4.heap.size := Nat.lt_of_lt_of_le hz1w3 hb5.size) | (go_at_call 36; refine Calls.mono (rsize_any U _ S _ ?_ (by omega)) ?_; exact HVb.out.below hbww4 (Nat.le_refl _); rintro e w5 ⟨rfl, hb6⟩; have bc2 : ∀ b o, b < w4.heap.size → w5.cell? ⟨b, o, none⟩ = w4.cell? ⟨b, o, none⟩ := fun b o h => bc hb6 b o h; have hbww5 : Below w.heap.size w w5 := hbww4.trans (hb6.mono hbww4.size); have hz0w5 : w.heap.size < w5.heap.size := Nat.lt_of_lt_of_le hz0w4 hb6.size; have hz1w5 : w.heap.size + 1 < w5.heap.size := Nat.lt_of_lt_of_le hz1w4 hb6.size))
        go_wp2_with fail
        go_ret
        rw [← HT.out, ← HU.out, hfin.out]
        refine ⟨?_, hbww5⟩
        simp
      have hzz' : ((T.size : Int) != (U.size : Int)) = false := by rw [bne_eq_false_iff_eq]; omega
      have hfin0 : Hid (above T U = if vr' then false else if n < n' then false else if n' < n then true else aboves l l') := by
        have e := HT.out
        have e' := HU.out
        have h1 := hno'.out
        rw [e, e'] at h1 hzz
        rw [e, e']
        simp [above, h1, hzz, Hid]
      have HZZ := Lib.hid hzz; clear hzz
      have hfin : Hid (above ⟨false, n, l⟩ ⟨vr', n', l'⟩ = if vr' then false else if n < n' then false else if n' < n then true else aboves l l') := by
        have := hfin0.out
        rw [HT.out, HU.out] at this
        exact this
      clear hfin0
      cases vr'
      case true =>
        have hfin1 : Hid (above ⟨false, n, l⟩ ⟨true, n', l'⟩ = false) := by rw [hfin.out]; simp [Hid]
        go_wp2_with fail
        go_region_held3 (fun w' => w'.cell? ⟨w.heap.size, 0, none⟩ = some (.bool false) ∧ w'.cell? ⟨w.heap.size, 1, none⟩ = some (.int .i64 n) ∧ w'.cell? ⟨w.heap.size, 2, none⟩ = some (.slice a l.length c) ∧
                  w'.cell? ⟨w.heap.size + 1, 0, none⟩ = some (.bool true) ∧ w'.cell? ⟨w.heap.size + 1, 1, none⟩ = some (.int .i64 n') ∧ w'.cell? ⟨w.heap.size + 1, 2, none⟩ = some (.slice a' l'.length c')) (go_keep)
          (first | (go_at_call 36; refine Calls.mono (rsize_any T _ S _ ?_ (by omega)) ?_; exact RdT.same_ (HVa.out.below hbw (Nat.le_refl _)) (by rfl); rintro e w2 ⟨rfl, hb3⟩; have bc1 : ∀ b o, b < wr.heap.size → w2.cell? ⟨b, o, none⟩ = wr.cell? ⟨b, o, none⟩ := fun b o h => bc hb3 b o h; have hbww2 : Below w.heap.size w w2 := hbw.drew.trans (hb3.mono hbw.size); have hz0w2 : w.heap.size < w2.heap.size := Nat.lt_of_lt_of_le hl0' hb3.size; have hz1w2 : w.heap.size + 1 < w2.heap.size := Nat.lt_of_lt_of_le hl1' hb3.size) | (go_at_call 36; refine Calls.mono (rsize_any U _ S _ ?_ (by omega)) ?_; exact HVb.out.below hbww2 (Nat.le_refl _); rintro e w3 ⟨rfl, hb4⟩; have bc2 : ∀ b o, b < w2.heap.size → w3.cell? ⟨b, o, none⟩ = w2.cell? ⟨b, o, none⟩ := fun b o h => bc hb4 b o h; have hbww3 : Below w.heap.size w w3 := hbww2.trans (hb4.mono hbww2.size); have hz0w3 : w.heap.size < w3.heap.size := Nat.lt_of_lt_of_le hz0w2 hb4.size; have hz1w3 : w.heap.size + 1 < w3.heap.size := Nat.lt_of_lt_of_le hz1w2 hb4.size))
        go_wp2_with fail
        go_ret
        rw [hfin1.out]
        exact ⟨rfl, hbww3⟩
      by_cases hn1 : n < n'
      · have hfin1 : Hid (above ⟨false, n, l⟩ ⟨false, n', l'⟩ = false) := by rw [hfin.out]; simp [hn1, Hid]
        go_wp2_with fail
        go_region_held3 (fun w' => w'.cell? ⟨w.heap.size, 0, none⟩ = some (.bool false) ∧ w'.cell? ⟨w.heap.size, 1, none⟩ = some (.int .i64 n) ∧ w'.cell? ⟨w.heap.size, 2, none⟩ = some (.slice a l.length c) ∧
                  w'.cell? ⟨w.heap.size + 1, 0, none⟩ = some (.bool false) ∧ w'.cell? ⟨w.heap.size + 1, 1, none⟩ = some (.int .i64 n') ∧ w'.cell? ⟨w.heap.size + 1, 2, none⟩ = some (.slice a' l'.length c')) (go_keep)
          (first | (go_at_call 36; refine Calls.mono (rsize_any T _ S _ ?_ (by omega)) ?_; exact RdT.same_ (HVa.out.below hbw (Nat.le_refl _)) (by rfl); rintro e w2 ⟨rfl, hb3⟩; have bc1 : ∀ b o, b < wr.heap.size → w2.cell? ⟨b, o, none⟩ = wr.cell? ⟨b, o, none⟩ := fun b o h => bc hb3 b o h; have hbww2 : Below w.heap.size w w2 := hbw.drew.trans (hb3.mono hbw.size); have hz0w2 : w.heap.size < w2.heap.size := Nat.lt_of_lt_of_le hl0' hb3.size; have hz1w2 : w.heap.size + 1 < w2.heap.size := Nat.lt_of_lt_of_le hl1' hb3.size) | (go_at_call 36; refine Calls.mono (rsize_any U _ S _ ?_ (by omega)) ?_; exact HVb.out.below hbww2 (Nat.le_refl _); rintro e w3 ⟨rfl, hb4⟩; have bc2 : ∀ b o, b < w2.heap.size → w3.cell? ⟨b, o, none⟩ = w2.cell? ⟨b, o, none⟩ := fun b o h => bc hb4 b o h; have hbww3 : Below w.heap.size w w3 := hbww2.trans (hb4.mono hbww2.size); have hz0w3 : w.heap.size < w3.heap.size := Nat.lt_of_lt_of_le hz0w2 hb4.size; have hz1w3 : w.heap.size + 1 < w3.heap.size := Nat.lt_of_lt_of_le hz1w2 hb4.size))
        go_wp2_with fail
        go_ret
        rw [hfin1.out]
        exact ⟨rfl, hbww3⟩
      by_cases hn2 : n' < n
      · have hfin1 : Hid (above ⟨false, n, l⟩ ⟨false, n', l'⟩ = true) := by rw [hfin.out]; simp [hn1, hn2, Hid]
        go_wp2_with fail
        go_region_held3 (fun w' => w'.cell? ⟨w.heap.size, 0, none⟩ = some (.bool false) ∧ w'.cell? ⟨w.heap.size, 1, none⟩ = some (.int .i64 n) ∧ w'.cell? ⟨w.heap.size, 2, none⟩ = some (.slice a l.length c) ∧
                  w'.cell? ⟨w.heap.size + 1, 0, none⟩ = some (.bool false) ∧ w'.cell? ⟨w.heap.size + 1, 1, none⟩ = some (.int .i64 n') ∧ w'.cell? ⟨w.heap.size + 1, 2, none⟩ = some (.slice a' l'.length c')) (go_keep)
          (first | (go_at_call 36; refine Calls.mono (rsize_any T _ S _ ?_ (by omega)) ?_; exact RdT.same_ (HVa.out.below hbw (Nat.le_refl _)) (by rfl); rintro e w2 ⟨rfl, hb3⟩; have bc1 : ∀ b o, b < wr.heap.size → w2.cell? ⟨b, o, none⟩ = wr.cell? ⟨b, o, none⟩ := fun b o h => bc hb3 b o h; have hbww2 : Below w.heap.size w w2 := hbw.drew.trans (hb3.mono hbw.size); have hz0w2 : w.heap.size < w2.heap.size := Nat.lt_of_lt_of_le hl0' hb3.size; have hz1w2 : w.heap.size + 1 < w2.heap.size := Nat.lt_of_lt_of_le hl1' hb3.size) | (go_at_call 36; refine Calls.mono (rsize_any U _ S _ ?_ (by omega)) ?_; exact HVb.out.below hbww2 (Nat.le_refl _); rintro e w3 ⟨rfl, hb4⟩; have bc2 : ∀ b o, b < w2.heap.size → w3.cell? ⟨b, o, none⟩ = w2.cell? ⟨b, o, none⟩ := fun b o h => bc hb4 b o h; have hbww3 : Below w.heap.size w w3 := hbww2.trans (hb4.mono hbww2.size); have hz0w3 : w.heap.size < w3.heap.size := Nat.lt_of_lt_of_le hz0w2 hb4.size; have hz1w3 : w.heap.size + 1 < w3.heap.size := Nat.lt_of_lt_of_le hz1w2 hb4.size))
        go_wp2_with fail
        go_ret
        rw [hfin1.out]
        exact ⟨rfl, hbww3⟩
      have hfin1 : Hid (above ⟨false, n, l⟩ ⟨false, n', l'⟩ = aboves l l') := by rw [hfin.out]; simp [hn1, hn2, Hid]
      go_wp2_with fail
      go_region_held3 (fun w' => w'.cell? ⟨w.heap.size, 0, none⟩ = some (.bool false) ∧ w'.cell? ⟨w.heap.size, 1, none⟩ = some (.int .i64 n) ∧ w'.cell? ⟨w.heap.size, 2, none⟩ = some (.slice a l.length c) ∧
                w'.cell? ⟨w.heap.size + 1, 0, none⟩ = some (.bool false) ∧ w'.cell? ⟨w.heap.size + 1, 1, none⟩ = some (.int .i64 n') ∧ w'.cell? ⟨w.heap.size + 1, 2, none⟩ = some (.slice a' l'.length c')) (go_keep)
        (first | (go_at_call 36; refine Calls.mono (rsize_any T _ S _ ?_ (by omega)) ?_; exact RdT.same_ (HVa.out.below hbw (Nat.le_refl _)) (by rfl); rintro e w2 ⟨rfl, hb3⟩; have bc1 : ∀ b o, b < wr.heap.size → w2.cell? ⟨b, o, none⟩ = wr.cell? ⟨b, o, none⟩ := fun b o h => bc hb3 b o h; have hbww2 : Below w.heap.size w w2 := hbw.drew.trans (hb3.mono hbw.size); have hz0w2 : w.heap.size < w2.heap.size := Nat.lt_of_lt_of_le hl0' hb3.size; have hz1w2 : w.heap.size + 1 < w2.heap.size := Nat.lt_of_lt_of_le hl1' hb3.size) | (go_at_call 36; refine Calls.mono (rsize_any U _ S _ ?_ (by omega)) ?_; exact HVb.out.below hbww2 (Nat.le_refl _); rintro e w3 ⟨rfl, hb4⟩; have bc2 : ∀ b o, b < w2.heap.size → w3.cell? ⟨b, o, none⟩ = w2.cell? ⟨b, o, none⟩ := fun b o h => bc hb4 b o h; have hbww3 : Below w.heap.size w w3 := hbww2.trans (hb4.mono hbww2.size); have hz0w3 : w.heap.size < w3.heap.size := Nat.lt_of_lt_of_le hz0w2 hb4.size; have hz1w3 : w.heap.size + 1 < w3.heap.size := Nat.lt_of_lt_of_le hz1w2 hb4.size))
      have hbel3 : Below w1.heap.size w1 w3 := (hbel.drew.trans (hb3.mono hbs)).trans (hb4.mono (Nat.le_trans hbs hb3.size))
      go_wp2_with fail
      obtain ⟨wo, rfl⟩ : ∃ wo : World, wo = wr := ⟨_, rfl⟩
      go_loopw [7] (fun i wq => ∃ k : Nat, k ≤ l.length ∧ k ≤ l'.length ∧ i = .int .i64 k ∧ l.take k = l'.take k ∧ Below w1.heap.size w1 wq)
        (fun i _ => l.length - (intOf i).toNat)
      case atStart => exact ⟨0, Nat.zero_le _, Nat.zero_le _, rfl, rfl, hbel3⟩
      case round =>
        obtain ⟨k, hk, hk', rfl, htk, hbel'⟩ := hrel
        obtain ⟨wq, rfl⟩ : ∃ wq : World, wq = wr := ⟨_, rfl⟩
        have HTK := Lib.hid htk; clear htk
        have hbs' := hbel'.size
        have hl2 : w.heap.size < wq.heap.size := by omega
        have hl3 : w.heap.size + 1 < wq.heap.size := by omega
        obtain ⟨a0', a1', a2'⟩ := blk3 (blk_below B0 hbel' hl0)
        obtain ⟨b0', b1', b2'⟩ := blk3 (blk_below B1 hbel' hl1)
        have hbq : Below w.heap.size w wq := hb2.trans (hbel'.mono (by omega))
        by_cases hkl : k < l.length
        · by_cases hkl' : k < l'.length
          · obtain ⟨x, b, o, p1, pc1, hx, hSb, hbx, hix, c0, c1, c2, hxs⟩ := (HV.out.below hbq (Nat.le_refl _)).nthT slTerm hkl
            obtain ⟨y, b', o', q1, qc1, hy, hSb', hby, hiy, d0, d1, d2, hys⟩ := (HV'.out.below hbq (Nat.le_refl _)).nthT slTerm hkl'
            have HX := Lib.hid hxs; clear hxs
            have HY := Lib.hid hys; clear hys
            have hxsz : x.size ≤ 4398046511104 := by
              have h1 := sizes_take_succ l k x hx.out
              have h2 := sizes_take_le l (k + 1)
              have h3 : T.size = 1 + Tm.sizes l := by rw [HT.out]; rfl
              omega
            have hysz : y.size ≤ 4398046511104 := by
              have h1 := sizes_take_succ l' k y hy.out
              have h2 := sizes_take_le l' (k + 1)
              have h3 : U.size = 1 + Tm.sizes l' := by rw [HU.out]; rfl
              omega
            cases hxy : x.same y
            · have hfin2 : Hid (aboves l l' = above x y) := aboves_at HTK.out hx.out hy.out hxy
              go_wp2_with fail
              go_region_held3 (fun w' => w'.cell? ⟨w.heap.size, 2, none⟩ = some (.slice a l.length c) ∧ w'.cell? ⟨w.heap.size + 1, 2, none⟩ = some (.slice a' l'.length c') ∧
                  w'.cell? ⟨b, o + k * 3, none⟩ = some (.bool x.var) ∧ w'.cell? ⟨b, o + k * 3 + 1, none⟩ = some (.int .i64 x.n) ∧ w'.cell? ⟨b, o + k * 3 + 2, none⟩ = some (.slice p1 x.args.length pc1) ∧
                  w'.cell? ⟨b', o' + k * 3, none⟩ = some (.bool y.var) ∧ w'.cell? ⟨b', o' + k * 3 + 1, none⟩ = some (.int .i64 y.n) ∧ w'.cell? ⟨b', o' + k * 3 + 2, none⟩ = some (.slice q1 y.args.length qc1)) (go_keep)
                ((go_at_call 41; refine Calls.mono (rsame_any x y _ S _ _ (RdT.same_ ⟨p1, pc1, rfl, HX.out⟩ (by rfl)) (RdT.same_ ⟨q1, qc1, rfl, HY.out⟩ (by rfl))) ?_; rintro e w6 ⟨rfl, hb7⟩; have bc1 : ∀ b o, b < wq.heap.size → w6.cell? ⟨b, o, none⟩ = wq.cell? ⟨b, o, none⟩ := fun b o h => bc hb7 b o h; have hbww6 : Below w1.heap.size w1 w6 := hbel'.drew.trans (hb7.mono hbel'.size)))
              have hz6 : wq.heap.size ≤ w6.heap.size := hb7.size
              have e0 := (bc1 _ _ hl2).trans a2'
              have e1 := (bc1 _ _ hl3).trans b2'
              have f0 := (bc1 _ _ hbx).trans c0
              have f1 := (bc1 _ _ hbx).trans c1
              have f2 := (bc1 _ _ hbx).trans c2
              have g0 := (bc1 _ _ hby).trans d0
              have g1 := (bc1 _ _ hby).trans d1
              have g2 := (bc1 _ _ hby).trans d2
              have hbx6 : b < w6.heap.size := by omega
              have hby6 : b' < w6.heap.size := by omega
              have hl26 : w.heap.size < w6.heap.size := by omega
              have hl36 : w.heap.size + 1 < w6.heap.size := by omega
              have HX6 := Lib.hid ((RdL.same_ (w' := wq.drew) HX.out rfl).below hb7 (Nat.le_refl _))
              have HY6 := Lib.hid ((RdL.same_ (w' := wq.drew) HY.out rfl).below hb7 (Nat.le_refl _))
              clear c0 c1 c2 d0 d1 d2 a0' a1' a2' b0' b1' b2' bc1
              go_wp2_with fail
              go_region_held3 (fun w' => w'.cell? ⟨w.heap.size, 2, none⟩ = some (.slice a l.length c) ∧ w'.cell? ⟨w.heap.size + 1, 2, none⟩ = some (.slice a' l'.length c') ∧
                  w'.cell? ⟨b, o + k * 3, none⟩ = some (.bool x.var) ∧ w'.cell? ⟨b, o + k * 3 + 1, none⟩ = some (.int .i64 x.n) ∧ w'.cell? ⟨b, o + k * 3 + 2, none⟩ = some (.slice p1 x.args.length pc1) ∧
                  w'.cell? ⟨b', o' + k * 3, none⟩ = some (.bool y.var) ∧ w'.cell? ⟨b', o' + k * 3 + 1, none⟩ = some (.int .i64 y.n) ∧ w'.cell? ⟨b', o' + k * 3 + 2, none⟩ = some (.slice q1 y.args.length qc1)) (go_keep)
                ((go_at_call 42; refine Calls.mono (IH.out x (mem_of_get hx.out) y _ S _ _ (RdT.same_ ⟨p1, pc1, rfl, HX6.out⟩ (by rfl)) (RdT.same_ ⟨q1, qc1, rfl, HY6.out⟩ (by rfl)) hxsz hysz) ?_; rintro e w7 ⟨rfl, hb8⟩; have bc1 : ∀ b o, b < w6.heap.size → w7.cell? ⟨b, o, none⟩ = w6.cell? ⟨b, o, none⟩ := fun b o h => bc hb8 b o h; have hbww7 : Below w1.heap.size w1 w7 := hbww6.drew.trans (hb8.mono hbww6.size)))
              go_wp2_with fail
              go_ret
              rw [hfin1.out, hfin2.out]
              exact ⟨rfl, hb2.trans (hbww7.mono (by omega))⟩
            · go_wp2_with fail
              go_region_held3 (fun w' => w'.cell? ⟨w.heap.size, 2, none⟩ = some (.slice a l.length c) ∧ w'.cell? ⟨w.heap.size + 1, 2, none⟩ = some (.slice a' l'.length c') ∧
                  w'.cell? ⟨b, o + k * 3, none⟩ = some (.bool x.var) ∧ w'.cell? ⟨b, o + k * 3 + 1, none⟩ = some (.int .i64 x.n) ∧ w'.cell? ⟨b, o + k * 3 + 2, none⟩ = some (.slice p1 x.args.length pc1) ∧
                  w'.cell? ⟨b', o' + k * 3, none⟩ = some (.bool y.var) ∧ w'.cell? ⟨b', o' + k * 3 + 1, none⟩ = some (.int .i64 y.n) ∧ w'.cell? ⟨b', o' + k * 3 + 2, none⟩ = some (.slice q1 y.args.length qc1)) (go_keep)
                ((go_at_call 41; refine Calls.mono (rsame_any x y _ S _ _ (RdT.same_ ⟨p1, pc1, rfl, HX.out⟩ (by rfl)) (RdT.same_ ⟨q1, qc1, rfl, HY.out⟩ (by rfl))) ?_; rintro e w6 ⟨rfl, hb7⟩; have bc1 : ∀ b o, b < wq.heap.size → w6.cell? ⟨b, o, none⟩ = wq.cell? ⟨b, o, none⟩ := fun b o h => bc hb7 b o h; have hbww6 : Below w1.heap.size w1 w6 := hbel'.drew.trans (hb7.mono hbel'.size)))
              go_wp2_with fail
              go_roundw
              case rel => exact ⟨k + 1, by omega, by omega, by go_num, by rw [take_succ_of hx.out, take_succ_of hy.out, HTK.out, (Tm.same_iff x y).1 hxy], hbww6⟩
              case measure => simp [intOf]; omega
          · go_wp2_with fail
            go_ret
            rw [hfin1.out, aboves_none HTK.out (.inr (by omega))]
            exact ⟨rfl, hbq⟩
        · go_wp2_with fail
          go_ret
          rw [hfin1.out, aboves_none HTK.out (.inl (by omega))]
          exact ⟨rfl, hbq⟩
end Go.Proofs.YtmanhdacnkpclaaGreatDoor

/- Contracts: Compare, right. -/
namespace Go.Proofs.YtmanhdacnkpclaaGreatDoor
set_option linter.unusedVariables false
set_option linter.unusedSimpArgs false
open Go.RowKit

theorem RdT.of_args {w : World} {S : Nat → Prop} {t : Tm} {a : Option Addr} {c : Nat} (h : RdTs w S t.args (.slice a t.args.length c)) : RdT w S t (.agg #[.bool t.var, .int .i64 t.n, .slice a t.args.length c]) := ⟨a, c, rfl, h⟩

end Go.Proofs.YtmanhdacnkpclaaGreatDoor

/- Contracts: count (a map of counts), above, Compare of the program. -/
namespace Go.Proofs.YtmanhdacnkpclaaGreatDoor
set_option linter.unusedVariables false
set_option linter.unusedSimpArgs false
open Go.RowKit Go.Maps

theorem lawInt : Keyed Tryz.prog 3 := int_keyed Tryz.underlying3

/-- block r is a map from numbers to numbers, that says f (0 where there is no entry), of at most n entries -/
def CM (w : World) (r n : Nat) (f : Int → Int) : Prop :=
  ∃ D : DataW Unit, w.ownsMap Tryz.prog 3 (plainElem Tryz.prog 3) r n D ∧ IsMap D ∧ ∀ x : Int, (Lit.int .i64 x).wf = true → D.atKey (.int .i64 x) (.lit (.int .i64 0)) = .lit (.int .i64 (f x))

theorem CM.kept {w w' : World} {r n : Nat} {f : Int → Int} {row : Option Nat} (h : CM w r n f) (hg : w.grownBy w' row) (hne : some r ≠ row) : CM w' r n f := by
  obtain ⟨D, h1, h2⟩ := h; exact ⟨D, h1.kept hg hne, h2⟩
theorem CM.alloc {w : World} {r n : Nat} {f : Int → Int} (h : CM w r n f) (o : Obj) : CM (w.alloc o) r n f := h.kept (World.grownBy_alloc w o none) (by simp)
theorem CM.lt {w : World} {r n : Nat} {f : Int → Int} (h : CM w r n f) : r < w.heap.size := by obtain ⟨D, h1, _⟩ := h; exact h1.lt
theorem CM.mono {w : World} {r n m : Nat} {f : Int → Int} (h : CM w r n f) (hm : n ≤ m) : CM w r m f := by obtain ⟨D, h1, h2⟩ := h; exact ⟨D, h1.mono hm, h2⟩
theorem CM.congr {w : World} {r n : Nat} {f g : Int → Int} (h : CM w r n f) (hg : ∀ x, f x = g x) : CM w r n g := by
  obtain ⟨D, h1, h2, h3⟩ := h; exact ⟨D, h1, h2, fun x hx => by rw [← hg]; exact h3 x hx⟩
theorem cv_of {f : Int → Int} {D : DataW Unit} {x c : Int} (h : ∀ x : Int, (Lit.int .i64 x).wf = true → D.atKey (.int .i64 x) (.lit (.int .i64 0)) = .lit (.int .i64 (f x))) (hx : (Lit.int .i64 x).wf = true) (hc : D.atKey (.int .i64 x) (.lit (.int .i64 0)) = .lit (.int .i64 c)) : c = f x := by
  have := h x hx
  rw [hc] at this
  simpa using this
theorem cv_of_le {a b c : Int} {p : Int} (h : c = a) (hb : p ≤ a ∧ a ≤ b) : p ≤ c ∧ c ≤ b := by subst h; exact hb
theorem cell_grown {w w' : World} {r b o : Nat} {v : Value} (hg : w.grownBy w' (some r)) (h : w.cell? ⟨b, o, none⟩ = some v) (hne : r < b ∨ b < r) : w'.cell? ⟨b, o, none⟩ = some v :=
  hg.cell h (by intro e; injection e with e; simp at e; omega)
theorem CM.made (w : World) : CM (w.alloc (.map #[] 0)) w.heap.size 0 (fun _ => 0) :=
  ⟨.map [], World.ownsMap_made _ _ _ _, ⟨[], rfl⟩, fun x _ => rfl⟩

/-- what block r reads is not touched -/
theorem RdL.grown {α : Type} {f : α → D} {w w' : World} {S : Nat → Prop} {l : List α} {v : Value} {r : Nat} (h : RdL f w S l v) (hg : w.grownBy w' (some r)) (hr : ¬ S r) : RdL f w' S l v :=
  h.keep hg.size (fun _ _ h => h) (fun b hb hS => hg.block b hb (fun e => by injection e with e; subst e; exact hr hS))
theorem grown_trans {a b c : World} {r : Nat} (h : a.grownBy b (some r)) (k : b.grownBy c (some r)) : a.grownBy c (some r) :=
  ⟨k.os.trans h.os, k.tape.trans h.tape, k.output.trans h.output, Nat.le_trans h.size k.size, fun i hi hne => (k.block i (Nat.lt_of_lt_of_le hi h.size) hne).trans (h.block i hi hne)⟩
theorem grown_alloc {a b : World} {row : Option Nat} (h : a.grownBy b row) (o : Obj) : a.grownBy (b.alloc o) row :=
  ⟨h.os, h.tape, h.output, Nat.le_trans h.size (by simp), fun i hi hne => (Below.heap_alloc b o i (Nat.lt_of_lt_of_le hi h.size)).trans (h.block i hi hne)⟩

def CountC (t : Tm) : Prop := ∀ (by_ : Int) (f : Int → Int) (r n : Nat) (w : World) (S : Nat → Prop) (v : Value), RdT w S t v → ¬ S r → CM w r n f → (by_ = 1 ∨ by_ = -1) →
  n + t.size ≤ 4611686018427387904 → (∀ x, -4611686018427387904 + t.size ≤ f x ∧ f x + t.size ≤ 4611686018427387904) →
  (∀ x, ¬ (Lit.int .i64 x).wf = true → times x t = 0) →
  Calls Tryz.prog 76 #[.map (some r), v, .int .i64 by_] w fun e w' => e = .returned (.tuple #[]) ∧ CM w' r (n + t.size) (fun x => f x + by_ * times x t) ∧ w.grownBy w' (some r)

set_option maxHeartbeats 1000000 in
set_option maxRecDepth 100000 in
theorem count_any : ∀ t, CountC t := by
  refine Tm.ind ?_
  intro vr N l ih by_ f r n w S v hv hSr hcm hby hn hf hwf
  obtain ⟨a, c, rfl, hs⟩ := hv
  simp only at hs ⊢
  obtain ⟨_, _, he, hl, hm⟩ := hs.form
  clear he
  have hn' : n + (1 + Tm.sizes l) ≤ 4611686018427387904 := hn
  have hf' : ∀ x, -4611686018427387904 + (1 + (Tm.sizes l : Int)) ≤ f x ∧ f x + (1 + (Tm.sizes l : Int)) ≤ 4611686018427387904 := fun x => by
    have h := hf x
    have e : (Tm.size ⟨vr, N, l⟩ : Int) = 1 + (Tm.sizes l : Int) := by simp [Tm.size]
    omega
  clear hn hf
  have IH := Lib.hid ih; clear ih
  have HV := Lib.hid hs; clear hs
  have HF := Lib.hid hf'; clear hf'
  have HW := Lib.hid hwf; clear hwf
  have HSR := Lib.hid hSr; clear hSr
  have HCM := Lib.hid hcm
  have hrw := hcm.lt
  clear hcm
  cases vr
  case false =>
    have hfin : Hid (∀ x, times x ⟨false, N, l⟩ = timess x l) := fun x => by simp [times]
    go_enter Tryz.func76, Tryz.ntmps76
    go_wp2_with fail
    go_loopw [19] (fun i wr => ∃ k : Nat, k ≤ l.length ∧ i = .int .i64 k ∧ CM wr r (n + Tm.sizes (l.take k)) (fun x => f x + by_ * timess x (l.take k)) ∧ w.grownBy wr (some r))
      (fun i _ => l.length - (intOf i).toNat)
    case atStart => exact ⟨0, Nat.zero_le _, rfl, (HCM.out.alloc _).mono (by simp) |>.congr (fun x => by simp [timess]), World.grownBy_alloc _ _ _⟩
    case round =>
      obtain ⟨k, hk, rfl, hcm, hgr⟩ := hrel
      have HC := Lib.hid hcm; clear hcm
      have hbs := hgr.size
      by_cases hkl : k < l.length
      · obtain ⟨x, b, o, a', c', hx, hSb, hbw, hix, c0, c1, c2, hxs⟩ := (HV.out.grown hgr HSR.out).nthT slTerm hkl
        have HX := Lib.hid hxs; clear hxs
        have hsz := Lib.hid (sizes_take_succ l k x hx.out)
        have hle := sizes_take_le l (k + 1)
        have hle2 : Tm.sizes (l.take k) + x.size ≤ Tm.sizes l := by have := hsz.out; omega
        go_wp2_with fail
        refine (IH.out x (mem_of_get hx.out) by_ _ r _ _ S _ (RdT.alloc ⟨a', c', rfl, HX.out⟩ _) HSR.out (HC.out.alloc _) hby (by omega) (fun y => ?_) (fun y hy => ?_)).mono ?_
        · have h1 := HF.out y
          have h2 := timess_le_sizes y (l.take k)
          have h3 : (timess y (l.take k) : Int) ≤ Tm.sizes (l.take k) := by omega
          rcases hby with rfl | rfl <;> omega
        · have h1 := HW.out y hy
          rw [hfin.out] at h1
          have h2 := timess_snoc y (l.take k) x
          rw [← take_succ_of hx.out] at h2
          have h3 := timess_take_le y l (k + 1)
          omega
        rintro e w1 ⟨rfl, hcm1, hg1⟩
        have hgr1 : w.grownBy w1 (some r) := grown_trans (grown_alloc hgr _) hg1
        have HC1 := Lib.hid hcm1; clear hcm1 hg1
        go_wp2_with fail
        go_roundw
        case rel =>
          refine ⟨k + 1, by omega, by go_num, ?_, hgr1⟩
          refine (HC1.out.mono (by rw [hsz.out]; omega)).congr fun y => ?_
          rw [take_succ_of hx.out, timess_snoc]
          rcases hby with rfl | rfl <;> simp <;> omega
        case measure => simp [intOf]; omega
      · go_wp2_with fail
        go_end0
        have : k = l.length := by omega
        subst this
        have := HC.out
        rw [List.take_length] at this
        exact ⟨rfl, (this.mono (by simp [Tm.size])).congr (fun x => by rw [hfin.out]), hgr⟩
  case true =>
    have hfin : Hid (∀ x, times x ⟨true, N, l⟩ = (if N = x then 1 else 0) + timess x l) := fun x => by simp [times]
    have hNw : (Lit.int .i64 N).wf = true := by
      rcases Bool.eq_false_or_eq_true ((Lit.int .i64 N).wf) with h | h
      · exact h
      · have := HW.out N (by rw [h]; simp)
        rw [hfin.out] at this
        simp at this
    have hz : ∀ W : World, (zeroValue 3).run Tryz.prog W = .ok (.int .i64 0) W := fun W => by kernel_rfl
    obtain ⟨D, hown, hD, hat⟩ := HCM.out.alloc (.cells #[.bool true, .int .i64 N, .slice a l.length c] 36)
    have HZ := Lib.hid hz; clear hz
    have HAT := Lib.hid hat; clear hat
    have hb0 : -4611686018427387903 ≤ f N ∧ f N ≤ 4611686018427387903 := by have := HF.out N; omega
    have hby1 : -1 ≤ by_ ∧ by_ ≤ 1 := by omega
    go_enter Tryz.func76, Tryz.ntmps76
    go_wp2_with (first | (at_lookup; refine wpList_lookup_own_int _ rfl _ _ 100 rfl 3 3 .i64 lawInt Tryz.underlying100 Tryz.underlying3 (HZ.out _) r n D rfl hown _ (.int .i64 N) rfl (keyOf_int_mk Tryz.underlying3 hNw) ?_; intro cv hatc hwc; have HCV := Lib.hid (cv_of HAT.out hNw hatc); have hcv1 := cv_of_le HCV.out hb0; clear hatc) | (at_mapUpdate; go_loud (refine wpList_mapUpdate_own _ rfl _ _ _ 100 rfl 3 3 lawInt Tryz.underlying100 (plainElem Tryz.prog 3) r n D rfl hown (by simp only [maxLen]; omega) _ (.int .i64 (cv + by_)) (.int .i64 N) rfl rfl (keyOf_int_mk Tryz.underlying3 hNw) _ [] (plainElem_int Tryz.underlying3 (WalkArith.wf_i64 (by omega))) ?_); intro w2 hown2 hg2; have hq : w2.cell? ⟨w.heap.size, 2, none⟩ = some (.slice a l.length c) := cell_grown hg2 (by simp) (by omega)))
    have HC0 : Hid (CM w2 r (n + 1) (fun x => f x + by_ * (if N = x then 1 else 0))) := by
      refine ⟨_, hown2, hD.put _ _, fun x hx => ?_⟩
      by_cases hxN : N = x
      · subst hxN
        rw [atKey_put_same hD (k := .int .i64 N) trivial]
        simp [HCV.out]
      · rw [atKey_put_other (k := .int .i64 N) (k' := .int .i64 x) (by intro e; injection e with _ e; exact hxN e.symm)]
        rw [HAT.out x hx]; simp [hxN]
    have hg0 : w.grownBy w2 (some r) := grown_trans (World.grownBy_alloc _ _ _) hg2
    clear hown hown2 hD hg2
    go_loopw [19] (fun i wr => ∃ k : Nat, k ≤ l.length ∧ i = .int .i64 k ∧ CM wr r (n + 1 + Tm.sizes (l.take k)) (fun x => f x + by_ * (if N = x then 1 else 0) + by_ * timess x (l.take k)) ∧ w.grownBy wr (some r))
      (fun i _ => l.length - (intOf i).toNat)
    case atStart => exact ⟨0, Nat.zero_le _, rfl, (HC0.out.mono (by omega)).congr (fun x => by simp [timess]), hg0⟩
    case round =>
      obtain ⟨k, hk, rfl, hcm, hgr⟩ := hrel
      have HC := Lib.hid hcm; clear hcm
      have hbs := hgr.size
      by_cases hkl : k < l.length
      · obtain ⟨x, b, o, a', c', hx, hSb, hbw, hix, c0, c1, c2, hxs⟩ := (HV.out.grown hgr HSR.out).nthT slTerm hkl
        have HX := Lib.hid hxs; clear hxs
        have hsz := Lib.hid (sizes_take_succ l k x hx.out)
        have hle := sizes_take_le l (k + 1)
        have hle2 : Tm.sizes (l.take k) + x.size ≤ Tm.sizes l := by have := hsz.out; omega
        go_wp2_with fail
        refine (IH.out x (mem_of_get hx.out) by_ _ r _ _ S _ (RdT.alloc ⟨a', c', rfl, HX.out⟩ _) HSR.out (HC.out.alloc _) hby (by omega) (fun y => ?_) (fun y hy => ?_)).mono ?_
        · have h1 := HF.out y
          have h2 := timess_le_sizes y (l.take k)
          have h3 : (timess y (l.take k) : Int) ≤ Tm.sizes (l.take k) := by omega
          rcases hby with rfl | rfl <;> split <;> omega
        · have h1 := HW.out y hy
          rw [hfin.out] at h1
          have h2 := timess_snoc y (l.take k) x
          rw [← take_succ_of hx.out] at h2
          have h3 := timess_take_le y l (k + 1)
          omega
        rintro e w1 ⟨rfl, hcm1, hg1⟩
        have hgr1 : w.grownBy w1 (some r) := grown_trans (grown_alloc hgr _) hg1
        have HC1 := Lib.hid hcm1; clear hcm1 hg1
        go_wp2_with fail
        go_roundw
        case rel =>
          refine ⟨k + 1, by omega, by go_num, ?_, hgr1⟩
          refine (HC1.out.mono (by rw [hsz.out]; omega)).congr fun y => ?_
          rw [take_succ_of hx.out, timess_snoc]
          rcases hby with rfl | rfl <;> simp <;> omega
        case measure => simp [intOf]; omega
      · go_wp2_with fail
        go_end0
        have : k = l.length := by omega
        subst this
        have := HC.out
        rw [List.take_length] at this
        exact ⟨rfl, (this.mono (by simp [Tm.size]; omega)).congr (fun x => by rw [hfin.out]; rcases hby with rfl | rfl <;> split <;> simp <;> omega), hgr⟩
end Go.Proofs.YtmanhdacnkpclaaGreatDoor

/- Contracts: above, Compare of the program. -/
namespace Go.Proofs.YtmanhdacnkpclaaGreatDoor
set_option linter.unusedVariables false
set_option linter.unusedSimpArgs false
open Go.RowKit Go.Maps

theorem CM.new {w : World} {r : Nat} (h : r = w.heap.size) : CM (w.alloc (.map #[] 0)) r 0 (fun _ => 0) := by subst h; exact CM.made w

def PAboveC (t : Tm) : Prop := ∀ (u : Tm) (w : World) (S : Nat → Prop) (v v' : Value), RdT w S t v → RdT w S u v' → t.size ≤ 4398046511104 → u.size ≤ 4398046511104 → t.okv = true → u.okv = true →
  Calls Tryz.prog 59 #[v, v'] w fun e w' => e = .returned (.bool (above t u)) ∧ Below w.heap.size w w'

set_option maxHeartbeats 800000 in
set_option maxRecDepth 100000 in
theorem pabove_any : ∀ t, PAboveC t := by
  refine Tm.ind ?_
  intro vr n l ih u w S v v' hv hv' hsz hsz' hok hok'
  obtain ⟨vr', n', l'⟩ := u
  obtain ⟨a, c, rfl, hs⟩ := hv
  obtain ⟨a', c', rfl, hs'⟩ := hv'
  simp only at hs hs' ⊢
  obtain ⟨_, _, he, hl, hm⟩ := hs.form
  clear he
  obtain ⟨_, _, he, hl', hm'⟩ := hs'.form
  clear he
  have IH := Lib.hid ih; clear ih
  have HV := Lib.hid hs; clear hs
  have HV' := Lib.hid hs'; clear hs'
  cases vr
  case true =>
    go_enter Tryz.func59, Tryz.ntmps59
    go_wp2_with fail
    go_ret
    rw [above_var]
    exact ⟨rfl, ((Below.refl _ _).alloc (Nat.le_refl _) _).alloc (by simp) _⟩
  obtain ⟨T, hT⟩ : ∃ T : Tm, T = ⟨false, n, l⟩ := ⟨_, rfl⟩
  obtain ⟨U, hU⟩ : ∃ U : Tm, U = ⟨vr', n', l'⟩ := ⟨_, rfl⟩
  rw [← hT] at hsz hok
  rw [← hU] at hsz' hok'
  have HOK := Lib.hid hok; clear hok
  have HOK' := Lib.hid hok'; clear hok'
  have HVa := Lib.hid (RdT.mk' hT HV.out)
  have HVb := Lib.hid (RdT.mk' hU HV'.out)
  have HT := Lib.hid hT; clear hT
  have HU := Lib.hid hU; clear hU
  have hmm := @run_makeMap Tryz.prog
  go_enter Tryz.func59, Tryz.ntmps59
  go_wp2_with fail
  refine Calls.mono (count_any T 1 (fun _ => 0) _ 0 _ (fun b => S b ∧ b < w.heap.size) _ ?_ ?_ ?_ (.inl rfl) (by omega) (fun x => by omega) (fun x hx => ?_)) ?_
  · exact (((HVa.out.wide (S' := fun b => S b ∧ b < w.heap.size) (fun b hb h => ⟨h, hb⟩)).alloc _).alloc _).alloc _
  · rintro ⟨_, h⟩; omega
  · exact CM.new (by simp)
  · rcases Decidable.em (times x T = 0) with h | h
    · exact h
    · exact absurd (WalkArith.wf_i64 (by have := times_mem x T [] HOK.out h; omega)) hx
  rintro e w1 ⟨rfl, hcm, hg1⟩
  have g1 : w.grownBy w1 (some (w.heap.size + 1 + 1)) := grown_trans (grown_alloc (grown_alloc (World.grownBy_alloc w _ _) _) _) hg1
  have b1 : Below w.heap.size w w1 := ⟨g1.os, g1.tape, g1.output, g1.size, fun k hk => g1.block k hk (by intro e; injection e with e; omega)⟩
  have hr1 := hcm.lt
  have B0 : blk w1 w.heap.size = some (.cells #[.bool false, .int .i64 n, .slice a l.length c] 36) := (hg1.block _ (by simp; omega) (by intro e; injection e with e; omega)).trans (by show blk _ _ = _; simp [blk_alloc]; omega)
  have B1 : blk w1 (w.heap.size + 1) = some (.cells #[.bool vr', .int .i64 n', .slice a' l'.length c'] 36) := (hg1.block _ (by simp) (by intro e; injection e with e; omega)).trans (by show blk _ _ = _; simp [blk_alloc])
  have HC := Lib.hid hcm; clear hcm hg1 g1
  obtain ⟨p0, p1, p2⟩ := blk3 B0
  obtain ⟨q0, q1, q2⟩ := blk3 B1
  go_wp2_with fail
  refine Calls.mono (count_any U (-1) _ _ _ _ (fun b => S b ∧ b < w.heap.size) _ ?_ ?_ HC.out (.inr rfl) (by omega) (fun x => ?_) (fun x hx => ?_)) ?_
  · exact (HVb.out.wide (S' := fun b => S b ∧ b < w.heap.size) (fun b hb h => ⟨h, hb⟩)).below b1 (Nat.le_refl _)
  · rintro ⟨_, h⟩; omega
  · have h1 := times_le_size x T
    simp; omega
  · rcases Decidable.em (times x U = 0) with h | h
    · exact h
    · exact absurd (WalkArith.wf_i64 (by have := times_mem x U [] HOK'.out h; omega)) hx
  rintro e w2 ⟨rfl, hcm2, hg2⟩
  have b2 : Below w.heap.size w w2 := b1.trans ⟨hg2.os, hg2.tape, hg2.output, hg2.size, fun k hk => hg2.block k (by omega) (by intro e; injection e with e; omega)⟩
  have C0 : blk w2 w.heap.size = some (.cells #[.bool false, .int .i64 n, .slice a l.length c] 36) := (hg2.block _ (blk_lt B0) (by intro e; injection e with e; omega)).trans B0
  have C1 : blk w2 (w.heap.size + 1) = some (.cells #[.bool vr', .int .i64 n', .slice a' l'.length c'] 36) := (hg2.block _ (blk_lt B1) (by intro e; injection e with e; omega)).trans B1
  clear p0 p1 p2 q0 q1 q2 B0 B1 b1 hg2
  have hr2 := hcm2.lt
  obtain ⟨D, hown, hDm, hat⟩ := hcm2.mono (m := T.size + U.size) (by omega)
  have HD := Lib.hid hDm; clear hDm
  have HAT : Hid (∀ x : Int, (Lit.int .i64 x).wf = true → D.atKey (.int .i64 x) (.lit (.int .i64 0)) = .lit (.int .i64 ((times x T : Int) - times x U))) := fun x hx => by
    rw [hat x hx]; congr 2; simp; omega
  clear hat
  go_wp2_with (first | (at_range; refine wpList_range_own _ rfl _ 100 rfl 3 3 lawInt Tryz.underlying100 _ (w.heap.size + 1 + 1) _ D rfl hown ?_; intro w3 hrg3 hg3 hs3))
  go_frame
  have b3 : Below w.heap.size w w3 := b2.trans ⟨hg3.os, hg3.tape, hg3.output, hg3.size, fun k hk => hg3.block k (by omega) (by simp)⟩
  have D0 : blk w3 w.heap.size = some (.cells #[.bool false, .int .i64 n, .slice a l.length c] 36) := (hg3.block _ (blk_lt C0) (by simp)).trans C0
  have D1 : blk w3 (w.heap.size + 1) = some (.cells #[.bool vr', .int .i64 n', .slice a' l'.length c'] 36) := (hg3.block _ (blk_lt C1) (by simp)).trans C1
  have hl0 := blk_lt C0
  have hl1 := blk_lt C1
  clear C0 C1 hg3
  go_loopw [7] (fun _ wr => ∃ (left : Lit → Bool) (cnt : Nat), wr.ranges Tryz.prog 3 (plainElem Tryz.prog 3) (w.heap.size + 1 + 1) w2.heap.size (T.size + U.size) D left cnt ∧
      (∀ x : Int, (Lit.int .i64 x).wf = true → has D (.int .i64 x) = true → left (.int .i64 x) = false → (times x U : Int) ≤ times x T) ∧ w3.grownBy wr (some w2.heap.size))
    (fun _ wr => wr.rangeLeft (w.heap.size + 1 + 1) w2.heap.size)
  case atStart => exact ⟨Maps.has D, Maps.size D, hrg3, fun x _ h h' => (by rw [h] at h'; cases h'), World.grownBy.refl _ _⟩
  case round =>
    obtain ⟨left, cnt, hrg, hok, hgw⟩ := hrel
    have HOKL := Lib.hid hok; clear hok
    have hbr : Below w.heap.size w wr := b3.trans ⟨hgw.os, hgw.tape, hgw.output, hgw.size, fun k hk => hgw.block k (by omega) (by intro e; injection e with e; omega)⟩
    have E0 : blk wr w.heap.size = some (.cells #[.bool false, .int .i64 n, .slice a l.length c] 36) := (hgw.block _ (blk_lt D0) (by intro e; injection e with e; omega)).trans D0
    have E1 : blk wr (w.heap.size + 1) = some (.cells #[.bool vr', .int .i64 n', .slice a' l'.length c'] 36) := (hgw.block _ (blk_lt D1) (by intro e; injection e with e; omega)).trans D1
    go_wp2_with (first | (at_next; refine wpList_next_ranges_ii _ rfl _ rfl 3 3 .i64 .i64 lawInt Tryz.underlying3 Tryz.underlying3 (w.heap.size + 1 + 1) w2.heap.size _ _ _ _ rfl hrg ?_ ?_))
    · intro _ hl0'
      have hno : Hid ((vars [] U).any (fun v => decide (times v T < times v U)) = false) := by
        show _ = _
        rw [Bool.eq_false_iff, ne_eq, any_times HOK'.out]
        rintro ⟨x, hx⟩
        have hw := WalkArith.wf_i64 (n := x) (by have := times_mem x U [] HOK'.out (by omega); omega)
        rcases Bool.eq_false_or_eq_true (has D (.int .i64 x)) with h | h
        · have := HOKL.out x hw h (hl0' _); omega
        · have h2 := HAT.out x hw
          rw [atKey_of_not_has h] at h2
          simp at h2; omega
      clear hl0'
      obtain ⟨a0, a1, a2⟩ := blk3 E0
      obtain ⟨b0, b1, b2⟩ := blk3 E1
      have hl0' := blk_lt E0
      have hl1' := blk_lt E1
      rcases Decidable.em (T.size = U.size) with hzz | hzz
      rotate_left
      · have hzz' : ((T.size : Int) != (U.size : Int)) = true := by rw [bne_iff_ne]; omega
        have hfin : Hid (above T U = decide (U.size < T.size)) := by
          have e := HT.out
          have h1 := hno.out
          rw [e] at h1 hzz ⊢
          simp [above, h1, hzz, Hid]
        clear hzz
        go_wp2_with fail
        go_region_held3 (fun w' => w'.cell? ⟨w.heap.size, 0, none⟩ = some (.bool false) ∧ w'.cell? ⟨w.heap.size, 1, none⟩ = some (.int .i64 n) ∧ w'.cell? ⟨w.heap.size, 2, none⟩ = some (.slice a l.length c) ∧
                  w'.cell? ⟨w.heap.size + 1, 0, none⟩ = some (.bool vr') ∧ w'.cell? ⟨w.heap.size + 1, 1, none⟩ = some (.int .i64 n') ∧ w'.cell? ⟨w.heap.size + 1, 2, none⟩ = some (.slice a' l'.length c')) (go_keep)
          (first | (go_at_call 40; refine Calls.mono (psize_any T _ S _ ?_ (by omega)) ?_; exact RdT.same_ (HVa.out.below hbr (Nat.le_refl _)) (by rfl); rintro e w5 ⟨rfl, hb5⟩; have bc1 : ∀ b o, b < wr.heap.size → w5.cell? ⟨b, o, none⟩ = wr.cell? ⟨b, o, none⟩ := fun b o h => bc hb5 b o h; have hbww5 : Below w.heap.size w w5 := hbr.drew.trans (hb5.mono hbr.size); have hz0w5 : w.heap.size < w5.heap.size := Nat.lt_of_lt_of_le hl0' hb5.size; have hz1w5 : w.heap.size + 1 < w5.heap.size := Nat.lt_of_lt_of_le hl1' hb5.size) | (go_at_call 40; refine Calls.mono (psize_any U _ S _ ?_ (by omega)) ?_; exact HVb.out.below hbww5 (Nat.le_refl _); rintro e w6 ⟨rfl, hb6⟩; have bc2 : ∀ b o, b < w5.heap.size → w6.cell? ⟨b, o, none⟩ = w5.cell? ⟨b, o, none⟩ := fun b o h => bc hb6 b o h; have hbww6 : Below w.heap.size w w6 := hbww5.trans (hb6.mono hbww5.size); have hz0w6 : w.heap.size < w6.heap.size := Nat.lt_of_lt_of_le hz0w5 hb6.size; have hz1w6 : w.heap.size + 1 < w6.heap.size := Nat.lt_of_lt_of_le hz1w5 hb6.size))
        go_wp2_with fail
        go_ret
        rw [← HT.out, ← HU.out, hfin.out]
        refine ⟨?_, hbww6⟩
        simp
      have hzz' : ((T.size : Int) != (U.size : Int)) = false := by rw [bne_eq_false_iff_eq]; omega
      have hfin0 : Hid (above T U = if vr' then false else if n < n' then false else if n' < n then true else aboves l l') := by
        have e := HT.out
        have e' := HU.out
        have h1 := hno.out
        rw [e, e'] at h1 hzz
        rw [e, e']
        simp [above, h1, hzz, Hid]
      have HZZ := Lib.hid hzz; clear hzz
      have hfin : Hid (above ⟨false, n, l⟩ ⟨vr', n', l'⟩ = if vr' then false else if n < n' then false else if n' < n then true else aboves l l') := by
        have := hfin0.out
        rw [HT.out, HU.out] at this
        exact this
      clear hfin0
      cases vr'
      case true =>
        have hfin1 : Hid (above ⟨false, n, l⟩ ⟨true, n', l'⟩ = false) := by rw [hfin.out]; simp [Hid]
        go_wp2_with fail
        go_region_held3 (fun w' => w'.cell? ⟨w.heap.size, 0, none⟩ = some (.bool false) ∧ w'.cell? ⟨w.heap.size, 1, none⟩ = some (.int .i64 n) ∧ w'.cell? ⟨w.heap.size, 2, none⟩ = some (.slice a l.length c) ∧
                  w'.cell? ⟨w.heap.size + 1, 0, none⟩ = some (.bool true) ∧ w'.cell? ⟨w.heap.size + 1, 1, none⟩ = some (.int .i64 n') ∧ w'.cell? ⟨w.heap.size + 1, 2, none⟩ = some (.slice a' l'.length c')) (go_keep)
          (first | (go_at_call 40; refine Calls.mono (psize_any T _ S _ ?_ (by omega)) ?_; exact RdT.same_ (HVa.out.below hbr (Nat.le_refl _)) (by rfl); rintro e w5 ⟨rfl, hb5⟩; have bc1 : ∀ b o, b < wr.heap.size → w5.cell? ⟨b, o, none⟩ = wr.cell? ⟨b, o, none⟩ := fun b o h => bc hb5 b o h; have hbww5 : Below w.heap.size w w5 := hbr.drew.trans (hb5.mono hbr.size); have hz0w5 : w.heap.size < w5.heap.size := Nat.lt_of_lt_of_le hl0' hb5.size; have hz1w5 : w.heap.size + 1 < w5.heap.size := Nat.lt_of_lt_of_le hl1' hb5.size) | (go_at_call 40; refine Calls.mono (psize_any U _ S _ ?_ (by omega)) ?_; exact HVb.out.below hbww5 (Nat.le_refl _); rintro e w6 ⟨rfl, hb6⟩; have bc2 : ∀ b o, b < w5.heap.size → w6.cell? ⟨b, o, none⟩ = w5.cell? ⟨b, o, none⟩ := fun b o h => bc hb6 b o h; have hbww6 : Below w.heap.size w w6 := hbww5.trans (hb6.mono hbww5.size); have hz0w6 : w.heap.size < w6.heap.size := Nat.lt_of_lt_of_le hz0w5 hb6.size; have hz1w6 : w.heap.size + 1 < w6.heap.size := Nat.lt_of_lt_of_le hz1w5 hb6.size))
        go_wp2_with fail
        go_ret
        rw [hfin1.out]
        exact ⟨rfl, hbww6⟩
      rcases Decidable.em (n = n') with hnn | hnn
      rotate_left
      · have hnn' : ((n : Int) != n') = true := by rw [bne_iff_ne]; exact hnn
        have hfin1 : Hid (above ⟨false, n, l⟩ ⟨false, n', l'⟩ = decide (n' < n)) := by
          rw [hfin.out]
          by_cases h1 : n < n'
          · simp [h1, Hid]; omega
          · have h2 : n' < n := by omega
            simp [h1, h2, Hid]
        clear hnn
        go_wp2_with fail
        go_region_held3 (fun w' => w'.cell? ⟨w.heap.size, 0, none⟩ = some (.bool false) ∧ w'.cell? ⟨w.heap.size, 1, none⟩ = some (.int .i64 n) ∧ w'.cell? ⟨w.heap.size, 2, none⟩ = some (.slice a l.length c) ∧
                  w'.cell? ⟨w.heap.size + 1, 0, none⟩ = some (.bool false) ∧ w'.cell? ⟨w.heap.size + 1, 1, none⟩ = some (.int .i64 n') ∧ w'.cell? ⟨w.heap.size + 1, 2, none⟩ = some (.slice a' l'.length c')) (go_keep)
          (first | (go_at_call 40; refine Calls.mono (psize_any T _ S _ ?_ (by omega)) ?_; exact RdT.same_ (HVa.out.below hbr (Nat.le_refl _)) (by rfl); rintro e w5 ⟨rfl, hb5⟩; have bc1 : ∀ b o, b < wr.heap.size → w5.cell? ⟨b, o, none⟩ = wr.cell? ⟨b, o, none⟩ := fun b o h => bc hb5 b o h; have hbww5 : Below w.heap.size w w5 := hbr.drew.trans (hb5.mono hbr.size); have hz0w5 : w.heap.size < w5.heap.size := Nat.lt_of_lt_of_le hl0' hb5.size; have hz1w5 : w.heap.size + 1 < w5.heap.size := Nat.lt_of_lt_of_le hl1' hb5.size) | (go_at_call 40; refine Calls.mono (psize_any U _ S _ ?_ (by omega)) ?_; exact HVb.out.below hbww5 (Nat.le_refl _); rintro e w6 ⟨rfl, hb6⟩; have bc2 : ∀ b o, b < w5.heap.size → w6.cell? ⟨b, o, none⟩ = w5.cell? ⟨b, o, none⟩ := fun b o h => bc hb6 b o h; have hbww6 : Below w.heap.size w w6 := hbww5.trans (hb6.mono hbww5.size); have hz0w6 : w.heap.size < w6.heap.size := Nat.lt_of_lt_of_le hz0w5 hb6.size; have hz1w6 : w.heap.size + 1 < w6.heap.size := Nat.lt_of_lt_of_le hz1w5 hb6.size))
        go_wp2_with fail
        go_ret
        rw [hfin1.out]
        exact ⟨rfl, hbww6⟩
      have hnn' : ((n : Int) != n') = false := by rw [bne_eq_false_iff_eq]; exact hnn
      have hfin1 : Hid (above ⟨false, n, l⟩ ⟨false, n', l'⟩ = aboves l l') := by rw [hfin.out]; simp [hnn, Hid]
      clear hnn
      by_cases hll : l.length ≤ l'.length
      all_goals go_wp2_with fail
      all_goals go_region_held3 (fun w' => w'.cell? ⟨w.heap.size, 0, none⟩ = some (.bool false) ∧ w'.cell? ⟨w.heap.size, 1, none⟩ = some (.int .i64 n) ∧ w'.cell? ⟨w.heap.size, 2, none⟩ = some (.slice a l.length c) ∧
                w'.cell? ⟨w.heap.size + 1, 0, none⟩ = some (.bool false) ∧ w'.cell? ⟨w.heap.size + 1, 1, none⟩ = some (.int .i64 n') ∧ w'.cell? ⟨w.heap.size + 1, 2, none⟩ = some (.slice a' l'.length c')) (go_keep)
        (first | (go_at_call 40; refine Calls.mono (psize_any T _ S _ ?_ (by omega)) ?_; exact RdT.same_ (HVa.out.below hbr (Nat.le_refl _)) (by rfl); rintro e w5 ⟨rfl, hb5⟩; have bc1 : ∀ b o, b < wr.heap.size → w5.cell? ⟨b, o, none⟩ = wr.cell? ⟨b, o, none⟩ := fun b o h => bc hb5 b o h; have hbww5 : Below w.heap.size w w5 := hbr.drew.trans (hb5.mono hbr.size); have hz0w5 : w.heap.size < w5.heap.size := Nat.lt_of_lt_of_le hl0' hb5.size; have hz1w5 : w.heap.size + 1 < w5.heap.size := Nat.lt_of_lt_of_le hl1' hb5.size) | (go_at_call 40; refine Calls.mono (psize_any U _ S _ ?_ (by omega)) ?_; exact HVb.out.below hbww5 (Nat.le_refl _); rintro e w6 ⟨rfl, hb6⟩; have bc2 : ∀ b o, b < w5.heap.size → w6.cell? ⟨b, o, none⟩ = w5.cell? ⟨b, o, none⟩ := fun b o h => bc hb6 b o h; have hbww6 : Below w.heap.size w w6 := hbww5.trans (hb6.mono hbww5.size); have hz0w6 : w.heap.size < w6.heap.size := Nat.lt_of_lt_of_le hz0w5 hb6.size; have hz1w6 : w.heap.size + 1 < w6.heap.size := Nat.lt_of_lt_of_le hz1w5 hb6.size))
      all_goals go_wp2_with fail
      all_goals
        obtain ⟨wo, rfl⟩ : ∃ wo : World, wo = wr := ⟨_, rfl⟩
        go_loopw [60] (fun i wq => ∃ k : Nat, k ≤ l.length ∧ k ≤ l'.length ∧ i = .int .i64 k ∧ l.take k = l'.take k ∧ Below wo.heap.size wo wq)
          (fun i _ => l.length - (intOf i).toNat)
        case atStart => exact ⟨0, Nat.zero_le _, Nat.zero_le _, rfl, rfl, (Below.refl _ _).drew.trans (hb5.trans (hb6.mono hb5.size))⟩
        case round =>
          obtain ⟨k, hk, hk', rfl, htk, hbel'⟩ := hrel
          obtain ⟨wq, rfl⟩ : ∃ wq : World, wq = wr := ⟨_, rfl⟩
          have HTK := Lib.hid htk; clear htk
          have hbs' := hbel'.size
          have hl2 : w.heap.size < wq.heap.size := by omega
          have hl3 : w.heap.size + 1 < wq.heap.size := by omega
          obtain ⟨a0', a1', a2'⟩ := blk3 (blk_below E0 hbel' hl0')
          obtain ⟨b0', b1', b2'⟩ := blk3 (blk_below E1 hbel' hl1')
          have hbq : Below w.heap.size w wq := hbr.trans (hbel'.mono hbr.size)
          by_cases hkk : k < l.length ∧ k < l'.length
          · have hkl := hkk.1
            have hkl' := hkk.2
            obtain ⟨x, b, o, p1, pc1, hx, hSb, hbx, hix, c0, c1, c2, hxs⟩ := (HV.out.below hbq (Nat.le_refl _)).nthT slTerm hkl
            obtain ⟨y, b', o', q1, qc1, hy, hSb', hby, hiy, d0, d1, d2, hys⟩ := (HV'.out.below hbq (Nat.le_refl _)).nthT slTerm hkl'
            have HX := Lib.hid hxs; clear hxs
            have HY := Lib.hid hys; clear hys
            have hxsz : x.size ≤ 4398046511104 := by
              have h1 := sizes_take_succ l k x hx.out
              have h2 := sizes_take_le l (k + 1)
              have h3 : T.size = 1 + Tm.sizes l := by rw [HT.out]; rfl
              omega
            have hysz : y.size ≤ 4398046511104 := by
              have h1 := sizes_take_succ l' k y hy.out
              have h2 := sizes_take_le l' (k + 1)
              have h3 : U.size = 1 + Tm.sizes l' := by rw [HU.out]; rfl
              omega
            have hxok : x.okv = true := by
              have h1 := HOK.out
              rw [HT.out] at h1
              exact (Tm.okvs_iff l).1 h1 x (mem_of_get hx.out)
            have hyok : y.okv = true := by
              have h1 := HOK'.out
              rw [HU.out] at h1
              exact (Tm.okvs_iff l').1 h1 y (mem_of_get hy.out)
            cases hxy : x.same y
            · have hfin2 : Hid (aboves l l' = above x y) := aboves_at HTK.out hx.out hy.out hxy
              go_wp2_with fail
              go_region_held3 (fun w' => w'.cell? ⟨w.heap.size, 2, none⟩ = some (.slice a l.length c) ∧ w'.cell? ⟨w.heap.size + 1, 2, none⟩ = some (.slice a' l'.length c') ∧
                  w'.cell? ⟨b, o + k * 3, none⟩ = some (.bool x.var) ∧ w'.cell? ⟨b, o + k * 3 + 1, none⟩ = some (.int .i64 x.n) ∧ w'.cell? ⟨b, o + k * 3 + 2, none⟩ = some (.slice p1 x.args.length pc1) ∧
                  w'.cell? ⟨b', o' + k * 3, none⟩ = some (.bool y.var) ∧ w'.cell? ⟨b', o' + k * 3 + 1, none⟩ = some (.int .i64 y.n) ∧ w'.cell? ⟨b', o' + k * 3 + 2, none⟩ = some (.slice q1 y.args.length qc1)) (go_keep)
                ((go_at_call 37; refine Calls.mono (psame_any x y _ S _ _ (RdT.same_ ⟨p1, pc1, rfl, HX.out⟩ (by rfl)) (RdT.same_ ⟨q1, qc1, rfl, HY.out⟩ (by rfl))) ?_; rintro e w8 ⟨rfl, hb9⟩; have bc1 : ∀ b o, b < wq.heap.size → w8.cell? ⟨b, o, none⟩ = wq.cell? ⟨b, o, none⟩ := fun b o h => bc hb9 b o h; have hbww8 : Below wo.heap.size wo w8 := hbel'.drew.trans (hb9.mono hbel'.size)))
              have hz6 : wq.heap.size ≤ w8.heap.size := hb9.size
              have e0 := (bc1 _ _ hl2).trans a2'
              have e1 := (bc1 _ _ hl3).trans b2'
              have f0 := (bc1 _ _ hbx).trans c0
              have f1 := (bc1 _ _ hbx).trans c1
              have f2 := (bc1 _ _ hbx).trans c2
              have g0 := (bc1 _ _ hby).trans d0
              have g1 := (bc1 _ _ hby).trans d1
              have g2 := (bc1 _ _ hby).trans d2
              have hbx6 : b < w8.heap.size := by omega
              have hby6 : b' < w8.heap.size := by omega
              have hl26 : w.heap.size < w8.heap.size := by omega
              have hl36 : w.heap.size + 1 < w8.heap.size := by omega
              have HX6 := Lib.hid ((RdL.same_ (w' := wq.drew) HX.out rfl).below hb9 (Nat.le_refl _))
              have HY6 := Lib.hid ((RdL.same_ (w' := wq.drew) HY.out rfl).below hb9 (Nat.le_refl _))
              clear c0 c1 c2 d0 d1 d2 a0' a1' a2' b0' b1' b2' bc1
              go_wp2_with fail
              go_region_held3 (fun w' => w'.cell? ⟨w.heap.size, 2, none⟩ = some (.slice a l.length c) ∧ w'.cell? ⟨w.heap.size + 1, 2, none⟩ = some (.slice a' l'.length c') ∧
                  w'.cell? ⟨b, o + k * 3, none⟩ = some (.bool x.var) ∧ w'.cell? ⟨b, o + k * 3 + 1, none⟩ = some (.int .i64 x.n) ∧ w'.cell? ⟨b, o + k * 3 + 2, none⟩ = some (.slice p1 x.args.length pc1) ∧
                  w'.cell? ⟨b', o' + k * 3, none⟩ = some (.bool y.var) ∧ w'.cell? ⟨b', o' + k * 3 + 1, none⟩ = some (.int .i64 y.n) ∧ w'.cell? ⟨b', o' + k * 3 + 2, none⟩ = some (.slice q1 y.args.length qc1)) (go_keep)
                ((go_at_call 59; refine Calls.mono (IH.out x (mem_of_get hx.out) y _ S _ _ (RdT.same_ ⟨p1, pc1, rfl, HX6.out⟩ (by rfl)) (RdT.same_ ⟨q1, qc1, rfl, HY6.out⟩ (by rfl)) hxsz hysz hxok hyok) ?_; rintro e w9 ⟨rfl, hb10⟩; have bc1 : ∀ b o, b < w8.heap.size → w9.cell? ⟨b, o, none⟩ = w8.cell? ⟨b, o, none⟩ := fun b o h => bc hb10 b o h; have hbww9 : Below wo.heap.size wo w9 := hbww8.drew.trans (hb10.mono hbww8.size)))
              go_wp2_with fail
              go_ret
              rw [hfin1.out, hfin2.out]
              exact ⟨rfl, hbr.trans (hbww9.mono hbr.size)⟩
            · go_wp2_with fail
              go_region_held3 (fun w' => w'.cell? ⟨w.heap.size, 2, none⟩ = some (.slice a l.length c) ∧ w'.cell? ⟨w.heap.size + 1, 2, none⟩ = some (.slice a' l'.length c') ∧
                  w'.cell? ⟨b, o + k * 3, none⟩ = some (.bool x.var) ∧ w'.cell? ⟨b, o + k * 3 + 1, none⟩ = some (.int .i64 x.n) ∧ w'.cell? ⟨b, o + k * 3 + 2, none⟩ = some (.slice p1 x.args.length pc1) ∧
                  w'.cell? ⟨b', o' + k * 3, none⟩ = some (.bool y.var) ∧ w'.cell? ⟨b', o' + k * 3 + 1, none⟩ = some (.int .i64 y.n) ∧ w'.cell? ⟨b', o' + k * 3 + 2, none⟩ = some (.slice q1 y.args.length qc1)) (go_keep)
                ((go_at_call 37; refine Calls.mono (psame_any x y _ S _ _ (RdT.same_ ⟨p1, pc1, rfl, HX.out⟩ (by rfl)) (RdT.same_ ⟨q1, qc1, rfl, HY.out⟩ (by rfl))) ?_; rintro e w8 ⟨rfl, hb9⟩; have bc1 : ∀ b o, b < wq.heap.size → w8.cell? ⟨b, o, none⟩ = wq.cell? ⟨b, o, none⟩ := fun b o h => bc hb9 b o h; have hbww8 : Below wo.heap.size wo w8 := hbel'.drew.trans (hb9.mono hbel'.size)))
              go_wp2_with fail
              go_roundw
              case rel => exact ⟨k + 1, by omega, by omega, by go_num, by rw [take_succ_of hx.out, take_succ_of hy.out, HTK.out, (Tm.same_iff x y).1 hxy], hbww8⟩
              case measure => simp [intOf]; omega
          · go_wp2_with fail
            go_ret
            rw [hfin1.out, aboves_none HTK.out (by omega)]
            exact ⟨rfl, hbq⟩
    · intro x cv w4 cnt1 hwx hwc hlx hatx hrg1 hlt hg1 hs1 hen
      have hcv : cv = (times x T : Int) - times x U := by
        have h1 := HAT.out x hwx
        rw [hatx] at h1
        simpa using h1
      have HCV := Lib.hid hcv; clear hcv
      have hgw1 : w3.grownBy w4 (some w2.heap.size) := grown_trans hgw hg1
      by_cases hc0 : cv < 0
      · go_wp2_with fail
        go_ret
        have hfin : Hid (above T U = false) := by
          have h1 := (any_times (T := T) HOK'.out).2 ⟨x, by have := HCV.out; omega⟩
          have e := HT.out
          rw [e] at h1 ⊢
          simp [above, h1, Hid]
        rw [← HT.out, ← HU.out, hfin.out]
        exact ⟨rfl, b3.trans ⟨hgw1.os, hgw1.tape, hgw1.output, hgw1.size, fun k hk => hgw1.block k (by omega) (by intro e; injection e with e; omega)⟩⟩
      · go_wp2_with fail
        go_roundw
        case rel =>
          refine ⟨_, cnt1, hrg1, fun y hy h h' => ?_, hgw1⟩
          simp only [Bool.and_eq_false_iff, Bool.not_eq_false'] at h'
          rcases h' with h' | h'
          · exact HOKL.out y hy h h'
          · have : y = x := by simpa [Lit.sameKey] using h'
            subst this
            have := HCV.out; omega
        case measure => rw [hrg1.left_eq, hrg.left_eq]; exact hlt
end Go.Proofs.YtmanhdacnkpclaaGreatDoor

/- Contracts: Compare of the program; what right terms are. -/
namespace Go.Proofs.YtmanhdacnkpclaaGreatDoor
set_option linter.unusedVariables false
set_option linter.unusedSimpArgs false
open Go.RowKit

set_option maxHeartbeats 400000 in
theorem pcompare_any (t u : Tm) (w : World) (S : Nat → Prop) (v v' : Value) (hv : RdT w S t v) (hv' : RdT w S u v') (hsz : t.size ≤ 4398046511104) (hsz' : u.size ≤ 4398046511104) (hok : t.okv = true) (hok' : u.okv = true) :
    Calls Tryz.prog 38 #[v, v'] w fun e w' => e = .returned (.int .i64 (compare t u)) ∧ Below w.heap.size w w' := by
  obtain ⟨a, c, rfl, hs⟩ := hv
  obtain ⟨a', c', rfl, hs'⟩ := hv'
  have HV := Lib.hid (RdT.of_args hs)
  have HV' := Lib.hid (RdT.of_args hs')
  clear hs hs'
  have HOK := Lib.hid hok; clear hok
  have HOK' := Lib.hid hok'; clear hok'
  go_enter Tryz.func38, Tryz.ntmps38
  go_wp2_with fail
  refine (psame_any t u _ S _ _ ((HV.out.alloc _).alloc _) ((HV'.out.alloc _).alloc _)).mono ?_
  rintro e w1 ⟨rfl, hb1⟩
  have hb2 : Below w.heap.size w w1 := (((Below.refl _ _).alloc (Nat.le_refl _) _).alloc (by simp) _).trans (hb1.mono (by simp; omega))
  have B0 : blk w1 w.heap.size = some (.cells #[.bool t.var, .int .i64 t.n, .slice a t.args.length c] 36) := blk_below (by simp [blk_alloc]) hb1 (by simp; omega)
  have B1 : blk w1 (w.heap.size + 1) = some (.cells #[.bool u.var, .int .i64 u.n, .slice a' u.args.length c'] 36) := blk_below (by simp [blk_alloc]) hb1 (by simp)
  clear hb1
  obtain ⟨p0, p1, p2⟩ := blk3 B0
  obtain ⟨q0, q1, q2⟩ := blk3 B1
  cases h1 : t.same u
  rotate_left
  · go_wp2_with fail
    go_ret
    exact ⟨by simp [compare, h1], hb2⟩
  have H1 := Lib.hid h1; clear h1
  go_wp2_with fail
  refine (pabove_any t u _ S _ _ (HV.out.below hb2 (Nat.le_refl _)) (HV'.out.below hb2 (Nat.le_refl _)) hsz hsz' HOK.out HOK'.out).mono ?_
  rintro e w2 ⟨rfl, hb3⟩
  have hb4 : Below w.heap.size w w2 := hb2.trans (hb3.mono hb2.size)
  clear p0 p1 p2 q0 q1 q2
  obtain ⟨p0, p1, p2⟩ := blk3 (blk_below B0 hb3 (blk_lt B0))
  obtain ⟨q0, q1, q2⟩ := blk3 (blk_below B1 hb3 (blk_lt B1))
  cases h2 : above t u
  rotate_left
  · go_wp2_with fail
    go_ret
    exact ⟨by simp [compare, H1.out, h2], hb4⟩
  have H2 := Lib.hid h2; clear h2
  go_wp2_with fail
  refine (pabove_any u t _ S _ _ (HV'.out.below hb4 (Nat.le_refl _)) (HV.out.below hb4 (Nat.le_refl _)) hsz' hsz HOK'.out HOK.out).mono ?_
  rintro e w3 ⟨rfl, hb5⟩
  have hb6 : Below w.heap.size w w3 := hb4.trans (hb5.mono hb4.size)
  clear p0 p1 p2 q0 q1 q2
  cases h3 : above u t
  · go_wp2_with fail
    go_ret
    exact ⟨by simp [compare, H1.out, H2.out, h3], hb6⟩
  · go_wp2_with fail
    go_ret
    exact ⟨by simp [compare, H1.out, H2.out, h3], hb6⟩

end Go.Proofs.YtmanhdacnkpclaaGreatDoor
