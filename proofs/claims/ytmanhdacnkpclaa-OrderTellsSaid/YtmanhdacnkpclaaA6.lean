/- Contracts: Vars of the reference. -/
import Derived.Test.YtmanhdacnkpclaaA5
import Derived.Test.YtmanhdacnkpclaaDeep2
namespace Go.Proofs.Ytmanhdacnkpclaa
open Go.RowKit

def VarsC (f : Nat) (t : Tm) : Prop := ∀ (l : List Int) (w : World) (S : Nat → Prop) (v v' : Value), RdI w S l v → RdT w S t v' → l.length + t.size ≤ 17592186044416 →
  Calls Try.prog f #[v, v'] w (Ret fun u w' => RdI w' (Up S w.heap.size) (vars l t) u ∧ Below w.heap.size w w')

set_option maxHeartbeats 1000000 in
set_option maxRecDepth 100000 in
theorem rvars_any : ∀ t, VarsC 21 t := by
  refine Tm.ind ?_
  intro vr n ts ih l w S v v' hv hv' hsz
  obtain ⟨a, c, rfl, hs⟩ := hv'
  obtain ⟨la, lc, rfl, hll, hlm⟩ := hv.form
  simp only at hs ⊢
  obtain ⟨_, _, he, hl, hm⟩ := hs.form
  clear he
  have hsz' : l.length + (1 + Tm.sizes ts) ≤ 17592186044416 := hsz
  clear hsz
  have IH := Lib.hid ih; clear ih
  have HV := Lib.hid hs; clear hs
  have HL := Lib.hid hv; clear hv
  cases vr
  case false =>
    have hfin : Hid (vars l ⟨false, n, ts⟩ = varss l ts) := rfl
    go_enter Try.func21, Try.ntmps21
    go_wp2_with fail
    go_loopw [0, 15] (fun lv i wr => ∃ k : Nat, k ≤ ts.length ∧ i = .int .i64 k ∧ RdI wr (Up S w.heap.size) (varss l (ts.take k)) lv ∧ Below w.heap.size w wr)
      (fun _ i _ => ts.length - (intOf i).toNat)
    case atStart => exact ⟨0, Nat.zero_le _, rfl, (HL.out.alloc _).wide (fun _ _ h => .inl h), (Below.refl _ _).alloc (Nat.le_refl _) _⟩
    case round =>
      obtain ⟨k, hk, rfl, hrd, hbel⟩ := hrel
      have hbs := hbel.size
      have HR := Lib.hid hrd; clear hrd
      by_cases hkl : k < ts.length
      · obtain ⟨x, b, o, a', c', hx, hSb, hbw, hix, c0, c1, c2, hxs⟩ := (HV.out.below hbel (Nat.le_refl _)).nthT slTerm hkl
        have hsucc : Hid (varss l (ts.take (k + 1)) = vars (varss l (ts.take k)) x) := by rw [take_succ_of hx.out]; exact varss_snoc _ _ _
        have hle : (varss l (ts.take k)).length + x.size ≤ 17592186044416 := by
          have := varss_len l (ts.take k); have := sizes_take_succ ts k x hx.out; have := sizes_take_le ts (k + 1); omega
        have HX := Lib.hid hxs; clear hxs
        go_wp2_with fail
        refine (IH.out x (mem_of_get hx.out) _ _ (Up S w.heap.size) _ _ (HR.out.alloc _) (RdT.wide (RdT.alloc ⟨a', c', rfl, HX.out⟩ _) (fun _ _ h => .inl h)) hle).mono ?_
        rintro e w1 ⟨u, rfl, hu, hb1⟩
        have hb2 : Below w.heap.size w w1 := (hbel.alloc hbs _).trans (hb1.mono (by simp; omega))
        have HU := Lib.hid (hu.wide (S' := Up S w.heap.size) (fun b _ h => h.mono id (by simp; omega))); clear hu hb1
        go_wp2_with fail
        go_roundw
        case rel => exact ⟨k + 1, by omega, by go_num, by rw [hsucc.out]; exact HU.out, hb2⟩
        case measure => simp [intOf]; omega
      · go_wp2_with fail
        go_ret
        have : k = ts.length := by omega
        subst this
        have := HR.out
        rw [List.take_length] at this
        exact ⟨_, rfl, by rw [hfin.out]; exact this, hbel⟩
  case true =>
    go_enter Try.func21, Try.ntmps21
    go_wp2_with fail
    go_loop [26] (fun i => ∃ k : Nat, k ≤ l.length ∧ i = .int .i64 k ∧ ∀ j x, j < k → l[j]? = some x → x ≠ n)
      (fun i => l.length - (intOf i).toNat)
    case atStart => exact ⟨0, Nat.zero_le _, rfl, fun j x hj => absurd hj (by omega)⟩
    case round =>
      obtain ⟨k, hk, rfl, hno⟩ := hrel
      have HNO := Lib.hid hno; clear hno
      by_cases hkl : k < l.length
      · obtain ⟨x, b, o, hx, hSb, hbw, hix, p0⟩ := (HL.out.alloc (.cells #[.bool true, .int .i64 n, .slice a ts.length c] 26)).nthI slInt hkl
        rcases Decidable.em (x = n) with hxn | hxn
        · have hxn' : ((x : Int) == n) = true := by rw [beq_iff_eq]; exact hxn
          have hfin : Hid (vars l ⟨true, n, ts⟩ = l) := by
            have : n ∈ l := by rw [← hxn]; exact mem_of_get hx.out
            simp [vars, this, Hid]
          clear hxn
          go_wp2_with fail
          go_ret
          exact ⟨_, rfl, by rw [hfin.out]; exact (HL.out.alloc _).wide (fun _ _ h => .inl h), (Below.refl _ _).alloc (Nat.le_refl _) _⟩
        · have hxn' : ((x : Int) == n) = false := beq_eq_false_iff_ne.2 hxn
          have HXN := Lib.hid hxn; clear hxn
          go_wp2_with fail
          go_round
          case rel =>
            refine ⟨k + 1, by omega, by go_num, fun j y hj hy => ?_⟩
            rcases Nat.lt_or_ge j k with h | h
            · exact HNO.out j y h hy
            · have : j = k := by omega
              subst this
              have := hx.out
              rw [this] at hy
              injection hy with hy
              rw [← hy]; exact HXN.out
          case measure => simp [intOf]; omega
      · have hfin : Hid (vars l ⟨true, n, ts⟩ = l ++ [n]) := by
          have : ¬ n ∈ l := by
            intro hmem
            obtain ⟨j, hj, e⟩ := List.getElem_of_mem hmem
            exact HNO.out j _ (by omega) (List.getElem?_eq_getElem hj) e
          simp [vars, this, Hid]
        obtain ⟨news, hsrc, hlen, hone, hrds⟩ := (HL.out.alloc (.cells #[.bool true, .int .i64 n, .slice a ts.length c] 26)).src rd_int_len Int.d_one
        go_wp2_with fail
        go_region_held3 (fun w' => w'.cell? ⟨w.heap.size, 1, none⟩ = some (.int .i64 n)) 
          (first | go_keep | (refine cell_keep hb2 (Nat.lt_succ_self _) ?_; assumption) | (refine cell_keep hb1 (Nat.lt_succ_self _) ?_; assumption))
          (first | (refine step_appG _ (by rfl) (.tmp 36) (.tmp 37) (by rfl) slInt (by rfl) (Own.blk (B := w.heap.size + 1) (S := S) (by simp [blk_alloc, blk_drew]) (by simp)) (by rfl) (hsrc.below (by repeat (first | exact Below.refl _ _ | refine Below.drew ?_ | refine Below.alloc ?_ (by simp) _))) hlen hone (rds_int_any hrds) (by simp; try omega) (by simp only [List.length_nil]; omega) (by simp only [List.length_nil]; omega) ?_; intro v1 w1 hown1 hg1 hb1 hk1) | (refine step_appG _ (by rfl) (.tmp 38) (.tmp 41) (by rfl) slInt (by rfl) (by first | exact hown1 | exact Own.same_ hown1 (by rfl) | exact hown1.alloc _ | exact Own.same_ (hown1.alloc _) (by rfl)) (by rfl) (m := 1) (n := 1) (news := [.int .i64 n]) (ns := [n].map Int.d) (by first | (refine SrcAt.blk (E := 3) ?_ rfl; simp [blk_alloc, blk_drew]; done) | (refine SrcAt.grown (SrcAt.blk (E := 3) ?_ rfl) hg1 ?_ <;> simp [blk_alloc, blk_drew, Value.ownBlock]; done)) (by rfl) (by simp [Value.oneCell']) (rds_int_one _ _ n) (by have := hb1.size; simp at this ⊢; omega) (by simp; omega) (by simp; omega) ?_; intro v2 w2 hown2 hg2 hb2 hk2))
        all_goals go_wp2_with fail
        all_goals go_ret
        all_goals
          have B1 : Below w.heap.size w w1 := Below.trans (by repeat (first | exact Below.refl _ _ | refine Below.drew ?_ | refine Below.alloc ?_ (by simp; try omega) _)) (hb1.mono (Nat.le_succ _))
          have B1s := B1.size
          have B2 : Below w.heap.size w w2 := Below.trans (by repeat (first | exact B1 | refine Below.drew ?_ | refine Below.alloc ?_ (by first | assumption | (simp; done) | (simp; omega)) _)) (hb2.mono (Nat.le_succ _))
          exact ⟨_, rfl, by rw [hfin.out]; simpa [RdL] using hown2.rd.wide (S' := Up S w.heap.size) (fun b _ h => h.mono .inl (by omega)), B2⟩
end Go.Proofs.Ytmanhdacnkpclaa
