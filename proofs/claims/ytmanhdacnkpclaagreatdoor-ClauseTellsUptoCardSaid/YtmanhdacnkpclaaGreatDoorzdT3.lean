/- What the program's own reading of terms does. -/
import Derived.Test.YtmanhdacnkpclaaGreatDoorzdDa
import Derived.Test.YtmanhdacnkpclaaGreatDoorzdT0
namespace Go.Proofs.YtmanhdacnkpclaaGreatDoor
set_option linter.all false
open Go.RowKit

/-- what a reading hands out -/
def rdOut (r : Tm × RSt) : Tm × List UInt8 × Int := if r.2.2 ≠ 0 then (Tm.zero, [], r.2.2) else (r.1, r.2.1, 0)
abbrev outX (r : Tm × List UInt8 × Int) : X := .tup [tA r.1, sA r.2.1, iA r.2.2]
theorem out_err {s : List Int} {f n k : Nat} {l : List UInt8} {e : Int} (t : Tm) (hk : k < n) (he : (rdN (rdT s f) (k + 1) (l, 0)).2.2 = e) (h : e ≠ 0) : (Tm.zero, ([] : List UInt8), e) = rdOut (t, if n = 0 then (rdN (rdT s f) n (l, 0)).2 else rdIs 41 (rdN (rdT s f) n (l, 0)).2) := by
  have h1 : (rdN (rdT s f) ((k + 1) + (n - (k + 1))) (l, 0)).2 = (rdN (rdT s f) (k + 1) (l, 0)).2 := rdN_err (by rw [he]; exact h)
  rw [show (k + 1) + (n - (k + 1)) = n by omega] at h1
  rw [if_neg (by omega), h1]
  generalize (rdN (rdT s f) (k + 1) (l, 0)).2 = q at he
  obtain ⟨ql, qe⟩ := q
  dsimp only at he
  subst he
  rw [rdIs_err h]
  simp [rdOut, h]
set_option maxHeartbeats 16000000 in
set_option maxRecDepth 100000 in
theorem preadF (s : List Int) (hs : wrongSig s = 0) : ∀ (f : Nat) (l : List UInt8), l.length < f → FnD Tryz.prog 55 [lA Int.d s, sA l] (outX (rdOut (rdT s f (l, 0))))
  | 0, l, hf => by omega
  | f + 1, l, hf => by
    have ih := preadF s hs f
    refine Fn.of Tryz.func55 rfl Tryz.ntmps55 rfl (Nat.le_of_ble_eq_true rfl) ?_
    cases l with
    | nil =>
      (refine wlk ?_)
      refine fin_wk (fun n => Wk.nilArrB (j := 4) (q := 2) rfl rfl rfl) ?_
      (first | (refine finR (.cellN rfl rfl (rw_of rfl) rfl rfl (.tmp rfl (.tmp rfl .nil))) rfl rfl ?_) | (refine finN (.cellN rfl rfl (rw_of rfl) rfl rfl (.tmp rfl (.tmp rfl .nil))) rfl rfl ?_))
      exact Xrd (r := (Tm.zero, [], 8)) (by simp [rdOut, rdT])
    | cons c l =>
      have h0 : (c :: l == []) = false := rfl
      have h1 : (c :: l)[0]? = some c := rfl
      have hc := byte_lt c
      simp only [List.length_cons] at hf
      by_cases h88 : (c.toNat : Int) = 88
      · have h88' : c.toNat = 88 := by omega
        cases l with
        | nil =>
          (refine wlk ?_)
          refine fin_wk (fun n => Wk.nilArrB (j := 4) (q := 2) rfl rfl rfl) ?_
          (first | (refine finR (.cellN rfl rfl (rw_of rfl) rfl rfl (.tmp rfl (.tmp rfl .nil))) rfl rfl ?_) | (refine finN (.cellN rfl rfl (rw_of rfl) rfl rfl (.tmp rfl (.tmp rfl .nil))) rfl rfl ?_))
          exact Xrd (r := (Tm.zero, [], 8)) (by simp [rdOut, rdT, h88'])
        | cons d l =>
          have h2 : (d :: l == []) = false := rfl
          have h3 : (d :: l)[0]? = some d := rfl
          have hd := byte_lt d
          by_cases h48 : (d.toNat : Int) < 48
          · have : d.toNat < 48 ∨ 52 < d.toNat := by omega
            (refine wlk ?_)
            refine fin_wk (fun n => Wk.nilArrB (j := 4) (q := 2) rfl rfl rfl) ?_
            (first | (refine finR (.cellN rfl rfl (rw_of rfl) rfl rfl (.tmp rfl (.tmp rfl .nil))) rfl rfl ?_) | (refine finN (.cellN rfl rfl (rw_of rfl) rfl rfl (.tmp rfl (.tmp rfl .nil))) rfl rfl ?_))
            exact Xrd (r := (Tm.zero, [], 3)) (by simp [rdOut, rdT, h88', this])
          by_cases h52 : 53 ≤ (d.toNat : Int)
          · have : d.toNat < 48 ∨ 52 < d.toNat := by omega
            (refine wlk ?_)
            refine fin_wk (fun n => Wk.nilArrB (j := 4) (q := 2) rfl rfl rfl) ?_
            (first | (refine finR (.cellN rfl rfl (rw_of rfl) rfl rfl (.tmp rfl (.tmp rfl .nil))) rfl rfl ?_) | (refine finN (.cellN rfl rfl (rw_of rfl) rfl rfl (.tmp rfl (.tmp rfl .nil))) rfl rfl ?_))
            exact Xrd (r := (Tm.zero, [], 3)) (by simp [rdOut, rdT, h88', this])
          have hw : IntKind.u8.wrap ((d.toNat : Int) - 48) = (d.toNat : Int) - 48 := u8w (by omega) (by omega)
          have hno : ¬ (d.toNat < 48 ∨ 52 < d.toNat) := by omega
          (refine wlk ?_)
          refine fin_wk (fun n => Wk.nilArrB (j := 4) (q := 2) rfl rfl rfl) ?_
          (first | (refine finR (.cellN rfl rfl (rw_of rfl) rfl rfl (.tmp rfl (.tmp rfl .nil))) rfl rfl ?_) | (refine finN (.cellN rfl rfl (rw_of rfl) rfl rfl (.tmp rfl (.tmp rfl .nil))) rfl rfl ?_))
          exact Xrd (r := (⟨true, (d.toNat : Int) - 48, []⟩, l, 0)) (by simp [rdOut, rdT, h88', hno])
      have h88' : ¬ c.toNat = 88 := by omega
      by_cases h97 : (c.toNat : Int) - 97 < 0
      · have : c.toNat < 97 ∨ s.length ≤ c.toNat - 97 := by omega
        (refine wlk ?_)
        refine fin_wk (fun n => Wk.nilArrB (j := 4) (q := 2) rfl rfl rfl) ?_
        (first | (refine finR (.cellN rfl rfl (rw_of rfl) rfl rfl (.tmp rfl (.tmp rfl .nil))) rfl rfl ?_) | (refine finN (.cellN rfl rfl (rw_of rfl) rfl rfl (.tmp rfl (.tmp rfl .nil))) rfl rfl ?_))
        exact Xrd (r := (Tm.zero, [], 7)) (by simp only [rdT]; simp [rdOut, h88', this])
      by_cases hsl : (s.length : Int) ≤ (c.toNat : Int) - 97
      · have : c.toNat < 97 ∨ s.length ≤ c.toNat - 97 := by omega
        (refine wlk ?_)
        refine fin_wk (fun n => Wk.nilArrB (j := 4) (q := 2) rfl rfl rfl) ?_
        (first | (refine finR (.cellN rfl rfl (rw_of rfl) rfl rfl (.tmp rfl (.tmp rfl .nil))) rfl rfl ?_) | (refine finN (.cellN rfl rfl (rw_of rfl) rfl rfl (.tmp rfl (.tmp rfl .nil))) rfl rfl ?_))
        exact Xrd (r := (Tm.zero, [], 7)) (by simp only [rdT]; simp [rdOut, h88', this])
      have hno : ¬ (c.toNat < 97 ∨ s.length ≤ c.toNat - 97) := by omega
      obtain ⟨y, hy⟩ := get_of_lt (s := s) (k := c.toNat - 97) (by omega)
      have hyr := sig_at hs hy
      obtain ⟨n, rfl⟩ := Int.eq_ofNat_of_zero_le hyr.1
      have hgd : (s.getD (c.toNat - 97) 0).toNat = n := by simp [List.getD, hy]
      have hT : rdT s (f + 1) (c :: l, 0) = (⟨false, (c.toNat : Int) - 97, (rdN (rdT s f) n (l, 0)).1⟩, if n = 0 then (rdN (rdT s f) n (l, 0)).2 else rdIs 41 (rdN (rdT s f) n (l, 0)).2) := by
        simp only [rdT, ne_eq, not_true_eq_false, if_false, h88', hno, hgd]
      rw [hT]
      (refine wlk ?_)
      refine dwp_loop (fun k : Nat => [(.t 0, some (.one (lA Int.d s))), (.t 4, some (.one (.c (.ptr 4 0)))), (.b 4, some (.box [.val (.bool false), .val (.int .i64 0), .val (.slice none 0 0)])), (.t 8, some (.one (sA (rdN (rdT s f) k (l, 0)).2.1))), (.t 9, some (.one (iA ((c.toNat : Int) - 97)))),
        (.t 10, some (.one (.c (.ptr 10 0)))), (.b 10, some (.box [.val (.bool false), .val (.int .i64 ((c.toNat : Int) - 97)), .own 36 3 ((rdN (rdT s f) k (l, 0)).1.map Tm.d)])), (.t 63, some (.one (iA n))), (.t 64, some (.one (iA k)))])
        (fun k => k ≤ n ∧ (rdN (rdT s f) k (l, 0)).2.2 = 0) (fun k => n - k) 0 ⟨by omega, rfl⟩ ((Wk.nilOwnB (j := 10) (q := 2) (E := 36) (m := 3) rfl rfl rfl).trans fgs) ?_
      rintro k ⟨hk, hz⟩
      have hlen := rdN_len (rdT_len s f) k (l, 0)
      have harg := rdN_args (T := rdT s f) k (l, 0)
      have hstep : rdN (rdT s f) (k + 1) (l, 0) = ((rdN (rdT s f) k (l, 0)).1 ++ [(rdT s f (rdIs (if k = 0 then 40 else 44) (rdN (rdT s f) k (l, 0)).2)).1], (rdT s f (rdIs (if k = 0 then 40 else 44) (rdN (rdT s f) k (l, 0)).2)).2) := rfl
      rcases hr : rdN (rdT s f) k (l, 0) with ⟨az, l', e⟩
      rw [hr] at hz hlen harg hstep
      dsimp only at hz hlen harg hstep
      subst hz
      simp only [hr]
      by_cases hkn : k < n
      · by_cases hk0 : k = 0
        · simp only [hk0, if_true] at hstep
          subst hk0
          cases l' with
          | nil =>
            have hb : (([] : List UInt8) == []) = true := rfl
            (refine wlk ?_)
            refine fin_wk (fun n => Wk.nilArrB (j := 4) (q := 2) rfl rfl rfl) ?_
            (first | (refine finR (.cellN rfl rfl (rw_of rfl) rfl rfl (.tmp rfl (.tmp rfl .nil))) rfl rfl ?_) | (refine finN (.cellN rfl rfl (rw_of rfl) rfl rfl (.tmp rfl (.tmp rfl .nil))) rfl rfl ?_))
            refine Xrd (r := (Tm.zero, [], 8)) (out_err _ hkn ?_ (by decide))
            rw [hstep]
            simp [rdIs, rdT_err]
          | cons d l2 =>
            have hb : (d :: l2 == []) = false := rfl
            have hb1 : (d :: l2)[0]? = some d := rfl
            have hd := byte_lt d
            simp only [List.length_cons] at hlen
            by_cases hq : (d.toNat : Int) = 40
            rotate_left
            · have hq' : ¬ d.toNat = 40 := by omega
              (refine wlk ?_)
              refine fin_wk (fun n => Wk.nilArrB (j := 4) (q := 2) rfl rfl rfl) ?_
              (first | (refine finR (.cellN rfl rfl (rw_of rfl) rfl rfl (.tmp rfl (.tmp rfl .nil))) rfl rfl ?_) | (refine finN (.cellN rfl rfl (rw_of rfl) rfl rfl (.tmp rfl (.tmp rfl .nil))) rfl rfl ?_))
              refine Xrd (r := (Tm.zero, [], 2)) (out_err _ hkn ?_ (by decide))
              rw [hstep]
              simp [rdIs, rdT_err, hq']
            have hq' : d.toNat = 40 := by omega
            rw [show rdIs 40 (d :: l2, 0) = (l2, 0) by simp [rdIs, hq']] at hstep
            have hc2 := ih l2 (by omega)
            rcases hx : rdT s f (l2, 0) with ⟨xt, xl, xe⟩
            rw [hx] at hc2 hstep
            by_cases hxe : xe = 0
            · subst hxe
              rw [show rdOut (xt, xl, 0) = (xt, xl, 0) from by simp [rdOut]] at hc2
              have hsn : az ++ [xt] = az ++ [xt] := rfl
              (refine wlk ?_)
              (refine SqA.b1 (op_call none rfl rfl rfl (by kernel_rfl) (FnD.use (hc2)) rfl rfl rfl rfl rfl rfl) rfl rfl ?_)
              (refine wlk ?_)
              (refine SqA.b1 (op_bsT (T := TB) (f := Tm.d) [xt] rfl rfl rfl rfl rfl rfl rfl rfl rfl rfl rfl) rfl rfl ?_)
              (refine wlk ?_)
              refine ⟨0 + 1, ⟨by omega, by rw [hstep]⟩, ?_, by omega⟩
              simp only [hstep]
              exact fgs
            · rw [show rdOut (xt, xl, xe) = (Tm.zero, [], xe) from by simp [rdOut, hxe]] at hc2
              (refine wlk ?_)
              (refine SqA.b1 (op_call none rfl rfl rfl (by kernel_rfl) (FnD.use (hc2)) rfl rfl rfl rfl rfl rfl) rfl rfl ?_)
              (refine wlk ?_)
              refine fin_wk (fun n => Wk.nilArrB (j := 4) (q := 2) rfl rfl rfl) ?_
              (first | (refine finR (.cellN rfl rfl (rw_of rfl) rfl rfl (.tmp rfl (.tmp rfl .nil))) rfl rfl ?_) | (refine finN (.cellN rfl rfl (rw_of rfl) rfl rfl (.tmp rfl (.tmp rfl .nil))) rfl rfl ?_))
              exact Xrd (r := (Tm.zero, [], xe)) (out_err _ hkn (by rw [hstep]) hxe)
        · simp only [hk0, if_false] at hstep
          skip
          cases l' with
          | nil =>
            have hb : (([] : List UInt8) == []) = true := rfl
            (refine wlk ?_)
            refine fin_wk (fun n => Wk.nilArrB (j := 4) (q := 2) rfl rfl rfl) ?_
            (first | (refine finR (.cellN rfl rfl (rw_of rfl) rfl rfl (.tmp rfl (.tmp rfl .nil))) rfl rfl ?_) | (refine finN (.cellN rfl rfl (rw_of rfl) rfl rfl (.tmp rfl (.tmp rfl .nil))) rfl rfl ?_))
            refine Xrd (r := (Tm.zero, [], 8)) (out_err _ hkn ?_ (by decide))
            rw [hstep]
            simp [rdIs, rdT_err]
          | cons d l2 =>
            have hb : (d :: l2 == []) = false := rfl
            have hb1 : (d :: l2)[0]? = some d := rfl
            have hd := byte_lt d
            simp only [List.length_cons] at hlen
            by_cases hq : (d.toNat : Int) = 44
            rotate_left
            · have hq' : ¬ d.toNat = 44 := by omega
              (refine wlk ?_)
              refine fin_wk (fun n => Wk.nilArrB (j := 4) (q := 2) rfl rfl rfl) ?_
              (first | (refine finR (.cellN rfl rfl (rw_of rfl) rfl rfl (.tmp rfl (.tmp rfl .nil))) rfl rfl ?_) | (refine finN (.cellN rfl rfl (rw_of rfl) rfl rfl (.tmp rfl (.tmp rfl .nil))) rfl rfl ?_))
              refine Xrd (r := (Tm.zero, [], 2)) (out_err _ hkn ?_ (by decide))
              rw [hstep]
              simp [rdIs, rdT_err, hq']
            have hq' : d.toNat = 44 := by omega
            rw [show rdIs 44 (d :: l2, 0) = (l2, 0) by simp [rdIs, hq']] at hstep
            have hc2 := ih l2 (by omega)
            rcases hx : rdT s f (l2, 0) with ⟨xt, xl, xe⟩
            rw [hx] at hc2 hstep
            by_cases hxe : xe = 0
            · subst hxe
              rw [show rdOut (xt, xl, 0) = (xt, xl, 0) from by simp [rdOut]] at hc2
              have hsn : az ++ [xt] = az ++ [xt] := rfl
              (refine wlk ?_)
              (refine SqA.b1 (op_call none rfl rfl rfl (by kernel_rfl) (FnD.use (hc2)) rfl rfl rfl rfl rfl rfl) rfl rfl ?_)
              (refine wlk ?_)
              (refine SqA.b1 (op_bsT (T := TB) (f := Tm.d) [xt] rfl rfl rfl rfl rfl rfl rfl rfl rfl rfl rfl) rfl rfl ?_)
              (refine wlk ?_)
              refine ⟨k + 1, ⟨by omega, by rw [hstep]⟩, ?_, by omega⟩
              simp only [hstep]
              exact fgs
            · rw [show rdOut (xt, xl, xe) = (Tm.zero, [], xe) from by simp [rdOut, hxe]] at hc2
              (refine wlk ?_)
              (refine SqA.b1 (op_call none rfl rfl rfl (by kernel_rfl) (FnD.use (hc2)) rfl rfl rfl rfl rfl rfl) rfl rfl ?_)
              (refine wlk ?_)
              refine fin_wk (fun n => Wk.nilArrB (j := 4) (q := 2) rfl rfl rfl) ?_
              (first | (refine finR (.cellN rfl rfl (rw_of rfl) rfl rfl (.tmp rfl (.tmp rfl .nil))) rfl rfl ?_) | (refine finN (.cellN rfl rfl (rw_of rfl) rfl rfl (.tmp rfl (.tmp rfl .nil))) rfl rfl ?_))
              exact Xrd (r := (Tm.zero, [], xe)) (out_err _ hkn (by rw [hstep]) hxe)
      · have : k = n := by omega
        subst this
        simp only [hr]
        refine dwp_wk (Wk.freezeB (j := 10) (q := 2) rfl rfl rfl) ?_
        by_cases hn0 : k = 0
        · (refine wlk ?_)
          (first | (refine finR (.cellN rfl rfl (rw_of rfl) rfl rfl (.tmp rfl (.tmp rfl .nil))) rfl rfl ?_) | (refine finN (.cellN rfl rfl (rw_of rfl) rfl rfl (.tmp rfl (.tmp rfl .nil))) rfl rfl ?_))
          exact Xrd (r := (⟨false, (c.toNat : Int) - 97, az⟩, l', 0)) (by rw [if_pos hn0]; simp [rdOut])
        · rw [if_neg hn0]
          cases l' with
          | nil =>
            have hb : (([] : List UInt8) == []) = true := rfl
            (refine wlk ?_)
            refine fin_wk (fun n => Wk.nilArrB (j := 4) (q := 2) rfl rfl rfl) ?_
            (first | (refine finR (.cellN rfl rfl (rw_of rfl) rfl rfl (.tmp rfl (.tmp rfl .nil))) rfl rfl ?_) | (refine finN (.cellN rfl rfl (rw_of rfl) rfl rfl (.tmp rfl (.tmp rfl .nil))) rfl rfl ?_))
            exact Xrd (r := (Tm.zero, [], 8)) (by simp [rdOut, rdIs])
          | cons d l2 =>
            have hb : (d :: l2 == []) = false := rfl
            have hb1 : (d :: l2)[0]? = some d := rfl
            have hd := byte_lt d
            by_cases hq : (d.toNat : Int) = 41
            · have hq' : d.toNat = 41 := by omega
              (refine wlk ?_)
              (first | (refine finR (.cellN rfl rfl (rw_of rfl) rfl rfl (.tmp rfl (.tmp rfl .nil))) rfl rfl ?_) | (refine finN (.cellN rfl rfl (rw_of rfl) rfl rfl (.tmp rfl (.tmp rfl .nil))) rfl rfl ?_))
              exact Xrd (r := (⟨false, (c.toNat : Int) - 97, az⟩, l2, 0)) (by simp [rdOut, rdIs, hq'])
            · have hq' : ¬ d.toNat = 41 := by omega
              (refine wlk ?_)
              refine fin_wk (fun n => Wk.nilArrB (j := 4) (q := 2) rfl rfl rfl) ?_
              (first | (refine finR (.cellN rfl rfl (rw_of rfl) rfl rfl (.tmp rfl (.tmp rfl .nil))) rfl rfl ?_) | (refine finN (.cellN rfl rfl (rw_of rfl) rfl rfl (.tmp rfl (.tmp rfl .nil))) rfl rfl ?_))
              exact Xrd (r := (Tm.zero, [], 2)) (by simp [rdOut, rdIs, hq'])
theorem pread (s : List Int) (hs : wrongSig s = 0) (l : List UInt8) : FnD Tryz.prog 55 [lA Int.d s, sA l] (outX (readTm s l)) := preadF s hs (l.length + 1) l (by omega)
end Go.Proofs.YtmanhdacnkpclaaGreatDoor
