/- Reading terms from bytes, plainly. -/
import Derived.Test.YtmanhdacnkpclaaGreatDoorzdPa1
import Derived.Test.YtmanhdacnkpclaaGreatDoorzdFe
import Derived.Test.YtmanhdacnkpclaaGreatDoorzdBa
/- Reading terms from bytes, plainly. -/
namespace Go.Proofs.YtmanhdacnkpclaaGreatDoor
set_option linter.all false

abbrev RSt := List UInt8 × Int
/-- the first mistake counts -/
def rdFail (e e' : Int) : Int := if e = 0 then e' else e
/-- the next byte is that one -/
def rdIs (c : Nat) : RSt → RSt
  | (l, e) => if e ≠ 0 then (l, e) else match l with
    | [] => ([], 8)
    | d :: l => if d.toNat = c then (l, 0) else (d :: l, 2)
def Tm.zero : Tm := ⟨false, 0, []⟩
/-- so many arguments, by a reader of one term -/
def rdN (T : RSt → Tm × RSt) : Nat → RSt → List Tm × RSt
  | 0, st => ([], st)
  | k + 1, st =>
    let r := rdN T k st
    let x := T (rdIs (if k = 0 then 40 else 44) r.2)
    (r.1 ++ [x.1], x.2)
def rdT (s : List Int) : Nat → RSt → Tm × RSt
  | 0, st => (Tm.zero, st)
  | f + 1, (l, e) => if e ≠ 0 then (Tm.zero, (l, e)) else match l with
    | [] => (Tm.zero, ([], 8))
    | c :: l => if c.toNat = 88 then (match l with
        | [] => (Tm.zero, ([], 8))
        | d :: l => if d.toNat < 48 ∨ 52 < d.toNat then (Tm.zero, (d :: l, 3)) else (⟨true, (d.toNat : Int) - 48, []⟩, (l, 0)))
      else if c.toNat < 97 ∨ s.length ≤ c.toNat - 97 then (Tm.zero, (l, 7))
      else
        let n := (s.getD (c.toNat - 97) 0).toNat
        let r := rdN (rdT s f) n (l, 0)
        (⟨false, (c.toNat : Int) - 97, r.1⟩, if n = 0 then r.2 else rdIs 41 r.2)
/-- a term that a text begins with -/
def readTm (s : List Int) (l : List UInt8) : Tm × List UInt8 × Int :=
  let r := rdT s (l.length + 1) (l, 0)
  if r.2.2 ≠ 0 then (Tm.zero, [], r.2.2) else (r.1, r.2.1, 0)
def parseTm (s : List Int) (l : List UInt8) : Tm × Int :=
  if wrongSig s ≠ 0 then (Tm.zero, wrongSig s) else if 48 < l.length then (Tm.zero, 4) else
  let r := readTm s l
  if r.2.2 ≠ 0 then (Tm.zero, r.2.2) else if r.2.1 ≠ [] then (Tm.zero, 2) else
  if wrong s r.1 ≠ 0 then (Tm.zero, wrong s r.1) else (r.1, 0)
theorem rdIs_len (c : Nat) (st : RSt) : (rdIs c st).1.length ≤ st.1.length := by
  obtain ⟨l, e⟩ := st
  rcases Decidable.em (e = 0) with h | h
  · subst h
    cases l with
    | nil => simp [rdIs]
    | cons d l =>
      rcases Decidable.em (d.toNat = c) with h | h <;> simp [rdIs, h]
  · simp [rdIs, h]
theorem rdN_len {T : RSt → Tm × RSt} (hT : ∀ st, (T st).2.1.length ≤ st.1.length) : ∀ (k : Nat) (st : RSt), (rdN T k st).2.1.length ≤ st.1.length
  | 0, st => Nat.le_refl _
  | k + 1, st => by
    have h1 := rdN_len hT k st
    have h2 := rdIs_len (if k = 0 then 40 else 44) (rdN T k st).2
    have h3 := hT (rdIs (if k = 0 then 40 else 44) (rdN T k st).2)
    simp only [rdN]
    omega
theorem rdN_args {T : RSt → Tm × RSt} : ∀ (k : Nat) (st : RSt), (rdN T k st).1.length = k
  | 0, st => rfl
  | k + 1, st => by simp [rdN, rdN_args k st]
theorem rdT_len (s : List Int) : ∀ (f : Nat) (st : RSt), (rdT s f st).2.1.length ≤ st.1.length
  | 0, st => Nat.le_refl _
  | f + 1, (l, e) => by
    unfold rdT
    split
    · simp
    · split
      · simp
      · rename_i c l
        split
        · split
          · simp
          · split <;> simp <;> omega
        · split
          · simp
          · have h1 := rdN_len (rdT_len s f) (s.getD (c.toNat - 97) 0).toNat (l, 0)
            have h2 := rdIs_len 41 (rdN (rdT s f) (s.getD (c.toNat - 97) 0).toNat (l, 0)).2
            dsimp only at h1 h2 ⊢
            generalize (rdN (rdT s f) (s.getD (c.toNat - 97) 0).toNat (l, 0)) = r at h1 h2 ⊢
            simp only [List.length_cons]
            split <;> omega
theorem sig_at {s : List Int} (hs : wrongSig s = 0) {k : Nat} {y : Int} (hy : s[k]? = some y) : 0 ≤ y ∧ y ≤ 2 := by
  unfold wrongSig at hs
  split at hs
  · cases hs
  · split at hs
    · cases hs
    · rename_i h5
      simp only [Bool.not_eq_true] at h5
      have := List.any_eq_false.1 h5 y (List.mem_of_getElem? hy)
      simp only [decide_eq_true_eq] at this
      omega
theorem sig_len {s : List Int} (hs : wrongSig s = 0) : 1 ≤ s.length ∧ s.length ≤ 6 := by
  unfold wrongSig at hs
  split at hs
  · cases hs
  · omega
theorem byte_lt (c : UInt8) : c.toNat < 256 := c.toNat_lt
end Go.Proofs.YtmanhdacnkpclaaGreatDoor

/- What functions do: reading terms. -/
namespace Go.Proofs.YtmanhdacnkpclaaGreatDoor
set_option linter.all false
open Go.RowKit

/-- a function that is handed a box -/
abbrev FnB (P : Program) (f : FuncId) (args : List A1) (cs : List CV) (x : X) (cs' : List CV) : Prop := Fn P f args (some cs) (fun x' c' => x' = x ∧ c' = cs')
theorem FnB.use {P : Program} {f : FuncId} {args : List A1} {cs cs' : List CV} {x : X} (h : FnB P f args cs x cs') : Fn P f args (some cs) (fun x' c' => x' = x ∧ ((some cs).isSome = true → c' = cs')) := by
  intro who w vs h1 h2 h3 h4 h5 h6
  refine (h who w vs h1 h2 h3 h4 h5 h6).mono ?_
  rintro e w' ⟨v, x', c', who', g1, ⟨g2, g3⟩, g4⟩
  exact ⟨v, x', c', who', g1, ⟨g2, fun _ => g3⟩, g4⟩
def rdBox (s : List Int) (l : List UInt8) (e : Int) : List CV := [.arr (s.map Int.d), .val (.string ⟨l.toArray⟩), .val (.int .i64 e)]
theorem XB {x x' : X} {cs cs' : List CV} (h : x = x') (h' : cs = cs') : x = x' ∧ cs = cs' := ⟨h, h'⟩

theorem rdfail (s : List Int) (l : List UInt8) (e e' : Int) : FnB Tryz.prog 89 [.c (.ptr EXT 0), iA e'] (rdBox s l e) (.tup []) (rdBox s l (rdFail e e')) := by
  refine Fn.of Tryz.func89 rfl Tryz.ntmps89 rfl (Nat.le_of_ble_eq_true rfl) ?_
  by_cases h : e = 0
  · (refine wlk ?_)
    (first | (refine finRB .nil rfl rfl rfl rfl ?_) | (refine finNB .nil rfl rfl rfl rfl ?_))
    exact XB rfl (by simp [rdBox, rdFail, h, splL, A1.cells])
  · (refine wlk ?_)
    (first | (refine finRB .nil rfl rfl rfl rfl ?_) | (refine finNB .nil rfl rfl rfl rfl ?_))
    exact XB rfl (by simp [rdBox, rdFail, h])

theorem rdis (s : List Int) (l : List UInt8) (e : Int) (c : Nat) : FnB Tryz.prog 90 [.c (.ptr EXT 0), .c (.val (.int .u8 c))] (rdBox s l e) (.tup []) (rdBox s (rdIs c (l, e)).1 (rdIs c (l, e)).2) := by
  refine Fn.of Tryz.func90 rfl Tryz.ntmps90 rfl (Nat.le_of_ble_eq_true rfl) ?_
  by_cases h : e = 0
  rotate_left
  · (refine wlk ?_)
    (first | (refine finRB .nil rfl rfl rfl rfl ?_) | (refine finNB .nil rfl rfl rfl rfl ?_))
    exact XB rfl (by simp [rdBox, rdIs, h])
  subst h
  cases l with
  | nil =>
    (refine wlk ?_)
    (refine SqA.b2 (op_call (some (EXT)) rfl rfl rfl (by kernel_rfl) (FnB.use (rdfail s [] 0 8)) rfl rfl rfl rfl rfl rfl) rfl rfl ?_)
    (refine wlk ?_)
    (first | (refine finRB .nil rfl rfl rfl rfl ?_) | (refine finNB .nil rfl rfl rfl rfl ?_))
    exact XB rfl (by simp [rdBox, rdIs, rdFail])
  | cons d l =>
    have h0 : (d :: l == []) = false := rfl
    have h1 : (d :: l)[0]? = some d := rfl
    by_cases hd : (d.toNat : Int) = c
    · (refine wlk ?_)
      (first | (refine finRB .nil rfl rfl rfl rfl ?_) | (refine finNB .nil rfl rfl rfl rfl ?_))
      exact XB rfl (by simp [rdBox, rdIs, splL, A1.cells, show d.toNat = c by omega])
    · (refine wlk ?_)
      (refine SqA.b2 (op_call (some (EXT)) rfl rfl rfl (by kernel_rfl) (FnB.use (rdfail s (d :: l) 0 2)) rfl rfl rfl rfl rfl rfl) rfl rfl ?_)
      (refine wlk ?_)
      (first | (refine finRB .nil rfl rfl rfl rfl ?_) | (refine finNB .nil rfl rfl rfl rfl ?_))
      exact XB rfl (by simp [rdBox, rdIs, rdFail, show d.toNat ≠ c by omega])

theorem u8w {x : Int} (h0 : 0 ≤ x) (h1 : x < 256) : IntKind.u8.wrap x = x := by
  simp only [IntKind.wrap, IntKind.bits, IntKind.signed, Bool.false_and, Bool.false_eq_true, if_false]; omega
set_option maxHeartbeats 4000000 in
set_option maxRecDepth 100000 in
theorem rdterm (s : List Int) (hs : wrongSig s = 0) : ∀ (f : Nat) (st : RSt), st.1.length < f → FnB Tryz.prog 75 [.c (.ptr EXT 0)] (rdBox s st.1 st.2) (.one (tA (rdT s f st).1)) (rdBox s (rdT s f st).2.1 (rdT s f st).2.2)
  | 0, (l, e), hf => by simp only at hf; omega
  | f + 1, (l, e), hf => by
    simp only at hf ⊢
    have ih := rdterm s hs f
    refine Fn.of Tryz.func75 rfl Tryz.ntmps75 rfl (Nat.le_of_ble_eq_true rfl) ?_
    by_cases h : e = 0
    rotate_left
    · (refine wlk ?_)
      refine fin_wk (fun n => Wk.nilArrB (j := 2) (q := 2) rfl rfl rfl) ?_
      (first | (refine finRB (.cellN rfl rfl (rw_of rfl) rfl rfl .nil) rfl rfl rfl rfl ?_) | (refine finNB (.cellN rfl rfl (rw_of rfl) rfl rfl .nil) rfl rfl rfl rfl ?_))
      exact XB (Xt (b := Tm.zero) (by simp [rdT, h])) (by simp [rdBox, rdT, h])
    subst h
    cases l with
    | nil =>
      (refine wlk ?_)
      (refine SqA.b2 (op_call (some (EXT)) rfl rfl rfl (by kernel_rfl) (FnB.use (rdfail s [] 0 8)) rfl rfl rfl rfl rfl rfl) rfl rfl ?_)
      (refine wlk ?_)
      refine fin_wk (fun n => Wk.nilArrB (j := 2) (q := 2) rfl rfl rfl) ?_
      (first | (refine finRB (.cellN rfl rfl (rw_of rfl) rfl rfl .nil) rfl rfl rfl rfl ?_) | (refine finNB (.cellN rfl rfl (rw_of rfl) rfl rfl .nil) rfl rfl rfl rfl ?_))
      exact XB (Xt (b := Tm.zero) (by simp [rdT])) (by simp [rdBox, rdT, rdFail])
    | cons c l =>
      have h0 : (c :: l == []) = false := rfl
      have h1 : (c :: l)[0]? = some c := rfl
      have hc := byte_lt c
      simp only [List.length_cons] at hf
      by_cases h88 : (c.toNat : Int) = 88
      · have h88' : c.toNat = 88 := by omega
        cases l with
        | nil =>
          (refine wlk ?_)
          (refine SqA.b2 (op_call (some (EXT)) rfl rfl rfl (by kernel_rfl) (FnB.use (rdfail s [] 0 8)) rfl rfl rfl rfl rfl rfl) rfl rfl ?_)
          (refine wlk ?_)
          refine fin_wk (fun n => Wk.nilArrB (j := 2) (q := 2) rfl rfl rfl) ?_
          (first | (refine finRB (.cellN rfl rfl (rw_of rfl) rfl rfl .nil) rfl rfl rfl rfl ?_) | (refine finNB (.cellN rfl rfl (rw_of rfl) rfl rfl .nil) rfl rfl rfl rfl ?_))
          exact XB (Xt (b := Tm.zero) (by simp [rdT, h88'])) (by simp [rdBox, rdT, rdFail, h88'])
        | cons d l =>
          have h2 : (d :: l == []) = false := rfl
          have h3 : (d :: l)[0]? = some d := rfl
          have hd := byte_lt d
          by_cases h48 : (d.toNat : Int) < 48
          · have : d.toNat < 48 ∨ 52 < d.toNat := by omega
            (refine wlk ?_)
            (refine SqA.b2 (op_call (some (EXT)) rfl rfl rfl (by kernel_rfl) (FnB.use (rdfail s (d :: l) 0 3)) rfl rfl rfl rfl rfl rfl) rfl rfl ?_)
            (refine wlk ?_)
            refine fin_wk (fun n => Wk.nilArrB (j := 2) (q := 2) rfl rfl rfl) ?_
            (first | (refine finRB (.cellN rfl rfl (rw_of rfl) rfl rfl .nil) rfl rfl rfl rfl ?_) | (refine finNB (.cellN rfl rfl (rw_of rfl) rfl rfl .nil) rfl rfl rfl rfl ?_))
            exact XB (Xt (b := Tm.zero) (by simp [rdT, h88', this])) (by simp [rdBox, rdT, rdFail, h88', this])
          by_cases h52 : 52 < (d.toNat : Int)
          · have : d.toNat < 48 ∨ 52 < d.toNat := by omega
            (refine wlk ?_)
            (refine SqA.b2 (op_call (some (EXT)) rfl rfl rfl (by kernel_rfl) (FnB.use (rdfail s (d :: l) 0 3)) rfl rfl rfl rfl rfl rfl) rfl rfl ?_)
            (refine wlk ?_)
            refine fin_wk (fun n => Wk.nilArrB (j := 2) (q := 2) rfl rfl rfl) ?_
            (first | (refine finRB (.cellN rfl rfl (rw_of rfl) rfl rfl .nil) rfl rfl rfl rfl ?_) | (refine finNB (.cellN rfl rfl (rw_of rfl) rfl rfl .nil) rfl rfl rfl rfl ?_))
            exact XB (Xt (b := Tm.zero) (by simp [rdT, h88', this])) (by simp [rdBox, rdT, rdFail, h88', this])
          have hw : IntKind.u8.wrap ((d.toNat : Int) - 48) = (d.toNat : Int) - 48 := u8w (by omega) (by omega)
          have hno : ¬ (d.toNat < 48 ∨ 52 < d.toNat) := by omega
          (refine wlk ?_)
          refine fin_wk (fun n => Wk.nilArrB (j := 2) (q := 2) rfl rfl rfl) ?_
          (first | (refine finRB (.cellN rfl rfl (rw_of rfl) rfl rfl .nil) rfl rfl rfl rfl ?_) | (refine finNB (.cellN rfl rfl (rw_of rfl) rfl rfl .nil) rfl rfl rfl rfl ?_))
          exact XB (Xt (b := ⟨true, (d.toNat : Int) - 48, []⟩) (by simp [rdT, h88', hno])) (by simp [rdBox, rdT, h88', hno, splL, A1.cells])
      have h88' : ¬ c.toNat = 88 := by omega
      by_cases h97 : (c.toNat : Int) < 97
      · have : c.toNat < 97 ∨ s.length ≤ c.toNat - 97 := by omega
        (refine wlk ?_)
        (refine SqA.b2 (op_call (some (EXT)) rfl rfl rfl (by kernel_rfl) (FnB.use (rdfail s l 0 7)) rfl rfl rfl rfl rfl rfl) rfl rfl ?_)
        (refine wlk ?_)
        refine fin_wk (fun n => Wk.nilArrB (j := 2) (q := 2) rfl rfl rfl) ?_
        (first | (refine finRB (.cellN rfl rfl (rw_of rfl) rfl rfl .nil) rfl rfl rfl rfl ?_) | (refine finNB (.cellN rfl rfl (rw_of rfl) rfl rfl .nil) rfl rfl rfl rfl ?_))
        exact XB (Xt (b := Tm.zero) (by simp only [rdT]; simp [h88', this])) (by simp only [rdT]; simp [rdBox, rdFail, h88', this])
      have hw : IntKind.u8.wrap ((c.toNat : Int) - 97) = (c.toNat : Int) - 97 := u8w (by omega) (by omega)
      by_cases hsl : (s.length : Int) ≤ (c.toNat : Int) - 97
      · have : c.toNat < 97 ∨ s.length ≤ c.toNat - 97 := by omega
        (refine wlk ?_)
        (refine SqA.b2 (op_call (some (EXT)) rfl rfl rfl (by kernel_rfl) (FnB.use (rdfail s l 0 7)) rfl rfl rfl rfl rfl rfl) rfl rfl ?_)
        (refine wlk ?_)
        refine fin_wk (fun n => Wk.nilArrB (j := 2) (q := 2) rfl rfl rfl) ?_
        (first | (refine finRB (.cellN rfl rfl (rw_of rfl) rfl rfl .nil) rfl rfl rfl rfl ?_) | (refine finNB (.cellN rfl rfl (rw_of rfl) rfl rfl .nil) rfl rfl rfl rfl ?_))
        exact XB (Xt (b := Tm.zero) (by simp only [rdT]; simp [h88', this])) (by simp only [rdT]; simp [rdBox, rdFail, h88', this])
      have hno : ¬ (c.toNat < 97 ∨ s.length ≤ c.toNat - 97) := by omega
      obtain ⟨y, hy⟩ := get_of_lt (s := s) (k := c.toNat - 97) (by omega)
      have hyr := sig_at hs hy
      obtain ⟨n, rfl⟩ := Int.eq_ofNat_of_zero_le hyr.1
      have hgd : (s.getD (c.toNat - 97) 0).toNat = n := by simp [List.getD, hy]
      have hT : rdT s (f + 1) (c :: l, 0) = (⟨false, (c.toNat : Int) - 97, (rdN (rdT s f) n (l, 0)).1⟩, if n = 0 then (rdN (rdT s f) n (l, 0)).2 else rdIs 41 (rdN (rdT s f) n (l, 0)).2) := by
        simp only [rdT, ne_eq, not_true_eq_false, if_false, h88', hno, hgd]
      rw [hT]
      (refine wlk ?_)
      refine dwp_loop (fun k : Nat => [(.t 0, some (.one (.c (.ptr EXT 0)))), (.b EXT, some (.box (rdBox s (rdN (rdT s f) k (l, 0)).2.1 (rdN (rdT s f) k (l, 0)).2.2))), (.t 2, some (.one (.c (.ptr 2 0)))), (.b 2, some (.box [.val (.bool false), .val (.int .i64 0), .val (.slice none 0 0)])),
        (.t 5, some (.one (.c (.ptr 5 0)))), (.b 5, some (.box [.val (.bool false), .val (.int .i64 ((c.toNat : Int) - 97)), .own 36 3 ((rdN (rdT s f) k (l, 0)).1.map Tm.d)])), (.t 6, some (.one (iA n))), (.t 107, some (.one (iA n))), (.t 108, some (.one (iA k)))])
        (fun k => k ≤ n) (fun k => n - k) 0 (by omega) ((Wk.nilOwnB (j := 5) (q := 2) (E := 36) (m := 3) rfl rfl rfl).trans fgs) ?_
      intro k hk
      have hlen := rdN_len (rdT_len s f) k (l, 0)
      have harg := rdN_args (T := rdT s f) k (l, 0)
      have hsn : (rdN (rdT s f) k (l, 0)).1 ++ [(rdT s f (rdIs (if k = 0 then 40 else 44) (rdN (rdT s f) k (l, 0)).2)).1] = (rdN (rdT s f) (k + 1) (l, 0)).1 := rfl
      have hsn2 : (rdT s f (rdIs (if k = 0 then 40 else 44) (rdN (rdT s f) k (l, 0)).2)).2 = (rdN (rdT s f) (k + 1) (l, 0)).2 := rfl
      simp only at hlen
      by_cases hkn : k < n
      · have hil := rdIs_len (if k = 0 then 40 else 44) (rdN (rdT s f) k (l, 0)).2
        have hbig : ((rdN (rdT s f) (k + 1) (l, 0)).1).length = k + 1 := rdN_args (k + 1) (l, 0)
        by_cases hk0 : k = 0
        · simp only [hk0, if_true] at hsn hsn2 hil
          have hc2 := ih (rdIs 40 (rdN (rdT s f) 0 (l, 0)).2) (by simp only [hk0] at hlen hil; omega)
          subst hk0
          rw [hsn2] at hc2
          (refine wlk ?_)
          (refine SqA.b2 (op_call (some (EXT)) rfl rfl rfl (by kernel_rfl) (FnB.use (rdis s (rdN (rdT s f) 0 (l, 0)).2.1 (rdN (rdT s f) 0 (l, 0)).2.2 40)) rfl rfl rfl rfl rfl rfl) rfl rfl ?_)
          (refine wlk ?_)
          (refine SqA.b2 (op_call (some (EXT)) rfl rfl rfl (by kernel_rfl) (FnB.use (hc2)) rfl rfl rfl rfl rfl rfl) rfl rfl ?_)
          (refine wlk ?_)
          (refine SqA.b1 (op_bsT (T := TB) (f := Tm.d) [(rdT s f (rdIs 40 (rdN (rdT s f) 0 (l, 0)).2)).1] rfl rfl rfl rfl rfl rfl rfl rfl rfl rfl rfl) rfl rfl ?_)
          (refine wlk ?_)
          exact ⟨0 + 1, by omega, fgs, by omega⟩
        · simp only [hk0, if_false] at hsn hsn2 hil
          have hc2 := ih (rdIs 44 (rdN (rdT s f) k (l, 0)).2) (by omega)
          rw [hsn2] at hc2
          (refine wlk ?_)
          (refine SqA.b2 (op_call (some (EXT)) rfl rfl rfl (by kernel_rfl) (FnB.use (rdis s (rdN (rdT s f) k (l, 0)).2.1 (rdN (rdT s f) k (l, 0)).2.2 44)) rfl rfl rfl rfl rfl rfl) rfl rfl ?_)
          (refine wlk ?_)
          (refine SqA.b2 (op_call (some (EXT)) rfl rfl rfl (by kernel_rfl) (FnB.use (hc2)) rfl rfl rfl rfl rfl rfl) rfl rfl ?_)
          (refine wlk ?_)
          (refine SqA.b1 (op_bsT (T := TB) (f := Tm.d) [(rdT s f (rdIs 44 (rdN (rdT s f) k (l, 0)).2)).1] rfl rfl rfl rfl rfl rfl rfl rfl rfl rfl rfl) rfl rfl ?_)
          (refine wlk ?_)
          exact ⟨k + 1, by omega, fgs, by omega⟩
      · have : k = n := by omega
        subst this
        refine dwp_wk (Wk.freezeB (j := 5) (q := 2) rfl rfl rfl) ?_
        by_cases hn0 : k = 0
        · (refine wlk ?_)
          (first | (refine finRB (.cellN rfl rfl (rw_of rfl) rfl rfl .nil) rfl rfl rfl rfl ?_) | (refine finNB (.cellN rfl rfl (rw_of rfl) rfl rfl .nil) rfl rfl rfl rfl ?_))
          exact XB rfl (by simp [hn0, rdBox])
        · (refine wlk ?_)
          (refine SqA.b2 (op_call (some (EXT)) rfl rfl rfl (by kernel_rfl) (FnB.use (rdis s (rdN (rdT s f) k (l, 0)).2.1 (rdN (rdT s f) k (l, 0)).2.2 41)) rfl rfl rfl rfl rfl rfl) rfl rfl ?_)
          (refine wlk ?_)
          (first | (refine finRB (.cellN rfl rfl (rw_of rfl) rfl rfl .nil) rfl rfl rfl rfl ?_) | (refine finNB (.cellN rfl rfl (rw_of rfl) rfl rfl .nil) rfl rfl rfl rfl ?_))
          exact XB rfl (by simp [hn0])
end Go.Proofs.YtmanhdacnkpclaaGreatDoor

/- What functions do: Read, Parse; the laws' own reading. -/
namespace Go.Proofs.YtmanhdacnkpclaaGreatDoor
set_option linter.all false
open Go.RowKit

theorem Xrd {r r' : Tm × List UInt8 × Int} (h : r = r') : (.tup [tA r.1, sA r.2.1, iA r.2.2] : X) = .tup [tA r'.1, sA r'.2.1, iA r'.2.2] := by rw [h]
theorem Xpa {r r' : Tm × Int} (h : r = r') : (.tup [tA r.1, iA r.2] : X) = .tup [tA r'.1, iA r'.2] := by rw [h]
set_option maxRecDepth 100000 in
theorem rread (s : List Int) (hs : wrongSig s = 0) (l : List UInt8) : FnD Tryz.prog 56 [lA Int.d s, sA l] (.tup [tA (readTm s l).1, sA (readTm s l).2.1, iA (readTm s l).2.2]) := by
  refine Fn.of Tryz.func56 rfl Tryz.ntmps56 rfl (Nat.le_of_ble_eq_true rfl) ?_
  have hc := rdterm s hs (l.length + 1) (l, 0) (by simp)
  simp only at hc
  unfold readTm
  generalize rdT s (l.length + 1) (l, 0) = r at hc
  obtain ⟨t, l', e⟩ := r
  simp only at hc ⊢
  by_cases h : e = 0
  · (refine wlk ?_)
    (refine SqA.b2 (op_call (some (12)) rfl rfl rfl (by kernel_rfl) (FnB.use (hc)) rfl rfl rfl rfl rfl rfl) rfl rfl ?_)
    (refine wlk ?_)
    (first | (refine finR (.cellN rfl rfl (rw_of rfl) rfl rfl (.tmp rfl (.tmp rfl .nil))) rfl rfl ?_) | (refine finN (.cellN rfl rfl (rw_of rfl) rfl rfl (.tmp rfl (.tmp rfl .nil))) rfl rfl ?_))
    exact Xrd (r := (t, l', 0)) (by simp [h])
  · (refine wlk ?_)
    (refine SqA.b2 (op_call (some (12)) rfl rfl rfl (by kernel_rfl) (FnB.use (hc)) rfl rfl rfl rfl rfl rfl) rfl rfl ?_)
    (refine wlk ?_)
    refine fin_wk (fun n => Wk.nilArrB (j := 4) (q := 2) rfl rfl rfl) ?_
    (first | (refine finR (.cellN rfl rfl (rw_of rfl) rfl rfl (.tmp rfl (.tmp rfl .nil))) rfl rfl ?_) | (refine finN (.cellN rfl rfl (rw_of rfl) rfl rfl (.tmp rfl (.tmp rfl .nil))) rfl rfl ?_))
    exact Xrd (r := (Tm.zero, [], e)) (by simp [h])

set_option maxHeartbeats 4000000 in
set_option maxRecDepth 100000 in
theorem rparse (s : List Int) (l : List UInt8) : FnD Tryz.prog 32 [lA Int.d s, sA l] (.tup [tA (parseTm s l).1, iA (parseTm s l).2]) := by
  refine Fn.of Tryz.func32 rfl Tryz.ntmps32 rfl (Nat.le_of_ble_eq_true rfl) ?_
  by_cases hs : wrongSig s = 0
  rotate_left
  · (refine wlk ?_)
    (refine SqA.b1 (op_call none rfl rfl rfl (by kernel_rfl) (FnD.use (rwrongSig s)) rfl rfl rfl rfl rfl rfl) rfl rfl ?_)
    (refine wlk ?_)
    refine fin_wk (fun n => Wk.nilArrB (j := 4) (q := 2) rfl rfl rfl) ?_
    (first | (refine finR (.cellN rfl rfl (rw_of rfl) rfl rfl (.tmp rfl .nil)) rfl rfl ?_) | (refine finN (.cellN rfl rfl (rw_of rfl) rfl rfl (.tmp rfl .nil)) rfl rfl ?_))
    exact Xpa (r := (Tm.zero, wrongSig s)) (by simp [parseTm, hs])
  by_cases hl : 48 < l.length
  · (refine wlk ?_)
    (refine SqA.b1 (op_call none rfl rfl rfl (by kernel_rfl) (FnD.use (rwrongSig s)) rfl rfl rfl rfl rfl rfl) rfl rfl ?_)
    (refine wlk ?_)
    refine fin_wk (fun n => Wk.nilArrB (j := 4) (q := 2) rfl rfl rfl) ?_
    (first | (refine finR (.cellN rfl rfl (rw_of rfl) rfl rfl (.tmp rfl .nil)) rfl rfl ?_) | (refine finN (.cellN rfl rfl (rw_of rfl) rfl rfl (.tmp rfl .nil)) rfl rfl ?_))
    exact Xpa (r := (Tm.zero, 4)) (by simp [parseTm, hs, hl])
  have hc := rread s hs l
  have hp : parseTm s l = (let r := readTm s l
      if r.2.2 ≠ 0 then (Tm.zero, r.2.2) else if r.2.1 ≠ [] then (Tm.zero, 2) else
      if wrong s r.1 ≠ 0 then (Tm.zero, wrong s r.1) else (r.1, 0)) := by
    unfold parseTm; rw [if_neg (by simp [hs]), if_neg hl]
  rw [hp]
  generalize readTm s l = r at hc
  obtain ⟨t, l', e⟩ := r
  simp only at hc ⊢
  by_cases h : e = 0
  rotate_left
  · (refine wlk ?_)
    (refine SqA.b1 (op_call none rfl rfl rfl (by kernel_rfl) (FnD.use (rwrongSig s)) rfl rfl rfl rfl rfl rfl) rfl rfl ?_)
    (refine wlk ?_)
    (refine SqA.b1 (op_call none rfl rfl rfl (by kernel_rfl) (FnD.use (hc)) rfl rfl rfl rfl rfl rfl) rfl rfl ?_)
    (refine wlk ?_)
    refine fin_wk (fun n => Wk.nilArrB (j := 4) (q := 2) rfl rfl rfl) ?_
    (first | (refine finR (.cellN rfl rfl (rw_of rfl) rfl rfl (.tmp rfl .nil)) rfl rfl ?_) | (refine finN (.cellN rfl rfl (rw_of rfl) rfl rfl (.tmp rfl .nil)) rfl rfl ?_))
    exact Xpa (r := (Tm.zero, e)) (by simp [h])
  subst h
  cases hl' : (l' == [])
  · (refine wlk ?_)
    (refine SqA.b1 (op_call none rfl rfl rfl (by kernel_rfl) (FnD.use (rwrongSig s)) rfl rfl rfl rfl rfl rfl) rfl rfl ?_)
    (refine wlk ?_)
    (refine SqA.b1 (op_call none rfl rfl rfl (by kernel_rfl) (FnD.use (hc)) rfl rfl rfl rfl rfl rfl) rfl rfl ?_)
    (refine wlk ?_)
    refine fin_wk (fun n => Wk.nilArrB (j := 4) (q := 2) rfl rfl rfl) ?_
    (first | (refine finR (.cellN rfl rfl (rw_of rfl) rfl rfl (.tmp rfl .nil)) rfl rfl ?_) | (refine finN (.cellN rfl rfl (rw_of rfl) rfl rfl (.tmp rfl .nil)) rfl rfl ?_))
    exact Xpa (r := (Tm.zero, 2)) (by simp at hl'; simp [hl'])
  have hl'' : l' = [] := by simpa using hl'
  by_cases hw : wrong s t = 0
  · (refine wlk ?_)
    (refine SqA.b1 (op_call none rfl rfl rfl (by kernel_rfl) (FnD.use (rwrongSig s)) rfl rfl rfl rfl rfl rfl) rfl rfl ?_)
    (refine wlk ?_)
    (refine SqA.b1 (op_call none rfl rfl rfl (by kernel_rfl) (FnD.use (hc)) rfl rfl rfl rfl rfl rfl) rfl rfl ?_)
    (refine wlk ?_)
    (refine SqA.b1 (op_call none rfl rfl rfl (by kernel_rfl) (FnD.use (rwrong s t)) rfl rfl rfl rfl rfl rfl) rfl rfl ?_)
    (refine wlk ?_)
    (first | (refine finR (.cellN rfl rfl (rw_of rfl) rfl rfl (.tmp rfl .nil)) rfl rfl ?_) | (refine finN (.cellN rfl rfl (rw_of rfl) rfl rfl (.tmp rfl .nil)) rfl rfl ?_))
    exact Xpa (r := (t, 0)) (by simp [hl'', hw])
  · (refine wlk ?_)
    (refine SqA.b1 (op_call none rfl rfl rfl (by kernel_rfl) (FnD.use (rwrongSig s)) rfl rfl rfl rfl rfl rfl) rfl rfl ?_)
    (refine wlk ?_)
    (refine SqA.b1 (op_call none rfl rfl rfl (by kernel_rfl) (FnD.use (hc)) rfl rfl rfl rfl rfl rfl) rfl rfl ?_)
    (refine wlk ?_)
    (refine SqA.b1 (op_call none rfl rfl rfl (by kernel_rfl) (FnD.use (rwrong s t)) rfl rfl rfl rfl rfl rfl) rfl rfl ?_)
    (refine wlk ?_)
    refine fin_wk (fun n => Wk.nilArrB (j := 4) (q := 2) rfl rfl rfl) ?_
    (first | (refine finR (.cellN rfl rfl (rw_of rfl) rfl rfl (.tmp rfl .nil)) rfl rfl ?_) | (refine finN (.cellN rfl rfl (rw_of rfl) rfl rfl (.tmp rfl .nil)) rfl rfl ?_))
    exact Xpa (r := (Tm.zero, wrong s t)) (by simp [hl'', hw])
end Go.Proofs.YtmanhdacnkpclaaGreatDoor
