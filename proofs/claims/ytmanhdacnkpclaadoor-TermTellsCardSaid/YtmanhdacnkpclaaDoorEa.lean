/- Worlds with new blocks. -/
import Derived.Test.YtmanhdacnkpclaaDoorFa
import Derived.Deep.RegionHeld3
import Derived.Test.YtmanhdacnkpclaaDoorRows
import Derived.LoopTactic
import Derived.Outline
import Derived.BigQuiet
/- Worlds with new blocks. -/
namespace Go.Proofs.YtmanhdacnkpclaaDoor
set_option linter.unusedVariables false
set_option linter.unusedSimpArgs false
open Go.RowKit
theorem bw1 (w : World) (A : Obj) : Below w.heap.size w (w.alloc A) := (Below.refl _ _).alloc (Nat.le_refl _) _
theorem bw2 (w : World) (A B : Obj) : Below w.heap.size w ((w.alloc A).alloc B) := (bw1 w A).alloc (by simp) _
theorem bw3 (w : World) (A B C : Obj) : Below w.heap.size w (((w.alloc A).alloc B).alloc C) := (bw2 w A B).alloc (by simp; omega) _
theorem bw4 (w : World) (A B C D : Obj) : Below w.heap.size w ((((w.alloc A).alloc B).alloc C).alloc D) := (bw3 w A B C).alloc (by simp; omega) _
theorem blk_a0 (w : World) (A : Obj) : blk (w.alloc A) w.heap.size = some A := by simp [blk_alloc]
theorem blk_old {w : World} {g : Nat} {o : Obj} (h : blk w g = some o) (A : Obj) : blk (w.alloc A) g = some o := by
  rw [blk_alloc, if_neg (Nat.ne_of_lt (blk_lt h))]; exact h
/-- two boxes and a slice literal, behind a draw and a call -/
theorem boxes3 {w w1 : World} {A B C : Obj} (hb : Below (((w.alloc A).alloc B).alloc C).drew.heap.size (((w.alloc A).alloc B).alloc C).drew w1) :
    blk w1 w.heap.size = some A ∧ blk w1 (w.heap.size + 1) = some B ∧ Below w.heap.size w w1 ∧ w.heap.size < w1.heap.size ∧ w.heap.size + 1 < w1.heap.size := by
  have hz := hb.size
  simp only [World.size_drew, World.size_alloc] at hz
  have h0 : blk (((w.alloc A).alloc B).alloc C).drew w.heap.size = some A := blk_old (blk_old (blk_a0 w A) B) C
  have h1 : blk (((w.alloc A).alloc B).alloc C).drew (w.heap.size + 1) = some B := by
    have := blk_a0 (w.alloc A) B
    rw [World.size_alloc] at this
    exact blk_old this C
  exact ⟨blk_below h0 hb (blk_lt h0), blk_below h1 hb (blk_lt h1), (bw3 w A B C).drew.trans (hb.mono (bw3 w A B C).size), by omega, by omega⟩
theorem boxes2 {w w1 : World} {A B : Obj} (hb : Below ((w.alloc A).alloc B).heap.size ((w.alloc A).alloc B) w1) :
    blk w1 w.heap.size = some A ∧ blk w1 (w.heap.size + 1) = some B ∧ Below w.heap.size w w1 ∧ w.heap.size < w1.heap.size ∧ w.heap.size + 1 < w1.heap.size := by
  have hz := hb.size
  simp only [World.size_alloc] at hz
  have h0 : blk ((w.alloc A).alloc B) w.heap.size = some A := blk_old (blk_a0 w A) B
  have h1 : blk ((w.alloc A).alloc B) (w.heap.size + 1) = some B := by
    have := blk_a0 (w.alloc A) B
    rw [World.size_alloc] at this; exact this
  exact ⟨blk_below h0 hb (blk_lt h0), blk_below h1 hb (blk_lt h1), (bw2 w A B).trans (hb.mono (bw2 w A B).size), by omega, by omega⟩
theorem blk_two {w : World} {A B C : Obj} : blk (((w.alloc A).alloc B).alloc C).drew (w.heap.size + 1 + 1) = some C := by
  have := blk_a0 ((w.alloc A).alloc B) C
  rw [World.size_alloc, World.size_alloc] at this; exact this

end Go.Proofs.YtmanhdacnkpclaaDoor

/- Steps through a region that draws its order, by hand. -/
namespace Go.Proofs.YtmanhdacnkpclaaDoor
set_option linter.unusedVariables false
set_option linter.unusedSimpArgs false
open Go.RowKit

/-- an operation that no one asks for -/
theorem wpAnyH_skip {P : Program} {md : Region.Mode} {ops : Array Oper} {Q : Exit → Act → World → Prop} {S : World → Prop} {i : Nat} {d : Option Tmp} {oi : Oper} {fuel : Nat} {listed : Array Bool} {a : Act} {w : World}
    (hi : ops[i]? = some oi) (hd : oi.dst = d) (hw : Region.wanted oi (yielded ops a.tmps) = false) (hs : Region.noSelect ops = true) (hf : Region.free md ops listed i = true) (hr : (Region.ready md ops listed).contains i = true)
    (hQ : ∀ c a w, Q (.panic c) (a.put d undef) w → Q (.panic c) a w) (hS : S w) (h : wpAnyH P md ops Q S fuel (listed.setIfInBounds i true) (a.put d undef) w) : wpAnyH P md ops Q S (fuel + 1) listed a w := by
  subst hd
  exact wpAnyH_take hi hs hf hr hQ (.inr ⟨hw, rfl⟩) hS h
/-- an operation that yields in every world that meets S -/
theorem wpAnyH_val {P : Program} {md : Region.Mode} {ops : Array Oper} {Q : Exit → Act → World → Prop} {S : World → Prop} {i : Nat} {d : Option Tmp} {v : Value} {oi : Oper} {fuel : Nat} {listed : Array Bool} {a : Act} {w : World}
    (hi : ops[i]? = some oi) (hd : oi.dst = d) (hw : Region.wanted oi (yielded ops a.tmps) = true) (hs : Region.noSelect ops = true) (hf : Region.free md ops listed i = true) (hr : (Region.ready md ops listed).contains i = true)
    (hQ : ∀ c a w, Q (.panic c) (a.put d v) w → Q (.panic c) a w) (hv : ∀ w, S w → (execOp a.eval oi).run P w = .ok (.value v) w) (hS : S w) (h : wpAnyH P md ops Q S fuel (listed.setIfInBounds i true) (a.put d v) w) : wpAnyH P md ops Q S (fuel + 1) listed a w := by
  subst hd
  exact wpAnyH_take hi hs hf hr hQ (.inl ⟨hw, hv⟩) hS h
end Go.Proofs.YtmanhdacnkpclaaDoor

/- Contracts: Size, find, Apply. -/
namespace Go.Proofs.YtmanhdacnkpclaaDoor
set_option linter.unusedVariables false
set_option linter.unusedSimpArgs false
open Go.RowKit

theorem slTerm : SliceOf Tryd.prog 24 26 3 40 (.agg #[.bool false, .int .i64 0, .slice none 0 0]) := ⟨by kernel_rfl, by kernel_rfl, rfl, by decide⟩
theorem slSub : SliceOf Tryd.prog 28 32 4 48 (.agg #[.int .i64 0, .bool false, .int .i64 0, .slice none 0 0]) := ⟨by kernel_rfl, by kernel_rfl, rfl, by decide⟩
theorem slInt : SliceOf Tryd.prog 22 3 1 8 (.int .i64 0) := ⟨by kernel_rfl, by kernel_rfl, rfl, by decide⟩

/-- a term that was measured: sizes wrap round as Go's int does -/
def SizeW (f : Nat) (t : Tm) : Prop := ∀ (w : World) (S : Nat → Prop) (v : Value), RdT w S t v →
  Calls Tryd.prog f #[v] w fun e w' => e = .returned (.int .i64 (wrap64 t.size)) ∧ Below w.heap.size w w'

def SizeC (f : Nat) (t : Tm) : Prop := ∀ (w : World) (S : Nat → Prop) (v : Value), RdT w S t v → t.size ≤ 4611686018427387904 →
  Calls Tryd.prog f #[v] w fun e w' => e = .returned (.int .i64 t.size) ∧ Below w.heap.size w w'

theorem wrap64_wrap_add (a b : Int) : wrap64 (wrap64 a + wrap64 b) = wrap64 (a + b) := by unfold wrap64; omega

set_option maxHeartbeats 400000 in
theorem rsizeW_any : ∀ t, SizeW 35 t := by
  refine Tm.ind ?_
  intro vr n l ih w S v hv
  obtain ⟨a, c, rfl, hs⟩ := hv
  simp only at hs ⊢
  obtain ⟨_, _, he, hl, hm⟩ := hs.form
  clear he
  have IH := Lib.hid ih; clear ih
  have HV := Lib.hid hs; clear hs
  go_enter Tryd.func35, Tryd.ntmps35
  go_wp2_with fail
  go_loopw [3, 8] (fun m i wr => ∃ k : Nat, k ≤ l.length ∧ i = .int .i64 k ∧ m = .int .i64 (wrap64 ((1 + Tm.sizes (l.take k) : Nat) : Int)) ∧ Below w.heap.size w wr ∧ w.heap.size < wr.heap.size ∧
      wr.cell? ⟨w.heap.size, 2, none⟩ = some (.slice a l.length c))
    (fun _ i _ => l.length - (intOf i).toNat)
  case atStart => exact ⟨0, Nat.zero_le _, rfl, by simp [Tm.sizes, wrap64], (Below.refl _ _).alloc (Nat.le_refl _) _, by simp, by simp⟩
  case round =>
    obtain ⟨k, hk, rfl, rfl, hbel, hlt, hcell⟩ := hrel
    by_cases hkl : k < l.length
    · obtain ⟨x, b, o, a', c', hx, hSb, hbw, hix, c0, c1, c2, hxs⟩ := (HV.out.below hbel (Nat.le_refl _)).nthT slTerm hkl
      have hsucc := Lib.hid (sizes_take_succ l k x hx.out)
      have HX := Lib.hid hxs; clear hxs
      obtain ⟨A, hA⟩ : ∃ A, A = wrap64 ((1 + Tm.sizes (l.take k) : Nat) : Int) := ⟨_, rfl⟩
      have HA := Lib.hid hA
      rw [← hA]; clear hA
      go_wp2_with fail
      refine (IH.out x (mem_of_get hx.out) wr S _ ⟨a', c', rfl, HX.out⟩).mono ?_
      rintro e w1 ⟨rfl, hb1⟩
      have hcell1 := (hb1.cell (p := ⟨w.heap.size, 2, none⟩) hlt).trans hcell
      have hlt1 := hb1.size
      clear hcell
      obtain ⟨C, hC⟩ : ∃ C, C = wrap64 (x.size : Int) := ⟨_, rfl⟩
      have HC := Lib.hid hC
      rw [← hC]; clear hC
      go_wp2_with fail
      go_roundw
      case rel => exact ⟨k + 1, by omega, by go_num, by rw [hsucc.out, HA.out, HC.out]; exact congrArg (fun z => Value.int .i64 z) ((wrap64_wrap_add _ _).trans (congrArg wrap64 (by omega))), hbel.trans (hb1.mono (by omega)), by omega, hcell1⟩
      case measure => simp [intOf]; omega
    · go_wp2_with fail
      go_ret
      have : k = l.length := by omega
      subst this
      exact ⟨by simp [Tm.size], hbel⟩

set_option maxHeartbeats 400000 in
theorem psizeW_any : ∀ t, SizeW 34 t := by
  refine Tm.ind ?_
  intro vr n l ih w S v hv
  obtain ⟨a, c, rfl, hs⟩ := hv
  simp only at hs ⊢
  obtain ⟨_, _, he, hl, hm⟩ := hs.form
  clear he
  have IH := Lib.hid ih; clear ih
  have HV := Lib.hid hs; clear hs
  go_enter Tryd.func34, Tryd.ntmps34
  go_wp2_with fail
  go_loopw [3, 9] (fun m i wr => ∃ k : Nat, k ≤ l.length ∧ i = .int .i64 k ∧ m = .int .i64 (wrap64 ((1 + Tm.sizes (l.take k) : Nat) : Int)) ∧ Below w.heap.size w wr)
    (fun _ i _ => l.length - (intOf i).toNat)
  case atStart => exact ⟨0, Nat.zero_le _, rfl, by simp [Tm.sizes, wrap64], (Below.refl _ _).alloc (Nat.le_refl _) _⟩
  case round =>
    obtain ⟨k, hk, rfl, rfl, hbel⟩ := hrel
    by_cases hkl : k < l.length
    · obtain ⟨x, b, o, a', c', hx, hSb, hbw, hix, c0, c1, c2, hxs⟩ := (HV.out.below hbel (Nat.le_refl _)).nthT slTerm hkl
      have hsucc := Lib.hid (sizes_take_succ l k x hx.out)
      have HX := Lib.hid hxs; clear hxs
      have hbs := hbel.size
      obtain ⟨A, hA⟩ : ∃ A, A = wrap64 ((1 + Tm.sizes (l.take k) : Nat) : Int) := ⟨_, rfl⟩
      have HA := Lib.hid hA
      rw [← hA]; clear hA
      go_wp2_with fail
      refine (IH.out x (mem_of_get hx.out) _ S _ (RdT.alloc ⟨a', c', rfl, HX.out⟩ _)).mono ?_
      rintro e w1 ⟨rfl, hb1⟩
      obtain ⟨C, hC⟩ : ∃ C, C = wrap64 (x.size : Int) := ⟨_, rfl⟩
      have HC := Lib.hid hC
      rw [← hC]; clear hC
      go_wp2_with fail
      go_roundw
      case rel => exact ⟨k + 1, by omega, by go_num, by rw [hsucc.out, HA.out, HC.out]; exact congrArg (fun z => Value.int .i64 z) ((wrap64_wrap_add _ _).trans (congrArg wrap64 (by omega))), (hbel.alloc hbs _).trans (hb1.mono (by simp; omega))⟩
      case measure => simp [intOf]; omega
    · go_wp2_with fail
      go_ret
      have : k = l.length := by omega
      subst this
      exact ⟨by simp [Tm.size], hbel⟩

theorem SizeC.ofW {f : Nat} {t : Tm} (h : SizeW f t) : SizeC f t := fun w S v hv hs => (h w S v hv).mono fun e w' ⟨he, hb⟩ => ⟨by rw [he, IntWalk.wrap64_in _ ⟨by omega, by omega⟩], hb⟩
theorem rsize_any (t : Tm) : SizeC 35 t := .ofW (rsizeW_any t)
theorem psize_any (t : Tm) : SizeC 34 t := .ofW (psizeW_any t)
end Go.Proofs.YtmanhdacnkpclaaDoor

/- Contracts: Same. -/
namespace Go.Proofs.YtmanhdacnkpclaaDoor
set_option linter.unusedVariables false
set_option linter.unusedSimpArgs false
open Go.RowKit

def SameC (f : Nat) (t : Tm) : Prop := ∀ (u : Tm) (w : World) (S : Nat → Prop) (v v' : Value), RdT w S t v → RdT w S u v' →
  Calls Tryd.prog f #[v, v'] w fun e w' => e = .returned (.bool (t.same u)) ∧ Below w.heap.size w w'

set_option maxHeartbeats 1000000 in
theorem rsame_any : ∀ t, SameC 18 t := by
  refine Tm.ind ?_
  intro vr n l ih u w S v v' hv hv'
  obtain ⟨vr', n', l'⟩ := u
  obtain ⟨a, c, rfl, hs⟩ := hv
  obtain ⟨a', c', rfl, hs'⟩ := hv'
  simp only at hs hs' ⊢
  obtain ⟨_, _, he, hl, hm⟩ := hs.form
  clear he
  obtain ⟨_, _, he, hl', hm'⟩ := hs'.form
  clear he
  have IH := Lib.hid ih; clear ih
  have HV := Lib.hid hs; clear hs
  have HV' := Lib.hid hs'; clear hs'
  rcases Decidable.em (vr = vr') with h1 | h1
  rotate_left
  · have h1' : (vr == vr') = false := by simpa using h1
    have h1'' : (vr != vr') = true := by simpa using h1
    clear h1
    have hfin : Hid ((⟨vr, n, l⟩ : Tm).same ⟨vr', n', l'⟩ = false) := by simp [Tm.same, h1', Hid]
    go_enter Tryd.func18, Tryd.ntmps18
    go_wp2_with fail
    go_ret
    rw [hfin.out]
    exact ⟨rfl, ((Below.refl _ _).alloc (Nat.le_refl _) _).alloc (by simp) _⟩
  subst h1
  rcases Decidable.em (n = n') with h2 | h2
  rotate_left
  · have h2' : ((n : Int) == n') = false := by simpa using h2
    have h2'' : ((n : Int) != n') = true := by simpa using h2
    clear h2
    have hfin : Hid ((⟨vr, n, l⟩ : Tm).same ⟨vr, n', l'⟩ = false) := by simp [Tm.same, h2', Hid]
    go_enter Tryd.func18, Tryd.ntmps18
    go_wp2_with fail
    go_ret
    rw [hfin.out]
    exact ⟨rfl, ((Below.refl _ _).alloc (Nat.le_refl _) _).alloc (by simp) _⟩
  subst h2
  rcases Decidable.em (l.length = l'.length) with h3 | h3
  rotate_left
  · have hfin : Hid ((⟨vr, n, l⟩ : Tm).same ⟨vr, n, l'⟩ = false) := by simp [Tm.same, Hid, Tm.sames_len h3]
    have h3'' : ((l.length : Int) != (l'.length : Int)) = true := by simp; omega
    clear h3
    go_enter Tryd.func18, Tryd.ntmps18
    go_wp2_with fail
    go_ret
    rw [hfin.out]
    exact ⟨rfl, ((Below.refl _ _).alloc (Nat.le_refl _) _).alloc (by simp) _⟩
  have hfin : Hid ((⟨vr, n, l⟩ : Tm).same ⟨vr, n, l'⟩ = Tm.sames l l') := by simp [Tm.same, Hid]
  have h3'' : ((l.length : Int) != (l'.length : Int)) = false := by simp; omega
  have H3 := Lib.hid h3; clear h3
  go_enter Tryd.func18, Tryd.ntmps18
  go_wp2_with fail
  go_loopw [30] (fun i wr => ∃ k : Nat, k ≤ l.length ∧ i = .int .i64 k ∧ l.take k = l'.take k ∧ Below w.heap.size w wr ∧ w.heap.size + 1 < wr.heap.size ∧
      wr.cell? ⟨w.heap.size, 2, none⟩ = some (.slice a l.length c) ∧ wr.cell? ⟨w.heap.size + 1, 2, none⟩ = some (.slice a' l'.length c'))
    (fun i _ => l.length - (intOf i).toNat)
  case atStart => exact ⟨0, Nat.zero_le _, rfl, rfl, ((Below.refl _ _).alloc (Nat.le_refl _) _).alloc (by simp) _, by simp, by simp, by simp⟩
  case round =>
    obtain ⟨k, hk, rfl, htk, hbel, hlt, hcell, hcell'⟩ := hrel
    have HTK := Lib.hid htk; clear htk
    by_cases hkl : k < l.length
    · obtain ⟨x, b, o, a1, c1, hx, hSb, hbw, hix, p0, p1, p2, hxs⟩ := (HV.out.below hbel (Nat.le_refl _)).nthT slTerm hkl
      have hkl' : k < l'.length := by have := H3.out; omega
      obtain ⟨y, b', o', a2, c2, hy, hSb', hbw', hix', q0, q1, q2, hys⟩ := (HV'.out.below hbel (Nat.le_refl _)).nthT slTerm hkl'
      have hlt0 : w.heap.size < wr.heap.size := by omega
      have HX := Lib.hid hxs; clear hxs
      have HY := Lib.hid hys; clear hys
      cases hxy : x.same y
      all_goals go_wp2_with fail
      all_goals go_region_held3 (fun w' => w'.cell? ⟨w.heap.size, 2, none⟩ = some (.slice a l.length c) ∧ w'.cell? ⟨w.heap.size + 1, 2, none⟩ = some (.slice a' l'.length c') ∧
          w'.cell? ⟨b, o + k * 3, none⟩ = some (.bool x.var) ∧ w'.cell? ⟨b, o + k * 3 + 1, none⟩ = some (.int .i64 x.n) ∧ w'.cell? ⟨b, o + k * 3 + 2, none⟩ = some (.slice a1 x.args.length c1) ∧
          w'.cell? ⟨b', o' + k * 3, none⟩ = some (.bool y.var) ∧ w'.cell? ⟨b', o' + k * 3 + 1, none⟩ = some (.int .i64 y.n) ∧ w'.cell? ⟨b', o' + k * 3 + 2, none⟩ = some (.slice a2 y.args.length c2)) (go_keep) ((go_at_call 18; refine (IH.out x (mem_of_get hx.out) y _ S _ _ (RdT.same_ ⟨a1, c1, rfl, HX.out⟩ (by rfl)) (RdT.same_ ⟨a2, c2, rfl, HY.out⟩ (by rfl))).mono ?_; rintro e w1 ⟨rfl, hb1⟩; have bc1 : ∀ b o, b < wr.heap.size → w1.cell? ⟨b, o, none⟩ = wr.cell? ⟨b, o, none⟩ := fun b o h => hb1.cell (p := ⟨b, o, none⟩) h))
      · go_wp2_with fail
        go_ret
        exact ⟨by rw [hfin.out, Tm.sames_no hx.out hy.out hxy]; rfl, hbel.drew.trans (hb1.mono (Nat.le_of_lt hlt0))⟩
      · go_wp2_with fail
        go_roundw
        case rel =>
          have hxe := (Tm.same_iff x y).1 hxy
          have hz : wr.heap.size ≤ w1.heap.size := hb1.size
          exact ⟨k + 1, by omega, by go_num, by rw [take_succ_of hx.out, take_succ_of hy.out, HTK.out, hxe], hbel.drew.trans (hb1.mono (Nat.le_of_lt hlt0)), by omega, (bc1 _ _ hlt0).trans hcell, (bc1 _ _ hlt).trans hcell'⟩
        case measure => simp [intOf]; omega
    · go_wp2_with fail
      go_ret
      have : k = l.length := by omega
      subst this
      have hy := Tm.sames_yes H3.out HTK.out
      rw [hfin.out, hy]
      exact ⟨rfl, hbel⟩

end Go.Proofs.YtmanhdacnkpclaaDoor

/- Contracts: EqualFunc at terms, term.Same, WrongSig. -/
namespace Go.Proofs.YtmanhdacnkpclaaDoor
set_option linter.unusedVariables false
set_option linter.unusedSimpArgs false
open Go.RowKit

theorem slSig : SliceOf Tryd.prog 23 3 1 8 (.int .i64 0) := ⟨by kernel_rfl, by kernel_rfl, rfl, by decide⟩

set_option maxHeartbeats 1000000 in
/-- slices.EqualFunc at terms, with Same -/
theorem eqFunc_any (l l' : List Tm) (ih : ∀ x ∈ l, SameC 27 x) (w : World) (S : Nat → Prop) (a a' : Option Addr) (c c' : Nat)
    (hs : RdTs w S l (.slice a l.length c)) (hs' : RdTs w S l' (.slice a' l'.length c')) :
    Calls Tryd.prog 77 #[.slice a l.length c, .slice a' l'.length c', .func (.func 27) #[] #[]] w
      fun e w' => e = .returned (.bool (Tm.sames l l')) ∧ Below w.heap.size w w' := by
  obtain ⟨_, _, he, hl, hm⟩ := hs.form
  clear he
  obtain ⟨_, _, he, hl', hm'⟩ := hs'.form
  clear he
  have IH := Lib.hid ih; clear ih
  have HV := Lib.hid hs; clear hs
  have HV' := Lib.hid hs'; clear hs'
  rcases Decidable.em (l.length = l'.length) with h3 | h3
  rotate_left
  · have hfin := Lib.hid (Tm.sames_len h3)
    have h3'' : ((l.length : Int) != (l'.length : Int)) = true := by simp; omega
    clear h3
    go_enter Tryd.func77, Tryd.ntmps77
    go_wp2_with fail
    go_ret
    rw [hfin.out]
    exact ⟨rfl, Below.refl _ _⟩
  have h3'' : ((l.length : Int) != (l'.length : Int)) = false := by simp; omega
  have H3 := Lib.hid h3; clear h3
  go_enter Tryd.func77, Tryd.ntmps77
  go_wp2_with fail
  go_loopw [17] (fun i wr => ∃ k : Nat, k ≤ l.length ∧ i = .int .i64 k ∧ l.take k = l'.take k ∧ Below w.heap.size w wr)
    (fun i _ => l.length - (intOf i).toNat)
  case atStart => exact ⟨0, Nat.zero_le _, rfl, rfl, Below.refl _ _⟩
  case round =>
    obtain ⟨k, hk, rfl, htk, hbel⟩ := hrel
    have HTK := Lib.hid htk; clear htk
    by_cases hkl : k < l.length
    · obtain ⟨x, b, o, a1, c1, hx, hSb, hbw, hix, p0, p1, p2, hxs⟩ := (HV.out.below hbel (Nat.le_refl _)).nthT slTerm hkl
      have hkl' : k < l'.length := by have := H3.out; omega
      obtain ⟨y, b', o', a2, c2, hy, hSb', hbw', hix', q0, q1, q2, hys⟩ := (HV'.out.below hbel (Nat.le_refl _)).nthT slTerm hkl'
      have HX := Lib.hid hxs; clear hxs
      have HY := Lib.hid hys; clear hys
      have hbs := hbel.size
      go_wp2_with fail
      refine (IH.out x (mem_of_get hx.out) y _ S _ _ ((RdT.alloc ⟨a1, c1, rfl, HX.out⟩ _).alloc _) ((RdT.alloc ⟨a2, c2, rfl, HY.out⟩ _).alloc _)).mono ?_
      rintro e w1 ⟨rfl, hb1⟩
      have hb2 : Below w.heap.size w w1 := ((hbel.alloc hbs _).alloc (by simp; omega) _).trans (hb1.mono (by simp; omega))
      clear hb1
      cases hxy : x.same y
      · go_wp2_with fail
        go_ret
        exact ⟨by rw [Tm.sames_no hx.out hy.out hxy]; rfl, hb2⟩
      · go_wp2_with fail
        go_roundw
        case rel => exact ⟨k + 1, by omega, by go_num, by rw [take_succ_of hx.out, take_succ_of hy.out, HTK.out, (Tm.same_iff x y).1 hxy], hb2⟩
        case measure => simp [intOf]; omega
    · go_wp2_with fail
      go_ret
      have : k = l.length := by omega
      subst this
      rw [Tm.sames_yes H3.out HTK.out]
      exact ⟨rfl, hbel⟩

set_option maxHeartbeats 1000000 in
theorem psame_any : ∀ t, SameC 27 t := by
  refine Tm.ind ?_
  intro vr n l ih u w S v v' hv hv'
  obtain ⟨vr', n', l'⟩ := u
  obtain ⟨a, c, rfl, hs⟩ := hv
  obtain ⟨a', c', rfl, hs'⟩ := hv'
  simp only at hs hs' ⊢
  have IH := Lib.hid ih; clear ih
  have HV := Lib.hid hs; clear hs
  have HV' := Lib.hid hs'; clear hs'
  rcases Decidable.em (vr = vr') with h1 | h1
  rotate_left
  · have h1' : (vr == vr') = false := by simpa using h1
    clear h1
    have hfin : Hid ((⟨vr, n, l⟩ : Tm).same ⟨vr', n', l'⟩ = false) := by simp [Tm.same, h1', Hid]
    go_enter Tryd.func27, Tryd.ntmps27
    go_wp2_with fail
    go_ret
    rw [hfin.out]
    exact ⟨rfl, ((Below.refl _ _).alloc (Nat.le_refl _) _).alloc (by simp) _⟩
  subst h1
  rcases Decidable.em (n = n') with h2 | h2
  rotate_left
  · have h2' : ((n : Int) == n') = false := by simpa using h2
    clear h2
    have hfin : Hid ((⟨vr, n, l⟩ : Tm).same ⟨vr, n', l'⟩ = false) := by simp [Tm.same, h2', Hid]
    go_enter Tryd.func27, Tryd.ntmps27
    go_wp2_with fail
    go_ret
    rw [hfin.out]
    exact ⟨rfl, ((Below.refl _ _).alloc (Nat.le_refl _) _).alloc (by simp) _⟩
  subst h2
  have hfin : Hid ((⟨vr, n, l⟩ : Tm).same ⟨vr, n, l'⟩ = Tm.sames l l') := by simp [Tm.same, Hid]
  go_enter Tryd.func27, Tryd.ntmps27
  go_wp2_with fail
  refine (eqFunc_any l l' IH.out _ S _ _ _ _ ((HV.out.alloc _).alloc _) ((HV'.out.alloc _).alloc _)).mono ?_
  rintro e w1 ⟨rfl, hb1⟩
  go_wp2_with fail
  go_ret
  rw [hfin.out]
  exact ⟨rfl, (((Below.refl _ _).alloc (Nat.le_refl _) _).alloc (by simp) _).trans (hb1.mono (by simp; omega))⟩

def WrongSigC (f : Nat) : Prop := ∀ (s : List Int) (w : World) (S : Nat → Prop) (v : Value), RdI w S s v →
  Calls Tryd.prog f #[v] w fun e w' => e = .returned (.int .i64 (wrongSig s)) ∧ w = w'

theorem any_take {l : List Int} {p : Int → Bool} (h : l.any p = false) (k : Nat) (x : Int) (hx : l[k]? = some x) : p x = false := by
  rw [List.any_eq_false] at h
  simpa using h x (mem_of_get hx)

set_option maxHeartbeats 1000000 in
theorem rwrongSig_any : WrongSigC 24 := by
  intro s w S v hv
  obtain ⟨a, c, rfl, hl, hm⟩ := hv.form
  have HV := Lib.hid hv; clear hv
  by_cases h0 : s.length = 0
  · have hfin : Hid (wrongSig s = 5) := by simp [wrongSig, h0, Hid]
    have h0' : ((s.length : Int) == 0) = true := by rw [beq_iff_eq]; omega
    have h0'' : (s.length : Int) < 1 := by omega
    clear h0
    go_enter Tryd.func24, Tryd.ntmps24
    go_wp2_with fail
    go_ret
    rw [hfin.out]
    exact ⟨rfl, rfl⟩
  have h0' : ((s.length : Int) == 0) = false := beq_eq_false_iff_ne.2 (by omega)
  by_cases h6 : 6 < s.length
  · have hfin : Hid (wrongSig s = 5) := by simp [wrongSig, h6, Hid]
    have h0'' : 1 ≤ s.length := by omega
    clear h0
    go_enter Tryd.func24, Tryd.ntmps24
    go_wp2_with fail
    go_ret
    rw [hfin.out]
    exact ⟨rfl, rfl⟩
  have hfin : Hid (wrongSig s = if s.any (fun n => decide (n < 0 ∨ 2 < n)) then 3 else 0) := by simp [wrongSig, h0, h6, Hid]
  have h0'' : 1 ≤ s.length := by omega
  clear h0
  have h6' : s.length ≤ 6 := by omega
  clear h6
  go_enter Tryd.func24, Tryd.ntmps24
  go_wp2_with fail
  go_loop [15] (fun i => ∃ k : Nat, k ≤ s.length ∧ i = .int .i64 k ∧ ∀ j x, j < k → s[j]? = some x → ¬ (x < 0 ∨ 2 < x))
    (fun i => s.length - (intOf i).toNat)
  case atStart => exact ⟨0, Nat.zero_le _, rfl, fun j x hj => absurd hj (by omega)⟩
  case round =>
    obtain ⟨k, hk, rfl, hno⟩ := hrel
    have HNO := Lib.hid hno; clear hno
    by_cases hkl : k < s.length
    · obtain ⟨x, b, o, hx, hSb, hbw, hix, p0⟩ := HV.out.nthI slSig hkl
      by_cases hx0 : x < 0
      · go_wp2_with fail
        go_ret
        have : s.any (fun n => decide (n < 0 ∨ 2 < n)) = true := List.any_eq_true.2 ⟨x, mem_of_get hx.out, by simp [hx0]⟩
        rw [hfin.out, this]
        exact ⟨rfl, rfl⟩
      by_cases hx2 : 2 < x
      · go_wp2_with fail
        go_ret
        have : s.any (fun n => decide (n < 0 ∨ 2 < n)) = true := List.any_eq_true.2 ⟨x, mem_of_get hx.out, by simp [hx2]⟩
        rw [hfin.out, this]
        exact ⟨rfl, rfl⟩
      go_wp2_with fail
      go_round
      case rel =>
        refine ⟨k + 1, by omega, by go_num, fun j y hj hy => ?_⟩
        rcases Nat.lt_or_ge j k with h | h
        · exact HNO.out j y h hy
        · have : j = k := by omega
          subst this
          have := hx.out
          rw [this] at hy
          injection hy with hy
          omega
      case measure => simp [intOf]; omega
    · go_wp2_with fail
      go_ret
      have : s.any (fun n => decide (n < 0 ∨ 2 < n)) = false := by
        rw [List.any_eq_false]
        intro x hx
        obtain ⟨j, hj, rfl⟩ := List.getElem_of_mem hx
        have := HNO.out j _ (by omega) (List.getElem?_eq_getElem hj)
        simpa using this
      rw [hfin.out, this]
      exact ⟨rfl, rfl⟩
set_option maxHeartbeats 1000000 in
theorem pwrongSig_any : WrongSigC 23 := by
  intro s w S v hv
  obtain ⟨a, c, rfl, hl, hm⟩ := hv.form
  have HV := Lib.hid hv; clear hv
  by_cases h0 : s.length = 0
  · have hfin : Hid (wrongSig s = 5) := by simp [wrongSig, h0, Hid]
    have h0' : ((s.length : Int) == 0) = true := by rw [beq_iff_eq]; omega
    have h0'' : (s.length : Int) < 1 := by omega
    clear h0
    go_enter Tryd.func23, Tryd.ntmps23
    go_wp2_with fail
    go_ret
    rw [hfin.out]
    exact ⟨rfl, rfl⟩
  have h0' : ((s.length : Int) == 0) = false := beq_eq_false_iff_ne.2 (by omega)
  by_cases h6 : 6 < s.length
  · have hfin : Hid (wrongSig s = 5) := by simp [wrongSig, h6, Hid]
    have h0'' : 1 ≤ s.length := by omega
    clear h0
    go_enter Tryd.func23, Tryd.ntmps23
    go_wp2_with fail
    go_ret
    rw [hfin.out]
    exact ⟨rfl, rfl⟩
  have hfin : Hid (wrongSig s = if s.any (fun n => decide (n < 0 ∨ 2 < n)) then 3 else 0) := by simp [wrongSig, h0, h6, Hid]
  have h0'' : 1 ≤ s.length := by omega
  clear h0
  have h6' : s.length ≤ 6 := by omega
  clear h6
  go_enter Tryd.func23, Tryd.ntmps23
  go_wp2_with fail
  go_loop [15] (fun i => ∃ k : Nat, k ≤ s.length ∧ i = .int .i64 k ∧ ∀ j x, j < k → s[j]? = some x → ¬ (x < 0 ∨ 2 < x))
    (fun i => s.length - (intOf i).toNat)
  case atStart => exact ⟨0, Nat.zero_le _, rfl, fun j x hj => absurd hj (by omega)⟩
  case round =>
    obtain ⟨k, hk, rfl, hno⟩ := hrel
    have HNO := Lib.hid hno; clear hno
    by_cases hkl : k < s.length
    · obtain ⟨x, b, o, hx, hSb, hbw, hix, p0⟩ := HV.out.nthI slSig hkl
      by_cases hx0 : x < 0
      · go_wp2_with fail
        go_ret
        have : s.any (fun n => decide (n < 0 ∨ 2 < n)) = true := List.any_eq_true.2 ⟨x, mem_of_get hx.out, by simp [hx0]⟩
        rw [hfin.out, this]
        exact ⟨rfl, rfl⟩
      by_cases hx2 : 2 < x
      · go_wp2_with fail
        go_ret
        have : s.any (fun n => decide (n < 0 ∨ 2 < n)) = true := List.any_eq_true.2 ⟨x, mem_of_get hx.out, by simp [hx2]⟩
        rw [hfin.out, this]
        exact ⟨rfl, rfl⟩
      go_wp2_with fail
      go_round
      case rel =>
        refine ⟨k + 1, by omega, by go_num, fun j y hj hy => ?_⟩
        rcases Nat.lt_or_ge j k with h | h
        · exact HNO.out j y h hy
        · have : j = k := by omega
          subst this
          have := hx.out
          rw [this] at hy
          injection hy with hy
          omega
      case measure => simp [intOf]; omega
    · go_wp2_with fail
      go_ret
      have : s.any (fun n => decide (n < 0 ∨ 2 < n)) = false := by
        rw [List.any_eq_false]
        intro x hx
        obtain ⟨j, hj, rfl⟩ := List.getElem_of_mem hx
        have := HNO.out j _ (by omega) (List.getElem?_eq_getElem hj)
        simpa using this
      rw [hfin.out, this]
      exact ⟨rfl, rfl⟩

end Go.Proofs.YtmanhdacnkpclaaDoor

/- Contracts: walk, Wrong. -/
namespace Go.Proofs.YtmanhdacnkpclaaDoor
set_option linter.unusedVariables false
set_option linter.unusedSimpArgs false
open Go.RowKit

def WalkC (f : Nat) (t : Tm) : Prop := ∀ (s : List Int) (d : Int) (w : World) (S : Nat → Prop) (v v' : Value), RdI w S s v → RdT w S t v' → 0 ≤ d → d ≤ 1000 →
  Calls Tryd.prog f #[v, v', .int .i64 d] w fun e w' => e = .returned (.int .i64 (walk s t d)) ∧ Below w.heap.size w w'

set_option maxHeartbeats 2000000 in
theorem rwalk_any : ∀ t, WalkC 76 t := by
  refine Tm.ind ?_
  intro vr n l ih s d w S v v' hv hv' hd0 hd1
  obtain ⟨a, c, rfl, hs⟩ := hv'
  obtain ⟨sa, sc, rfl, hsl, hsm⟩ := hv.form
  simp only at hs ⊢
  obtain ⟨_, _, he, hl, hm⟩ := hs.form
  clear he
  have IH := Lib.hid ih; clear ih
  have HV := Lib.hid hs; clear hs
  have HS := Lib.hid hv; clear hv
  by_cases h12 : 12 < d
  · have hfin : Hid (walk s ⟨vr, n, l⟩ d = 4) := by simp [walk, h12, Hid]
    go_enter Tryd.func76, Tryd.ntmps76
    go_wp2_with fail
    go_ret
    rw [hfin.out]
    exact ⟨rfl, (Below.refl _ _).alloc (Nat.le_refl _) _⟩
  cases vr
  case true =>
    by_cases hn0 : n < 0
    · have hfin : Hid (walk s ⟨true, n, l⟩ d = 3) := by simp [walk, h12, hn0, Hid]
      go_enter Tryd.func76, Tryd.ntmps76
      go_wp2_with fail
      go_ret
      rw [hfin.out]
      exact ⟨rfl, (Below.refl _ _).alloc (Nat.le_refl _) _⟩
    by_cases hn4 : 4 < n
    · have hfin : Hid (walk s ⟨true, n, l⟩ d = 3) := by simp [walk, h12, hn4, Hid]
      go_enter Tryd.func76, Tryd.ntmps76
      go_wp2_with fail
      go_ret
      rw [hfin.out]
      exact ⟨rfl, (Below.refl _ _).alloc (Nat.le_refl _) _⟩
    by_cases hl0 : l.length = 0
    · have hfin : Hid (walk s ⟨true, n, l⟩ d = 0) := by simp [walk, h12, hn0, hn4, hl0, Hid]
      have hl0' : ¬ (0 < l.length) := by omega
      clear hl0
      go_enter Tryd.func76, Tryd.ntmps76
      go_wp2_with fail
      go_ret
      rw [hfin.out]
      exact ⟨rfl, (Below.refl _ _).alloc (Nat.le_refl _) _⟩
    · have hfin : Hid (walk s ⟨true, n, l⟩ d = 5) := by simp [walk, h12, hn0, hn4, hl0, Hid]
      have hl0' : 0 < l.length := by omega
      clear hl0
      go_enter Tryd.func76, Tryd.ntmps76
      go_wp2_with fail
      go_ret
      rw [hfin.out]
      exact ⟨rfl, (Below.refl _ _).alloc (Nat.le_refl _) _⟩
  by_cases hn0 : n < 0
  · have hfin : Hid (walk s ⟨false, n, l⟩ d = 7) := by simp [walk, h12, hn0, Hid]
    go_enter Tryd.func76, Tryd.ntmps76
    go_wp2_with fail
    go_ret
    rw [hfin.out]
    exact ⟨rfl, (Below.refl _ _).alloc (Nat.le_refl _) _⟩
  by_cases hns : (s.length : Int) ≤ n
  · have hfin : Hid (walk s ⟨false, n, l⟩ d = 7) := by simp [walk, h12, hns, Hid]
    go_enter Tryd.func76, Tryd.ntmps76
    go_wp2_with fail
    go_ret
    rw [hfin.out]
    exact ⟨rfl, (Below.refl _ _).alloc (Nat.le_refl _) _⟩
  obtain ⟨m, rfl⟩ := Int.eq_ofNat_of_zero_le (a := n) (by omega)
  have hms : m < s.length := by omega
  obtain ⟨y, b, o, hy, hSb, hbw, hiy, p0⟩ := HS.out.nthI slSig hms
  have hget : Hid (s.getD m 0 = y) := by
    have := hy.out
    simp [List.getD, this, Hid]
  rcases Decidable.em ((l.length : Int) = y) with hly | hly
  rotate_left
  · have hfin : Hid (walk s ⟨false, m, l⟩ d = 5) := by
      have := hget.out
      simp only [walk, if_neg h12, if_neg (show ¬ (false = true) by simp), if_neg (show ¬ ((m : Int) < 0 ∨ (s.length : Int) ≤ m) by omega), Int.toNat_natCast, this, if_neg hly, Hid]
    have hly' : ((l.length : Int) != y) = true := by rw [bne_iff_ne]; exact hly
    clear hly
    go_enter Tryd.func76, Tryd.ntmps76
    go_wp2_with fail
    go_quiet (fail)
    go_wp2_with fail
    go_ret
    rw [hfin.out]
    exact ⟨rfl, (below_drewN ((Below.refl _ _).alloc (Nat.le_refl _) _) _)⟩
  have hfin : Hid (walk s ⟨false, m, l⟩ d = walks s l (d + 1)) := by
    have := hget.out
    simp only [walk, if_neg h12, if_neg (show ¬ (false = true) by simp), if_neg (show ¬ ((m : Int) < 0 ∨ (s.length : Int) ≤ m) by omega), Int.toNat_natCast, this, if_pos hly, Hid]
  have hly' : ((l.length : Int) != y) = false := by rw [bne_eq_false_iff_eq]; exact hly
  clear hly
  go_enter Tryd.func76, Tryd.ntmps76
  go_wp2_with fail
  go_quiet (fail)
  go_wp2_with fail
  go_loopw [48] (fun i wr => ∃ k : Nat, k ≤ l.length ∧ i = .int .i64 k ∧ walks s (l.take k) (d + 1) = 0 ∧ Below w.heap.size w wr)
    (fun i _ => l.length - (intOf i).toNat)
  case atStart => exact ⟨0, Nat.zero_le _, rfl, rfl, (below_drewN ((Below.refl _ _).alloc (Nat.le_refl _) _) _)⟩
  case round =>
    obtain ⟨k, hk, rfl, hw0, hbel⟩ := hrel
    have HW0 := Lib.hid hw0; clear hw0
    have hbs := hbel.size
    by_cases hkl : k < l.length
    · obtain ⟨x, b', o', a1, c1, hx, hSb', hbw', hix, q0, q1, q2, hxs⟩ := (HV.out.below hbel (Nat.le_refl _)).nthT slTerm hkl
      have HX := Lib.hid hxs; clear hxs
      go_wp2_with fail
      refine (IH.out x (mem_of_get hx.out) s (d + 1) _ S _ _ (((HS.out.below hbel (Nat.le_refl _))).alloc _) (RdT.alloc ⟨a1, c1, rfl, HX.out⟩ _) (by omega) (by omega)).mono ?_
      rintro e w1 ⟨rfl, hb1⟩
      have hb2 : Below w.heap.size w w1 := (hbel.alloc hbs _).trans (hb1.mono (by simp; omega))
      clear hb1
      rcases Decidable.em (walk s x (d + 1) = 0) with hw | hw
      · have hw' : (walk s x (d + 1) != 0) = false := by rw [bne_eq_false_iff_eq]; exact hw
        have HW := Lib.hid hw; clear hw
        go_wp2_with fail
        go_roundw
        case rel => exact ⟨k + 1, by omega, by go_num, walks_succ HW0.out hx.out HW.out, hb2⟩
        case measure => simp [intOf]; omega
      · have hw' : (walk s x (d + 1) != 0) = true := by rw [bne_iff_ne]; exact hw
        have HW := Lib.hid hw; clear hw
        go_wp2_with fail
        go_ret
        exact ⟨by rw [hfin.out, walks_no HW0.out hx.out HW.out]; rfl, hb2⟩
    · go_wp2_with fail
      go_ret
      have : k = l.length := by omega
      subst this
      have := HW0.out
      rw [List.take_length] at this
      rw [hfin.out, this]
      exact ⟨rfl, hbel⟩
set_option maxHeartbeats 2000000 in
theorem pform_any : ∀ t, WalkC 75 t := by
  refine Tm.ind ?_
  intro vr n l ih s d w S v v' hv hv' hd0 hd1
  obtain ⟨a, c, rfl, hs⟩ := hv'
  obtain ⟨sa, sc, rfl, hsl, hsm⟩ := hv.form
  simp only at hs ⊢
  obtain ⟨_, _, he, hl, hm⟩ := hs.form
  clear he
  have IH := Lib.hid ih; clear ih
  have HV := Lib.hid hs; clear hs
  have HS := Lib.hid hv; clear hv
  by_cases h12 : 12 < d
  · have hfin : Hid (walk s ⟨vr, n, l⟩ d = 4) := by simp [walk, h12, Hid]
    go_enter Tryd.func75, Tryd.ntmps75
    go_wp2_with fail
    go_ret
    rw [hfin.out]
    exact ⟨rfl, (Below.refl _ _).alloc (Nat.le_refl _) _⟩
  cases vr
  case true =>
    by_cases hn0 : n < 0
    · have hfin : Hid (walk s ⟨true, n, l⟩ d = 3) := by simp [walk, h12, hn0, Hid]
      go_enter Tryd.func75, Tryd.ntmps75
      go_wp2_with fail
      go_ret
      rw [hfin.out]
      exact ⟨rfl, (Below.refl _ _).alloc (Nat.le_refl _) _⟩
    by_cases hn4 : 4 < n
    · have hfin : Hid (walk s ⟨true, n, l⟩ d = 3) := by simp [walk, h12, hn4, Hid]
      go_enter Tryd.func75, Tryd.ntmps75
      go_wp2_with fail
      go_ret
      rw [hfin.out]
      exact ⟨rfl, (Below.refl _ _).alloc (Nat.le_refl _) _⟩
    by_cases hl0 : l.length = 0
    · have hfin : Hid (walk s ⟨true, n, l⟩ d = 0) := by simp [walk, h12, hn0, hn4, hl0, Hid]
      have hl0' : ¬ (0 < l.length) := by omega
      clear hl0
      go_enter Tryd.func75, Tryd.ntmps75
      go_wp2_with fail
      go_ret
      rw [hfin.out]
      exact ⟨rfl, (Below.refl _ _).alloc (Nat.le_refl _) _⟩
    · have hfin : Hid (walk s ⟨true, n, l⟩ d = 5) := by simp [walk, h12, hn0, hn4, hl0, Hid]
      have hl0' : 0 < l.length := by omega
      clear hl0
      go_enter Tryd.func75, Tryd.ntmps75
      go_wp2_with fail
      go_ret
      rw [hfin.out]
      exact ⟨rfl, (Below.refl _ _).alloc (Nat.le_refl _) _⟩
  by_cases hn0 : n < 0
  · have hfin : Hid (walk s ⟨false, n, l⟩ d = 7) := by simp [walk, h12, hn0, Hid]
    go_enter Tryd.func75, Tryd.ntmps75
    go_wp2_with fail
    go_ret
    rw [hfin.out]
    exact ⟨rfl, (Below.refl _ _).alloc (Nat.le_refl _) _⟩
  by_cases hns : (s.length : Int) ≤ n
  · have hfin : Hid (walk s ⟨false, n, l⟩ d = 7) := by simp [walk, h12, hns, Hid]
    go_enter Tryd.func75, Tryd.ntmps75
    go_wp2_with fail
    go_ret
    rw [hfin.out]
    exact ⟨rfl, (Below.refl _ _).alloc (Nat.le_refl _) _⟩
  obtain ⟨m, rfl⟩ := Int.eq_ofNat_of_zero_le (a := n) (by omega)
  have hms : m < s.length := by omega
  obtain ⟨y, b, o, hy, hSb, hbw, hiy, p0⟩ := HS.out.nthI slSig hms
  have hget : Hid (s.getD m 0 = y) := by
    have := hy.out
    simp [List.getD, this, Hid]
  rcases Decidable.em ((l.length : Int) = y) with hly | hly
  rotate_left
  · have hfin : Hid (walk s ⟨false, m, l⟩ d = 5) := by
      have := hget.out
      simp only [walk, if_neg h12, if_neg (show ¬ (false = true) by simp), if_neg (show ¬ ((m : Int) < 0 ∨ (s.length : Int) ≤ m) by omega), Int.toNat_natCast, this, if_neg hly, Hid]
    have hly' : ((l.length : Int) != y) = true := by rw [bne_iff_ne]; exact hly
    clear hly
    go_enter Tryd.func75, Tryd.ntmps75
    go_wp2_with fail
    go_quiet (fail)
    go_wp2_with fail
    go_ret
    rw [hfin.out]
    exact ⟨rfl, (below_drewN ((Below.refl _ _).alloc (Nat.le_refl _) _) _)⟩
  have hfin : Hid (walk s ⟨false, m, l⟩ d = walks s l (d + 1)) := by
    have := hget.out
    simp only [walk, if_neg h12, if_neg (show ¬ (false = true) by simp), if_neg (show ¬ ((m : Int) < 0 ∨ (s.length : Int) ≤ m) by omega), Int.toNat_natCast, this, if_pos hly, Hid]
  have hly' : ((l.length : Int) != y) = false := by rw [bne_eq_false_iff_eq]; exact hly
  clear hly
  go_enter Tryd.func75, Tryd.ntmps75
  go_wp2_with fail
  go_quiet (fail)
  go_wp2_with fail
  go_loopw [62] (fun i wr => ∃ k : Nat, k ≤ l.length ∧ i = .int .i64 k ∧ walks s (l.take k) (d + 1) = 0 ∧ Below w.heap.size w wr)
    (fun i _ => l.length - (intOf i).toNat)
  case atStart => exact ⟨0, Nat.zero_le _, rfl, rfl, (below_drewN ((Below.refl _ _).alloc (Nat.le_refl _) _) _)⟩
  case round =>
    obtain ⟨k, hk, rfl, hw0, hbel⟩ := hrel
    have HW0 := Lib.hid hw0; clear hw0
    have hbs := hbel.size
    by_cases hkl : k < l.length
    · obtain ⟨x, b', o', a1, c1, hx, hSb', hbw', hix, q0, q1, q2, hxs⟩ := (HV.out.below hbel (Nat.le_refl _)).nthT slTerm hkl
      have HX := Lib.hid hxs; clear hxs
      go_wp2_with fail
      refine (IH.out x (mem_of_get hx.out) s (d + 1) _ S _ _ (((HS.out.below hbel (Nat.le_refl _))).alloc _) (RdT.alloc ⟨a1, c1, rfl, HX.out⟩ _) (by omega) (by omega)).mono ?_
      rintro e w1 ⟨rfl, hb1⟩
      have hb2 : Below w.heap.size w w1 := (hbel.alloc hbs _).trans (hb1.mono (by simp; omega))
      clear hb1
      rcases Decidable.em (walk s x (d + 1) = 0) with hw | hw
      · have hw' : (walk s x (d + 1) != 0) = false := by rw [bne_eq_false_iff_eq]; exact hw
        have HW := Lib.hid hw; clear hw
        go_wp2_with fail
        go_roundw
        case rel => exact ⟨k + 1, by omega, by go_num, walks_succ HW0.out hx.out HW.out, hb2⟩
        case measure => simp [intOf]; omega
      · have hw' : (walk s x (d + 1) != 0) = true := by rw [bne_iff_ne]; exact hw
        have HW := Lib.hid hw; clear hw
        go_wp2_with fail
        go_ret
        exact ⟨by rw [hfin.out, walks_no HW0.out hx.out HW.out]; rfl, hb2⟩
    · go_wp2_with fail
      go_ret
      have : k = l.length := by omega
      subst this
      have := HW0.out
      rw [List.take_length] at this
      rw [hfin.out, this]
      exact ⟨rfl, hbel⟩

def WrongC (f : Nat) : Prop := ∀ (s : List Int) (t : Tm) (w : World) (S : Nat → Prop) (v v' : Value), RdI w S s v → RdT w S t v' →
  Calls Tryd.prog f #[v, v'] w fun e w' => e = .returned (.int .i64 (wrong s t)) ∧ Below w.heap.size w w'

set_option maxHeartbeats 1000000 in
theorem rwrong_any : WrongC 26 := by
  intro s t w S v v' hs ht
  obtain ⟨a, c, rfl, hts⟩ := ht
  obtain ⟨sa, sc, rfl, hsl, hsm⟩ := hs.form
  have HS := Lib.hid hs; clear hs
  have HV := Lib.hid hts; clear hts
  go_enter Tryd.func26, Tryd.ntmps26
  go_wp2_with fail
  refine (rwalk_any t s 1 _ S _ _ (HS.out.alloc _) (RdT.alloc ⟨a, c, rfl, HV.out⟩ _) (by omega) (by omega)).mono ?_
  rintro e w1 ⟨rfl, hb1⟩
  have hb2 : Below w.heap.size w w1 := ((Below.refl _ _).alloc (Nat.le_refl _) _).trans (hb1.mono (by simp))
  have q0 := (hb1.cell (p := ⟨w.heap.size, 0, none⟩) (by simp)).trans (World.cell?_alloc_new _ _ _ _)
  have q1 := (hb1.cell (p := ⟨w.heap.size, 1, none⟩) (by simp)).trans (World.cell?_alloc_new _ _ _ _)
  have q2 := (hb1.cell (p := ⟨w.heap.size, 2, none⟩) (by simp)).trans (World.cell?_alloc_new _ _ _ _)
  simp at q0 q1 q2
  clear hb1
  rcases Decidable.em (walk s t 1 = 0) with hw | hw
  rotate_left
  · have hw' : (walk s t 1 != 0) = true := by rw [bne_iff_ne]; exact hw
    have HW := Lib.hid hw; clear hw
    go_wp2_with fail
    go_ret
    exact ⟨by simp [wrong, HW.out], hb2⟩
  have hw' : (walk s t 1 != 0) = false := by rw [bne_eq_false_iff_eq]; exact hw
  have HW := Lib.hid hw; clear hw
  go_wp2_with fail
  refine (rsizeW_any t _ S _ ⟨a, c, rfl, HV.out.below hb2 (Nat.le_refl _)⟩).mono ?_
  rintro e w2 ⟨rfl, hb3⟩
  have hb4 : Below w.heap.size w w2 := hb2.trans (hb3.mono hb2.size)
  clear hb3
  obtain ⟨C, hC⟩ : ∃ C, C = wrap64 (t.size : Int) := ⟨_, rfl⟩
  have HC := Lib.hid hC
  rw [← hC]; clear hC
  by_cases h12 : 12 < C
  · go_wp2_with fail
    go_ret
    exact ⟨by have := HC.out; subst this; simp [wrong, HW.out, h12], hb4⟩
  · go_wp2_with fail
    go_ret
    exact ⟨by have := HC.out; subst this; simp only [wrong, HW.out, if_true, if_neg (show ¬ (12 < wrap64 (t.size : Int)) by omega)]; rfl, hb4⟩
set_option maxHeartbeats 1000000 in
theorem pwrong_any : WrongC 25 := by
  intro s t w S v v' hs ht
  obtain ⟨a, c, rfl, hts⟩ := ht
  obtain ⟨sa, sc, rfl, hsl, hsm⟩ := hs.form
  have HS := Lib.hid hs; clear hs
  have HV := Lib.hid hts; clear hts
  go_enter Tryd.func25, Tryd.ntmps25
  go_wp2_with fail
  refine (pform_any t s 1 _ S _ _ (HS.out.alloc _) (RdT.alloc ⟨a, c, rfl, HV.out⟩ _) (by omega) (by omega)).mono ?_
  rintro e w1 ⟨rfl, hb1⟩
  have hb2 : Below w.heap.size w w1 := ((Below.refl _ _).alloc (Nat.le_refl _) _).trans (hb1.mono (by simp))
  have q0 := (hb1.cell (p := ⟨w.heap.size, 0, none⟩) (by simp)).trans (World.cell?_alloc_new _ _ _ _)
  have q1 := (hb1.cell (p := ⟨w.heap.size, 1, none⟩) (by simp)).trans (World.cell?_alloc_new _ _ _ _)
  have q2 := (hb1.cell (p := ⟨w.heap.size, 2, none⟩) (by simp)).trans (World.cell?_alloc_new _ _ _ _)
  simp at q0 q1 q2
  clear hb1
  rcases Decidable.em (walk s t 1 = 0) with hw | hw
  rotate_left
  · have hw' : (walk s t 1 != 0) = true := by rw [bne_iff_ne]; exact hw
    have HW := Lib.hid hw; clear hw
    go_wp2_with fail
    go_ret
    exact ⟨by simp [wrong, HW.out], hb2⟩
  have hw' : (walk s t 1 != 0) = false := by rw [bne_eq_false_iff_eq]; exact hw
  have HW := Lib.hid hw; clear hw
  go_wp2_with fail
  refine (psizeW_any t _ S _ ⟨a, c, rfl, HV.out.below hb2 (Nat.le_refl _)⟩).mono ?_
  rintro e w2 ⟨rfl, hb3⟩
  have hb4 : Below w.heap.size w w2 := hb2.trans (hb3.mono hb2.size)
  clear hb3
  obtain ⟨C, hC⟩ : ∃ C, C = wrap64 (t.size : Int) := ⟨_, rfl⟩
  have HC := Lib.hid hC
  rw [← hC]; clear hC
  by_cases h12 : 12 < C
  · go_wp2_with fail
    go_ret
    exact ⟨by have := HC.out; subst this; simp [wrong, HW.out, h12], hb4⟩
  · go_wp2_with fail
    go_ret
    exact ⟨by have := HC.out; subst this; simp only [wrong, HW.out, if_true, if_neg (show ¬ (12 < wrap64 (t.size : Int)) by omega)]; rfl, hb4⟩

end Go.Proofs.YtmanhdacnkpclaaDoor
