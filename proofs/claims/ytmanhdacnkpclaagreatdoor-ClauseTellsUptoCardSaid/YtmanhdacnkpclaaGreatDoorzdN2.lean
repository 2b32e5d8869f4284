/- What functions do: a clause as it is kept, by the document's answer. -/
import Derived.Test.YtmanhdacnkpclaaGreatDoorzdNn
import Derived.Test.YtmanhdacnkpclaaGreatDoorzdEb
namespace Go.Proofs.YtmanhdacnkpclaaGreatDoor
set_option linter.all false
open Go.RowKit

theorem rabove (t u : Tm) (hsz : t.size ≤ 4398046511104) (hsz' : u.size ≤ 4398046511104) : FnD Tryz.prog 42 [tA t, tA u] (.one (bA (above t u))) := by
  refine Fn.ofElder fun who w vs hl ha => ?_
  obtain ⟨x, y, rfl, hx, hy⟩ := A1m.two hl ha
  exact rabove_any t u w (Fz who) x y hx.rdt hy.rdt hsz hsz'
theorem op_sliceHiT {P : Program} {n : Nat} {o : Oper} {σ : St} {T : Tabs P} {α : Type} {f : α → D} {m : Nat} {g : α → List FC} [FCs f m g] {l : List α} {d t E b : Nat} {zi : Int} {s i : Operand} (hd : o.dst = some d) (ho : o.op = .slice t s none (some i) none) (hT : T.sl t = some (E, m, b)) (hs : St.ev σ s = some (.one (.c (.arr (l.map f)))))
    (hi0 : St.ev σ i = some (.one (.c (.val (.int .i64 zi))))) (h0 : 0 ≤ zi) (hkk : zi.toNat ≤ l.length) : Op1 P n o ⟨(opKey s ++ opKey i) ++ [], [.t d], []⟩ σ [(.t d, some (.one (.c (.arr ((l.take zi.toNat).map f)))))] := by
  obtain ⟨z, hz⟩ := T.sl_ok hT
  obtain ⟨k, rfl⟩ := Int.eq_ofNat_of_zero_le h0
  have hk : k ≤ l.length := by simpa using hkk
  rw [Int.toNat_natCast]
  have := op_slice (o := o) (n := n) (σ := σ) (l := 0) (h := k) (lo := none) (hi := some i) (rs := (l.take k).map f) hd ho hz hs rfl hi0 (Nat.zero_le _) (by simpa using hk) (FCs.lenL l) (by
    simp [List.map_take])
  simpa [X.ids, A1.ids, CV.ids] using this
set_option maxRecDepth 100000 in
theorem rnorm1 (by_ : List Pr) (hl : by_.length ≤ 4000000000000) (t : Tm) (hz : t.size ≤ 2000000000000) : FnD Tryz.prog 43 [tA t, .c (.fp [.arr (by_.map Pr.d)])] (.one (tA (app by_ t))) := by
  refine Fn.of Tryz.func43 rfl Tryz.ntmps43 rfl (Nat.le_of_ble_eq_true rfl) ?_
  (refine wlk ?_)
  (refine SqA.b1 (op_call none rfl rfl rfl (by kernel_rfl) (FnD.use (ap by_ hl t hz)) rfl rfl rfl rfl rfl rfl) rfl rfl ?_)
  (refine wlk ?_)
  (first | (refine finR (.cellN rfl rfl (rw_of rfl) rfl rfl .nil) rfl rfl ?_) | (refine finN (.cellN rfl rfl (rw_of rfl) rfl rfl .nil) rfl rfl ?_))
  rfl
def bigS (l : Lt) : Bool := decide (12 < l.left.size) || decide (12 < l.right.size)
theorem bigCl_eq (d : List Lt) : bigCl d = d.any bigS := by
  unfold bigCl
  congr 1; funext l
  unfold bigS
  rw [Bool.eq_iff_iff]; simp
theorem any_snoc {α : Type} {p : α → Bool} {l : List α} {k : Nat} {x : α} (h : l[k]? = some x) : (l.take (k + 1)).any p = ((l.take k).any p || p x) := by rw [take_succ_of h]; simp
theorem any_hit {α : Type} {p : α → Bool} {l : List α} {k : Nat} {x : α} (h : l[k]? = some x) (hp : p x = true) : l.any p = true := List.any_eq_true.2 ⟨x, List.mem_of_getElem? h, hp⟩
set_option maxHeartbeats 40000000 in
set_option maxRecDepth 100000 in
theorem rnorm (c : List Lt) (hk : clOkv c) (hf : clFew c) (hz : clSz c) (hl : c.length ≤ 1000) : FnD Tryz.prog 13 [lA Lt.d c] (.tup [lA Lt.d (norm c).1, iA (norm c).2]) := by
  refine Fn.of Tryz.func13 rfl Tryz.ntmps13 rfl (Nat.le_of_ble_eq_true rfl) ?_
  (refine wlk ?_)
  refine dwp_loop (fun p : Nat × List Lt => [(.t 4, some (.one (.c (.own 44 7 (p.2.map Lt.d))))), (.t 20, some (.one (lA Lt.d c))), (.t 21, some (.one (iA c.length))), (.t 22, some (.one (iA p.1)))])
    (fun p => p.1 ≤ c.length ∧ orients (c.take p.1) = some p.2) (fun p => c.length - p.1) (0, []) ⟨by simp only; omega, rfl⟩ ((Wk.nilOwn (d := 4) (E := 44) (m := 7) rfl).trans fgs) ?_
  rintro ⟨k, o⟩ ⟨hkk, ho⟩
  dsimp only at hkk ho ⊢
  by_cases hkl : k < c.length
  · obtain ⟨⟨ng, xl, xr⟩, hx⟩ := get_of_lt hkl
    have hm := List.mem_of_getElem? hx
    have hkx := hk _ hm
    have hzx := hz _ hm
    dsimp only at hkx hzx
    have hol := orients_len ho
    rw [List.length_take] at hol
    have hsm := rsame xl xr
    have hab := rabove xr xl (by omega) (by omega)
    cases hs : xl.same xr
    · rw [hs] at hsm
      have hmo := orients_more ho hx hs
      cases ha : above xr xl
      · have hor : orient1 ⟨ng, xl, xr⟩ = ⟨ng, xl, xr⟩ := if_neg (by simp [ha])
        rw [hor] at hmo
        rw [ha] at hab
        have hrl : (o ++ [(⟨ng, xl, xr⟩ : Lt)]).length ≤ 1001 := by simp; omega
        have hr1 : o ++ [(⟨ng, xl, xr⟩ : Lt)] = o ++ [⟨ng, xl, xr⟩] := rfl
        (refine wlk ?_)
        (refine SqA.b1 (op_call none rfl rfl rfl (by kernel_rfl) (FnD.use (hsm)) rfl rfl rfl rfl rfl rfl) rfl rfl ?_)
        (refine wlk ?_)
        (refine SqA.b1 (op_call none rfl rfl rfl (by kernel_rfl) (FnD.use (hab)) rfl rfl rfl rfl rfl rfl) rfl rfl ?_)
        (refine wlk ?_)
        (refine SqA.b1 (op_bsT (T := TB) (f := Lt.d) [(⟨ng, xl, xr⟩ : Lt)] rfl rfl rfl rfl rfl rfl rfl rfl rfl rfl rfl) rfl rfl ?_)
        (refine wlk ?_)
        exact ⟨(k + 1, o ++ [⟨ng, xl, xr⟩]), ⟨by simp only; omega, hmo⟩, fgs, by simp only; omega⟩
      · have hor : orient1 ⟨ng, xl, xr⟩ = ⟨ng, xr, xl⟩ := if_pos ha
        rw [hor] at hmo
        rw [ha] at hab
        have hrl : (o ++ [(⟨ng, xr, xl⟩ : Lt)]).length ≤ 1001 := by simp; omega
        have hr1 : o ++ [(⟨ng, xr, xl⟩ : Lt)] = o ++ [⟨ng, xr, xl⟩] := rfl
        (refine wlk ?_)
        (refine SqA.b1 (op_call none rfl rfl rfl (by kernel_rfl) (FnD.use (hsm)) rfl rfl rfl rfl rfl rfl) rfl rfl ?_)
        (refine wlk ?_)
        (refine SqA.b1 (op_call none rfl rfl rfl (by kernel_rfl) (FnD.use (hab)) rfl rfl rfl rfl rfl rfl) rfl rfl ?_)
        (refine wlk ?_)
        (refine SqA.b1 (op_bsT (T := TB) (f := Lt.d) [(⟨ng, xr, xl⟩ : Lt)] rfl rfl rfl rfl rfl rfl rfl rfl rfl rfl rfl) rfl rfl ?_)
        (refine wlk ?_)
        exact ⟨(k + 1, o ++ [⟨ng, xr, xl⟩]), ⟨by simp only; omega, hmo⟩, fgs, by simp only; omega⟩
    · rw [hs] at hsm
      cases ng
      · (refine wlk ?_)
        (refine SqA.b1 (op_call none rfl rfl rfl (by kernel_rfl) (FnD.use (hsm)) rfl rfl rfl rfl rfl rfl) rfl rfl ?_)
        (refine wlk ?_)
        refine fin_wk (fun n => Wk.nilArr (d := 2) rfl) ?_
        (first | (refine finR (.tmp rfl (.tmp rfl .nil)) rfl rfl ?_) | (refine finN (.tmp rfl (.tmp rfl .nil)) rfl rfl ?_))
        exact Xn (c := []) (e := 6) (norm_n1 (orients_none_at ho hx hs rfl)).symm
      · (refine wlk ?_)
        (refine SqA.b1 (op_call none rfl rfl rfl (by kernel_rfl) (FnD.use (hsm)) rfl rfl rfl rfl rfl rfl) rfl rfl ?_)
        (refine wlk ?_)
        exact ⟨(k + 1, o), ⟨by simp only; omega, orients_skip ho hx hs rfl⟩, fgs, by simp only; omega⟩
  have : k = c.length := by omega
  subst this
  rw [List.take_length] at ho
  have hol := orients_len ho
  have hko := orients_okv ho hk
  have hfo := orients_few ho hf
  have hzo := orients_sz ho hz
  have hvs := rclVars o hko hfo hzo
  have hv10 := clVars_ten hfo
  have hzq := numb_sz hko hzo
  have hap := rEach1 43 [.arr ((numb (clVars [] o)).map Pr.d)] (app (numb (clVars [] o))) (by kernel_rfl) o (by omega) fun x hx => by
    have h1 := hzo x hx
    have h2 := numb_len (clVars [] o)
    exact ⟨rnorm1 _ (by omega) _ (by omega), rnorm1 _ (by omega) _ (by omega)⟩
  have hn2 := norm_n2 ho
  have hn3 := @norm_n3 c o
  have hql : (each (app (numb (clVars [] o))) o).length = o.length := each_len
  generalize each (app (numb (clVars [] o))) o = q at *
  generalize clVars [] o = vs at *
  refine dwp_wk (Wk.freezeAt (d := 4) rfl) ?_
  (refine wlk ?_)
  (refine SqA.b1 (op_call none rfl rfl rfl (by kernel_rfl) (FnD.use (hvs)) rfl rfl rfl rfl rfl rfl) rfl rfl ?_)
  (refine wlk ?_)
  refine dwp_loop (fun k : Nat => [(.t 4, some (.one (lA Lt.d o))), (.t 7, some (.one (lA Int.d vs))), (.t 8, some (.one (.c (.ptr 8 0)))), (.b 8, some (.box [.own 38 4 ((numb (vs.take k)).map Pr.d)])), (.t 54, some (.one (lA Int.d vs))), (.t 55, some (.one (iA vs.length))), (.t 56, some (.one (iA k)))])
    (fun k => k ≤ vs.length) (fun k => vs.length - k) 0 (by omega) fgs ?_
  intro k hk'
  by_cases hkl : k < vs.length
  · obtain ⟨v, hx⟩ := get_of_lt hkl
    have hsn := numb_snoc hx
    have hnl : (numb (vs.take (k + 1))).length ≤ 10 := by rw [numb_len, List.length_take]; omega
    (refine wlk ?_)
    (refine SqA.b2 (Op1.reN (t := 65) rfl (op_bsT (T := TB) (f := Pr.d) [((v, ⟨true, (k : Int), []⟩) : Pr)] rfl rfl rfl rfl rfl rfl rfl rfl rfl rfl rfl)) rfl rfl ?_)
    (refine wlk ?_)
    exact ⟨k + 1, by omega, fgs, by omega⟩
  have : k = vs.length := by omega
  subst this
  rw [List.take_length]
  refine dwp_wk (Wk.freezeB (j := 8) (q := 0) rfl rfl rfl rfl) ?_
  refine dwp_wk (Wk.frzF (t := 8) (j := 8) (fs := [.arr ((numb vs).map Pr.d)]) rfl rfl rfl rfl rfl) ?_
  generalize numb vs = sb at *
  (refine wlk ?_)
  (refine SqA.b1 (op_mkFn rfl rfl rfl) rfl rfl ?_)
  (refine wlk ?_)
  (refine SqA.b1 (op_call none rfl rfl rfl (by kernel_rfl) (FnD.use (hap)) rfl rfl rfl rfl rfl rfl) rfl rfl ?_)
  (refine wlk ?_)
  refine dwp_loop (fun p : Nat × List Lt => [(.t 4, some (.one (lA Lt.d q))), (.t 7, some (.one (lA Int.d vs))), (.t 11, some (.one (.c (.own 44 7 (p.2.map Lt.d))))), (.t 72, some (.one (lA Lt.d q))), (.t 73, some (.one (iA q.length))), (.t 74, some (.one (iA p.1)))])
    (fun p => p.1 ≤ q.length ∧ dedup [] (q.take p.1) = some p.2) (fun p => q.length - p.1) (0, []) ⟨by simp only; omega, rfl⟩ ((Wk.nilOwn (d := 11) (E := 44) (m := 7) rfl).trans fgs) ?_
  rintro ⟨k, once⟩ ⟨hkk, ho3⟩
  dsimp only at hkk ho3 ⊢
  by_cases hkl : k < q.length
  · obtain ⟨⟨ng, xl, xr⟩, hx⟩ := get_of_lt hkl
    have hol3 := dedup_len ho3
    rw [List.length_take] at hol3
    simp only [List.length_nil] at hol3
    have hconf := before_conf ho3 ⟨ng, xl, xr⟩
    have hkt : ((k : Int)).toNat = k := Int.toNat_natCast k
    (refine wlk ?_)
    (refine SqA.b1 (op_sliceHiT (T := TB) rfl rfl rfl rfl rfl (by omega) (by omega)) rfl rfl ?_)
    (refine wlk ?_)
    refine dwp_loop (fun j : Nat => [(.t 4, some (.one (lA Lt.d q))), (.t 7, some (.one (lA Int.d vs))), (.t 11, some (.one (.c (.own 44 7 (once.map Lt.d))))), (.t 13, some (.one (.c (.ptr 13 0)))), (.b 13, some (.box (ltA ⟨ng, xl, xr⟩).cells)),
        (.t 14, some (.one (bA ((q.take k).take j |>.any fun y => like ⟨ng, xl, xr⟩ y)))), (.t 72, some (.one (lA Lt.d q))), (.t 73, some (.one (iA q.length))), (.t 74, some (.one (iA k))), (.t 81, some (.one (lA Lt.d (q.take k)))), (.t 82, some (.one (iA (q.take k).length))), (.t 83, some (.one (iA j)))])
      (fun j => j ≤ (q.take k).length ∧ ∀ (i : Nat) y, i < j → (q.take k)[i]? = some y → (like ⟨ng, xl, xr⟩ y && (ng != y.neg)) = false) (fun j => (q.take k).length - j) 0 ⟨by omega, fun j x h => absurd h (by omega)⟩ fgs ?_
    rintro j ⟨hj, hno⟩
    have hqk : (q.take k).length ≤ 1000 := by rw [List.length_take]; omega
    by_cases hjl : j < (q.take k).length
    · obtain ⟨⟨yn, yl, yr⟩, hy⟩ := get_of_lt hjl
      have g := rlike ⟨ng, xl, xr⟩ ⟨yn, yl, yr⟩
      have hsn := any_snoc (p := fun y => like ⟨ng, xl, xr⟩ y) hy
      have hcf : (like ⟨ng, xl, xr⟩ ⟨yn, yl, yr⟩ && (ng != yn)) = true → ((q.take k).any fun y => like ⟨ng, xl, xr⟩ y && (ng != y.neg)) = true := fun h => any_hit hy h
      (try dsimp only at hsn)
      generalize ((q.take k).take j |>.any fun y => like ⟨ng, xl, xr⟩ y) = b0 at *
      generalize hlk : like ⟨ng, xl, xr⟩ ⟨yn, yl, yr⟩ = b1 at *
      cases b1
      · cases b0
        · (refine wlk ?_)
          (refine SqA.b1 (op_call none rfl rfl rfl (by kernel_rfl) (FnD.use (g)) rfl rfl rfl rfl rfl rfl) rfl rfl ?_)
          (refine wlk ?_)
          (refine SqA.b1 (op_call none rfl rfl rfl (by kernel_rfl) (FnD.use (g)) rfl rfl rfl rfl rfl rfl) rfl rfl ?_)
          (refine wlk ?_)
          refine ⟨j + 1, ⟨by omega, upto_succ hno hy (by simp [hlk])⟩, ?_, by omega⟩
          rw [hsn]
          exact fgs
        · (refine wlk ?_)
          (refine SqA.b1 (op_call none rfl rfl rfl (by kernel_rfl) (FnD.use (g)) rfl rfl rfl rfl rfl rfl) rfl rfl ?_)
          (refine wlk ?_)
          refine ⟨j + 1, ⟨by omega, upto_succ hno hy (by simp [hlk])⟩, ?_, by omega⟩
          rw [hsn]
          exact fgs
      · cases hnn : (ng != yn)
        · cases b0
          · cases ng <;> cases yn <;> first | (cases hnn; done) | skip
            all_goals
              (refine wlk ?_)
              (refine SqA.b1 (op_call none rfl rfl rfl (by kernel_rfl) (FnD.use (g)) rfl rfl rfl rfl rfl rfl) rfl rfl ?_)
              (refine wlk ?_)
              (refine SqA.b1 (op_call none rfl rfl rfl (by kernel_rfl) (FnD.use (g)) rfl rfl rfl rfl rfl rfl) rfl rfl ?_)
              (refine wlk ?_)
              refine ⟨j + 1, ⟨by omega, upto_succ hno hy (by simp)⟩, ?_, by omega⟩
              rw [hsn]
              exact fgs
          · cases ng <;> cases yn <;> first | (cases hnn; done) | skip
            all_goals
              (refine wlk ?_)
              (refine SqA.b1 (op_call none rfl rfl rfl (by kernel_rfl) (FnD.use (g)) rfl rfl rfl rfl rfl rfl) rfl rfl ?_)
              (refine wlk ?_)
              refine ⟨j + 1, ⟨by omega, upto_succ hno hy (by simp)⟩, ?_, by omega⟩
              rw [hsn]
              exact fgs
        · have hN : hasN once ⟨ng, xl, xr⟩ = true := by
            rw [← hconf]
            exact hcf (by simp [hnn])
          have hS := before_excl ho3 hN
          have hres := hn2 (dedup_none_at ho3 hx hS hN)
          cases ng <;> cases yn <;> first | (cases hnn; done) | skip
          all_goals
            (refine wlk ?_)
            (refine SqA.b1 (op_call none rfl rfl rfl (by kernel_rfl) (FnD.use (g)) rfl rfl rfl rfl rfl rfl) rfl rfl ?_)
            (refine wlk ?_)
            refine fin_wk (fun n => Wk.nilArr (d := 2) rfl) ?_
            (first | (refine finR (.tmp rfl (.tmp rfl .nil)) rfl rfl ?_) | (refine finN (.tmp rfl (.tmp rfl .nil)) rfl rfl ?_))
            exact Xn (c := []) (e := 6) hres.symm
    · have hje : j = (q.take k).length := by omega
      subst hje
      rw [List.take_length]
      have hN : hasN once ⟨ng, xl, xr⟩ = false := by
        rw [← hconf]
        exact List.any_eq_false.2 fun y hy => by have := any_upto hno y hy; simpa using this
      have hhad := before_had ho3 hN
      generalize ((q.take k).any fun y => like ⟨ng, xl, xr⟩ y) = b0 at *
      cases b0
      · have hmo := dedup_more ho3 hx hhad.symm hN
        have hr1 : once ++ [(⟨ng, xl, xr⟩ : Lt)] = once ++ [⟨ng, xl, xr⟩] := rfl
        have hrl : (once ++ [(⟨ng, xl, xr⟩ : Lt)]).length ≤ 1001 := by simp; omega
        (refine wlk ?_)
        (refine SqA.b1 (op_bsT (T := TB) (f := Lt.d) [(⟨ng, xl, xr⟩ : Lt)] rfl rfl rfl rfl rfl rfl rfl rfl rfl rfl rfl) rfl rfl ?_)
        (refine wlk ?_)
        exact ⟨(k + 1, once ++ [⟨ng, xl, xr⟩]), ⟨by simp only; omega, hmo⟩, fgs, by simp only; omega⟩
      · (refine wlk ?_)
        exact ⟨(k + 1, once), ⟨by simp only; omega, dedup_skip ho3 hx hhad.symm⟩, fgs, by simp only; omega⟩
  have : k = q.length := by omega
  subst this
  rw [List.take_length] at ho3
  have hmem := dedup_mem ho3
  have hdl := dedup_len ho3
  simp only [List.length_nil] at hdl
  have hdz : clSz once := fun l hl => by
    rcases hmem l hl with h | h
    · cases h
    · exact hzq l h
  have hn4 := hn3 ho ho3
  refine dwp_wk (Wk.freezeAt (d := 11) rfl) ?_
  by_cases h4 : 4 < once.length
  · (refine wlk ?_)
    refine dwp_loop (fun k : Nat => [(.t 11, some (.one (lA Lt.d once))), (.t 17, some (.one (bA true))), (.t 119, some (.one (lA Lt.d once))), (.t 120, some (.one (iA once.length))), (.t 121, some (.one (iA k)))])
      (fun k => k ≤ once.length) (fun k => once.length - k) 0 (by omega) fgs ?_
    intro k hkk
    by_cases hkl : k < once.length
    · obtain ⟨x, hx⟩ := get_of_lt hkl
      (refine wlk ?_)
      exact ⟨k + 1, by omega, fgs, by omega⟩
    (refine wlk ?_)
    refine fin_wk (fun n => Wk.nilArr (d := 2) rfl) ?_
    (first | (refine finR (.tmp rfl (.tmp rfl .nil)) rfl rfl ?_) | (refine finN (.tmp rfl (.tmp rfl .nil)) rfl rfl ?_))
    exact Xn (c := []) (e := 4) (by rw [hn4, if_pos (.inl h4)])
  by_cases h5 : 5 < vs.length
  · (refine wlk ?_)
    refine dwp_loop (fun k : Nat => [(.t 11, some (.one (lA Lt.d once))), (.t 17, some (.one (bA true))), (.t 119, some (.one (lA Lt.d once))), (.t 120, some (.one (iA once.length))), (.t 121, some (.one (iA k)))])
      (fun k => k ≤ once.length) (fun k => once.length - k) 0 (by omega) fgs ?_
    intro k hkk
    by_cases hkl : k < once.length
    · obtain ⟨x, hx⟩ := get_of_lt hkl
      (refine wlk ?_)
      exact ⟨k + 1, by omega, fgs, by omega⟩
    (refine wlk ?_)
    refine fin_wk (fun n => Wk.nilArr (d := 2) rfl) ?_
    (first | (refine finR (.tmp rfl (.tmp rfl .nil)) rfl rfl ?_) | (refine finN (.tmp rfl (.tmp rfl .nil)) rfl rfl ?_))
    exact Xn (c := []) (e := 4) (by rw [hn4, if_pos (.inr (.inl h5))])
  (refine wlk ?_)
  refine dwp_loop (fun k : Nat => [(.t 11, some (.one (lA Lt.d once))), (.t 17, some (.one (bA (false || (once.take k).any bigS)))), (.t 119, some (.one (lA Lt.d once))), (.t 120, some (.one (iA once.length))), (.t 121, some (.one (iA k)))])
    (fun k => k ≤ once.length) (fun k => once.length - k) 0 (by omega) fgs ?_
  intro k hkk
  by_cases hkl : k < once.length
  · obtain ⟨⟨ng, xl, xr⟩, hx⟩ := get_of_lt hkl
    have hzx := hdz _ (List.mem_of_getElem? hx)
    dsimp only at hzx
    have g1 := rsize xl
    have g2 := rsize xr
    rw [w64 (by omega)] at g1 g2
    have hsn := any_snoc (p := bigS) hx
    have hbx : bigS ⟨ng, xl, xr⟩ = (decide (12 < xl.size) || decide (12 < xr.size)) := rfl
    rw [hbx] at hsn
    cases hb : (false || (once.take k).any bigS)
    · by_cases h1 : 12 < xl.size
      · (refine wlk ?_)
        (refine SqA.b1 (op_call none rfl rfl rfl (by kernel_rfl) (FnD.use (g1)) rfl rfl rfl rfl rfl rfl) rfl rfl ?_)
        (refine wlk ?_)
        refine ⟨k + 1, by omega, ?_, by omega⟩
        rw [hsn, ← Bool.or_assoc, hb, decide_eq_true h1]
        exact fgs
      by_cases h2 : 12 < xr.size
      · (refine wlk ?_)
        (refine SqA.b1 (op_call none rfl rfl rfl (by kernel_rfl) (FnD.use (g1)) rfl rfl rfl rfl rfl rfl) rfl rfl ?_)
        (refine wlk ?_)
        (refine SqA.b1 (op_call none rfl rfl rfl (by kernel_rfl) (FnD.use (g2)) rfl rfl rfl rfl rfl rfl) rfl rfl ?_)
        (refine wlk ?_)
        refine ⟨k + 1, by omega, ?_, by omega⟩
        rw [hsn, ← Bool.or_assoc, hb, decide_eq_false h1, decide_eq_true h2]
        exact fgs
      (refine wlk ?_)
      (refine SqA.b1 (op_call none rfl rfl rfl (by kernel_rfl) (FnD.use (g1)) rfl rfl rfl rfl rfl rfl) rfl rfl ?_)
      (refine wlk ?_)
      (refine SqA.b1 (op_call none rfl rfl rfl (by kernel_rfl) (FnD.use (g2)) rfl rfl rfl rfl rfl rfl) rfl rfl ?_)
      (refine wlk ?_)
      refine ⟨k + 1, by omega, ?_, by omega⟩
      rw [hsn, ← Bool.or_assoc, hb, decide_eq_false h1, decide_eq_false h2]
      exact fgs
    · (refine wlk ?_)
      refine ⟨k + 1, by omega, ?_, by omega⟩
      rw [hsn, ← Bool.or_assoc, hb]
      exact fgs
  have : k = once.length := by omega
  subst this
  rw [List.take_length]
  have hbc := bigCl_eq once
  cases hb : (false || once.any bigS)
  · have hbf : once.any bigS = false := by simpa using hb
    (refine wlk ?_)
    (first | (refine finR (.tmp rfl (.tmp rfl .nil)) rfl rfl ?_) | (refine finN (.tmp rfl (.tmp rfl .nil)) rfl rfl ?_))
    exact Xn (c := once) (e := 0) (by rw [hn4, if_neg (fun h => h.elim h4 fun h => h.elim h5 fun h => by rw [hbc, hbf] at h; cases h)])
  · (refine wlk ?_)
    refine fin_wk (fun n => Wk.nilArr (d := 2) rfl) ?_
    (first | (refine finR (.tmp rfl (.tmp rfl .nil)) rfl rfl ?_) | (refine finN (.tmp rfl (.tmp rfl .nil)) rfl rfl ?_))
    exact Xn (c := []) (e := 4) (by rw [hn4, if_pos (.inr (.inr (by rw [hbc]; simpa using hb)))])
end Go.Proofs.YtmanhdacnkpclaaGreatDoor
