/- What functions do: the document's Pick. -/
import Derived.Test.YtmanhdacnkpclaaGreatzh19
import Derived.Test.YtmanhdacnkpclaaGreatzh17
import Derived.Test.YtmanhdacnkpclaaGreatzh18
import Derived.Test.YtmanhdacnkpclaaGreatzh16
import Derived.Test.YtmanhdacnkpclaaGreatzh06
import Derived.Test.YtmanhdacnkpclaaGreatzh07
namespace Go.Proofs.YtmanhdacnkpclaaGreat
set_option linter.all false
set_option maxRecDepth 1000000
set_option maxHeartbeats 32000000
open Go.RowKit
section
variable {P : Program} {n : Nat} {σ : St}
theorem dwp_mid2 {α : Type} {c rest : Code} {Q : Exit → St → Prop} (I : α → St) (J : α → Prop) (h1 : dwp P n c (thenD (fun σ' => ∃ x, J x ∧ Wk n σ' (I x)) Q) σ) (h2 : ∀ x, J x → dwp P n rest Q (I x)) : dwp P n c (thenD (dwp P n rest Q) Q) σ :=
  fun C who a w hr => wp_mono (h1 C who a w hr) fun e a' w' ⟨who', σ', hr', hq⟩ => by
    refine ⟨who', σ', hr', ?_⟩
    cases e with
    | normal =>
      obtain ⟨x, hJ, hw⟩ := (hq : ∃ x, J x ∧ Wk n σ' (I x))
      exact fun C3 who3 a3 w3 hr3 => by
        obtain ⟨who4, hr4⟩ := hw C3 who3 a3 w3 hr3
        exact h2 x hJ C3 who4 a3 w3 hr4
    | _ => exact hq
end
theorem rpick {S : List Int} {p : Pf} (h : PfGo S p) (n : Int) : FnD Tryz.prog 24 [pfA p, iA n] (.tup [pfA (pick p n).1, iA (pick p n).2]) := by
  have hlen := h.ok.len
  have haw := h.aw
  refine Fn.of Tryz.func24 rfl Tryz.ntmps24 rfl (Nat.le_of_ble_eq_true rfl) ?_
  by_cases hdone : 0 ≤ p.found ∨ p.wait.length = 0
  · have e : pick p n = (p, 11) := if_pos hdone
    rw [e]
    by_cases hf : 0 ≤ p.found
    · (refine wlk ?_)
      (refine wfCT ?_)
      rfl
    · have hw0 : p.wait.length = 0 := hdone.resolve_left hf
      (refine wlk ?_)
      (refine wfCT ?_)
      rfl
  have hf : ¬ 0 ≤ p.found := fun h => hdone (.inl h)
  have hw0 : ¬ p.wait.length = 0 := fun h => hdone (.inr h)
  by_cases hbad : n < 0 ∨ (p.wait.length : Int) ≤ n
  · have e : pick p n = (p, 6) := by unfold pick; rw [if_neg hdone, if_pos hbad]
    rw [e]
    by_cases hn0 : n < 0
    · (refine wlk ?_)
      (refine wfCT ?_)
      rfl
    · have hnl := hbad.resolve_left hn0
      (refine wlk ?_)
      (refine wfCT ?_)
      rfl
  have hn0 : 0 ≤ n := by omega
  have hnl : n < p.wait.length := by omega
  obtain ⟨nn, rfl⟩ := Int.eq_ofNat_of_zero_le hn0
  obtain ⟨g, hg⟩ := get_of_lt (s := p.wait) (k := nn) (by omega)
  have hgr := h.ok.wai g (List.mem_of_getElem? hg)
  have hgd : p.wait.getD nn 0 = g := by rw [List.getD_eq_getElem?_getD, hg]; rfl
  have e : pick p (nn : Int) = (pick1 { p with wait := p.wait.eraseIdx nn } g, 0) := by
    unfold pick
    rw [if_neg hdone, if_neg hbad, Int.toNat_natCast, hgd]
  rw [e]
  clear e
  have hwe : (p.wait.eraseIdx nn).length + 1 = p.wait.length := by rw [List.length_eraseIdx_of_lt (by omega)]; omega
  have hq : PfGo S { p with wait := p.wait.eraseIdx nn } := ⟨⟨h.ok.len, h.ok.cok, h.ok.act, fun k hk => h.ok.wai k (List.mem_of_mem_eraseIdx hk)⟩, by simp only; omega⟩
  have h2 : p.wait.take ((nn : Int)).toNat ++ p.wait.drop ((nn : Int) + 1).toNat = p.wait.eraseIdx nn := by rw [List.eraseIdx_eq_take_drop_succ]; rfl
  have h3 : (p.wait.eraseIdx nn).length ≤ 1000 := by omega
  obtain ⟨sg, st, ac, wa, fo, lo⟩ := p
  dsimp only at *
  (refine wlk ?_)
  (refine SqA.b1 (op_sliceHiT (T := TB) (f := Int.d) (l := wa) rfl rfl rfl rfl rfl (by omega) (by omega)) rfl rfl ?_)
  (refine SqA.b2 (op_appT (T := TB) (f := Int.d) (l := []) (es := wa.take (nn : Int).toNat) (rs := wa.take (nn : Int).toNat) rfl rfl rfl rfl rfl rfl (by simp only [List.length_take]; omega) (by decide)) rfl rfl ?_)
  (refine wlD ?_)
  refine dwp_wk (Wk.freezeB (j := 2) (q := 3) rfl rfl rfl) ?_
  obtain ⟨gi, rfl, hst, hcl, hco⟩ := hq.ok.at hgr
  dsimp only at hst
  have hgil := (List.getElem?_eq_some_iff.1 hst).1
  generalize hw2 : wa.eraseIdx nn = wa2 at *
  have hcl0 : ∀ k, clAt ⟨sg, st, ac, wa2, fo, lo⟩ k = (stAt st k).cl := fun _ => rfl
  have husz := units_sz hq.ok
  have hrw := rRewrite husz (clAt ⟨sg, st, ac, wa2, fo, lo⟩ (gi : Int)) (by rw [hcl]; exact hco)
  have hp1 : pick1 ⟨sg, st, ac, wa2, fo, lo⟩ (gi : Int) = match rewr ((unitsK ⟨sg, st, ac, wa2, fo, lo⟩).map (clAt ⟨sg, st, ac, wa2, fo, lo⟩)) (clAt ⟨sg, st, ac, wa2, fo, lo⟩ (gi : Int)) with
    | (c, e) => if e = 0 then pick2 ⟨sg, st, ac, wa2, fo, lo⟩ (gi : Int) c else ⟨sg, st, ac, wa2, fo, lo || decide (e = 4)⟩ := rfl
  rw [hp1]
  clear hp1
  (refine wlk ?_)
  (refine SqA.b1 (op_bsOT (T := TB) (f := Int.d) [(gi : Int)] rfl rfl rfl rfl rfl rfl rfl rfl rfl rfl rfl rfl) rfl rfl ?_)
  (refine wlk ?_)
  refine dwp_loop (fun k : Nat => [(.t 2, some (.one (.c (.ptr 2 0)))), (.b 2, some (.box (pfA ⟨sg, st, ac, wa2, fo, lo⟩).cells)), (.t 4, some (.one (.c (.ptr 4 0)))), (.b 4, some (.box zero9)), (.t 5, some (.one (iA 0))), (.t 6, some (.one (iA gi))), (.t 7, some (.one (.c (.own 3 1 (((gi : Int) :: usK ⟨sg, st, ac, wa2, fo, lo⟩ k).map Int.d))))), (.t 8, some (.one (.c (.own 39 1 (((usK ⟨sg, st, ac, wa2, fo, lo⟩ k).map (clAt ⟨sg, st, ac, wa2, fo, lo⟩)).map Cl.d))))),
      (.t 60, some (.one (lA Int.d ac))), (.t 61, some (.one (iA ac.length))), (.t 62, some (.one (iA k)))])
    (fun k => k ≤ ac.length) (fun k => ac.length - k) 0 (by omega) ((Wk.nilOwn (d := 8) (E := 39) (m := 1) rfl).trans fgs) ?_
  intro k hk
  by_cases hkl : k < ac.length
  · obtain ⟨x, hx⟩ := get_of_lt hkl
    obtain ⟨i, rfl, hsti, hcli, hcoi⟩ := hq.ok.at (hq.ok.act x (List.mem_of_getElem? hx))
    dsimp only at hsti
    have hil := (List.getElem?_eq_some_iff.1 hsti).1
    have hft := filter_take (p := fun j => unit (clAt ⟨sg, st, ac, wa2, fo, lo⟩ j)) hx
    have hul := usK_len ⟨sg, st, ac, wa2, fo, lo⟩ k
    have gu := runit (clAt ⟨sg, st, ac, wa2, fo, lo⟩ (i : Int))
    cases hu : unit (clAt ⟨sg, st, ac, wa2, fo, lo⟩ (i : Int))
    · rw [hu] at gu
      simp only [hu] at hft
      have hk1 : usK ⟨sg, st, ac, wa2, fo, lo⟩ (k + 1) = usK ⟨sg, st, ac, wa2, fo, lo⟩ k := by unfold usK; rw [hft]; simp
      (refine wlk ?_)
      (refine wlC gu ?_)
      (refine wlk ?_)
      refine ⟨k + 1, by omega, ?_, by omega⟩
      rw [hk1]
      exact fgs
    · rw [hu] at gu
      simp only [hu] at hft
      have hk1 : usK ⟨sg, st, ac, wa2, fo, lo⟩ k ++ [(i : Int)] = usK ⟨sg, st, ac, wa2, fo, lo⟩ (k + 1) := by unfold usK; rw [hft]; simp
      have hk0 : ((gi : Int) :: usK ⟨sg, st, ac, wa2, fo, lo⟩ k) ++ [(i : Int)] = (gi : Int) :: usK ⟨sg, st, ac, wa2, fo, lo⟩ (k + 1) := by rw [← hk1]; rfl
      have hk2 : (usK ⟨sg, st, ac, wa2, fo, lo⟩ k).map (clAt ⟨sg, st, ac, wa2, fo, lo⟩) ++ [clAt ⟨sg, st, ac, wa2, fo, lo⟩ (i : Int)] = (usK ⟨sg, st, ac, wa2, fo, lo⟩ (k + 1)).map (clAt ⟨sg, st, ac, wa2, fo, lo⟩) := by rw [← hk1, List.map_append]; rfl
      have hul2 := usK_len ⟨sg, st, ac, wa2, fo, lo⟩ (k + 1)
      dsimp only at hul hul2
      have hml : ((usK ⟨sg, st, ac, wa2, fo, lo⟩ (k + 1)).map (clAt ⟨sg, st, ac, wa2, fo, lo⟩)).length ≤ 1000 := by rw [List.length_map]; omega
      have hml0 : ((gi : Int) :: usK ⟨sg, st, ac, wa2, fo, lo⟩ (k + 1)).length ≤ 1000 := by rw [List.length_cons]; omega
      (refine wlk ?_)
      (refine wlC gu ?_)
      (refine wlk ?_)
      (refine SqA.b1 (op_bsT (T := TB) (f := Int.d) [(i : Int)] rfl rfl rfl rfl rfl rfl rfl rfl rfl rfl rfl) rfl rfl ?_)
      (refine wlk ?_)
      (refine SqA.b1 (op_bsT (T := TB) (f := Cl.d) [clAt ⟨sg, st, ac, wa2, fo, lo⟩ (i : Int)] rfl rfl rfl rfl rfl rfl rfl rfl rfl rfl rfl) rfl rfl ?_)
      (refine wlk ?_)
      exact ⟨k + 1, by omega, fgs, by omega⟩
  have hka : k = ac.length := by omega
  subst hka
  have e1 : usK ⟨sg, st, ac, wa2, fo, lo⟩ ac.length = unitsK ⟨sg, st, ac, wa2, fo, lo⟩ := by unfold usK unitsK; rw [List.take_length]
  rw [e1]
  refine dwp_wk (Wk.freezeAt (d := 7) rfl) ?_
  refine dwp_wk (Wk.freezeAt (d := 8) rfl) ?_
  (refine wlk ?_)
  (refine wlC hrw ?_)
  (refine wlE ?_)
  rcases hR : rewr ((unitsK ⟨sg, st, ac, wa2, fo, lo⟩).map (clAt ⟨sg, st, ac, wa2, fo, lo⟩)) (clAt ⟨sg, st, ac, wa2, fo, lo⟩ (gi : Int)) with ⟨c, e⟩
  rw [hR] at hrw
  dsimp only
  by_cases he : e = 0
  rotate_left
  · rw [if_neg he]
    cases lo
    · by_cases e4 : e = 4
      · rw [show (false || decide (e = 4)) = true by simp [e4]]
        (refine wlk ?_)
        (refine wfCT ?_)
        rfl
      · rw [show (false || decide (e = 4)) = false by simp [e4]]
        (refine wlk ?_)
        (refine wfCT ?_)
        rfl
    · rw [show (true || decide (e = 4)) = true from rfl]
      (refine wlk ?_)
      (refine wfCT ?_)
      rfl
  subst he
  rw [if_pos rfl]
  have hkc : Kept S c := rewr_kept husz.ok (by rw [hcl]; exact hco.wf) hR
  have hcok := hkc.cok
  have hsm := rsameClause c (clAt ⟨sg, st, ac, wa2, fo, lo⟩ (gi : Int))
  have hstrict : ac.length + wa2.length + 1 ≤ st.length := by omega
  obtain ⟨R2, hR2⟩ : ∃ R2, R2 = pick2 ⟨sg, st, ac, wa2, fo, lo⟩ (gi : Int) c := ⟨_, rfl⟩
  rw [← hR2]
  (refine wlk ?_)
  (refine wlC hsm ?_)
  (refine wlE ?_)
  refine dwp_mid2 (fun x : Pf × Int => [(.t 2, some (.one (.c (.ptr 2 0)))), (.b 2, some (.box (pfA x.1).cells)), (.t 4, some (.one (.c (.ptr 4 0)))), (.b 4, some (.box zero9)), (.t 5, some (.one (iA 0))), (.t 6, some (.one (iA x.2))), (.t 11, some (.one (lA Lt.d c)))])
    (fun x => 0 ≤ x.2 ∧ x.2 < x.1.steps.length ∧ R2 = pick3 x.1 x.2 c ∧ PfGo S x.1 ∧ x.1.active.length + x.1.wait.length + 1 ≤ x.1.steps.length) ?_ ?_
  · cases hsame : clSame c (clAt ⟨sg, st, ac, wa2, fo, lo⟩ (gi : Int))
    · have hul : (unitsK ⟨sg, st, ac, wa2, fo, lo⟩).length ≤ ac.length := List.length_filter_le ..
      have hsp := rstep ⟨sg, st, ac, wa2, fo, lo⟩ 5 ((gi : Int) :: unitsK ⟨sg, st, ac, wa2, fo, lo⟩) c (by simp only; omega)
      by_cases h120 : 120 ≤ st.length
      · have hp2 : R2 = ⟨sg, st, ac, wa2, fo, true⟩ := by
          rw [hR2]; unfold pick2
          rw [hsame, if_neg (by simp), stepP_f (by exact h120)]
        rw [stepP_f (by exact h120)] at hsp
        dsimp only [pfA] at hsp
        rw [hp2]
        (refine wlk ?_)
        (refine wlC hsp ?_)
        (refine wlk ?_)
        (refine wfCT ?_)
        rfl
      · have hadd2 := stepP_ok hq.ok 5 ((gi : Int) :: unitsK ⟨sg, st, ac, wa2, fo, lo⟩) hcok
        rw [stepP_in (by exact h120)] at hadd2
        have e3 : ((st ++ [(⟨5, (gi : Int) :: unitsK ⟨sg, st, ac, wa2, fo, lo⟩, c⟩ : Sp)]).length : Int) - 1 = (st.length : Int) := by simp
        have hp2 : R2 = pick3 ⟨sg, st ++ [⟨5, (gi : Int) :: unitsK ⟨sg, st, ac, wa2, fo, lo⟩, c⟩], ac, wa2, if c.length = 0 ∧ fo < 0 then (st.length : Int) else fo, lo⟩ (((st ++ [(⟨5, (gi : Int) :: unitsK ⟨sg, st, ac, wa2, fo, lo⟩, c⟩ : Sp)]).length : Int) - 1) c := by
          rw [hR2]; unfold pick2
          rw [hsame, if_neg (by simp), stepP_t (by exact h120)]
        rw [stepP_t (by exact h120)] at hsp
        dsimp only [pfA] at hsp
        (refine wlk ?_)
        (refine wlC hsp ?_)
        (refine wlk ?_)
        exact ⟨(⟨sg, st ++ [⟨5, (gi : Int) :: unitsK ⟨sg, st, ac, wa2, fo, lo⟩, c⟩], ac, wa2, if c.length = 0 ∧ fo < 0 then (st.length : Int) else fo, lo⟩, ((st ++ [(⟨5, (gi : Int) :: unitsK ⟨sg, st, ac, wa2, fo, lo⟩, c⟩ : Sp)]).length : Int) - 1), ⟨by simp, by simp only; omega, hp2, ⟨hadd2, by simp only [List.length_append, List.length_cons, List.length_nil]; omega⟩, by simp only [List.length_append, List.length_cons, List.length_nil]; omega⟩, fgs⟩
    · have hp2 : R2 = pick3 ⟨sg, st, ac, wa2, fo, lo⟩ (gi : Int) c := by rw [hR2]; unfold pick2; rw [hsame, if_pos rfl]
      (refine wlk ?_)
      exact ⟨(⟨sg, st, ac, wa2, fo, lo⟩, (gi : Int)), ⟨by simp only; omega, by simp only; omega, hp2, hq, by simp only; omega⟩, fgs⟩
  clear hR2 hsm hrw husz hR hcl hst hq hkc hstrict
  rintro ⟨q, g⟩ ⟨hg0, hgl, hpk, hqg, hqs⟩
  dsimp only at hg0 hgl hpk hqg hqs ⊢
  have gk := rcovered hqg.ok (by have := hqg.aw; have := hqg.ok.len; omega) c hcok
  by_cases hf2 : 0 ≤ q.found
  · have e3 : pick3 q g c = q := if_pos (.inl hf2)
    rw [hpk, e3]
    (refine wlk ?_)
    (refine wfCT ?_)
    rfl
  cases hkn : known q c
  rotate_left
  · have e3 : pick3 q g c = q := if_pos (.inr hkn)
    rw [hpk, e3]
    rw [hkn] at gk
    (refine wlk ?_)
    (refine wlC gk ?_)
    (refine wlk ?_)
    (refine wfCT ?_)
    rfl
  rw [hkn] at gk
  have e3 : pick3 q g c = pickGo q g c := if_neg (by
    rintro (h1 | h1)
    · exact hf2 h1
    · rw [hkn] at h1; cases h1)
  rw [hpk, e3]
  clear e3 hpk
  have hq1 : PfGo S { q with active := q.active ++ [g] } := ⟨⟨hqg.ok.len, hqg.ok.cok, fun k hk => by
    rcases List.mem_append.1 hk with hk | hk
    · exact hqg.ok.act k hk
    · simp only [List.mem_singleton] at hk; subst hk; exact ⟨hg0, hgl⟩, hqg.ok.wai⟩, by simp only [List.length_append, List.length_cons, List.length_nil]; omega⟩
  have hql := hqg.ok.len
  have cr := rresolve hcok.cg
  have cf := rfactor hcok.cg
  have hres : ∀ n ∈ (resolve c).1, COk S n := fun n hn => ((resolve_kept hcok.wf.good).1 n hn).cok
  have hfac : ∀ n ∈ (factor c).1, COk S n := fun n hn => ((factor_kept hcok.wf.good).1 n hn).cok
  have k1 := rcome hq1 2 [g] (resolve c).1 (resolve c).2 hres
  have hq2 := come_ok hq1 2 [g] (m := ((resolve c).1, (resolve c).2)) hres
  have k2 := rcome hq2.1 3 [g] (factor c).1 (factor c).2 hfac
  have hq3 := come_ok hq2.1 3 [g] (m := ((factor c).1, (factor c).2)) hfac
  have hgo : pickGo q g c = (q.active ++ [g]).foldl (pickSup g c) (come (come { q with active := q.active ++ [g] } 2 [g] ((resolve c).1, (resolve c).2)) 3 [g] ((factor c).1, (factor c).2)) := rfl
  rw [hgo]
  have hA := hq3.2.trans hq2.2
  have hal : (q.active ++ [g]).length ≤ 1000 := by simp only [List.length_append, List.length_cons, List.length_nil]; omega
  have h0 : ([] : List Int) ++ q.active = q.active := rfl
  have hal0 : q.active.length ≤ 1000 := by omega
  (refine wlk ?_)
  (refine wlC gk ?_)
  (refine wlk ?_)
  (refine SqA.b1 (op_bsT (T := TB) (f := Int.d) [g] rfl rfl rfl rfl rfl rfl rfl rfl rfl rfl rfl) rfl rfl ?_)
  (refine wlE ?_)
  refine dwp_wk (Wk.freezeB (j := 2) (q := 2) rfl rfl rfl) ?_
  (refine wlk ?_)
  (refine wlC cr ?_)
  (refine wlk ?_)
  (refine SqA.b1 (op_bsT (T := TB) (f := Int.d) [g] rfl rfl rfl rfl rfl rfl rfl rfl rfl rfl rfl) rfl rfl ?_)
  (refine wlk ?_)
  (refine wlC k1 ?_)
  (refine wlk ?_)
  (refine wlC cf ?_)
  (refine wlk ?_)
  (refine SqA.b1 (op_bsT (T := TB) (f := Int.d) [g] rfl rfl rfl rfl rfl rfl rfl rfl rfl rfl rfl) rfl rfl ?_)
  (refine wlk ?_)
  (refine wlC k2 ?_)
  (refine wlE ?_)
  dsimp only at hA
  generalize come (come { q with active := q.active ++ [g] } 2 [g] ((resolve c).1, (resolve c).2)) 3 [g] ((factor c).1, (factor c).2) = q3 at *
  rw [← hA] at hal ⊢
  have hg3 := hq3.1
  clear k1 k2 cr cf hq2 hq3 hgo hA hq1 gk hres hfac
  (refine wlk ?_)
  refine dwp_loop (fun x : Nat × Pf => [(.t 2, some (.one (.c (.ptr 2 0)))), (.b 2, some (.box (pfA x.2).cells)), (.t 4, some (.one (.c (.ptr 4 0)))), (.b 4, some (.box zero9)), (.t 5, some (.one (iA 0))), (.t 6, some (.one (iA g))), (.t 11, some (.one (lA Lt.d c))), (.t 172, some (.one (lA Int.d q3.active))), (.t 173, some (.one (iA q3.active.length))), (.t 174, some (.one (iA x.1)))])
    (fun x => x.1 ≤ q3.active.length ∧ x.2 = (q3.active.take x.1).foldl (pickSup g c) q3 ∧ PfGo S x.2 ∧ x.2.active = q3.active) (fun x => q3.active.length - x.1) (0, q3) ⟨by simp, rfl, hg3, rfl⟩ fgs ?_
  rintro ⟨k, q4⟩ ⟨hk, hq4, hg4, ha4⟩
  dsimp only at hk hq4 hg4 ha4 ⊢
  by_cases hkl : k < q3.active.length
  rotate_left
  · rw [fold_all _ _ (by omega)] at hq4
    rw [← hq4]
    (refine wlk ?_)
    (refine wfCT ?_)
    rfl
  obtain ⟨x, hx⟩ := get_of_lt hkl
  have hnext := fold_take (pickSup g c) q3 hx
  rw [← hq4] at hnext
  have hx4 : q4.active[k]? = some x := by rw [ha4]; exact hx
  have hxr := hg4.ok.act x (List.mem_of_getElem? hx4)
  obtain ⟨xi, rfl, hst, hcl, hco⟩ := hg4.ok.at hxr
  rw [← hcl] at hco
  have cs := rsup hco.cg hcok
  have hsk : ∀ n ∈ (sup (clAt q4 (xi : Int)) c).1, COk S n := fun n hn => ((sup_kept hco.wf hcok.wf).1 n hn).cok
  have k4 := rcome hg4 4 [(xi : Int), g] (sup (clAt q4 (xi : Int)) c).1 (sup (clAt q4 (xi : Int)) c).2 hsk
  have hg5 := come_ok hg4 4 [(xi : Int), g] (m := ((sup (clAt q4 (xi : Int)) c).1, (sup (clAt q4 (xi : Int)) c).2)) hsk
  have hs5 := come_at (p := q4) (rule := 4) (frm := [(xi : Int), g]) (m := ((sup (clAt q4 (xi : Int)) c).1, (sup (clAt q4 (xi : Int)) c).2)) xi _ hst
  have hps : pickSup g c q4 (xi : Int) = if (xi : Int) = g then come q4 4 [(xi : Int), g] ((sup (clAt q4 (xi : Int)) c).1, (sup (clAt q4 (xi : Int)) c).2) else come (come q4 4 [(xi : Int), g] ((sup (clAt q4 (xi : Int)) c).1, (sup (clAt q4 (xi : Int)) c).2)) 4 [g, (xi : Int)] ((sup c (clAt q4 (xi : Int))).1, (sup c (clAt q4 (xi : Int))).2) := rfl
  rw [hps] at hnext
  (refine wlk ?_)
  (refine wlC cs ?_)
  (refine wlk ?_)
  (refine SqA.b1 (op_bsT (T := TB) (f := Int.d) [(xi : Int), g] rfl rfl rfl rfl rfl rfl rfl rfl rfl rfl rfl) rfl rfl ?_)
  (refine wlk ?_)
  (refine wlC k4 ?_)
  (refine wlE ?_)
  by_cases hxg : (xi : Int) = g
  · rw [if_pos hxg] at hnext
    (refine wlk ?_)
    exact ⟨(k + 1, _), ⟨by simp only; omega, hnext.symm, hg5.1, hg5.2.trans ha4⟩, fgs, by simp only; omega⟩
  rw [if_neg hxg] at hnext
  generalize hq5 : come q4 4 [(xi : Int), g] ((sup (clAt q4 (xi : Int)) c).1, (sup (clAt q4 (xi : Int)) c).2) = q5 at *
  obtain ⟨hg5, ha5⟩ := hg5
  have hcl5 : clAt q5 (xi : Int) = clAt q4 (xi : Int) := by
    unfold clAt stAt
    rw [List.getD_eq_getElem?_getD, List.getD_eq_getElem?_getD, Int.toNat_natCast, hs5, hst]
  have hst2 : q5.steps[xi]? = some (stAt q5.steps (xi : Int)) := by
    have : stAt q5.steps (xi : Int) = stAt q4.steps (xi : Int) := by
      unfold stAt
      rw [List.getD_eq_getElem?_getD, List.getD_eq_getElem?_getD, Int.toNat_natCast, hs5, hst]
    rw [this]; exact hs5
  have cs2 := rsup hcok.cg hco
  have hcl6 : (stAt q5.steps (xi : Int)).cl = clAt q4 (xi : Int) := hcl5
  rw [← hcl6] at cs2
  have hsk2 : ∀ n ∈ (sup c (clAt q4 (xi : Int))).1, COk S n := fun n hn => ((sup_kept hcok.wf hco.wf).1 n hn).cok
  have k5 := rcome hg5 4 [g, (xi : Int)] (sup c (clAt q4 (xi : Int))).1 (sup c (clAt q4 (xi : Int))).2 hsk2
  have hg6 := come_ok hg5 4 [g, (xi : Int)] (m := ((sup c (clAt q4 (xi : Int))).1, (sup c (clAt q4 (xi : Int))).2)) hsk2
  rw [← hcl6] at k5 hnext hg6
  clear hst
  (refine wlk ?_)
  (refine wlC cs2 ?_)
  (refine wlk ?_)
  (refine SqA.b1 (op_bsT (T := TB) (f := Int.d) [g, (xi : Int)] rfl rfl rfl rfl rfl rfl rfl rfl rfl rfl rfl) rfl rfl ?_)
  (refine wlk ?_)
  (refine wlC k5 ?_)
  (refine wlk ?_)
  exact ⟨(k + 1, _), ⟨by simp only; omega, hnext.symm, hg6.1, hg6.2.trans (ha5.trans ha4)⟩, fgs, by simp only; omega⟩
abbrev spA (x : Sp) : A1 := .agg [.val (.int .i64 x.rule), .arr (x.frm.map Int.d), .arr (x.cl.map Lt.d)]
theorem us_szL {S : List Int} {us : List (List Lt)} (h : ∀ c ∈ us, COk S c) (hu : us.all unit = true) : UsSz S us :=
  ⟨⟨fun u h2 => List.all_eq_true.1 hu u h2, fun u h2 => (h u h2).wf⟩, fun u h2 => (h u h2).size⟩
def wantOf (r : Int) : Int := if r = 5 then 0 else if r = 4 then 2 else 1
abbrev badFrm (r : Int) (frm : List Int) : Prop := frm.length = 0 ∨ (r = 4 ∧ frm.length ≠ 2) ∨ (r < 4 ∧ frm.length ≠ 1)
theorem normC {S : List Int} {c : List Lt} (h : COk S c) : FnD Tryz.prog 43 [lA Lt.d c] (.tup [lA Lt.d (norm c).1, iA (norm c).2]) := by
  have hl4 := h.len
  have hgd : ∀ x ∈ c, (x.left.okv = true ∧ few x.left) ∧ (x.right.okv = true ∧ few x.right) := fun x hx => by
    obtain ⟨i, hi⟩ := List.getElem?_of_mem hx
    have ho := h.cg.old hi
    exact ⟨⟨ho.1.1.okv, ho.1.1.few⟩, ho.2.1.okv, ho.2.1.few⟩
  exact pnorm c (fun x hx => ⟨(hgd x hx).1.1, (hgd x hx).2.1⟩) (fun x hx => ⟨(hgd x hx).1.2, (hgd x hx).2.2⟩) (fun x hx => by have := h.size x hx; omega) (by omega)
abbrev ckBox (inn : List (List Lt)) (steps : List Sp) : List CV := [.arr (inn.map Cl.d), .arr (steps.map Sp.d)]
theorem list1 {α : Type} {l : List α} (h : l.length = 1) : ∃ a, l = [a] := by
  match l, h with
  | [a], _ => exact ⟨a, rfl⟩
theorem list2 {α : Type} {l : List α} (h : l.length = 2) : ∃ a b, l = [a, b] := by
  match l, h with
  | [a, b], _ => exact ⟨a, b, rfl⟩
theorem list0 {α : Type} {l : List α} (h : l.length ≠ 0) : ∃ a r, l = a :: r := by
  match l, h with
  | [], h => exact absurd rfl h
  | a :: r, _ => exact ⟨a, r, rfl⟩
theorem pcomes {S : List Int} {inn : List (List Lt)} {steps : List Sp} {at_ : Nat} {x : Sp} (hin : ∀ c ∈ inn, COk S c) (hst : ∀ f : Int, 0 ≤ f → f < at_ → COk S (stAt steps f).cl) (hx : steps[at_]? = some x) (hr : 1 ≤ x.rule ∧ x.rule ≤ 5) (hl : x.frm.length ≤ 1000000000) :
    FnB Tryz.prog 30 [.c (.ptr EXT 0), iA at_] (ckBox inn steps) (.tup [lA Cl.d (comesP inn steps at_ x).1, bA (comesP inn steps at_ x).2]) (ckBox inn steps) := by
  refine Fn.of Tryz.func30 rfl Tryz.ntmps30 rfl (Nat.le_of_ble_eq_true rfl) ?_
  have hA : FewKeys := trivial
  have hatl := (List.getElem?_eq_some_iff.1 hx).1
  obtain ⟨r, frm, cl⟩ := x
  dsimp only at hr hl ⊢
  (refine wlN ?_)
  (refine wlE ?_)
  (refine wlN ?_)
  (refine wlE ?_)
  (try (with_reducible refine dwp_seq ?_))
  refine dwp_mid (fun w : Int => [(.t 0, some (.one (.c (.ptr EXT 0)))), (.b EXT, some (.box (ckBox inn steps))), (.t 1, some (.one (iA at_))), (.t 6, some (.one (.c (.ptr 6 0)))), (.b 6, some (.box (spA ⟨r, frm, cl⟩).cells)), (.t 7, some (.one (iA w)))])
    (fun w => w = wantOf r) ?_ ?_
  · have h5 : r = 1 ∨ r = 2 ∨ r = 3 ∨ r = 4 ∨ r = 5 := by omega
    rcases h5 with rfl | rfl | rfl | rfl | rfl
    all_goals (
      (refine wlk ?_)
      exact ⟨rfl, _, rfl, fgs⟩)
  clear hA hx
  rintro w hw
  (try (with_reducible refine dwp_seq ?_))
  refine dwp_mid2 (fun _ : Unit => [(.t 0, some (.one (.c (.ptr EXT 0)))), (.b EXT, some (.box (ckBox inn steps))), (.t 1, some (.one (iA at_))), (.t 6, some (.one (.c (.ptr 6 0)))), (.b 6, some (.box (spA ⟨r, frm, cl⟩).cells))])
    (fun _ => ¬ badFrm r frm) ?_ ?_
  · by_cases h5 : r = 5
    · have hw0 : w = 0 := by rw [hw, h5]; rfl
      subst hw0
      clear hw
      by_cases hb : frm.length = 0
      · have e : comesP inn steps at_ ⟨r, frm, cl⟩ = ([], false) := if_pos (.inl hb)
        rw [e]
        (refine wlk ?_)
        refine fin_wk (fun n => Wk.nilArr (d := 4) rfl) ?_
        (refine wbTT ?_)
        exact XB rfl rfl
      · (refine wlk ?_)
        exact ⟨(), by omega, fgs⟩
    · have hw0 : (r = 4 ∧ w = 2) ∨ (r < 4 ∧ w = 1) := by
        rw [hw]
        unfold wantOf
        rw [if_neg h5]
        by_cases h4 : r = 4
        · left; exact ⟨h4, if_pos h4⟩
        · right; exact ⟨by omega, if_neg h4⟩
      clear hw
      by_cases hb : (frm.length : Int) = w
      · (refine wlk ?_)
        exact ⟨(), by omega, fgs⟩
      · have e : comesP inn steps at_ ⟨r, frm, cl⟩ = ([], false) := if_pos (show badFrm r frm by omega)
        rw [e]
        (refine wlk ?_)
        refine fin_wk (fun n => Wk.nilArr (d := 4) rfl) ?_
        (refine wbTT ?_)
        exact XB rfl rfl
  clear hw
  rintro _ hbad
  by_cases h1 : r = 1
  · subst h1
    obtain ⟨f, rfl⟩ := list1 (l := frm) (by omega)
    have g0 : [f][0]? = some f := rfl
    have e0 : comesP inn steps at_ ⟨1, [f], cl⟩ = if f < 0 ∨ (inn.length : Int) ≤ f then ([], false) else ([(norm (inn.getD f.toNat [])).1], decide ((norm (inn.getD f.toNat [])).2 = 0)) := by
      unfold comesP
      rw [if_neg hbad, if_pos rfl]
      rfl
    rw [e0]
    by_cases hf0 : f < 0
    · rw [if_pos (.inl hf0)]
      (refine wlk ?_)
      refine fin_wk (fun n => Wk.nilArr (d := 4) rfl) ?_
      (refine wbTT ?_)
      exact XB rfl rfl
    by_cases hfl : (inn.length : Int) ≤ f
    · rw [if_pos (.inr hfl)]
      (refine wlk ?_)
      refine fin_wk (fun n => Wk.nilArr (d := 4) rfl) ?_
      (refine wbTT ?_)
      exact XB rfl rfl
    rw [if_neg (by omega)]
    obtain ⟨i, rfl⟩ := Int.eq_ofNat_of_zero_le (show 0 ≤ f by omega)
    obtain ⟨c, hc⟩ := get_of_lt (s := inn) (k := i) (by omega)
    have c3 := normC (hin c (List.mem_of_getElem? hc))
    have hgd : inn.getD ((i : Int)).toNat [] = c := by rw [Int.toNat_natCast, List.getD_eq_getElem?_getD, hc]; rfl
    rw [hgd]
    generalize norm c = nr at *
    obtain ⟨d, e⟩ := nr
    dsimp only at c3 ⊢
    (refine wlk ?_)
    (refine wlC c3 ?_)
    (refine wlk ?_)
    (refine SqA.b1 (op_bsT (T := TB) (f := Cl.d) [d] rfl rfl rfl rfl rfl rfl rfl rfl rfl rfl rfl) rfl rfl ?_)
    by_cases he : e = 0
    · rw [decide_eq_true he]
      (refine wlk ?_)
      (refine wbTT ?_)
      exact XB rfl rfl
    · rw [decide_eq_false he]
      (refine wlk ?_)
      (refine wbTT ?_)
      exact XB rfl rfl
  (refine wlk ?_)
  refine dwp_loop (fun k : Nat => [(.t 0, some (.one (.c (.ptr EXT 0)))), (.b EXT, some (.box (ckBox inn steps))), (.t 1, some (.one (iA at_))), (.t 6, some (.one (.c (.ptr 6 0)))), (.b 6, some (.box (spA ⟨r, frm, cl⟩).cells)),
      (.t 10, some (.one (.c (.own 39 1 (((frm.take k).map fun f => (stAt steps f).cl).map Cl.d))))), (.t 84, some (.one (lA Int.d frm))), (.t 85, some (.one (iA frm.length))), (.t 86, some (.one (iA k)))])
    (fun k => k ≤ frm.length ∧ ∀ f ∈ frm.take k, 0 ≤ f ∧ f < at_) (fun k => frm.length - k) 0 ⟨by omega, by simp⟩ ((Wk.nilOwn (d := 10) (E := 39) (m := 1) rfl).trans fgs) ?_
  rintro k ⟨hk, hok⟩
  by_cases hkl : k < frm.length
  · obtain ⟨f, hf⟩ := get_of_lt hkl
    have hfm := List.mem_of_getElem? hf
    have eno : ¬ (0 ≤ f ∧ f < at_) → comesP inn steps at_ ⟨r, frm, cl⟩ = ([], false) := fun h => by
      unfold comesP
      rw [if_neg hbad, if_neg h1, if_pos (fromOk_no hfm h)]
    by_cases hf0 : f < 0
    · rw [eno (by omega)]
      (refine wlk ?_)
      refine fin_wk (fun n => Wk.nilArr (d := 4) rfl) ?_
      (refine wbTT ?_)
      exact XB rfl rfl
    by_cases hfl : (at_ : Int) ≤ f
    · rw [eno (by omega)]
      (refine wlk ?_)
      refine fin_wk (fun n => Wk.nilArr (d := 4) rfl) ?_
      (refine wbTT ?_)
      exact XB rfl rfl
    clear eno
    obtain ⟨i, rfl⟩ := Int.eq_ofNat_of_zero_le (show 0 ≤ f by omega)
    have hk2 : ((frm.take k).map fun f => (stAt steps f).cl) ++ [(stAt steps (i : Int)).cl] = (frm.take (k + 1)).map fun f => (stAt steps f).cl := by rw [take_succ_of hf, List.map_append]; rfl
    have hk3 : ∀ f ∈ frm.take (k + 1), 0 ≤ f ∧ f < (at_ : Int) := fun g hg => by
      rw [take_succ_of hf] at hg
      rcases List.mem_append.1 hg with hg | hg
      · exact hok g hg
      · simp only [List.mem_singleton] at hg; subst hg; omega
    have his : steps[i]? = some (stAt steps (i : Int)) := by
      have := stAt_of (l := steps) (k := (i : Int)) (by omega) (by omega)
      simpa using this
    (refine wlk ?_)
    (refine SqA.b1 (op_bsT (T := TB) (f := Cl.d) [(stAt steps (i : Int)).cl] rfl rfl rfl rfl rfl rfl rfl rfl rfl rfl rfl) rfl rfl ?_)
    (refine wlk ?_)
    exact ⟨k + 1, ⟨by omega, hk3⟩, fgs, by omega⟩
  have hkf : k = frm.length := by omega
  subst hkf
  rw [List.take_length] at hok ⊢
  refine dwp_wk (Wk.freezeAt (d := 10) rfl) ?_
  have e0 : comesP inn steps at_ ⟨r, frm, cl⟩ = comesL ⟨r, frm, cl⟩ (frm.map fun f => (stAt steps f).cl) := by
    unfold comesP
    rw [if_neg hbad, if_neg h1, if_neg (by rw [fromOk_of hok]; simp)]
  rw [e0]
  have hco : ∀ c ∈ frm.map fun f => (stAt steps f).cl, COk S c := fun c hc => by
    obtain ⟨f, hf, rfl⟩ := List.mem_map.1 hc
    exact hst f (hok f hf).1 (hok f hf).2
  have hLl : (frm.map fun f => (stAt steps f).cl).length = frm.length := List.length_map ..
  generalize (frm.map fun f => (stAt steps f).cl) = L at hco hLl ⊢
  clear e0 hst hin hok
  by_cases h2 : r = 2
  · subst h2
    obtain ⟨c0, rfl⟩ := list1 (l := L) (by omega)
    have g0 : [c0][0]? = some c0 := rfl
    have e1 : comesL ⟨2, frm, cl⟩ [c0] = ((resolve c0).1, true) := by unfold comesL; rw [if_pos rfl]; rfl
    rw [e1]
    have c1 := presolve (hco c0 (by simp)).cg
    generalize resolve c0 = m at *
    (refine wlk ?_)
    (refine wlC c1 ?_)
    (refine wlk ?_)
    (refine wbTT ?_)
    exact XB rfl rfl
  by_cases h3 : r = 3
  · subst h3
    obtain ⟨c0, rfl⟩ := list1 (l := L) (by omega)
    have g0 : [c0][0]? = some c0 := rfl
    have e1 : comesL ⟨3, frm, cl⟩ [c0] = ((factor c0).1, true) := by unfold comesL; rw [if_neg (by simp), if_pos rfl]; rfl
    rw [e1]
    have c1 := pfactor (hco c0 (by simp)).cg
    generalize factor c0 = m at *
    (refine wlk ?_)
    (refine wlC c1 ?_)
    (refine wlk ?_)
    (refine wbTT ?_)
    exact XB rfl rfl
  by_cases h4 : r = 4
  · subst h4
    obtain ⟨c0, c1, rfl⟩ := list2 (l := L) (by omega)
    have g0 : [c0, c1][0]? = some c0 := rfl
    have g1 : [c0, c1][1]? = some c1 := rfl
    have e1 : comesL ⟨4, frm, cl⟩ [c0, c1] = ((sup c0 c1).1, true) := by unfold comesL; rw [if_neg (by simp), if_neg (by simp), if_pos rfl]; rfl
    rw [e1]
    have k1 := psup (hco c0 (by simp)).cg (hco c1 (by simp))
    generalize sup c0 c1 = m at *
    (refine wlk ?_)
    (refine SqA.b1 (op_idxT (T := TB) rfl rfl rfl rfl rfl (g0) (by first | rfl | omega)) rfl rfl ?_)
    (refine wlk ?_)
    (refine wlC k1 ?_)
    (refine wlk ?_)
    (refine wbTT ?_)
    exact XB rfl rfl
  have h5 : r = 5 := by omega
  subst h5
  obtain ⟨c0, us, rfl⟩ := list0 (l := L) (by omega)
  have g0 : (c0 :: us)[0]? = some c0 := rfl
  have hus : us.length ≤ 1000000000 := by simp at hLl; omega
  have e1 : comesL ⟨5, frm, cl⟩ (c0 :: us) = if us.all unit then ([(rewr us c0).1], decide ((rewr us c0).2 = 0)) else ([], false) := by
    unfold comesL; rw [if_neg (by simp), if_neg (by simp), if_neg (by simp)]; rfl
  rw [e1]
  clear e1
  have hd1 : (c0 :: us).drop (1 : Int).toNat = us := rfl
  (refine wlk ?_)
  simp only [hd1]
  refine dwp_loop (fun k : Nat => [(.t 0, some (.one (.c (.ptr EXT 0)))), (.b EXT, some (.box (ckBox inn steps))), (.t 10, some (.one (lA Cl.d (c0 :: us)))), (.t 144, some (.one (lA Cl.d us))), (.t 145, some (.one (iA us.length))), (.t 146, some (.one (iA k)))])
    (fun k => k ≤ us.length ∧ ∀ j y, j < k → us[j]? = some y → unit y = true) (fun k => us.length - k) 0 ⟨by omega, fun j y h => absurd h (by omega)⟩ fgs ?_
  rintro k ⟨hk, hno⟩
  by_cases hkl : k < us.length
  · obtain ⟨u, hu⟩ := get_of_lt hkl
    have c1 := punit u
    cases hub : unit u
    · have e2 : us.all unit = false := by
        rw [← Bool.not_eq_true]
        intro ha
        have := List.all_eq_true.1 ha u (List.mem_of_getElem? hu)
        rw [hub] at this; cases this
      rw [hub] at c1
      rw [e2]
      (refine wlk ?_)
      (refine wlC c1 ?_)
      (refine wlk ?_)
      refine fin_wk (fun n => Wk.nilArr (d := 4) rfl) ?_
      (refine wbTT ?_)
      exact XB rfl rfl
    · rw [hub] at c1
      (refine wlk ?_)
      (refine wlC c1 ?_)
      (refine wlk ?_)
      exact ⟨k + 1, ⟨by omega, upto_succ hno hu hub⟩, fgs, by omega⟩
  have hku : k = us.length := by omega
  subst hku
  have hall : us.all unit = true := List.all_eq_true.2 fun u hu => by
    obtain ⟨j, hj⟩ := List.getElem?_of_mem hu
    exact hno j u (List.getElem?_eq_some_iff.1 hj).1 hj
  have c1 := pRewrite (us_szL (fun c hc => hco c (by simp [hc])) hall) c0 (hco c0 (by simp))
  rw [hall, if_pos rfl]
  generalize rewr us c0 = nr at *
  obtain ⟨d, e⟩ := nr
  dsimp only at c1 ⊢
  have hl0 : ((1 : Int)).toNat ≤ (c0 :: us).length := by simp
  (refine wlk ?_)
  simp only [hd1]
  (refine wlC c1 ?_)
  (refine wlk ?_)
  (refine SqA.b1 (op_bsT (T := TB) (f := Cl.d) [d] rfl rfl rfl rfl rfl rfl rfl rfl rfl rfl rfl) rfl rfl ?_)
  by_cases he : e = 0
  · rw [decide_eq_true he]
    (refine wlk ?_)
    (refine wbTT ?_)
    exact XB rfl rfl
  · rw [decide_eq_false he]
    (refine wlk ?_)
    (refine wbTT ?_)
    exact XB rfl rfl
theorem firstWrong_at {S : List Int} : ∀ {l : List (List Lt)} {k : Nat} {c : List Lt}, (∀ j y, j < k → l[j]? = some y → wrongCl S y = 0) → l[k]? = some c → wrongCl S c ≠ 0 → firstWrong S l = wrongCl S c
  | [], k, c, _, h, _ => by simp at h
  | x :: l, 0, c, _, h, h0 => by
    simp at h; subst h
    simp only [firstWrong, if_neg h0]
  | x :: l, k + 1, c, hno, h, h0 => by
    have h1 := hno 0 x (by omega) rfl
    simp only [firstWrong, h1, if_true]
    exact firstWrong_at (k := k) (fun j y hj hy => hno (j + 1) y (by omega) (by simpa using hy)) (by simpa using h) h0
theorem firstWrong_no {S : List Int} {l : List (List Lt)} (h : ∀ j y, j < l.length → l[j]? = some y → wrongCl S y = 0) : firstWrong S l = 0 := firstWrong_all.2 fun c hc => by
  obtain ⟨j, hj⟩ := List.getElem?_of_mem hc
  exact h j c (List.getElem?_eq_some_iff.1 hj).1 hj
theorem checkGo_cons {S : List Int} {inn : List (List Lt)} {steps : List Sp} {k : Nat} {x : Sp} {r : List Sp} : checkGo S inn steps k (x :: r) = if x.rule < 1 ∨ 5 < x.rule then (1, (k : Int))
    else if wrongCl S x.cl = 0 then (if (comes inn steps k x).any (fun c => clSame c x.cl) then checkGo S inn steps (k + 1) r else (10, (k : Int)))
    else (wrongCl S x.cl, (k : Int)) := by rw [checkGo]
theorem stAt_cok {S : List Int} (hs : wrongSig S = 0) {steps : List Sp} {k : Nat} (hk : k ≤ steps.length) (h : ∀ j y, j < k → steps[j]? = some y → wrongCl S y.cl = 0) : ∀ f : Int, 0 ≤ f → f < k → COk S (stAt steps f).cl := fun f f0 f1 => by
  exact cok_of hs (h f.toNat _ (by omega) (stAt_of f0 (by omega)))
theorem pcheck1 (c : List Lt) (x : Sp) : FnD Tryz.prog 32 [lA Lt.d c, .c (.fp (spG x))] (.one (bA (clSame c x.cl))) := by
  refine Fn.of Tryz.func32 rfl Tryz.ntmps32 rfl (Nat.le_of_ble_eq_true rfl) ?_
  have g := psameClause c x.cl
  (refine wlk ?_)
  (refine wlC g ?_)
  (refine wlk ?_)
  (refine wfT ?_)
  rfl
theorem scheck {S : List Int} {inn : List (List Lt)} {steps : List Sp} (hl : ∀ x ∈ steps, x.frm.length ≤ 1000000000) :
    FnD Tryz.prog 9 [lA Int.d S, lA Cl.d inn, lA Sp.d steps] (.tup [iA (check S inn steps).1, iA (check S inn steps).2]) := by
  refine Fn.of Tryz.func9 rfl Tryz.ntmps9 rfl (Nat.le_of_ble_eq_true rfl) ?_
  have c0 := pwrongSig S
  by_cases hs : wrongSig S = 0
  rotate_left
  · have e : check S inn steps = (wrongSig S, -1) := if_neg hs
    rw [e]
    (refine wlk ?_)
    (refine wlC c0 ?_)
    (refine wlk ?_)
    (refine wfTT ?_)
    rfl
  by_cases h8 : 8 < inn.length
  · have e : check S inn steps = (5, -1) := by unfold check; rw [if_pos hs, if_pos (.inl h8)]
    rw [e]
    (refine wlk ?_)
    (refine wlC c0 ?_)
    (refine wlk ?_)
    (refine wfTT ?_)
    rfl
  by_cases h120 : 120 < steps.length
  · have e : check S inn steps = (5, -1) := by unfold check; rw [if_pos hs, if_pos (.inr h120)]
    rw [e]
    (refine wlk ?_)
    (refine wlC c0 ?_)
    (refine wlk ?_)
    (refine wfTT ?_)
    rfl
  have e : check S inn steps = if firstWrong S inn = 0 then checkGo S inn steps 0 steps else (firstWrong S inn, -1) := by unfold check; rw [if_pos hs, if_neg (by omega)]
  rw [e]
  clear e
  (refine wlk ?_)
  (refine wlC c0 ?_)
  (refine wlk ?_)
  clear c0
  refine dwp_loop (fun k : Nat => [(.t 0, some (.one (lA Int.d S))), (.t 1, some (.one (lA Cl.d inn))), (.t 2, some (.one (lA Sp.d steps))), (.t 31, some (.one (lA Cl.d inn))), (.t 32, some (.one (iA inn.length))), (.t 33, some (.one (iA k)))])
    (fun k => k ≤ inn.length ∧ ∀ j y, j < k → inn[j]? = some y → wrongCl S y = 0) (fun k => inn.length - k) 0 ⟨by omega, fun j y h => absurd h (by omega)⟩ fgs ?_
  rintro k ⟨hk, hno⟩
  by_cases hkl : k < inn.length
  · obtain ⟨c, hc⟩ := get_of_lt hkl
    have c2 := pwrongCl S c
    by_cases hw : wrongCl S c = 0
    · (refine wlk ?_)
      (refine wlC c2 ?_)
      (refine wlk ?_)
      exact ⟨k + 1, ⟨by omega, upto_succ hno hc hw⟩, fgs, by omega⟩
    · have hfw := firstWrong_at hno hc hw
      rw [hfw, if_neg hw]
      (refine wlk ?_)
      (refine wlC c2 ?_)
      (refine wlk ?_)
      (refine wfTT ?_)
      rfl
  have hki : k = inn.length := by omega
  subst hki
  rw [if_pos (firstWrong_no hno)]
  have hcin : ∀ c ∈ inn, COk S c := fun c hc => by
    obtain ⟨j, hj⟩ := List.getElem?_of_mem hc
    exact cok_of hs (hno j c (List.getElem?_eq_some_iff.1 hj).1 hj)
  clear hno hk hkl
  (refine wlk ?_)
  refine dwp_loop (fun k : Nat => [(.t 0, some (.one (lA Int.d S))), (.t 12, some (.one (.c (.ptr 47 0)))), (.b 47, some (.box (ckBox inn steps))), (.t 48, some (.one (lA Sp.d steps))), (.t 49, some (.one (iA steps.length))), (.t 50, some (.one (iA k)))])
    (fun k => k ≤ steps.length ∧ checkGo S inn steps 0 steps = checkGo S inn steps k (steps.drop k) ∧ ∀ j y, j < k → steps[j]? = some y → wrongCl S y.cl = 0) (fun k => steps.length - k) 0 ⟨by omega, rfl, fun j y h => absurd h (by omega)⟩ fgs ?_
  rintro k ⟨hk, he, hno⟩
  by_cases hkl : k < steps.length
  rotate_left
  · have hki : k = steps.length := by omega
    subst hki
    rw [List.drop_length] at he
    have e0 : checkGo S inn steps steps.length [] = (0, -1) := by rw [checkGo]
    rw [he, e0]
    (refine wlk ?_)
    (refine wfTT ?_)
    rfl
  obtain ⟨x, hx⟩ := get_of_lt hkl
  rw [drop_of hx, checkGo_cons] at he
  have hlx := hl x (List.mem_of_getElem? hx)
  have hst := stAt_cok hs hk hno
  by_cases hr1 : x.rule < 1
  · rw [if_pos (.inl hr1)] at he
    rw [he]
    (refine wlk ?_)
    (refine wfTT ?_)
    rfl
  by_cases hr5 : 5 < x.rule
  · rw [if_pos (.inr hr5)] at he
    rw [he]
    (refine wlk ?_)
    (refine wfTT ?_)
    rfl
  rw [if_neg (by omega)] at he
  have c2 := pwrongCl S x.cl
  by_cases hw : wrongCl S x.cl = 0
  rotate_left
  · rw [if_neg hw] at he
    rw [he]
    (refine wlk ?_)
    (refine wlC c2 ?_)
    (refine wlk ?_)
    (refine wfTT ?_)
    rfl
  rw [if_pos hw] at he
  have hg := pcomes (S := S) (inn := inn) (steps := steps) (at_ := k) (x := x) hcin hst hx ⟨by omega, by omega⟩ hlx
  have hany := comesP_any (inn := inn) (steps := steps) (at_ := k) (x := x) (fun c => clSame c x.cl)
  rw [← hany] at he
  clear hany
  generalize comesP inn steps k x = m at hg he
  obtain ⟨l, ok⟩ := m
  dsimp only at hg he
  have hcf := contFC 32 (spG x) (fun c => clSame c x.cl) (by kernel_rfl) l (fun c _ => pcheck1 c x)
  cases ok
  · rw [if_neg (by simp)] at he
    rw [he]
    (refine wlk ?_)
    (refine wlC c2 ?_)
    (refine wlk ?_)
    (refine SqA.b2 (op_call (some (47)) rfl rfl rfl (by kernel_rfl) (FnB.use (hg)) rfl rfl rfl rfl rfl rfl) rfl rfl ?_)
    (refine wlk ?_)
    (refine SqA.noG1 rfl rfl ?_)
    (refine wlk ?_)
    (refine wfTT ?_)
    rfl
  rw [Bool.true_and] at he
  (refine wlk ?_)
  (refine wlC c2 ?_)
  (refine wlk ?_)
  (refine SqA.b2 (op_call (some (47)) rfl rfl rfl (by kernel_rfl) (FnB.use (hg)) rfl rfl rfl rfl rfl rfl) rfl rfl ?_)
  (refine wlE ?_)
  refine dwp_wk (Wk.frzF (t := 14) (j := 14) (fs := spG x) rfl rfl rfl rfl rfl) ?_
  cases hb : l.any fun c => clSame c x.cl
  · rw [hb] at hcf he
    rw [if_neg (by simp)] at he
    rw [he]
    (refine wlk ?_)
    (refine SqA.b1 (op_mkFn rfl rfl rfl) rfl rfl ?_)
    (refine wlk ?_)
    (refine wlC hcf ?_)
    (refine wlk ?_)
    (refine wfTT ?_)
    rfl
  · rw [hb] at hcf he
    rw [if_pos rfl] at he
    (refine wlk ?_)
    (refine SqA.b1 (op_mkFn rfl rfl rfl) rfl rfl ?_)
    (refine wlk ?_)
    (refine wlC hcf ?_)
    (refine wlk ?_)
    exact ⟨k + 1, ⟨by omega, he, upto_succ hno hx hw⟩, fgs, by omega⟩
theorem normR {S : List Int} {c : List Lt} (h : COk S c) : FnD Tryz.prog 45 [lA Lt.d c] (.tup [lA Lt.d (norm c).1, iA (norm c).2]) := by
  have hl4 := h.len
  have hgd : ∀ x ∈ c, (x.left.okv = true ∧ few x.left) ∧ (x.right.okv = true ∧ few x.right) := fun x hx => by
    obtain ⟨i, hi⟩ := List.getElem?_of_mem hx
    have ho := h.cg.old hi
    exact ⟨⟨ho.1.1.okv, ho.1.1.few⟩, ho.2.1.okv, ho.2.1.few⟩
  exact rnorm c (fun x hx => ⟨(hgd x hx).1.1, (hgd x hx).2.1⟩) (fun x hx => ⟨(hgd x hx).1.2, (hgd x hx).2.2⟩) (fun x hx => by have := h.size x hx; omega) (by omega)
theorem rcomes {S : List Int} {inn : List (List Lt)} {steps : List Sp} {x : Sp} (hin : ∀ c ∈ inn, COk S c) (hst : ∀ f : Int, 0 ≤ f → f < steps.length → COk S (stAt steps f).cl) (hr : 1 ≤ x.rule ∧ x.rule ≤ 5) (hl : x.frm.length ≤ 1000000000) :
    FnD Tryz.prog 36 [lA Cl.d inn, lA Sp.d steps, spA x] (.one (lA Cl.d (comes inn steps steps.length x))) := by
  refine Fn.of Tryz.func36 rfl Tryz.ntmps36 rfl (Nat.le_of_ble_eq_true rfl) ?_
  obtain ⟨r, frm, cl⟩ := x
  dsimp only at hr hl ⊢
  (refine wlN ?_)
  (refine wlE ?_)
  (try (with_reducible refine dwp_seq ?_))
  refine dwp_mid2 (fun _ : Unit => [(.t 0, some (.one (lA Cl.d inn))), (.t 1, some (.one (lA Sp.d steps))), (.t 5, some (.one (.c (.ptr 5 0)))), (.b 5, some (.box (spA ⟨r, frm, cl⟩).cells))])
    (fun _ => ¬ badFrm r frm) ?_ ?_
  · by_cases hbad : badFrm r frm
    · have e : comes inn steps steps.length ⟨r, frm, cl⟩ = [] := if_pos hbad
      rw [e]
      by_cases hb0 : frm.length = 0
      · (refine wlk ?_)
        refine fin_wk (fun n => Wk.nilArr (d := 6) rfl) ?_
        (refine wfT ?_)
        rfl
      by_cases h4 : r = 4
      · have h2 : frm.length ≠ 2 := by omega
        (refine wlk ?_)
        refine fin_wk (fun n => Wk.nilArr (d := 6) rfl) ?_
        (refine wfT ?_)
        rfl
      · have h3 : r < 4 := by omega
        have h1 : frm.length ≠ 1 := by omega
        (refine wlk ?_)
        refine fin_wk (fun n => Wk.nilArr (d := 6) rfl) ?_
        (refine wfT ?_)
        rfl
    · have hb0 : frm.length ≠ 0 := by omega
      by_cases h4 : r = 4
      · have h2 : frm.length = 2 := by omega
        (refine wlk ?_)
        exact ⟨(), hbad, fgs⟩
      by_cases h3 : r < 4
      · have h1 : frm.length = 1 := by omega
        (refine wlk ?_)
        exact ⟨(), hbad, fgs⟩
      · (refine wlk ?_)
        exact ⟨(), hbad, fgs⟩
  rintro _ hbad
  by_cases h1 : r = 1
  · subst h1
    obtain ⟨f, rfl⟩ := list1 (l := frm) (by omega)
    have g0 : [f][0]? = some f := rfl
    have e0 : comes inn steps steps.length ⟨1, [f], cl⟩ = if f < 0 ∨ (inn.length : Int) ≤ f then [] else match norm (inn.getD f.toNat []) with | (n, e) => if e = 0 then [n] else [] := by
      unfold comes
      rw [if_neg hbad, if_pos rfl]
      rfl
    rw [e0]
    by_cases hf0 : f < 0
    · rw [if_pos (.inl hf0)]
      (refine wlk ?_)
      refine fin_wk (fun n => Wk.nilArr (d := 6) rfl) ?_
      (refine wfT ?_)
      rfl
    by_cases hfl : (inn.length : Int) ≤ f
    · rw [if_pos (.inr hfl)]
      (refine wlk ?_)
      refine fin_wk (fun n => Wk.nilArr (d := 6) rfl) ?_
      (refine wfT ?_)
      rfl
    rw [if_neg (by omega)]
    obtain ⟨i, rfl⟩ := Int.eq_ofNat_of_zero_le (show 0 ≤ f by omega)
    obtain ⟨c, hc⟩ := get_of_lt (s := inn) (k := i) (by omega)
    have c3 := normR (hin c (List.mem_of_getElem? hc))
    have hgd : inn.getD ((i : Int)).toNat [] = c := by rw [Int.toNat_natCast, List.getD_eq_getElem?_getD, hc]; rfl
    rw [hgd]
    generalize norm c = nr at *
    obtain ⟨d, e⟩ := nr
    dsimp only at c3 ⊢
    by_cases he : e = 0
    · rw [if_pos he]
      (refine wlk ?_)
      (refine wlC c3 ?_)
      (refine wlk ?_)
      (refine SqA.b1 (op_bsT (T := TB) (f := Cl.d) [d] rfl rfl rfl rfl rfl rfl rfl rfl rfl rfl rfl) rfl rfl ?_)
      (refine wlk ?_)
      (refine wfT ?_)
      rfl
    · rw [if_neg he]
      (refine wlk ?_)
      (refine wlC c3 ?_)
      (refine wlk ?_)
      refine fin_wk (fun n => Wk.nilArr (d := 6) rfl) ?_
      (refine wfT ?_)
      rfl
  (refine wlk ?_)
  refine dwp_loop (fun k : Nat => [(.t 1, some (.one (lA Sp.d steps))), (.t 5, some (.one (.c (.ptr 5 0)))), (.b 5, some (.box (spA ⟨r, frm, cl⟩).cells)),
      (.t 9, some (.one (.c (.own 39 1 (((frm.take k).map fun f => (stAt steps f).cl).map Cl.d))))), (.t 74, some (.one (lA Int.d frm))), (.t 75, some (.one (iA frm.length))), (.t 76, some (.one (iA k)))])
    (fun k => k ≤ frm.length ∧ (∀ f ∈ frm.take k, 0 ≤ f ∧ f < steps.length) ∧ (r = 5 → ∀ f ∈ (frm.take k).tail, unit (stAt steps f).cl = true)) (fun k => frm.length - k) 0 ⟨by omega, by simp, fun _ => by simp⟩ ((Wk.nilOwn (d := 9) (E := 39) (m := 1) rfl).trans fgs) ?_
  rintro k ⟨hk, hok, hun⟩
  by_cases hkl : k < frm.length
  · obtain ⟨f, hf⟩ := get_of_lt hkl
    have hfm := List.mem_of_getElem? hf
    have eno : ¬ (0 ≤ f ∧ f < steps.length) → comes inn steps steps.length ⟨r, frm, cl⟩ = [] := fun h => by
      unfold comes
      rw [if_neg hbad, if_neg h1, if_pos (fromOk_no hfm h)]
    by_cases hf0 : f < 0
    · rw [eno (by omega)]
      (refine wlk ?_)
      refine fin_wk (fun n => Wk.nilArr (d := 6) rfl) ?_
      (refine wfT ?_)
      rfl
    by_cases hfl : (steps.length : Int) ≤ f
    · rw [eno (by omega)]
      (refine wlk ?_)
      refine fin_wk (fun n => Wk.nilArr (d := 6) rfl) ?_
      (refine wfT ?_)
      rfl
    clear eno
    obtain ⟨i, rfl⟩ := Int.eq_ofNat_of_zero_le (show 0 ≤ f by omega)
    have hk2 : ((frm.take k).map fun f => (stAt steps f).cl) ++ [(stAt steps (i : Int)).cl] = (frm.take (k + 1)).map fun f => (stAt steps f).cl := by rw [take_succ_of hf, List.map_append]; rfl
    have hk3 : ∀ f ∈ frm.take (k + 1), 0 ≤ f ∧ f < (steps.length : Int) := fun g hg => by
      rw [take_succ_of hf] at hg
      rcases List.mem_append.1 hg with hg | hg
      · exact hok g hg
      · simp only [List.mem_singleton] at hg; subst hg; omega
    have hk4 : k = 0 ∨ r ≠ 5 ∨ unit (stAt steps (i : Int)).cl = true → (r = 5 → ∀ f ∈ (frm.take (k + 1)).tail, unit (stAt steps f).cl = true) := fun h h5 g hg => by
      rw [take_succ_of hf] at hg
      cases k with
      | zero => simp at hg
      | succ k =>
        have hne : frm.take (k + 1) ≠ [] := fun e => by
          have := congrArg List.length e
          rw [List.length_take, List.length_nil] at this
          omega
        rw [List.tail_append_of_ne_nil hne] at hg
        rcases List.mem_append.1 hg with hg | hg
        · exact hun h5 g hg
        · simp only [List.mem_singleton] at hg; subst hg
          rcases h with h | h | h
          · omega
          · exact absurd h5 h
          · exact h
    have his : steps[i]? = some (stAt steps (i : Int)) := by
      have := stAt_of (l := steps) (k := (i : Int)) (by omega) (by omega)
      simpa using this
    by_cases h5 : r = 5
    · by_cases hk0 : 0 < k
      · have c1 := runit (stAt steps (i : Int)).cl
        cases hub : unit (stAt steps (i : Int)).cl
        · have e2 : comes inn steps steps.length ⟨r, frm, cl⟩ = [] := by
            unfold comes
            rw [if_neg hbad, if_neg h1]
            split
            · rfl
            · dsimp only
              rw [if_neg (by omega), if_neg (by omega), if_neg (by omega), if_neg]
              intro ha
              have hm : (stAt steps (i : Int)).cl ∈ (frm.map fun f => (stAt steps f).cl).tail := by
                obtain ⟨j, rfl⟩ : ∃ j, k = j + 1 := ⟨k - 1, by omega⟩
                cases frm with
                | nil => simp at hf
                | cons a frm =>
                  simp only [List.getElem?_cons_succ] at hf
                  exact List.mem_map.2 ⟨_, List.mem_of_getElem? hf, rfl⟩
              have := List.all_eq_true.1 ha _ hm
              rw [hub] at this; cases this
          rw [e2]
          rw [hub] at c1
          (refine wlk ?_)
          (refine wlC c1 ?_)
          (refine wlk ?_)
          refine fin_wk (fun n => Wk.nilArr (d := 6) rfl) ?_
          (refine wfT ?_)
          rfl
        · rw [hub] at c1
          (refine wlk ?_)
          (refine wlC c1 ?_)
          (refine wlk ?_)
          (refine SqA.b1 (op_bsT (T := TB) (f := Cl.d) [(stAt steps (i : Int)).cl] rfl rfl rfl rfl rfl rfl rfl rfl rfl rfl rfl) rfl rfl ?_)
          (refine wlk ?_)
          exact ⟨k + 1, ⟨by omega, hk3, hk4 (.inr (.inr hub))⟩, fgs, by omega⟩
      · (refine wlk ?_)
        (refine SqA.b1 (op_bsT (T := TB) (f := Cl.d) [(stAt steps (i : Int)).cl] rfl rfl rfl rfl rfl rfl rfl rfl rfl rfl rfl) rfl rfl ?_)
        (refine wlk ?_)
        exact ⟨k + 1, ⟨by omega, hk3, hk4 (.inl (by omega))⟩, fgs, by omega⟩
    · (refine wlk ?_)
      (refine SqA.b1 (op_bsT (T := TB) (f := Cl.d) [(stAt steps (i : Int)).cl] rfl rfl rfl rfl rfl rfl rfl rfl rfl rfl rfl) rfl rfl ?_)
      (refine wlk ?_)
      exact ⟨k + 1, ⟨by omega, hk3, hk4 (.inr (.inl h5))⟩, fgs, by omega⟩
  have hkf : k = frm.length := by omega
  subst hkf
  rw [List.take_length] at hok hun ⊢
  refine dwp_wk (Wk.freezeAt (d := 9) rfl) ?_
  have e0 : comes inn steps steps.length ⟨r, frm, cl⟩ = (if (comesL ⟨r, frm, cl⟩ (frm.map fun f => (stAt steps f).cl)).2 = true then (comesL ⟨r, frm, cl⟩ (frm.map fun f => (stAt steps f).cl)).1 else []) := by
    rw [comesL_fst]
    unfold comes
    rw [if_neg hbad, if_neg h1, if_neg (by rw [fromOk_of hok]; simp)]
  rw [e0]
  have hco : ∀ c ∈ frm.map fun f => (stAt steps f).cl, COk S c := fun c hc => by
    obtain ⟨f, hf, rfl⟩ := List.mem_map.1 hc
    exact hst f (hok f hf).1 (hok f hf).2
  have hLl : (frm.map fun f => (stAt steps f).cl).length = frm.length := List.length_map ..
  have hLu : r = 5 → (frm.map fun f => (stAt steps f).cl).tail.all unit = true := fun h5 => List.all_eq_true.2 fun u hu => by
    rw [← List.map_tail] at hu
    obtain ⟨f, hf, rfl⟩ := List.mem_map.1 hu
    exact hun h5 f hf
  generalize (frm.map fun f => (stAt steps f).cl) = L at hco hLl hLu ⊢
  clear e0 hst hin hok hun
  by_cases h2 : r = 2
  · subst h2
    obtain ⟨c0, rfl⟩ := list1 (l := L) (by omega)
    have g0 : [c0][0]? = some c0 := rfl
    have e1 : comesL ⟨2, frm, cl⟩ [c0] = ((resolve c0).1, true) := by unfold comesL; rw [if_pos rfl]; rfl
    rw [e1, if_pos rfl]
    have k1 := rresolve (hco c0 (by simp)).cg
    generalize resolve c0 = m at *
    (refine wlk ?_)
    (refine wlC k1 ?_)
    (refine wlk ?_)
    (refine wfT ?_)
    rfl
  by_cases h3 : r = 3
  · subst h3
    obtain ⟨c0, rfl⟩ := list1 (l := L) (by omega)
    have g0 : [c0][0]? = some c0 := rfl
    have e1 : comesL ⟨3, frm, cl⟩ [c0] = ((factor c0).1, true) := by unfold comesL; rw [if_neg (by simp), if_pos rfl]; rfl
    rw [e1, if_pos rfl]
    have k1 := rfactor (hco c0 (by simp)).cg
    generalize factor c0 = m at *
    (refine wlk ?_)
    (refine wlC k1 ?_)
    (refine wlk ?_)
    (refine wfT ?_)
    rfl
  by_cases h4 : r = 4
  · subst h4
    obtain ⟨c0, c1, rfl⟩ := list2 (l := L) (by omega)
    have g0 : [c0, c1][0]? = some c0 := rfl
    have g1 : [c0, c1][1]? = some c1 := rfl
    have e1 : comesL ⟨4, frm, cl⟩ [c0, c1] = ((sup c0 c1).1, true) := by unfold comesL; rw [if_neg (by simp), if_neg (by simp), if_pos rfl]; rfl
    rw [e1, if_pos rfl]
    have k1 := rsup (hco c0 (by simp)).cg (hco c1 (by simp))
    generalize sup c0 c1 = m at *
    (refine wlk ?_)
    (refine SqA.b1 (op_idxT (T := TB) rfl rfl rfl rfl rfl (g0) (by first | rfl | omega)) rfl rfl ?_)
    (refine wlk ?_)
    (refine wlC k1 ?_)
    (refine wlk ?_)
    (refine wfT ?_)
    rfl
  have h5 : r = 5 := by omega
  subst h5
  obtain ⟨c0, us, rfl⟩ := list0 (l := L) (by omega)
  have hall : us.all unit = true := hLu rfl
  have g0 : (c0 :: us)[0]? = some c0 := rfl
  have e1 : comesL ⟨5, frm, cl⟩ (c0 :: us) = ([(rewr us c0).1], decide ((rewr us c0).2 = 0)) := by
    unfold comesL; rw [if_neg (by simp), if_neg (by simp), if_neg (by simp)]; exact if_pos hall
  rw [e1]
  clear e1
  have hd1 : (c0 :: us).drop (1 : Int).toNat = us := rfl
  have k1 := rRewrite (us_szL (fun c hc => hco c (by simp [hc])) hall) c0 (hco c0 (by simp))
  generalize rewr us c0 = nr at *
  obtain ⟨d, e⟩ := nr
  dsimp only at k1 ⊢
  by_cases he : e = 0
  · rw [decide_eq_true he, if_pos rfl]
    (refine wlk ?_)
    simp only [hd1]
    (refine wlC k1 ?_)
    (refine wlk ?_)
    (refine SqA.b1 (op_bsT (T := TB) (f := Cl.d) [d] rfl rfl rfl rfl rfl rfl rfl rfl rfl rfl rfl) rfl rfl ?_)
    (refine wlk ?_)
    refine fin_wk (fun n => Wk.freezeAt (d := 6) rfl) ?_
    (refine wfT ?_)
    rfl
  · rw [decide_eq_false he, if_neg (by simp)]
    (refine wlk ?_)
    simp only [hd1]
    (refine wlC k1 ?_)
    (refine wlk ?_)
    refine fin_wk (fun n => Wk.nilArr (d := 6) rfl) ?_
    (refine wfT ?_)
    rfl
theorem rcheck {S : List Int} {inn : List (List Lt)} {steps : List Sp} (hl : ∀ x ∈ steps, x.frm.length ≤ 1000000000) :
    FnD Tryz.prog 10 [lA Int.d S, lA Cl.d inn, lA Sp.d steps] (.tup [iA (check S inn steps).1, iA (check S inn steps).2]) := by
  refine Fn.of Tryz.func10 rfl Tryz.ntmps10 rfl (Nat.le_of_ble_eq_true rfl) ?_
  have c0 := rwrongSig S
  by_cases hs : wrongSig S = 0
  rotate_left
  · have e : check S inn steps = (wrongSig S, -1) := if_neg hs
    rw [e]
    (refine wlk ?_)
    (refine wlC c0 ?_)
    (refine wlk ?_)
    (refine wfTT ?_)
    rfl
  by_cases h8 : 8 < inn.length
  · have e : check S inn steps = (5, -1) := by unfold check; rw [if_pos hs, if_pos (.inl h8)]
    rw [e]
    (refine wlk ?_)
    (refine wlC c0 ?_)
    (refine wlk ?_)
    (refine wfTT ?_)
    rfl
  by_cases h120 : 120 < steps.length
  · have e : check S inn steps = (5, -1) := by unfold check; rw [if_pos hs, if_pos (.inr h120)]
    rw [e]
    (refine wlk ?_)
    (refine wlC c0 ?_)
    (refine wlk ?_)
    (refine wfTT ?_)
    rfl
  have e : check S inn steps = if firstWrong S inn = 0 then checkGo S inn steps 0 steps else (firstWrong S inn, -1) := by unfold check; rw [if_pos hs, if_neg (by omega)]
  rw [e]
  clear e
  (refine wlk ?_)
  (refine wlC c0 ?_)
  (refine wlk ?_)
  clear c0
  refine dwp_loop (fun k : Nat => [(.t 0, some (.one (lA Int.d S))), (.t 1, some (.one (lA Cl.d inn))), (.t 2, some (.one (lA Sp.d steps))), (.t 31, some (.one (lA Cl.d inn))), (.t 32, some (.one (iA inn.length))), (.t 33, some (.one (iA k)))])
    (fun k => k ≤ inn.length ∧ ∀ j y, j < k → inn[j]? = some y → wrongCl S y = 0) (fun k => inn.length - k) 0 ⟨by omega, fun j y h => absurd h (by omega)⟩ fgs ?_
  rintro k ⟨hk, hno⟩
  by_cases hkl : k < inn.length
  · obtain ⟨c, hc⟩ := get_of_lt hkl
    have c2 := rwrongCl S c
    by_cases hw : wrongCl S c = 0
    · (refine wlk ?_)
      (refine wlC c2 ?_)
      (refine wlk ?_)
      exact ⟨k + 1, ⟨by omega, upto_succ hno hc hw⟩, fgs, by omega⟩
    · have hfw := firstWrong_at hno hc hw
      rw [hfw, if_neg hw]
      (refine wlk ?_)
      (refine wlC c2 ?_)
      (refine wlk ?_)
      (refine wfTT ?_)
      rfl
  have hki : k = inn.length := by omega
  subst hki
  rw [if_pos (firstWrong_no hno)]
  have hcin : ∀ c ∈ inn, COk S c := fun c hc => by
    obtain ⟨j, hj⟩ := List.getElem?_of_mem hc
    exact cok_of hs (hno j c (List.getElem?_eq_some_iff.1 hj).1 hj)
  clear hno hk hkl
  (refine wlk ?_)
  refine dwp_loop (fun k : Nat => [(.t 0, some (.one (lA Int.d S))), (.t 1, some (.one (lA Cl.d inn))), (.t 2, some (.one (lA Sp.d steps))), (.t 44, some (.one (lA Sp.d steps))), (.t 45, some (.one (iA steps.length))), (.t 46, some (.one (iA k)))])
    (fun k => k ≤ steps.length ∧ checkGo S inn steps 0 steps = checkGo S inn steps k (steps.drop k) ∧ ∀ j y, j < k → steps[j]? = some y → wrongCl S y.cl = 0) (fun k => steps.length - k) 0 ⟨by omega, rfl, fun j y h => absurd h (by omega)⟩ fgs ?_
  rintro k ⟨hk, he, hno⟩
  by_cases hkl : k < steps.length
  rotate_left
  · have hki : k = steps.length := by omega
    subst hki
    rw [List.drop_length] at he
    have e0 : checkGo S inn steps steps.length [] = (0, -1) := by rw [checkGo]
    rw [he, e0]
    (refine wlk ?_)
    (refine wfTT ?_)
    rfl
  obtain ⟨x, hx⟩ := get_of_lt hkl
  rw [drop_of hx, checkGo_cons] at he
  have hlx := hl x (List.mem_of_getElem? hx)
  have hst := stAt_cok hs hk hno
  by_cases hr1 : x.rule < 1
  · rw [if_pos (.inl hr1)] at he
    rw [he]
    (refine wlk ?_)
    (refine wfTT ?_)
    rfl
  by_cases hr5 : 5 < x.rule
  · rw [if_pos (.inr hr5)] at he
    rw [he]
    (refine wlk ?_)
    (refine wfTT ?_)
    rfl
  rw [if_neg (by omega)] at he
  have c2 := rwrongCl S x.cl
  by_cases hw : wrongCl S x.cl = 0
  rotate_left
  · rw [if_neg hw] at he
    rw [he]
    (refine wlk ?_)
    (refine wlC c2 ?_)
    (refine wlk ?_)
    (refine wfTT ?_)
    rfl
  rw [if_pos hw] at he
  have htl : (steps.take k).length = k := by rw [List.length_take]; omega
  have hg := rcomes (S := S) (inn := inn) (steps := steps.take k) (x := x) hcin (fun f f0 f1 => by
    rw [htl] at f1
    have := stAt_app (l := steps.take k) (r := steps.drop k) f0 (by rw [htl]; exact f1)
    rw [List.take_append_drop] at this
    rw [← this]; exact hst f f0 f1) ⟨by omega, by omega⟩ hlx
  rw [htl, comes_ahead hk] at hg
  generalize comes inn steps k x = L at hg he
  have hn2 := upto_succ hno hx hw
  have htk : steps.take ((k : Int)).toNat = steps.take k := by rw [Int.toNat_natCast]
  clear hst hno
  (refine wlk ?_)
  (refine wlC c2 ?_)
  (refine wlk ?_)
  (refine SqA.b1 (op_sliceHiT (T := TB) (f := Sp.d) (l := steps) rfl rfl rfl rfl rfl (by omega) (by omega)) rfl rfl ?_)
  rw [htk]
  (refine wlk ?_)
  (refine wlC hg ?_)
  (refine wlk ?_)
  clear hg c2
  refine dwp_len (t := 73) rfl fun hLl => ?_
  rw [List.length_map] at hLl
  refine dwp_loop (fun j : Nat => [(.t 0, some (.one (lA Int.d S))), (.t 1, some (.one (lA Cl.d inn))), (.t 2, some (.one (lA Sp.d steps))), (.t 44, some (.one (lA Sp.d steps))), (.t 45, some (.one (iA steps.length))), (.t 46, some (.one (iA k))),
      (.t 12, some (.one (iA k))), (.t 13, some (.one (.c (.ptr 13 0)))), (.b 13, some (.box (spA x).cells)), (.t 15, some (.one (bA ((L.take j).any fun c => clSame c x.cl)))), (.t 73, some (.one (lA Cl.d L))), (.t 74, some (.one (iA L.length))), (.t 75, some (.one (iA j)))])
    (fun j => j ≤ L.length) (fun j => L.length - j) 0 (by omega) fgs ?_
  intro j hj
  by_cases hjl : j < L.length
  · clear hx
    obtain ⟨c, hc⟩ := get_of_lt hjl
    have hat := any_takeS (p := fun c => clSame c x.cl) hc
    have gs := rsameClause c x.cl
    cases hb : (L.take j).any fun c => clSame c x.cl
    · rw [hb] at hat
      simp only [Bool.false_or] at hat
      (refine wlk ?_)
      (refine wlC gs ?_)
      (refine wlk ?_)
      refine ⟨j + 1, by omega, ?_, by omega⟩
      rw [hat]
      exact fgs
    · rw [hb] at hat
      simp only [Bool.true_or] at hat
      (refine wlk ?_)
      refine ⟨j + 1, by omega, ?_, by omega⟩
      rw [hat]
      exact fgs
  have hjw : j = L.length := by omega
  subst hjw
  rw [List.take_length]
  cases hb : L.any fun c => clSame c x.cl
  · rw [hb, if_neg (by simp)] at he
    rw [he]
    (refine wlk ?_)
    (refine wfTT ?_)
    rfl
  · rw [hb, if_pos rfl] at he
    (refine wlk ?_)
    exact ⟨k + 1, ⟨by omega, he, hn2⟩, fgs, by omega⟩
section
variable {P : Program} {n : Nat} {o : Oper} {σ : St}
theorem op_mkSlB {d T E k : Nat} {s1 s2 : Operand} (hd : o.dst = some d) (ho : o.op = .makeSlice T s1 s2) (hT : SliceOf P T E 1 1 (.bool false)) (h1 : St.ev σ s1 = some (.one (iA k))) (h2 : St.ev σ s2 = some (.one (iA k))) (hk : k ≤ 1000) (hx : Nat.beq d EXT = false) (hmc : Nat.ble d EXT = true) :
    Op1 P n o ⟨opKey s1 ++ opKey s2, [.t d, .b d], [d]⟩ σ [(.t d, some (.one (.c (.sl d k)))), (.b d, some (.box (List.replicate k (.val (.bool false)))))] where
  does := fun σ' hag hal C who a w hr hdst K Q hK => by
    have e1 : a.eval s1 = .int .i64 k := hr.ev ((ev_agree fun k hk => hag k (List.mem_append_left _ hk)).trans h1)
    have e2 : a.eval s2 = .int .i64 k := hr.ev ((ev_agree fun k hk => hag k (List.mem_append_right _ hk)).trans h2)
    obtain ⟨i', hi', hz0, hz1, hz2⟩ := info_parts hT.info
    have hm : (madeCells (Value.bool false).cells k).toList = List.replicate k (.bool false) := by
      apply List.ext_getElem?
      intro j
      rcases Nat.lt_or_ge j k with hj | hj
      · simp [madeCells, Value.cells, hj, Nat.mod_one]
      · rw [List.getElem?_eq_none (by simp [madeCells]; omega), List.getElem?_eq_none (by simp; omega)]
    have hrun0 := run_makeSlice (P := P) w T E i' (.bool false) hT.und hi' hz0 .i64 .i64 k k (by omega) (by omega) (by rw [hz1]; omega) (by rw [hz2]; omega) (by omega)
    have hrun : (execOp a.eval o).run P w = .ok (.value (.slice (some ⟨w.heap.size, 0, none⟩) k k)) (w.alloc (.cells (List.replicate k (Value.bool false)).toArray E)) := by
      have : madeCells (Value.bool false).cells ((k : Int).toNat * i'.size) = (List.replicate k (Value.bool false)).toArray := by
        rw [hz1, Int.toNat_natCast, Nat.mul_one, ← hm]
      rw [this] at hrun0
      simp only [execOp, ho, e1, e2, Sem.run_bind, hrun0]; rfl
    unfold Oper.wp
    rw [hrun]
    show K (a.put o.dst _) _
    refine hK (tagBox d w.heap.size who) _ _ ?_
    rw [hd]
    refine new_boxG (E := E) (u := List.replicate k (.bool false)) (cs := List.replicate k (.val (.bool false))) (cv := .sl d k) hr (hdst d hd) hx (le_ext hmc) (shp_of hmc _ _ _) (hal d (by simp)) (fun who' w' q c v hq hv T G _ _ _ => ?_) (by simp) ⟨_, _, rfl, ⟨Nat.le_refl _, by simp only [maxLen]; omega⟩, tagBox_new⟩
    rw [List.getElem?_replicate] at hq hv
    split at hq
    · rename_i h
      rw [if_pos h] at hv
      injection hq with hq; injection hv with hv
      subst hq hv; rfl
    · cases hq
  wr := by simp
  me := fun j hj => by
    right
    simp [St.ids, oids, X.ids, A1.ids, CV.ids, List.flatMap_replicate] at hj
    subst hj; simp
  al := by simp
theorem op_lenKS {T : Tabs P} {α : Type} {f : α → D} {d t E0 m0 b0 tp E m : Nat} {v : Value} {s : Operand} {l : List α} (hd : o.dst = some d) (ho : o.op = .call { callee := .builtin .len, args := #[s], argTypes := #[t] }) (hT : T.sl t = some (E0, m0, b0)) (hs : St.ev σ s = some (.one (.c (.val v))))
    (hp : St.get σ (.t tp) = some (.one (.c (.ownK v E m (l.map f))))) :
    Op1 P n o ⟨(opKey s ++ [.t tp]) ++ (X.one (iA l.length)).ids.map Key.b, [.t d], []⟩ σ [(.t d, some (.one (iA l.length)))] :=
  .value _ hd fun σ' hag C who a w hr => by
    obtain ⟨z, hzz⟩ := T.sl_ok hT
    have e : a.eval s = v := hr.ev ((ev_agree fun k hk => hag k (List.mem_append_left _ hk)).trans hs)
    obtain ⟨e2, h5⟩ := hr.slot tp _ ((hag (.t tp) (by simp)).trans hp)
    have hl : ∃ ad cap, v = .slice ad l.length cap := by
      obtain ⟨⟨xs, ⟨_, h7⟩, _⟩, _⟩ := h5
      rw [e2, List.length_map] at h7
      rcases h7 with ⟨h7, h8⟩ | ⟨g, cap, cur, h7, _⟩
      · exact ⟨none, 0, by rw [h7, h8]⟩
      · exact ⟨_, cap, h7⟩
    obtain ⟨ad, cap, hv⟩ := hl
    rw [hv] at e
    refine ⟨_, ?_, rfl⟩
    simp [execOp, ho, e, Go.resolve, invoke, builtin, Builtin.len_, run_underlying hzz.und, goInt]
end
theorem op_mkBools {n : Nat} {o : Oper} {σ : St} {d k : Nat} {s1 s2 : Operand} (hd : o.dst = some d) (ho : o.op = .makeSlice 68 s1 s2) (h1 : St.ev σ s1 = some (.one (iA k))) (h2 : St.ev σ s2 = some (.one (iA k))) (hk : k ≤ 1000) (hx : Nat.beq d EXT = false) (hmc : Nat.ble d EXT = true) :
    Op1 Tryz.prog n o ⟨opKey s1 ++ opKey s2, [.t d, .b d], [d]⟩ σ [(.t d, some (.one (.c (.sl d k)))), (.b d, some (.box (List.replicate k (.val (.bool false)))))] := op_mkSlB hd ho slBools h1 h2 hk hx hmc
abbrev gI : Int → List FC := fun n => [.val (.int .i64 n)]
abbrev iC : Int → CV := fun n => .val (.int .i64 n)
abbrev bC : Bool → CV := fun b => .val (.bool b)
theorem els_int (l : List Int) (e : Nat) : els gI l e = l.map iC ++ List.replicate e .any := by
  unfold els
  congr 1
  induction l with
  | nil => rfl
  | cons a l ih => rw [List.flatMap_cons, List.map_append, ih]; rfl
theorem intC_get {l : List Int} {i : Nat} {x : Int} (h : l[i]? = some x) (r : List CV) : (l.map iC ++ r)[i * 1]? = some (iC x) := by
  rw [Nat.mul_one, List.getElem?_append_left (by rw [List.length_map]; exact (List.getElem?_eq_some_iff.1 h).1), List.getElem?_map, h]; rfl
theorem intC_set {l : List Int} {i : Nat} (h : i < l.length) (x : Int) (r : List CV) : (l.map iC ++ r).set (i * 1) (iC x) = (l.set i x).map iC ++ r := by
  rw [Nat.mul_one, List.set_append_left _ _ (by rw [List.length_map]; exact h), List.map_set]
theorem intS_set {l : List Int} (i : Nat) (x : Int) : (l.map iC).set (i * 1) (iC x) = (l.set i x).map iC := by rw [Nat.mul_one, List.map_set]
theorem intS_get {l : List Int} {i : Nat} {x : Int} (h : l[i]? = some x) : (l.map iC)[i * 1]? = some (iC x) := by rw [Nat.mul_one, List.getElem?_map, h]; rfl
theorem boolS_set {l : List Bool} (i : Nat) (x : Bool) : (l.map bC).set (i * 1) (bC x) = (l.set i x).map bC := by rw [Nat.mul_one, List.map_set]
theorem boolS_get {l : List Bool} {i : Nat} {x : Bool} (h : l[i]? = some x) : (l.map bC)[i * 1]? = some (bC x) := by rw [Nat.mul_one, List.getElem?_map, h]; rfl
def mixL (g : Int → Int) (l : List Int) (i : Nat) : List Int := (l.take i).map g ++ l.drop i
theorem mixL_get {g : Int → Int} {l : List Int} {i : Nat} {x : Int} (h : l[i]? = some x) : (mixL g l i)[i]? = some x := by
  have hl := (List.getElem?_eq_some_iff.1 h).1
  unfold mixL
  rw [List.getElem?_append_right (by rw [List.length_map, List.length_take]; omega), List.length_map, List.length_take, Nat.min_eq_left (by omega), Nat.sub_self, List.getElem?_drop]
  exact h
theorem mixL_len (g : Int → Int) (l : List Int) (i : Nat) : (mixL g l i).length = l.length := by
  unfold mixL
  rw [List.length_append, List.length_map, List.length_take, List.length_drop]; omega
theorem mixL_set {g : Int → Int} {l : List Int} {i : Nat} {x : Int} (h : l[i]? = some x) : (mixL g l i).set i (g x) = mixL g l (i + 1) := by
  have hl := (List.getElem?_eq_some_iff.1 h).1
  unfold mixL
  rw [List.set_append_right _ _ (by rw [List.length_map, List.length_take]; omega), List.length_map, List.length_take, Nat.min_eq_left (by omega), Nat.sub_self, take_succ_of h, drop_of h, List.map_append, List.set_cons_zero, List.append_assoc]
  rfl
theorem mixL_same {g : Int → Int} {l : List Int} {i : Nat} {x : Int} (h : l[i]? = some x) (hg : g x = x) : mixL g l (i + 1) = mixL g l i := by
  rw [← mixL_set h, hg]
  exact List.ext_getElem? fun j => by
    rcases Classical.em (i = j) with rfl | hne
    · rw [List.getElem?_set_self (by rw [mixL_len]; exact (List.getElem?_eq_some_iff.1 h).1), mixL_get h]
    · rw [List.getElem?_set_ne hne]
theorem mixL_zero (g : Int → Int) (l : List Int) : mixL g l 0 = l := by simp [mixL]
theorem mixL_all (g : Int → Int) (l : List Int) : mixL g l l.length = l.map g := by simp [mixL]
theorem int_flat (l : List Int) : (l.flatMap gI).map FC.cv = l.map iC := by
  have := els_int l 0
  simpa [els] using this
theorem frz_hc (l : List Int) (r : List CV) : (l.flatMap gI).map FC.cv = (l.map iC ++ r).take (l.flatMap gI).length := by
  have h : (l.flatMap gI).length = (l.map iC).length := by rw [← int_flat, List.length_map]
  rw [int_flat, h, List.take_left]
end Go.Proofs.YtmanhdacnkpclaaGreat
