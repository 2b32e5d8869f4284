/- What functions do: the document's Pick. -/
import Derived.Test.YtmanhdacnkpclaaGreatz920
import Derived.Test.YtmanhdacnkpclaaGreatz906
import Derived.Test.YtmanhdacnkpclaaGreatz917
import Derived.Test.YtmanhdacnkpclaaGreatz915
import Derived.Test.YtmanhdacnkpclaaGreatz909
import Derived.Test.YtmanhdacnkpclaaGreatz910
import Derived.Test.YtmanhdacnkpclaaGreatz901
import Derived.Test.YtmanhdacnkpclaaGreatRows
import Derived.ProofKit
import Derived.SizedLaws
import Derived.OpenShut
import Derived.Test.YtmanhdacnkpclaaGreatz904
import Derived.Test.YtmanhdacnkpclaaGreatz908

namespace Go.Proofs.YtmanhdacnkpclaaGreat
set_option linter.all false
open Go.RowKit
section
variable {P : Program} {n : Nat} {σ : St}
theorem dwp_mid2 {α : Type} {c rest : Code} {Q : Exit → St → Prop} (I : α → St) (J : α → Prop) (h1 : dwp P n c (thenD (fun σ' => ∃ x, J x ∧ Wk n σ' (I x)) Q) σ) (h2 : ∀ x, J x → dwp P n rest Q (I x)) : dwp P n c (thenD (dwp P n rest Q) Q) σ :=
  fun C who a w hr => wp_mono (h1 C who a w hr) fun e a' w' ⟨who', σ', hr', hq⟩ => by
    refine ⟨who', σ', hr', ?_⟩
    cases e with
    | normal =>
      obtain ⟨x, hJ, hw⟩ := (hq : ∃ x, J x ∧ Wk n σ' (I x))
      exact fun C3 who3 a3 w3 hr3 => by
        obtain ⟨who4, hr4⟩ := hw C3 who3 a3 w3 hr3
        exact h2 x hJ C3 who4 a3 w3 hr4
    | _ => exact hq
end
set_option maxHeartbeats 16000000 in
set_option maxRecDepth 100000 in
theorem rpick {S : List Int} {p : Pf} (h : PfGo S p) (n : Int) : FnD Tryz.prog 24 [pfA p, iA n] (.tup [pfA (pick p n).1, iA (pick p n).2]) := by
  have hlen := h.ok.len
  have haw := h.aw
  refine Fn.of Tryz.func24 rfl Tryz.ntmps24 rfl (Nat.le_of_ble_eq_true rfl) ?_
  by_cases hdone : 0 ≤ p.found ∨ p.wait.length = 0
  · have e : pick p n = (p, 11) := if_pos hdone
    rw [e]
    by_cases hf : 0 ≤ p.found
    · (refine wlk ?_)
      (refine wfCT ?_)
      rfl
    · have hw0 : p.wait.length = 0 := hdone.resolve_left hf
      (refine wlk ?_)
      (refine wfCT ?_)
      rfl
  have hf : ¬ 0 ≤ p.found := fun h => hdone (.inl h)
  have hw0 : ¬ p.wait.length = 0 := fun h => hdone (.inr h)
  by_cases hbad : n < 0 ∨ (p.wait.length : Int) ≤ n
  · have e : pick p n = (p, 6) := by unfold pick; rw [if_neg hdone, if_pos hbad]
    rw [e]
    by_cases hn0 : n < 0
    · (refine wlk ?_)
      (refine wfCT ?_)
      rfl
    · have hnl := hbad.resolve_left hn0
      (refine wlk ?_)
      (refine wfCT ?_)
      rfl
  have hn0 : 0 ≤ n := by omega
  have hnl : n < p.wait.length := by omega
  obtain ⟨nn, rfl⟩ := Int.eq_ofNat_of_zero_le hn0
  obtain ⟨g, hg⟩ := get_of_lt (s := p.wait) (k := nn) (by omega)
  have hgr := h.ok.wai g (List.mem_of_getElem? hg)
  have hgd : p.wait.getD nn 0 = g := by rw [List.getD_eq_getElem?_getD, hg]; rfl
  have e : pick p (nn : Int) = (pick1 { p with wait := p.wait.eraseIdx nn } g, 0) := by
    unfold pick
    rw [if_neg hdone, if_neg hbad, Int.toNat_natCast, hgd]
  rw [e]
  clear e
  have hwe : (p.wait.eraseIdx nn).length + 1 = p.wait.length := by rw [List.length_eraseIdx_of_lt (by omega)]; omega
  have hq : PfGo S { p with wait := p.wait.eraseIdx nn } := ⟨⟨h.ok.len, h.ok.cok, h.ok.act, fun k hk => h.ok.wai k (List.mem_of_mem_eraseIdx hk)⟩, by simp only; omega⟩
  have h2 : p.wait.take ((nn : Int)).toNat ++ p.wait.drop ((nn : Int) + 1).toNat = p.wait.eraseIdx nn := by rw [List.eraseIdx_eq_take_drop_succ]; rfl
  have h3 : (p.wait.eraseIdx nn).length ≤ 1000 := by omega
  obtain ⟨sg, st, ac, wa, fo, lo⟩ := p
  dsimp only at *
  (refine wlk ?_)
  (refine SqA.b1 (op_sliceHiT (T := TB) (f := Int.d) (l := wa) rfl rfl rfl rfl rfl (by omega) (by omega)) rfl rfl ?_)
  (refine SqA.b2 (op_appT (T := TB) (f := Int.d) (l := []) (es := wa.take (nn : Int).toNat) (rs := wa.take (nn : Int).toNat) rfl rfl rfl rfl rfl rfl (by simp only [List.length_take]; omega) (by decide)) rfl rfl ?_)
  (refine wlD ?_)
  refine dwp_wk (Wk.freezeB (j := 2) (q := 3) rfl rfl rfl) ?_
  obtain ⟨gi, rfl, hst, hcl, hco⟩ := hq.ok.at hgr
  dsimp only at hst
  have hgil := (List.getElem?_eq_some_iff.1 hst).1
  generalize hw2 : wa.eraseIdx nn = wa2 at *
  have hcl0 : ∀ k, clAt ⟨sg, st, ac, wa2, fo, lo⟩ k = (stAt st k).cl := fun _ => rfl
  have husz := units_sz hq.ok
  have hrw := rRewrite husz (clAt ⟨sg, st, ac, wa2, fo, lo⟩ (gi : Int)) (by rw [hcl]; exact hco)
  have hp1 : pick1 ⟨sg, st, ac, wa2, fo, lo⟩ (gi : Int) = match rewr ((unitsK ⟨sg, st, ac, wa2, fo, lo⟩).map (clAt ⟨sg, st, ac, wa2, fo, lo⟩)) (clAt ⟨sg, st, ac, wa2, fo, lo⟩ (gi : Int)) with
    | (c, e) => if e = 0 then pick2 ⟨sg, st, ac, wa2, fo, lo⟩ (gi : Int) c else ⟨sg, st, ac, wa2, fo, lo || decide (e = 4)⟩ := rfl
  rw [hp1]
  clear hp1
  (refine wlk ?_)
  (refine SqA.b1 (op_bsOT (T := TB) (f := Int.d) [(gi : Int)] rfl rfl rfl rfl rfl rfl rfl rfl rfl rfl rfl rfl) rfl rfl ?_)
  (refine wlk ?_)
  refine dwp_loop (fun k : Nat => [(.t 2, some (.one (.c (.ptr 2 0)))), (.b 2, some (.box (pfA ⟨sg, st, ac, wa2, fo, lo⟩).cells)), (.t 4, some (.one (.c (.ptr 4 0)))), (.b 4, some (.box zero9)), (.t 5, some (.one (iA 0))), (.t 6, some (.one (iA gi))), (.t 7, some (.one (.c (.own 3 1 (((gi : Int) :: usK ⟨sg, st, ac, wa2, fo, lo⟩ k).map Int.d))))), (.t 8, some (.one (.c (.own 39 1 (((usK ⟨sg, st, ac, wa2, fo, lo⟩ k).map (clAt ⟨sg, st, ac, wa2, fo, lo⟩)).map Cl.d))))),
      (.t 60, some (.one (lA Int.d ac))), (.t 61, some (.one (iA ac.length))), (.t 62, some (.one (iA k)))])
    (fun k => k ≤ ac.length) (fun k => ac.length - k) 0 (by omega) ((Wk.nilOwn (d := 8) (E := 39) (m := 1) rfl).trans fgs) ?_
  intro k hk
  by_cases hkl : k < ac.length
  · obtain ⟨x, hx⟩ := get_of_lt hkl
    obtain ⟨i, rfl, hsti, hcli, hcoi⟩ := hq.ok.at (hq.ok.act x (List.mem_of_getElem? hx))
    dsimp only at hsti
    have hil := (List.getElem?_eq_some_iff.1 hsti).1
    have hft := filter_take (p := fun j => unit (clAt ⟨sg, st, ac, wa2, fo, lo⟩ j)) hx
    have hul := usK_len ⟨sg, st, ac, wa2, fo, lo⟩ k
    have gu := runit (clAt ⟨sg, st, ac, wa2, fo, lo⟩ (i : Int))
    cases hu : unit (clAt ⟨sg, st, ac, wa2, fo, lo⟩ (i : Int))
    · rw [hu] at gu
      simp only [hu] at hft
      have hk1 : usK ⟨sg, st, ac, wa2, fo, lo⟩ (k + 1) = usK ⟨sg, st, ac, wa2, fo, lo⟩ k := by unfold usK; rw [hft]; simp
      (refine wlk ?_)
      (refine wlC gu ?_)
      (refine wlk ?_)
      refine ⟨k + 1, by omega, ?_, by omega⟩
      rw [hk1]
      exact fgs
    · rw [hu] at gu
      simp only [hu] at hft
      have hk1 : usK ⟨sg, st, ac, wa2, fo, lo⟩ k ++ [(i : Int)] = usK ⟨sg, st, ac, wa2, fo, lo⟩ (k + 1) := by unfold usK; rw [hft]; simp
      have hk0 : ((gi : Int) :: usK ⟨sg, st, ac, wa2, fo, lo⟩ k) ++ [(i : Int)] = (gi : Int) :: usK ⟨sg, st, ac, wa2, fo, lo⟩ (k + 1) := by rw [← hk1]; rfl
      have hk2 : (usK ⟨sg, st, ac, wa2, fo, lo⟩ k).map (clAt ⟨sg, st, ac, wa2, fo, lo⟩) ++ [clAt ⟨sg, st, ac, wa2, fo, lo⟩ (i : Int)] = (usK ⟨sg, st, ac, wa2, fo, lo⟩ (k + 1)).map (clAt ⟨sg, st, ac, wa2, fo, lo⟩) := by rw [← hk1, List.map_append]; rfl
      have hul2 := usK_len ⟨sg, st, ac, wa2, fo, lo⟩ (k + 1)
      dsimp only at hul hul2
      have hml : ((usK ⟨sg, st, ac, wa2, fo, lo⟩ (k + 1)).map (clAt ⟨sg, st, ac, wa2, fo, lo⟩)).length ≤ 1000 := by rw [List.length_map]; omega
      have hml0 : ((gi : Int) :: usK ⟨sg, st, ac, wa2, fo, lo⟩ (k + 1)).length ≤ 1000 := by rw [List.length_cons]; omega
      (refine wlk ?_)
      (refine wlC gu ?_)
      (refine wlk ?_)
      (refine SqA.b1 (op_bsT (T := TB) (f := Int.d) [(i : Int)] rfl rfl rfl rfl rfl rfl rfl rfl rfl rfl rfl) rfl rfl ?_)
      (refine wlk ?_)
      (refine SqA.b1 (op_bsT (T := TB) (f := Cl.d) [clAt ⟨sg, st, ac, wa2, fo, lo⟩ (i : Int)] rfl rfl rfl rfl rfl rfl rfl rfl rfl rfl rfl) rfl rfl ?_)
      (refine wlk ?_)
      exact ⟨k + 1, by omega, fgs, by omega⟩
  have hka : k = ac.length := by omega
  subst hka
  have e1 : usK ⟨sg, st, ac, wa2, fo, lo⟩ ac.length = unitsK ⟨sg, st, ac, wa2, fo, lo⟩ := by unfold usK unitsK; rw [List.take_length]
  rw [e1]
  refine dwp_wk (Wk.freezeAt (d := 7) rfl) ?_
  refine dwp_wk (Wk.freezeAt (d := 8) rfl) ?_
  (refine wlk ?_)
  (refine wlC hrw ?_)
  (refine wlE ?_)
  rcases hR : rewr ((unitsK ⟨sg, st, ac, wa2, fo, lo⟩).map (clAt ⟨sg, st, ac, wa2, fo, lo⟩)) (clAt ⟨sg, st, ac, wa2, fo, lo⟩ (gi : Int)) with ⟨c, e⟩
  rw [hR] at hrw
  dsimp only
  by_cases he : e = 0
  rotate_left
  · rw [if_neg he]
    cases lo
    · by_cases e4 : e = 4
      · rw [show (false || decide (e = 4)) = true by simp [e4]]
        (refine wlk ?_)
        (refine wfCT ?_)
        rfl
      · rw [show (false || decide (e = 4)) = false by simp [e4]]
        (refine wlk ?_)
        (refine wfCT ?_)
        rfl
    · rw [show (true || decide (e = 4)) = true from rfl]
      (refine wlk ?_)
      (refine wfCT ?_)
      rfl
  subst he
  rw [if_pos rfl]
  have hkc : Kept S c := rewr_kept husz.ok (by rw [hcl]; exact hco.wf) hR
  have hcok := hkc.cok
  have hsm := rsameClause c (clAt ⟨sg, st, ac, wa2, fo, lo⟩ (gi : Int))
  have hstrict : ac.length + wa2.length + 1 ≤ st.length := by omega
  obtain ⟨R2, hR2⟩ : ∃ R2, R2 = pick2 ⟨sg, st, ac, wa2, fo, lo⟩ (gi : Int) c := ⟨_, rfl⟩
  rw [← hR2]
  (refine wlk ?_)
  (refine wlC hsm ?_)
  (refine wlE ?_)
  refine dwp_mid2 (fun x : Pf × Int => [(.t 2, some (.one (.c (.ptr 2 0)))), (.b 2, some (.box (pfA x.1).cells)), (.t 4, some (.one (.c (.ptr 4 0)))), (.b 4, some (.box zero9)), (.t 5, some (.one (iA 0))), (.t 6, some (.one (iA x.2))), (.t 11, some (.one (lA Lt.d c)))])
    (fun x => 0 ≤ x.2 ∧ x.2 < x.1.steps.length ∧ R2 = pick3 x.1 x.2 c ∧ PfGo S x.1 ∧ x.1.active.length + x.1.wait.length + 1 ≤ x.1.steps.length) ?_ ?_
  · cases hsame : clSame c (clAt ⟨sg, st, ac, wa2, fo, lo⟩ (gi : Int))
    · have hul : (unitsK ⟨sg, st, ac, wa2, fo, lo⟩).length ≤ ac.length := List.length_filter_le ..
      have hsp := rstep ⟨sg, st, ac, wa2, fo, lo⟩ 5 ((gi : Int) :: unitsK ⟨sg, st, ac, wa2, fo, lo⟩) c (by simp only; omega)
      by_cases h120 : 120 ≤ st.length
      · have hp2 : R2 = ⟨sg, st, ac, wa2, fo, true⟩ := by
          rw [hR2]; unfold pick2
          rw [hsame, if_neg (by simp), stepP_f (by exact h120)]
        rw [stepP_f (by exact h120)] at hsp
        dsimp only [pfA] at hsp
        rw [hp2]
        (refine wlk ?_)
        (refine wlC hsp ?_)
        (refine wlk ?_)
        (refine wfCT ?_)
        rfl
      · have hadd2 := stepP_ok hq.ok 5 ((gi : Int) :: unitsK ⟨sg, st, ac, wa2, fo, lo⟩) hcok
        rw [stepP_in (by exact h120)] at hadd2
        have e3 : ((st ++ [(⟨5, (gi : Int) :: unitsK ⟨sg, st, ac, wa2, fo, lo⟩, c⟩ : Sp)]).length : Int) - 1 = (st.length : Int) := by simp
        have hp2 : R2 = pick3 ⟨sg, st ++ [⟨5, (gi : Int) :: unitsK ⟨sg, st, ac, wa2, fo, lo⟩, c⟩], ac, wa2, if c.length = 0 ∧ fo < 0 then (st.length : Int) else fo, lo⟩ (((st ++ [(⟨5, (gi : Int) :: unitsK ⟨sg, st, ac, wa2, fo, lo⟩, c⟩ : Sp)]).length : Int) - 1) c := by
          rw [hR2]; unfold pick2
          rw [hsame, if_neg (by simp), stepP_t (by exact h120)]
        rw [stepP_t (by exact h120)] at hsp
        dsimp only [pfA] at hsp
        (refine wlk ?_)
        (refine wlC hsp ?_)
        (refine wlk ?_)
        exact ⟨(⟨sg, st ++ [⟨5, (gi : Int) :: unitsK ⟨sg, st, ac, wa2, fo, lo⟩, c⟩], ac, wa2, if c.length = 0 ∧ fo < 0 then (st.length : Int) else fo, lo⟩, ((st ++ [(⟨5, (gi : Int) :: unitsK ⟨sg, st, ac, wa2, fo, lo⟩, c⟩ : Sp)]).length : Int) - 1), ⟨by simp, by simp only; omega, hp2, ⟨hadd2, by simp only [List.length_append, List.length_cons, List.length_nil]; omega⟩, by simp only [List.length_append, List.length_cons, List.length_nil]; omega⟩, fgs⟩
    · have hp2 : R2 = pick3 ⟨sg, st, ac, wa2, fo, lo⟩ (gi : Int) c := by rw [hR2]; unfold pick2; rw [hsame, if_pos rfl]
      (refine wlk ?_)
      exact ⟨(⟨sg, st, ac, wa2, fo, lo⟩, (gi : Int)), ⟨by simp only; omega, by simp only; omega, hp2, hq, by simp only; omega⟩, fgs⟩
  clear hR2 hsm hrw husz hR hcl hst hq hkc hstrict
  rintro ⟨q, g⟩ ⟨hg0, hgl, hpk, hqg, hqs⟩
  dsimp only at hg0 hgl hpk hqg hqs ⊢
  have gk := rcovered hqg.ok (by have := hqg.aw; have := hqg.ok.len; omega) c hcok
  by_cases hf2 : 0 ≤ q.found
  · have e3 : pick3 q g c = q := if_pos (.inl hf2)
    rw [hpk, e3]
    (refine wlk ?_)
    (refine wfCT ?_)
    rfl
  cases hkn : known q c
  rotate_left
  · have e3 : pick3 q g c = q := if_pos (.inr hkn)
    rw [hpk, e3]
    rw [hkn] at gk
    (refine wlk ?_)
    (refine wlC gk ?_)
    (refine wlk ?_)
    (refine wfCT ?_)
    rfl
  rw [hkn] at gk
  have e3 : pick3 q g c = pickGo q g c := if_neg (by
    rintro (h1 | h1)
    · exact hf2 h1
    · rw [hkn] at h1; cases h1)
  rw [hpk, e3]
  clear e3 hpk
  have hq1 : PfGo S { q with active := q.active ++ [g] } := ⟨⟨hqg.ok.len, hqg.ok.cok, fun k hk => by
    rcases List.mem_append.1 hk with hk | hk
    · exact hqg.ok.act k hk
    · simp only [List.mem_singleton] at hk; subst hk; exact ⟨hg0, hgl⟩, hqg.ok.wai⟩, by simp only [List.length_append, List.length_cons, List.length_nil]; omega⟩
  have hql := hqg.ok.len
  have cr := rresolve hcok.cg
  have cf := rfactor hcok.cg
  have hres : ∀ n ∈ (resolve c).1, COk S n := fun n hn => ((resolve_kept hcok.wf.good).1 n hn).cok
  have hfac : ∀ n ∈ (factor c).1, COk S n := fun n hn => ((factor_kept hcok.wf.good).1 n hn).cok
  have k1 := rcome hq1 2 [g] (resolve c).1 (resolve c).2 hres
  have hq2 := come_ok hq1 2 [g] (m := ((resolve c).1, (resolve c).2)) hres
  have k2 := rcome hq2.1 3 [g] (factor c).1 (factor c).2 hfac
  have hq3 := come_ok hq2.1 3 [g] (m := ((factor c).1, (factor c).2)) hfac
  have hgo : pickGo q g c = (q.active ++ [g]).foldl (pickSup g c) (come (come { q with active := q.active ++ [g] } 2 [g] ((resolve c).1, (resolve c).2)) 3 [g] ((factor c).1, (factor c).2)) := rfl
  rw [hgo]
  have hA := hq3.2.trans hq2.2
  have hal : (q.active ++ [g]).length ≤ 1000 := by simp only [List.length_append, List.length_cons, List.length_nil]; omega
  have h0 : ([] : List Int) ++ q.active = q.active := rfl
  have hal0 : q.active.length ≤ 1000 := by omega
  (refine wlk ?_)
  (refine wlC gk ?_)
  (refine wlk ?_)
  (refine SqA.b1 (op_bsT (T := TB) (f := Int.d) [g] rfl rfl rfl rfl rfl rfl rfl rfl rfl rfl rfl) rfl rfl ?_)
  (refine wlE ?_)
  refine dwp_wk (Wk.freezeB (j := 2) (q := 2) rfl rfl rfl) ?_
  (refine wlk ?_)
  (refine wlC cr ?_)
  (refine wlk ?_)
  (refine SqA.b1 (op_bsT (T := TB) (f := Int.d) [g] rfl rfl rfl rfl rfl rfl rfl rfl rfl rfl rfl) rfl rfl ?_)
  (refine wlk ?_)
  (refine wlC k1 ?_)
  (refine wlk ?_)
  (refine wlC cf ?_)
  (refine wlk ?_)
  (refine SqA.b1 (op_bsT (T := TB) (f := Int.d) [g] rfl rfl rfl rfl rfl rfl rfl rfl rfl rfl rfl) rfl rfl ?_)
  (refine wlk ?_)
  (refine wlC k2 ?_)
  (refine wlE ?_)
  dsimp only at hA
  generalize come (come { q with active := q.active ++ [g] } 2 [g] ((resolve c).1, (resolve c).2)) 3 [g] ((factor c).1, (factor c).2) = q3 at *
  rw [← hA] at hal ⊢
  have hg3 := hq3.1
  clear k1 k2 cr cf hq2 hq3 hgo hA hq1 gk hres hfac
  (refine wlk ?_)
  refine dwp_loop (fun x : Nat × Pf => [(.t 2, some (.one (.c (.ptr 2 0)))), (.b 2, some (.box (pfA x.2).cells)), (.t 4, some (.one (.c (.ptr 4 0)))), (.b 4, some (.box zero9)), (.t 5, some (.one (iA 0))), (.t 6, some (.one (iA g))), (.t 11, some (.one (lA Lt.d c))), (.t 172, some (.one (lA Int.d q3.active))), (.t 173, some (.one (iA q3.active.length))), (.t 174, some (.one (iA x.1)))])
    (fun x => x.1 ≤ q3.active.length ∧ x.2 = (q3.active.take x.1).foldl (pickSup g c) q3 ∧ PfGo S x.2 ∧ x.2.active = q3.active) (fun x => q3.active.length - x.1) (0, q3) ⟨by simp, rfl, hg3, rfl⟩ fgs ?_
  rintro ⟨k, q4⟩ ⟨hk, hq4, hg4, ha4⟩
  dsimp only at hk hq4 hg4 ha4 ⊢
  by_cases hkl : k < q3.active.length
  rotate_left
  · rw [fold_all _ _ (by omega)] at hq4
    rw [← hq4]
    (refine wlk ?_)
    (refine wfCT ?_)
    rfl
  obtain ⟨x, hx⟩ := get_of_lt hkl
  have hnext := fold_take (pickSup g c) q3 hx
  rw [← hq4] at hnext
  have hx4 : q4.active[k]? = some x := by rw [ha4]; exact hx
  have hxr := hg4.ok.act x (List.mem_of_getElem? hx4)
  obtain ⟨xi, rfl, hst, hcl, hco⟩ := hg4.ok.at hxr
  rw [← hcl] at hco
  have cs := rsup hco.cg hcok
  have hsk : ∀ n ∈ (sup (clAt q4 (xi : Int)) c).1, COk S n := fun n hn => ((sup_kept hco.wf hcok.wf).1 n hn).cok
  have k4 := rcome hg4 4 [(xi : Int), g] (sup (clAt q4 (xi : Int)) c).1 (sup (clAt q4 (xi : Int)) c).2 hsk
  have hg5 := come_ok hg4 4 [(xi : Int), g] (m := ((sup (clAt q4 (xi : Int)) c).1, (sup (clAt q4 (xi : Int)) c).2)) hsk
  have hs5 := come_at (p := q4) (rule := 4) (frm := [(xi : Int), g]) (m := ((sup (clAt q4 (xi : Int)) c).1, (sup (clAt q4 (xi : Int)) c).2)) xi _ hst
  have hps : pickSup g c q4 (xi : Int) = if (xi : Int) = g then come q4 4 [(xi : Int), g] ((sup (clAt q4 (xi : Int)) c).1, (sup (clAt q4 (xi : Int)) c).2) else come (come q4 4 [(xi : Int), g] ((sup (clAt q4 (xi : Int)) c).1, (sup (clAt q4 (xi : Int)) c).2)) 4 [g, (xi : Int)] ((sup c (clAt q4 (xi : Int))).1, (sup c (clAt q4 (xi : Int))).2) := rfl
  rw [hps] at hnext
  (refine wlk ?_)
  (refine wlC cs ?_)
  (refine wlk ?_)
  (refine SqA.b1 (op_bsT (T := TB) (f := Int.d) [(xi : Int), g] rfl rfl rfl rfl rfl rfl rfl rfl rfl rfl rfl) rfl rfl ?_)
  (refine wlk ?_)
  (refine wlC k4 ?_)
  (refine wlE ?_)
  by_cases hxg : (xi : Int) = g
  · rw [if_pos hxg] at hnext
    (refine wlk ?_)
    exact ⟨(k + 1, _), ⟨by simp only; omega, hnext.symm, hg5.1, hg5.2.trans ha4⟩, fgs, by simp only; omega⟩
  rw [if_neg hxg] at hnext
  generalize hq5 : come q4 4 [(xi : Int), g] ((sup (clAt q4 (xi : Int)) c).1, (sup (clAt q4 (xi : Int)) c).2) = q5 at *
  obtain ⟨hg5, ha5⟩ := hg5
  have hcl5 : clAt q5 (xi : Int) = clAt q4 (xi : Int) := by
    unfold clAt stAt
    rw [List.getD_eq_getElem?_getD, List.getD_eq_getElem?_getD, Int.toNat_natCast, hs5, hst]
  have hst2 : q5.steps[xi]? = some (stAt q5.steps (xi : Int)) := by
    have : stAt q5.steps (xi : Int) = stAt q4.steps (xi : Int) := by
      unfold stAt
      rw [List.getD_eq_getElem?_getD, List.getD_eq_getElem?_getD, Int.toNat_natCast, hs5, hst]
    rw [this]; exact hs5
  have cs2 := rsup hcok.cg hco
  have hcl6 : (stAt q5.steps (xi : Int)).cl = clAt q4 (xi : Int) := hcl5
  rw [← hcl6] at cs2
  have hsk2 : ∀ n ∈ (sup c (clAt q4 (xi : Int))).1, COk S n := fun n hn => ((sup_kept hcok.wf hco.wf).1 n hn).cok
  have k5 := rcome hg5 4 [g, (xi : Int)] (sup c (clAt q4 (xi : Int))).1 (sup c (clAt q4 (xi : Int))).2 hsk2
  have hg6 := come_ok hg5 4 [g, (xi : Int)] (m := ((sup c (clAt q4 (xi : Int))).1, (sup c (clAt q4 (xi : Int))).2)) hsk2
  rw [← hcl6] at k5 hnext hg6
  clear hst
  (refine wlk ?_)
  (refine wlC cs2 ?_)
  (refine wlk ?_)
  (refine SqA.b1 (op_bsT (T := TB) (f := Int.d) [g, (xi : Int)] rfl rfl rfl rfl rfl rfl rfl rfl rfl rfl rfl) rfl rfl ?_)
  (refine wlk ?_)
  (refine wlC k5 ?_)
  (refine wlk ?_)
  exact ⟨(k + 1, _), ⟨by simp only; omega, hnext.symm, hg6.1, hg6.2.trans (ha5.trans ha4)⟩, fgs, by simp only; omega⟩
end Go.Proofs.YtmanhdacnkpclaaGreat
namespace Go.Proofs.YtmanhdacnkpclaaGreat
set_option linter.all false
open Go.RowKit
section
variable {P : Program} {n : Nat} {o : Oper} {σ : St}
theorem dwp_isOBs {Q : Exit → St → Prop} {c : Code} {j q E m : Nat} {cs : List CV} {ds : List D} (hb : St.get σ (.b j) = some (.box cs)) (hq : cs[q]? = some (.own E m ds)) (hmc : Nat.ble j EXT = true)
    (hx : ∃ t, St.get σ (.t t) = some (.one (.c (.ptr j 0)))) (h : ∀ ad cp, dwp P n c Q ((.b j, some (.box (cs.set q (.ownK (.slice ad ds.length cp) E m ds)))) :: σ)) : dwp P n c Q σ := fun C who a w hr => by
  obtain ⟨t, ht⟩ := hx
  obtain ⟨b, e, hbw⟩ := hr.slot t _ ht
  obtain ⟨vs, E', h1, h2, h3, h4⟩ := box_cell hr hbw hb hmc
  have hlt : q < vs.length := by rw [h2]; exact (List.getElem?_eq_some_iff.1 hq).1
  have hv := List.getElem?_eq_getElem hlt
  have hown := h4 q _ _ hq hv
  have hform : ∃ ad cp, vs[q] = .slice ad ds.length cp := Own.form hown.1
  obtain ⟨ad, cp, hf⟩ := hform
  refine h ad cp C who a w (hr.addBox fun b' hb' => ?_)
  have : b' = b := hr.bxu b' b j (by rw [bas_of (le_ext hmc)] at hb'; exact hb') hbw
  subst this
  refine ⟨vs, E', by rw [isShp_of hmc]; exact h1, by simpa using h2, fun i c' v hi hvi => ?_⟩
  rcases Classical.em (q = i) with rfl | hne
  · have hlt2 : q < cs.length := (List.getElem?_eq_some_iff.1 hq).1
    rw [List.getElem?_set_self hlt2] at hi; injection hi with hi; subst hi
    rw [hv] at hvi; injection hvi with hvi; subst hvi
    exact ⟨hf, h4 q _ _ hq hv⟩
  · rw [List.getElem?_set_ne hne] at hi
    exact h4 i c' v hi hvi
def CV.knw : CV → CV
  | .ownK v _ _ _ => .val v
  | c => c
theorem CV.knw_re {w : World} {who : Nat → Tag} {p p' : Tag} {c : CV} {u : Value} (hn : c.knw.noOwn = true) (h : cvm w who p c u) : cvm w who p' c.knw u := by
  cases c with
  | ownK v E m ds => exact h.1
  | _ => exact cvm.re hn h
theorem op_loadAggK {d t m j : Nat} {s : Operand} {cs cs' : List CV} (hd : o.dst = some d) (ho : o.op = .load t s) (hr : rowT P t = some (true, m)) (hs : St.ev σ s = some (.one (.c (.ptr j 0)))) (hb : St.get σ (.b j) = some (.box cs)) (hl : cs.length = m) (hc : cs.map CV.knw = cs') (hn : cs'.all (fun c => c.noOwn && c.oneOk) = true) (hmc : Nat.ble j EXT = true) :
    Op1 P n o ⟨(opKey s ++ [.b j]) ++ (X.one (.agg cs')).ids.map Key.b, [.t d], []⟩ σ [(.t d, some (.one (.agg cs')))] :=
  .value _ hd fun σ' hag C who a w hrp => by
    obtain ⟨b, e, hbw⟩ := hrp.ev ((ev_agree fun k hk => hag k (List.mem_append_left _ hk)).trans hs)
    obtain ⟨vs, E, h1, h2, h3, h4⟩ := box_cell hrp hbw ((hag _ (List.mem_append_right _ (by simp))).trans hb) hmc
    subst hc
    refine ⟨.agg vs.toArray, by simp [execOp, ho, e, run_loadN hr (b := b) (q := 0) (w := w) (h2.trans hl) fun i v hv => by rw [Nat.zero_add]; exact h3 i v hv], vs, rfl, by simpa using h2, fun q c v hq hv => ?_⟩
    have hall := List.all_eq_true.1 hn c (List.mem_of_getElem? hq)
    simp only [Bool.and_eq_true] at hall
    rw [List.getElem?_map, Option.map_eq_some_iff] at hq
    obtain ⟨c0, hc0, rfl⟩ := hq
    have h5 : cvm w who (.own (.t d) 0 q) c0.knw v := CV.knw_re hall.1 (h4 q c0 v hc0 hv)
    exact ⟨h5, cvm.one hall.2 h5⟩
theorem op_storeKeep {T m j t q E0 m0 : Nat} {s : Operand} {v : Value} {ds : List D} {cs0 cs cs' : List CV} (hd : o.dst = none) (ho : o.op = .store T s (.tmp t)) (hs : St.ev σ s = some (.one (.c (.ptr j 0)))) (hb : St.get σ (.b j) = some (.box cs0)) (hr : rowT P T = some (true, m)) (hv : St.get σ (.t t) = some (.one (.agg cs))) (hl : cs.length = m) (hl0 : cs0.length = m) (hi : cs.flatMap CV.ids = []) (hno : cs.all CV.noOwn = true)
    (hq0 : cs0[q]? = some (.ownK v E0 m0 ds)) (hq : cs[q]? = some (.val v)) (hc' : cs.set q (.ownK v E0 m0 ds) = cs') (hmc : Nat.ble j EXT = true) :
    Op1 P n o ⟨(opKey s ++ [.t t, .b j]), [.b j], []⟩ σ [(.b j, some (.box cs'))] where
  does := fun σ' hag hal C who a w hrp hdst K Q hK => by
    obtain ⟨b, e, hbw⟩ := hrp.ev ((ev_agree fun k hk => hag k (by simp [hk])).trans hs)
    have hsl := (hag (.t t) (by simp)).trans hv
    obtain ⟨news, e2, hvl, hc⟩ : A1m w who (.t t) 0 (.agg cs) (a.tmps.getD t undef) := hrp.slot t _ hsl
    have e2' : a.eval (.tmp t) = .agg news.toArray := e2
    have hgb : St.get σ' (.b j) = some (.box cs0) := (hag (.b j) (by simp)).trans hb
    obtain ⟨vs, E, h1, h2, h3, h4⟩ := box_cell hrp hbw hgb hmc
    obtain ⟨dsc, ii, hu, hrow, hif, hsz⟩ := rowT_parts hr
    have hcells : (a.eval (.tmp t)).cells = news.toArray := by rw [e2']; simp [Value.cells]
    have hst := run_storeCells_cells (P := P) b 0 news 0 w (fun i hi' => by
      rw [Nat.zero_add, h3 i _ (List.getElem?_eq_getElem (by omega))]; rfl) (fun i _ => by simp [World.frozen?, h1]) (fun v hv => by
      obtain ⟨q, hq, rfl⟩ := List.getElem_of_mem hv
      exact (hc q _ _ (List.getElem?_eq_getElem (hvl ▸ hq)) (List.getElem?_eq_getElem hq)).2)
    have hrun : (execOp a.eval o).run P w = .ok .skip (w.setCells b 0 news) := by
      simp only [execOp, ho, e, Instr.storeAt, Instr.sureAddr, Sem.run_bind, Sem.run_pure, Result.andThen_ok, storeVar, sizeOf, typeInfo, run_program, hif, hcells]
      rw [if_neg (by simp; omega)]
      simp only [Nat.add_zero] at hst
      simp [hst]
    unfold Oper.wp
    rw [hrun]
    show K (a.put o.dst undef) _
    obtain ⟨g1, g2, g3, g4, g5, g6⟩ := setCells_blk news w b 0 vs E h1
    have hstp : Stp who w who (w.setCells b 0 news) (fun k => k = b) (fun _ => False) :=
      ⟨g4, g5, g6, by rw [g3]; exact Nat.le_refl _, fun k _ hk => g2 k hk, fun _ _ _ => rfl, fun k hk => by rw [hk, hbw]; simp, fun _ h => h.elim⟩
    have hrep : Rep n C who ((.b j, none) :: σ') a (w.setCells b 0 news) := by
      refine (hrp.kill (.b j)).stp hstp (fun k hk hoo => ⟨fun hkb => ?_, fun h => h⟩) (fun _ _ _ _ h => h) (fun k hk => by rw [g3]; exact hrp.fz k hk) hrp.bxu ?_ ?_ ?_ ?_
      · have := hrp.adv.tag k hk (hoo.imp id .inl)
        rw [hkb, hbw] at this
        rw [hkb] at hoo
        rcases hoo with hoo | hoo <;> rw [hoo] at this <;> cases this
      · intro k kk p q' hk hT
        rcases hT with hT | hT
        · rw [hT, hbw] at hk; cases hk
        · exact hT.elim
      · intro k i _ h; exact h.elim
      · intro k i hk hT
        rcases hT with hT | hT
        · rw [hT, hbw] at hk; injection hk with hk; have hk := nb_eq (le_ext hmc) hk.symm; subst hk; exact St.get_same
        · exact hT.elim
      · intro k i h1 h2; exact absurd h1 h2
    have hbox : Boxm (w.setCells b 0 news) who j cs' := by
      intro k hk
      rw [bas_of (le_ext hmc)] at hk
      have : k = b := hrp.bxu k b j hk hbw
      subst this
      subst hc'
      refine ⟨splL vs 0 news, E, by rw [isShp_of hmc]; exact g1, by rw [splL_len]; simp; omega, fun i c u hi' hu' => ?_⟩
      rw [splL_get _ _ _ _ (by omega)] at hu'
      have hil : i < cs.length := by
        have := (List.getElem?_eq_some_iff.1 hi').1
        simpa using this
      rw [if_pos (by omega), Nat.sub_zero] at hu'
      rcases Classical.em (q = i) with rfl | hne
      · rw [List.getElem?_set_self hil] at hi'; injection hi' with hi'; subst hi'
        have hu : u = v := (hc q _ u hq hu').1
        subst hu
        have hlt : q < vs.length := by omega
        obtain ⟨e5, h5⟩ := h4 q _ _ hq0 (List.getElem?_eq_getElem hlt)
        rw [e5] at h5
        have h6 : cvm w who (.own (.b j) 0 q) (.ownK u E0 m0 ds) u := ⟨rfl, h5⟩
        exact cvm.stp h6 hstp hrp.fz (fun _ k' hk' => ⟨fun hT => (by rw [hT, hbw] at hk'; cases hk'), fun h => h⟩) (by simp) fun _ _ _ _ h => h
      · rw [List.getElem?_set_ne hne] at hi'
        have h5 := (hc i c u hi' hu').1
        have h6 : cvm (w.setCells k 0 news) who (.own (.t t) 0 i) c u := cvm.stp h5 hstp hrp.fz (fun _ k' hk' => ⟨fun hT => (by rw [hT, hbw] at hk'; cases hk'), fun h => h⟩) (by simp) fun _ _ _ _ h => h
        exact cvm.re (List.all_eq_true.1 hno c (List.mem_of_getElem? hi')) h6
    refine hK who undef _ ?_
    rw [hd]
    refine (hrep.addBox hbox).congr fun k => ?_
    simp only [List.cons_append, List.nil_append, St.get]
    cases Key.is (.b j) k <;> simp
  wr := by simp
  me := fun i hi' => by
    subst hc'
    have h1 : i ∈ (cs.set q (.ownK v E0 m0 ds)).flatMap CV.ids := by simpa [St.ids, oids, X.ids, A1.ids] using hi'
    obtain ⟨c, hc, hic⟩ := List.mem_flatMap.1 h1
    rcases List.mem_or_eq_of_mem_set hc with hc | rfl
    · have := List.flatMap_eq_nil_iff.1 hi c hc
      rw [this] at hic; cases hic
    · simp [CV.ids] at hic
  al := by simp
end
end Go.Proofs.YtmanhdacnkpclaaGreat
namespace Go.Proofs.YtmanhdacnkpclaaGreat
set_option linter.all false
open Go.RowKit
abbrev pfBoxO (p : Pf) : List CV := [.arr (p.sig.map Int.d), .arr (p.steps.map Sp.d), .arr (p.active.map Int.d), .own 3 1 (p.wait.map Int.d), .val (.int .i64 p.found), .val (.bool p.lost)]
set_option maxHeartbeats 16000000 in
set_option maxRecDepth 100000 in
theorem rnew {S : List Int} {l : List (List Lt)} : FnD Tryz.prog 21 [lA Int.d S, lA Cl.d l] (.tup [pfA (newP S l).1, iA (newP S l).2]) := by
  refine Fn.of Tryz.func21 rfl Tryz.ntmps21 rfl (Nat.le_of_ble_eq_true rfl) ?_
  have c0 := rwrongSig S
  by_cases hw : wrongSig S = 0
  rotate_left
  · have e : newP S l = (Pf.zero, wrongSig S) := if_neg hw
    rw [e]
    (refine wlk ?_)
    (refine wlC c0 ?_)
    (refine wlk ?_)
    refine fin_wk (fun n => Wk.nilArrB (j := 4) (q := 0) rfl rfl rfl) ?_
    refine fin_wk (fun n => Wk.nilArrB (j := 4) (q := 1) rfl rfl rfl) ?_
    refine fin_wk (fun n => Wk.nilArrB (j := 4) (q := 2) rfl rfl rfl) ?_
    refine fin_wk (fun n => Wk.nilArrB (j := 4) (q := 3) rfl rfl rfl) ?_
    (refine wfCT ?_)
    rfl
  by_cases h8 : 8 < l.length
  · have e : newP S l = (Pf.zero, 5) := by unfold newP; rw [if_pos hw, if_pos h8]
    rw [e]
    (refine wlk ?_)
    (refine wlC c0 ?_)
    (refine wlk ?_)
    refine fin_wk (fun n => Wk.nilArrB (j := 4) (q := 0) rfl rfl rfl) ?_
    refine fin_wk (fun n => Wk.nilArrB (j := 4) (q := 1) rfl rfl rfl) ?_
    refine fin_wk (fun n => Wk.nilArrB (j := 4) (q := 2) rfl rfl rfl) ?_
    refine fin_wk (fun n => Wk.nilArrB (j := 4) (q := 3) rfl rfl rfl) ?_
    (refine wfCT ?_)
    rfl
  have e : newP S l = newGo S 0 l ⟨S, [], [], [], -1, false⟩ := by unfold newP; rw [if_pos hw, if_neg h8]
  rw [e]
  clear e
  (refine wlN ?_)
  (refine wlE ?_)
  (refine wlk ?_)
  (refine wlC c0 ?_)
  (refine wlE ?_)
  (refine wlN ?_)
  (refine wlE ?_)
  (refine wlN ?_)
  (refine wlE ?_)
  (refine wlN ?_)
  (refine wlE ?_)
  refine dwp_wk (Wk.nilArrB (j := 7) (q := 1) rfl rfl rfl) ?_
  refine dwp_wk (Wk.nilArrB (j := 7) (q := 2) rfl rfl rfl) ?_
  refine dwp_wk (Wk.nilOwnB (j := 7) (q := 3) (E := 3) (m := 1) rfl rfl rfl) ?_
  (refine wlk ?_)
  refine dwp_loop (fun x : Nat × Pf => [(.t 0, some (.one (lA Int.d S))), (.t 4, some (.one (.c (.ptr 4 0)))), (.b 4, some (.box zero9)), (.t 7, some (.one (.c (.ptr 7 0)))), (.b 7, some (.box (pfBoxO x.2))), (.t 25, some (.one (lA Cl.d l))), (.t 26, some (.one (iA l.length))), (.t 27, some (.one (iA x.1)))])
    (fun x => x.1 ≤ l.length ∧ newGo S 0 l ⟨S, [], [], [], -1, false⟩ = newGo S x.1 (l.drop x.1) x.2 ∧ x.2.steps.length ≤ x.1 ∧ x.2.wait.length ≤ x.1) (fun x => l.length - x.1) (0, ⟨S, [], [], [], -1, false⟩) ⟨by simp, rfl, by simp, by simp⟩ fgs ?_
  rintro ⟨k, p⟩ ⟨hk, hp, hst, hwa⟩
  dsimp only at hk hp hst hwa ⊢
  by_cases hkl : k < l.length
  rotate_left
  · have hkc : k = l.length := by omega
    subst hkc
    rw [List.drop_length] at hp
    have e : newGo S l.length [] p = (p, 0) := rfl
    rw [hp, e]
    refine dwp_wk (Wk.freezeB (j := 7) (q := 3) rfl rfl rfl) ?_
    (refine wlk ?_)
    (refine wfCT ?_)
    rfl
  obtain ⟨c, hc⟩ := get_of_lt hkl
  have c2 := rwrongCl S c
  have e1 : newGo S k (l.drop k) p = if wrongCl S c = 0 then (match norm c with
      | (n, e) => if e = 4 then (Pf.zero, 4) else if e = 0 then newGo S (k + 1) (l.drop (k + 1)) { (stepP p 1 [(k : Int)] n).1 with wait := p.wait ++ [((stepP p 1 [(k : Int)] n).1.steps.length : Int) - 1] } else newGo S (k + 1) (l.drop (k + 1)) p)
    else (Pf.zero, wrongCl S c) := by
    rw [drop_of hc]; rfl
  by_cases hwc : wrongCl S c = 0
  rotate_left
  · rw [hp, e1, if_neg hwc]
    (refine wlk ?_)
    (refine wlC c2 ?_)
    (refine wlk ?_)
    refine fin_wk (fun n => Wk.nilArrB (j := 4) (q := 0) rfl rfl rfl) ?_
    refine fin_wk (fun n => Wk.nilArrB (j := 4) (q := 1) rfl rfl rfl) ?_
    refine fin_wk (fun n => Wk.nilArrB (j := 4) (q := 2) rfl rfl rfl) ?_
    refine fin_wk (fun n => Wk.nilArrB (j := 4) (q := 3) rfl rfl rfl) ?_
    (refine wfCT ?_)
    rfl
  rw [if_pos hwc] at e1
  have hco := cok_of hw hwc
  have hl4 := hco.len
  have hgd : ∀ x ∈ c, (x.left.okv = true ∧ few x.left) ∧ (x.right.okv = true ∧ few x.right) := fun x hx => by
    obtain ⟨i, hi⟩ := List.getElem?_of_mem hx
    have ho := hco.cg.old hi
    exact ⟨⟨ho.1.1.okv, ho.1.1.few⟩, ho.2.1.okv, ho.2.1.few⟩
  have c3 := rnorm c (fun x hx => ⟨(hgd x hx).1.1, (hgd x hx).2.1⟩) (fun x hx => ⟨(hgd x hx).1.2, (hgd x hx).2.2⟩) (fun x hx => by have := hco.size x hx; omega) (by omega)
  rcases hn : norm c with ⟨d, e⟩
  rw [hn] at e1 c3
  dsimp only at e1 c3
  by_cases h4 : e = 4
  · subst h4
    rw [if_pos rfl] at e1
    rw [hp, e1]
    (refine wlk ?_)
    (refine wlC c2 ?_)
    (refine wlk ?_)
    (refine wlC c3 ?_)
    (refine wlk ?_)
    refine fin_wk (fun n => Wk.nilArrB (j := 4) (q := 0) rfl rfl rfl) ?_
    refine fin_wk (fun n => Wk.nilArrB (j := 4) (q := 1) rfl rfl rfl) ?_
    refine fin_wk (fun n => Wk.nilArrB (j := 4) (q := 2) rfl rfl rfl) ?_
    refine fin_wk (fun n => Wk.nilArrB (j := 4) (q := 3) rfl rfl rfl) ?_
    (refine wfCT ?_)
    rfl
  rw [if_neg h4] at e1
  by_cases h0 : e = 0
  rotate_left
  · rw [if_neg h0] at e1
    (refine wlk ?_)
    (refine wlC c2 ?_)
    (refine wlk ?_)
    (refine wlC c3 ?_)
    (refine wlk ?_)
    exact ⟨(k + 1, p), ⟨by simp only; omega, hp.trans e1, by simp only; omega, by simp only; omega⟩, fgs, by simp only; omega⟩
  subst h0
  rw [if_pos rfl] at e1
  obtain ⟨sg, st, ac, wa, fo, lo⟩ := p
  dsimp only at hst hwa e1
  have h120 : ¬ 120 ≤ st.length := by omega
  rw [stepP_in (by exact h120)] at e1
  dsimp only at e1
  have hp2 := hp.trans e1
  clear e1 hp
  have hwl : (wa ++ [((st ++ [(⟨1, [(k : Int)], d⟩ : Sp)]).length : Int) - 1]).length ≤ 1000 := by simp; omega
  have hsl2 : (st ++ [(⟨1, [(k : Int)], d⟩ : Sp)]).length = st.length + 1 := by simp
  (refine wlk ?_)
  (refine wlC c2 ?_)
  (refine wlk ?_)
  (refine wlC c3 ?_)
  (refine wlE ?_)
  (refine wlN ?_)
  (refine wlE ?_)
  (refine wlN ?_)
  (refine wlE ?_)
  refine dwp_isOBs (j := 7) (q := 3) rfl rfl rfl ⟨7, rfl⟩ fun ad cp => ?_
  have hsp := rstepV ad (wa.map Int.d).length cp ⟨sg, st, ac, wa, fo, lo⟩ 1 [(k : Int)] d (by simp only; omega)
  rw [stepP_t (by exact h120)] at hsp
  dsimp only [pfAV, pfA] at hsp
  (refine wlN ?_)
  (refine SqA.b1 (op_loadAggK rfl rfl (rw_of rfl) rfl rfl rfl rfl rfl rfl) rfl rfl ?_)
  (refine wlk ?_)
  (refine SqA.b1 (op_bsT (T := TB) (f := Int.d) [(k : Int)] rfl rfl rfl rfl rfl rfl rfl rfl rfl rfl rfl) rfl rfl ?_)
  (refine wlk ?_)
  (refine wlC hsp ?_)
  (refine SqA.a1 TB rfl rfl rfl ?_)
  (refine SqA.a1 TB rfl rfl rfl ?_)
  (refine SqA.a1 TB rfl rfl rfl ?_)
  (refine SqA.b1 (op_storeKeep (j := 7) (q := 3) rfl rfl rfl rfl (rw_of rfl) rfl rfl rfl rfl rfl rfl rfl rfl rfl) rfl rfl ?_)
  (refine wlE ?_)
  refine dwp_wk (Wk.ofKB (j := 7) (q := 3) rfl rfl rfl rfl) ?_
  (refine wlk ?_)
  (refine SqA.b1 (op_bsT (T := TB) (f := Int.d) [((st ++ [(⟨1, [(k : Int)], d⟩ : Sp)]).length : Int) - 1] rfl rfl rfl rfl rfl rfl rfl rfl rfl rfl rfl) rfl rfl ?_)
  (refine wlk ?_)
  exact ⟨(k + 1, ⟨sg, st ++ [⟨1, [(k : Int)], d⟩], ac, wa ++ [((st ++ [(⟨1, [(k : Int)], d⟩ : Sp)]).length : Int) - 1], if d.length = 0 ∧ fo < 0 then (st.length : Int) else fo, lo⟩), ⟨by simp only; omega, hp2, by simp; omega, by simp; omega⟩, fgs, by simp only; omega⟩
end Go.Proofs.YtmanhdacnkpclaaGreat
namespace Go.Proofs.YtmanhdacnkpclaaGreat
set_option linter.all false
open Go.RowKit
theorem emod_of {n m : Int} (hm : 0 < m) : (if Int.tmod n m < 0 then Int.tmod n m + m else Int.tmod n m) = n % m := by
  rcases Int.lt_or_le n 0 with h | h
  · have e : Int.tmod n m = - ((-n) % m) := by
      have : n = - (-n) := by omega
      rw [this, Int.neg_tmod, Int.tmod_eq_emod_of_nonneg (by omega)]; simp
    rw [e]
    have h1 := Int.emod_nonneg (-n) (show m ≠ 0 by omega)
    have h2 := Int.emod_lt_of_pos (-n) hm
    rcases Classical.em ((-n) % m = 0) with h0 | h0
    · rw [h0]
      simp only [Int.neg_zero]
      rw [if_neg (by omega)]
      have := Int.dvd_of_emod_eq_zero h0
      exact (Int.emod_eq_zero_of_dvd ((Int.dvd_neg).1 this)).symm
    · rw [if_pos (by omega)]
      have h4 : (m - (-n) % m) % m = m - (-n) % m := Int.emod_eq_of_lt (by omega) (by omega)
      have hd := Int.emod_add_mul_ediv (-n) m
      have hs : n = (m - (-n) % m) + m * (-((-n) / m) - 1) := by
        rw [Int.mul_sub, Int.mul_neg, Int.mul_one]; omega
      have h3 : n % m = (m - (-n) % m) % m := by
        rw [congrArg (· % m) hs]
        exact Int.add_mul_emod_self_left _ _ _
      rw [h3, h4]
      exact Int.add_comm _ _
  · rw [Int.tmod_eq_emod_of_nonneg h, if_neg (by have := Int.emod_nonneg n (show m ≠ 0 by omega); omega)]
section
variable {P : Program}
theorem bin_tmod {T : TypeId} {a b : Int} (h1 : 0 < b) : Bin P .rem T (.int .i64 a) (.int .i64 b) (.int .i64 (Int.tmod a b)) := .mk fun s1 s2 w => by
  simp [eqGuard, binOp, Op.intDiv, show ¬ b = 0 by omega]
end
set_option maxHeartbeats 16000000 in
set_option maxRecDepth 100000 in
theorem rsearch {S : List Int} {l : List (List Lt)} {picks : List Int} : FnD Tryz.prog 18 [lA Int.d S, lA Cl.d l, lA Int.d picks] (.tup [pfA (search S l picks).1, iA (search S l picks).2]) := by
  refine Fn.of Tryz.func18 rfl Tryz.ntmps18 rfl (Nat.le_of_ble_eq_true rfl) ?_
  have c0 := rnew (S := S) (l := l)
  obtain ⟨⟨p0, e⟩, hn⟩ : ∃ r, r = newP S l := ⟨_, rfl⟩
  have hse : search S l picks = if e = 0 then (if 120 < picks.length then (Pf.zero, 4) else (searchGo p0 picks, 0)) else (Pf.zero, e) := by unfold search; rw [← hn]
  rw [← hn] at c0
  dsimp only at c0
  by_cases he : e = 0
  rotate_left
  · rw [hse, if_neg he]
    (refine wlk ?_)
    (refine wlC c0 ?_)
    (refine wlk ?_)
    refine fin_wk (fun n => Wk.nilArrB (j := 6) (q := 0) rfl rfl rfl) ?_
    refine fin_wk (fun n => Wk.nilArrB (j := 6) (q := 1) rfl rfl rfl) ?_
    refine fin_wk (fun n => Wk.nilArrB (j := 6) (q := 2) rfl rfl rfl) ?_
    refine fin_wk (fun n => Wk.nilArrB (j := 6) (q := 3) rfl rfl rfl) ?_
    (refine wfCT ?_)
    rfl
  subst he
  rw [if_pos rfl] at hse
  by_cases h120 : 120 < picks.length
  · rw [hse, if_pos h120]
    (refine wlk ?_)
    (refine wlC c0 ?_)
    (refine wlk ?_)
    refine fin_wk (fun n => Wk.nilArrB (j := 6) (q := 0) rfl rfl rfl) ?_
    refine fin_wk (fun n => Wk.nilArrB (j := 6) (q := 1) rfl rfl rfl) ?_
    refine fin_wk (fun n => Wk.nilArrB (j := 6) (q := 2) rfl rfl rfl) ?_
    refine fin_wk (fun n => Wk.nilArrB (j := 6) (q := 3) rfl rfl rfl) ?_
    (refine wfCT ?_)
    rfl
  rw [hse, if_neg h120]
  clear hse
  obtain ⟨hs, hi⟩ := newP_right hn.symm
  have hQ := QOk.ofKept hs hi
  have hpi := (newP_ok hn.symm hQ).1
  clear hn
  (refine wlk ?_)
  (refine wlC c0 ?_)
  (refine wlk ?_)
  refine dwp_loop (fun x : Nat × Pf => [(.t 6, some (.one (.c (.ptr 6 0)))), (.b 6, some (.box zero9)), (.t 8, some (.one (.c (.ptr 8 0)))), (.b 8, some (.box (pfA x.2).cells)), (.t 26, some (.one (lA Int.d picks))), (.t 27, some (.one (iA picks.length))), (.t 28, some (.one (iA x.1)))])
    (fun x => x.1 ≤ picks.length ∧ searchGo p0 picks = searchGo x.2 (picks.drop x.1) ∧ PI S l (Kept S) x.2) (fun x => picks.length - x.1) (0, p0) ⟨by simp, rfl, hpi⟩ fgs ?_
  clear hpi c0
  rintro ⟨k, p⟩ ⟨hk, hsg, hp⟩
  dsimp only at hk hsg hp ⊢
  by_cases hkl : k < picks.length
  rotate_left
  · have : k = picks.length := by omega
    subst this
    rw [List.drop_length] at hsg
    have e : searchGo p [] = p := rfl
    rw [hsg, e]
    (refine wlk ?_)
    (refine wfCT ?_)
    rfl
  obtain ⟨x, hx⟩ := get_of_lt hkl
  rw [drop_of hx] at hsg
  have e1 : searchGo p (x :: picks.drop (k + 1)) = if p.wait.length = 0 then p else searchGo (pick p (x % (p.wait.length : Int))).1 (picks.drop (k + 1)) := rfl
  rw [e1] at hsg
  have hgo := PfGo.of hp fun c h => h
  have hlen := hgo.ok.len
  have haw := hgo.aw
  by_cases hw : p.wait.length = 0
  · rw [if_pos hw] at hsg
    rw [hsg]
    (refine wlk ?_)
    (refine wfCT ?_)
    rfl
  rw [if_neg hw] at hsg
  have hm : 0 < (p.wait.length : Int) := by omega
  have hmod := emod_of (n := x) hm
  have hb1 := Int.emod_nonneg x (show (p.wait.length : Int) ≠ 0 by omega)
  have hb2 := Int.emod_lt_of_pos x hm
  by_cases hneg : Int.tmod x (p.wait.length : Int) < 0
  · rw [if_pos hneg] at hmod
    have hpk := rpick hgo (Int.tmod x (p.wait.length : Int) + (p.wait.length : Int))
    have hp2 := (hp.pick hQ (x % (p.wait.length : Int))).1
    rw [← hmod] at hsg hp2
    (refine wlk ?_)
    (refine SqA.b1 (op_bin rfl rfl rfl rfl (bin_tmod (by omega))) rfl rfl ?_)
    (refine wlk ?_)
    (refine wlC hpk ?_)
    (refine wlk ?_)
    exact ⟨(k + 1, _), ⟨by simp only; omega, hsg, hp2⟩, fgs, by simp only; omega⟩
  · rw [if_neg hneg] at hmod
    have hpk := rpick hgo (Int.tmod x (p.wait.length : Int))
    have hp2 := (hp.pick hQ (x % (p.wait.length : Int))).1
    rw [← hmod] at hsg hp2
    (refine wlk ?_)
    (refine SqA.b1 (op_bin rfl rfl rfl rfl (bin_tmod (by omega))) rfl rfl ?_)
    (refine wlk ?_)
    (refine wlC hpk ?_)
    (refine wlk ?_)
    exact ⟨(k + 1, _), ⟨by simp only; omega, hsg, hp2⟩, fgs, by simp only; omega⟩
end Go.Proofs.YtmanhdacnkpclaaGreat
namespace Go.Proofs.YtmanhdacnkpclaaGreat
set_option linter.all false
open Go.RowKit
set_option maxRecDepth 100000 in
theorem rsameInts (a b : List Int) : FnD Tryz.prog 27 [lA Int.d a, lA Int.d b] (.one (bA (decide (a = b)))) := by
  refine Fn.of Tryz.func27 rfl Tryz.ntmps27 rfl (Nat.le_of_ble_eq_true rfl) ?_
  refine dwp_len (t := 0) rfl fun hl => ?_
  simp only [List.length_map] at hl
  by_cases h3 : a.length = b.length
  rotate_left
  · (refine wlk ?_)
    (refine wfT ?_)
    exact Xb (b := false) (decide_eq_false (fun e => h3 (by rw [e]))).symm
  (refine wlk ?_)
  refine dwp_loop (fun k : Nat => [(.t 0, some (.one (lA Int.d a))), (.t 1, some (.one (lA Int.d b))), (.t 12, some (.one (iA a.length))), (.t 13, some (.one (iA k)))])
    (fun k => k ≤ a.length ∧ a.take k = b.take k) (fun k => a.length - k) 0 ⟨by omega, rfl⟩ fgs ?_
  rintro k ⟨hk, htk⟩
  by_cases hkl : k < a.length
  · obtain ⟨x, hx⟩ := get_of_lt hkl
    obtain ⟨y, hy⟩ := get_of_lt (s := b) (k := k) (by omega)
    by_cases hxy : x = y
    · (refine wlk ?_)
      exact ⟨k + 1, ⟨by omega, by rw [take_succ_of hx, take_succ_of hy, htk, hxy]⟩, fgs, by omega⟩
    · (refine wlk ?_)
      (refine wfT ?_)
      exact Xb (b := false) (decide_eq_false (fun e => hxy (by rw [e, hy] at hx; injection hx with e; exact e.symm))).symm
  · have : k = a.length := by omega
    subst this
    (refine wlk ?_)
    (refine wfT ?_)
    exact Xb (b := true) (decide_eq_true (by rw [List.take_length, h3, List.take_length] at htk; exact htk)).symm
end Go.Proofs.YtmanhdacnkpclaaGreat
namespace Go.Proofs.YtmanhdacnkpclaaGreat
set_option linter.all false
open Go.RowKit
theorem beq_selfG (b : Bool) : (b == b) = true := by cases b <;> rfl
theorem sameIntsR (l : List Int) : FnD Tryz.prog 27 [lA Int.d l, lA Int.d l] (.one (bA true)) := by
  have := rsameInts l l
  rw [decide_eq_true rfl] at this; exact this
set_option maxHeartbeats 4000000 in
set_option maxRecDepth 100000 in
theorem sameStepsR (l : List Sp) : FnD Tryz.prog 11 [lA Sp.d l, lA Sp.d l] (.one (bA true)) := by
  refine Fn.of Tryz.func11 rfl Tryz.ntmps11 rfl (Nat.le_of_ble_eq_true rfl) ?_
  refine dwp_len (t := 0) rfl fun hl => ?_
  simp only [List.length_map] at hl
  (refine wlk ?_)
  refine dwp_loop (fun k : Nat => [(.t 0, some (.one (lA Sp.d l))), (.t 1, some (.one (lA Sp.d l))), (.t 12, some (.one (iA l.length))), (.t 13, some (.one (iA k)))])
    (fun k => k ≤ l.length) (fun k => l.length - k) 0 (by omega) fgs ?_
  intro k hk
  by_cases hkl : k < l.length
  · obtain ⟨⟨r, f, c⟩, hx⟩ := get_of_lt hkl
    have c1 := sameIntsR f
    have c2 := rsameClause c c
    rw [clSame_iff.2 rfl] at c2
    (refine wlk ?_)
    (refine wlC c1 ?_)
    (refine wlk ?_)
    (refine wlC c2 ?_)
    (refine wlk ?_)
    exact ⟨k + 1, by omega, fgs, by omega⟩
  · (refine wlk ?_)
    (refine wfT ?_)
    rfl
set_option maxHeartbeats 4000000 in
set_option maxRecDepth 100000 in
theorem sameProofR (p : Pf) : FnD Tryz.prog 22 [pfA p, pfA p] (.one (bA true)) := by
  obtain ⟨sg, st, ac, wa, fo, lo⟩ := p
  have c1 := sameIntsR sg
  have c2 := sameStepsR st
  have c3 := sameIntsR ac
  have c4 := sameIntsR wa
  have hb := beq_selfG lo
  refine Fn.of Tryz.func22 rfl Tryz.ntmps22 rfl (Nat.le_of_ble_eq_true rfl) ?_
  (refine wlk ?_)
  (refine wlC c1 ?_)
  (refine wlk ?_)
  (refine wlC c2 ?_)
  (refine wlk ?_)
  (refine wlC c3 ?_)
  (refine wlk ?_)
  (refine wlC c4 ?_)
  (refine wlk ?_)
  (refine wfT ?_)
  rfl
end Go.Proofs.YtmanhdacnkpclaaGreat
namespace Go.Proofs.YtmanhdacnkpclaaGreat
set_option linter.all false
open Go.RowKit
set_option maxHeartbeats 16000000 in
set_option maxRecDepth 100000 in
theorem proveTells_fn (s : List Int) (l : List (List Lt)) (picks : List Int) (n : Int) : FnD Tryz.prog 6 [lA Int.d s, lA Cl.d l, lA Int.d picks, iA n] (.one (bA true)) := by
  refine Fn.of Tryz.func6 rfl Tryz.ntmps6 rfl (Nat.le_of_ble_eq_true rfl) ?_
  have c1 := snew (S := s) (l := l)
  have c2 := rnew (S := s) (l := l)
  generalize newP s l = r0 at c1 c2
  obtain ⟨p0, e0⟩ := r0
  dsimp only at c1 c2
  have c3 := sameProofR p0
  have c4 := rsearch (S := s) (l := l) (picks := picks)
  obtain ⟨⟨p, e⟩, hs⟩ : ∃ r, r = search s l picks := ⟨_, rfl⟩
  rw [← hs] at c4
  dsimp only at c4
  by_cases he : e = 0
  rotate_left
  · (refine wlk ?_)
    (refine wlC c1 ?_)
    (refine wlk ?_)
    (refine wlC c2 ?_)
    (refine wlk ?_)
    (refine wlC c3 ?_)
    (refine wlk ?_)
    (refine wlC c4 ?_)
    (refine wlk ?_)
    (refine wfT ?_)
    rfl
  subst he
  have hp := search_kept hs.symm
  have hsl := wrongSig_len (search_ok hs.symm fun hs hi => QOk.ofKept hs hi).2.2.2.1
  have hgo := PfGo.of hp fun c h => h
  have hlen := hgo.ok.len
  have haw := hgo.aw
  have hsg : p.sig.length ≤ 1000000 := by rw [hp.sig]; omega
  have c5 := spick hgo hsg n
  have c6 := rpick hgo n
  generalize pick p n = r at c5 c6
  obtain ⟨q, f⟩ := r
  dsimp only at c5 c6
  have c7 := sameProofR q
  have c8 := sownA p hsg (by omega) (by omega) (by omega)
  have c9 := sameProofR p
  (refine wlk ?_)
  (refine wlC c1 ?_)
  (refine wlk ?_)
  (refine wlC c2 ?_)
  (refine wlk ?_)
  (refine wlC c3 ?_)
  (refine wlk ?_)
  (refine wlC c4 ?_)
  (refine wlk ?_)
  (refine wlC c5 ?_)
  (refine wlk ?_)
  (refine wlC c6 ?_)
  (refine wlk ?_)
  (refine wlC c7 ?_)
  (refine wlk ?_)
  (refine wlC c8 ?_)
  (refine wlk ?_)
  (refine wlC c9 ?_)
  (refine wlk ?_)
  (refine wfT ?_)
  rfl
set_option maxHeartbeats 16000000 in
set_option maxRecDepth 100000 in
theorem proveOnce_fn (s : List Int) (l : List (List Lt)) (picks : List Int) (n : Int) : FnD Tryz.prog 7 [lA Int.d s, lA Cl.d l, lA Int.d picks, iA n] (.one (bA true)) := by
  refine Fn.of Tryz.func7 rfl Tryz.ntmps7 rfl (Nat.le_of_ble_eq_true rfl) ?_
  have c4 := rsearch (S := s) (l := l) (picks := picks)
  obtain ⟨⟨p, e⟩, hs⟩ : ∃ r, r = search s l picks := ⟨_, rfl⟩
  rw [← hs] at c4
  dsimp only at c4
  by_cases he : e = 0
  rotate_left
  · (refine wlk ?_)
    (refine wlC alive9 ?_)
    (refine wlk ?_)
    (refine wlC c4 ?_)
    (refine wlk ?_)
    (refine wfT ?_)
    rfl
  subst he
  have hso := search_ok hs.symm fun hs hi => QOk.ofKept hs hi
  have hp := hso.1
  have hsl := wrongSig_len hso.2.2.2.1
  have hQ := QOk.ofKept hso.2.2.2.1 hso.2.2.2.2
  have hgo := PfGo.of hp fun c h => h
  have hlen := hgo.ok.len
  have haw := hgo.aw
  have hsg : p.sig.length ≤ 1000000 := by rw [hp.sig]; omega
  have c5 := spick hgo hsg n
  obtain ⟨hq, h1, h2⟩ := hp.pick hQ n
  generalize pick p n = r at *
  obtain ⟨q, f⟩ := r
  dsimp only at c5 hq h1 h2
  by_cases hf : f = 0
  rotate_left
  · have hqp := h2 hf
    subst hqp
    have c6 := sameProofR q
    (refine wlk ?_)
    (refine wlC alive9 ?_)
    (refine wlk ?_)
    (refine wlC c4 ?_)
    (refine wlk ?_)
    (refine wlC c5 ?_)
    (refine wlk ?_)
    (refine wlC c6 ?_)
    (refine wlk ?_)
    (refine wfT ?_)
    rfl
  subst hf
  obtain ⟨n0, n1, _, hpk⟩ := h1 rfl
  obtain ⟨i, rfl⟩ := Int.eq_ofNat_of_zero_le n0
  have hqlen := hq.len
  have hqaw := (PfGo.of hq fun c h => h).aw
  obtain ⟨psg, pst, pac, pwa, pfo, plo⟩ := p
  obtain ⟨qsg, qst, qac, qwa, qfo, qlo⟩ := q
  obtain ⟨t, ht⟩ := hpk.steps
  obtain ⟨w, hw, hwk⟩ := hpk.wait
  have hac := hpk.active
  dsimp only at *
  dsimp only [pfA] at c4 c5
  rw [Int.toNat_natCast] at hw
  have hwe : (pwa.eraseIdx i).length + 1 = pwa.length := by rw [List.length_eraseIdx_of_lt (by omega)]; omega
  have hst1 : qst.length = pst.length + t.length := by rw [ht, List.length_append]
  have hst2 : qst.take ((pst.length : Int)).toNat = pst := by rw [ht, Int.toNat_natCast, List.take_left]
  have hac1 : pac.length ≤ qac.length ∧ qac.length ≤ pac.length + 1 ∧ qac.take pac.length = pac := by
    rcases hac with hac | ⟨g, hac⟩
    · rw [hac]; exact ⟨Nat.le_refl _, by omega, List.take_length⟩
    · rw [hac]; exact ⟨by simp, by simp, List.take_left⟩
  obtain ⟨hac1, hac2, hac3⟩ := hac1
  have hac3 : qac.take ((pac.length : Int)).toNat = pac := by rw [Int.toNat_natCast]; exact hac3
  have hwl : qwa.length = (pwa.eraseIdx i).length + w.length := by rw [hw, List.length_append]
  have hw1 : qwa.take (((pwa.eraseIdx i).length : Int)).toNat = pwa.eraseIdx i := by rw [hw, Int.toNat_natCast, List.take_left]
  have hw2 : qwa.drop (((pwa.eraseIdx i).length : Int)).toNat = w := by rw [hw, Int.toNat_natCast, List.drop_left]
  have h3 : pwa.take ((i : Int)).toNat ++ pwa.drop ((i : Int) + 1).toNat = pwa.eraseIdx i := by rw [List.eraseIdx_eq_take_drop_succ]; rfl
  have h4 : (pwa.eraseIdx i).length ≤ 1000 := by omega
  have c6 := sameStepsR pst
  have c7 := sameIntsR pac
  have c8 := sameIntsR (pwa.eraseIdx i)
  (refine wlk ?_)
  (refine wlC alive9 ?_)
  (refine wlk ?_)
  (refine wlC c4 ?_)
  (refine wlk ?_)
  (refine wlC c5 ?_)
  (refine wlk ?_)
  (refine SqA.b1 (op_sliceHiT (T := TB) (f := Sp.d) (l := qst) rfl rfl rfl rfl rfl (by omega) (by omega)) rfl rfl ?_)
  rw [hst2]
  (refine wlk ?_)
  (refine wlC c6 ?_)
  (refine wlk ?_)
  (refine SqA.b1 (op_sliceHiT (T := TB) (f := Int.d) (l := qac) rfl rfl rfl rfl rfl (by omega) (by omega)) rfl rfl ?_)
  rw [hac3]
  (refine wlk ?_)
  (refine wlC c7 ?_)
  (refine wlk ?_)
  (refine SqA.b1 (op_sliceHiT (T := TB) (f := Int.d) (l := pwa) rfl rfl rfl rfl rfl (by omega) (by omega)) rfl rfl ?_)
  (refine SqA.b2 (op_appT (T := TB) (f := Int.d) (l := []) (es := pwa.take (i : Int).toNat) (rs := pwa.take (i : Int).toNat) rfl rfl rfl rfl rfl rfl (by simp only [List.length_take]; omega) (by decide)) rfl rfl ?_)
  (refine wlD ?_)
  refine dwp_wk (Wk.freezeAt (d := 12) rfl) ?_
  (refine wlk ?_)
  (refine SqA.b1 (op_sliceHiT (T := TB) (f := Int.d) (l := qwa) rfl rfl rfl rfl rfl (by omega) (by omega)) rfl rfl ?_)
  rw [hw1]
  (refine wlk ?_)
  (refine wlC c8 ?_)
  (refine wlk ?_)
  refine dwp_loop (fun k : Nat => [(.t 9, some (.one (.c (.ptr 9 0)))), (.b 9, some (.box (pfA ⟨psg, pst, pac, pwa, pfo, plo⟩).cells)), (.t 119, some (.one (lA Int.d w))), (.t 120, some (.one (iA w.length))), (.t 121, some (.one (iA k)))])
    (fun k => k ≤ w.length) (fun k => w.length - k) 0 (by omega) (by rw [← hw2]; exact fgs) ?_
  intro k hk
  by_cases hkl : k < w.length
  · obtain ⟨x, hx⟩ := get_of_lt hkl
    have hxk := hwk x (List.mem_of_getElem? hx)
    (refine wlk ?_)
    exact ⟨k + 1, by omega, fgs, by omega⟩
  · (refine wlk ?_)
    (refine wfT ?_)
    rfl
def mSet (xs : List Int) : List (Int × Value) := xs.foldl (fun l k => mPut l k (.bool true)) []
theorem mGet_fold (k : Int) : ∀ (xs : List Int) (l : List (Int × Value)), k ∉ xs → mGet (xs.foldl (fun l k => mPut l k (.bool true)) l) k = mGet l k
  | [], _, _ => rfl
  | x :: xs, l, h => by
    rw [List.foldl_cons, mGet_fold k xs _ fun hm => h (List.mem_cons_of_mem _ hm), mGet_put, if_neg fun e => h (by rw [e]; exact List.mem_cons_self ..)]
theorem mSet_not {xs : List Int} {k : Int} (h : k ∉ xs) : (mGet (mSet xs) k).getD (.bool false) = .bool false := by
  unfold mSet; rw [mGet_fold k xs _ h]; rfl
theorem mSet_put {xs : List Int} {i : Nat} {k : Int} (h : xs[i]? = some k) : mPut (mSet (xs.take i)) k (.bool true) = mSet (xs.take (i + 1)) := by
  unfold mSet; rw [take_succ_of h, List.foldl_append]; rfl
theorem nodup_take {xs : List Int} (hd : xs.Nodup) {i : Nat} {k : Int} (h : xs[i]? = some k) : k ∉ xs.take i := fun hm => by
  obtain ⟨j, hj⟩ := List.getElem?_of_mem hm
  rw [List.getElem?_take] at hj
  split at hj
  · rename_i hji
    obtain ⟨h1, h2⟩ := List.getElem?_eq_some_iff.1 hj
    obtain ⟨h3, h4⟩ := List.getElem?_eq_some_iff.1 h
    have := List.pairwise_iff_getElem.1 (List.nodup_iff_pairwise_ne.1 hd) j i h1 h3 hji
    exact this (h2.trans h4.symm)
  · cases hj
set_option maxHeartbeats 16000000 in
set_option maxRecDepth 100000 in
theorem proveBound_fn (s : List Int) (l : List (List Lt)) (picks : List Int) (n : Int) : FnD Tryz.prog 8 [lA Int.d s, lA Cl.d l, lA Int.d picks, iA n] (.one (bA true)) := by
  refine Fn.of Tryz.func8 rfl Tryz.ntmps8 rfl (Nat.le_of_ble_eq_true rfl) ?_
  have c4 := rsearch (S := s) (l := l) (picks := picks)
  obtain ⟨⟨p, e⟩, hs⟩ : ∃ r, r = search s l picks := ⟨_, rfl⟩
  rw [← hs] at c4
  dsimp only at c4
  by_cases he : e = 0
  rotate_left
  · (refine wlk ?_)
    (refine wlC alive9 ?_)
    (refine wlk ?_)
    (refine wlC c4 ?_)
    (refine wlk ?_)
    (refine wfT ?_)
    rfl
  subst he
  have hso := search_ok hs.symm fun hs hi => QOk.ofKept hs hi
  have hp := hso.1
  have hsl := wrongSig_len hso.2.2.2.1
  have hQ := QOk.ofKept hso.2.2.2.1 hso.2.2.2.2
  have hgo := PfGo.of hp fun c h => h
  have hlen := hgo.ok.len
  have haw := hgo.aw
  have hsg : p.sig.length ≤ 1000000 := by rw [hp.sig]; omega
  have c5 := spick hgo hsg n
  obtain ⟨hq, h1, h2⟩ := hp.pick hQ n
  generalize pick p n = r at *
  obtain ⟨q, f⟩ := r
  dsimp only at c5 hq h1 h2
  have hgrow : p.steps.length ≤ q.steps.length ∧ p.active.length ≤ q.active.length := by
    by_cases hf : f = 0
    · obtain ⟨_, _, _, hpk⟩ := h1 hf
      obtain ⟨t, ht⟩ := hpk.steps
      have hac := hpk.active
      dsimp only at ht hac
      refine ⟨by rw [ht]; simp, ?_⟩
      rcases hac with hac | ⟨g, hac⟩ <;> rw [hac] <;> simp
    · rw [h2 hf]; exact ⟨Nat.le_refl _, Nat.le_refl _⟩
  clear h1 h2 hgo hp
  have hqlen := hq.len
  have hqaw := (PfGo.of hq fun c h => h).aw
  have hidx := hq.idx
  have hnd := hq.nd
  have hfo := hq.found
  have hfo2 : -1 ≤ q.found ∧ q.found < q.steps.length := by
    rcases hfo with h | ⟨k, h, st, hst, _⟩
    · omega
    · have := (List.getElem?_eq_some_iff.1 hst).1
      omega
  clear hq
  obtain ⟨psg, pst, pac, pwa, pfo, plo⟩ := p
  obtain ⟨qsg, qst, qac, qwa, qfo, qlo⟩ := q
  dsimp only at *
  dsimp only [pfA] at c4 c5
  obtain ⟨hgr1, hgr2⟩ := hgrow
  obtain ⟨hfo3, hfo4⟩ := hfo2
  have h0 : ([] : List Int) ++ qac = qac := rfl
  have hal : qac.length ≤ 1000 := by omega
  have hal2 : (qac ++ qwa).length ≤ 1000 := by rw [List.length_append]; omega
  (refine wlk ?_)
  (refine wlC alive9 ?_)
  (refine wlk ?_)
  (refine wlC c4 ?_)
  (refine wlk ?_)
  (refine wlC c5 ?_)
  (refine wlk ?_)
  refine dwp_wk (Wk.freezeAt (d := 75) rfl) ?_
  refine dwp_loop (fun k : Nat => [(.t 11, some (.one (.c (.ptr 11 0)))), (.b 11, some (.box (pfA ⟨qsg, qst, qac, qwa, qfo, qlo⟩).cells)), (.t 13, some (.one (.c (.mp 2000068)))), (.b 2000068, some (.box [mapC (Value.int .i64) (mSet ((qac ++ qwa).take k))])), (.t 75, some (.one (lA Int.d (qac ++ qwa)))), (.t 76, some (.one (iA (qac ++ qwa).length))), (.t 77, some (.one (iA k)))])
    (fun k => k ≤ (qac ++ qwa).length) (fun k => (qac ++ qwa).length - k) 0 (by omega) fgs ?_
  intro k hk
  by_cases hkl : k < (qac ++ qwa).length
  · obtain ⟨x, hx⟩ := get_of_lt hkl
    have hxr := hidx x (List.mem_of_getElem? hx)
    have hlk := mSet_not (nodup_take hnd hx)
    have hpt := mSet_put hx
    (refine wlk ?_)
    exact ⟨k + 1, by omega, fgs, by omega⟩
  · rcases hfo with hfo | ⟨i, hfo, st, hst, hcl⟩
    · subst hfo
      (refine wlk ?_)
      (refine wfT ?_)
      rfl
    · subst hfo
      obtain ⟨sr, sf, sc⟩ := st
      dsimp only at hcl
      subst hcl
      (refine wlk ?_)
      (refine wfT ?_)
      rfl
end Go.Proofs.YtmanhdacnkpclaaGreat
/- From the reading that a row speaks of to our own: terms, lists, numbers. -/
namespace Go.Proofs.YtmanhdacnkpclaaGreat
set_option linter.unusedVariables false
set_option linter.unusedSimpArgs false
open Go.ChangeShapes Go.WideShapes Go.ChangeAt Go.RowKit
theorem Tryz.own : ownKnob Tryz.prog.godebug = none := by kernel_rfl
theorem Tryz.laidOut : laidOutB Tryz.prog = true := by kernel_rfl
theorem exists_list {α : Type} {R : Nat → α → Prop} : ∀ n, (∀ i, i < n → ∃ x, R i x) → ∃ l : List α, l.length = n ∧ ∀ i x, l[i]? = some x → R i x
  | 0, _ => ⟨[], rfl, by simp⟩
  | n + 1, h => by
    obtain ⟨l, hl, hR⟩ := exists_list n (fun i hi => h i (by omega))
    obtain ⟨y, hy⟩ := h n (by omega)
    refine ⟨l ++ [y], by simp [hl], fun i x hx => ?_⟩
    rcases Nat.lt_or_ge i n with hi | hi
    · rw [List.getElem?_append_left (by omega)] at hx; exact hR i x hx
    · rw [List.getElem?_append_right (by omega)] at hx
      have : i - l.length = 0 := by
        rcases Nat.eq_zero_or_pos (i - l.length) with h0 | h0
        · exact h0
        · rw [List.getElem?_eq_none (by simp; omega)] at hx; cases hx
      rw [this] at hx
      simp at hx; subst hx
      have : i = n := by omega
      subst this; exact hy
theorem rds_cells {α : Type} {f : α → D} {w : World} {S : Nat → Prop} {m b : Nat} : ∀ (l : List α) (o : Nat),
    (∀ i x, l[i]? = some x → ∃ cs, cs.length = m ∧ rd w S (f x) cs ∧ ∀ j u, cs[j]? = some u → w.cell? ⟨b, o + i * m + j, none⟩ = some u) →
    ∃ xs, rds w S (l.map f) xs ∧ ∀ j u, xs[j]? = some u → w.cell? ⟨b, o + j, none⟩ = some u
  | [], _, _ => ⟨[], rfl, by simp⟩
  | y :: l, o, h => by
    obtain ⟨cs, hc, hr, hcell⟩ := h 0 y rfl
    obtain ⟨xs, hx, hxc⟩ := rds_cells l (o + m) (fun i x hi => by
      obtain ⟨cs, h1, h2, h3⟩ := h (i + 1) x (by simpa using hi)
      exact ⟨cs, h1, h2, fun j u hu => by
        have := h3 j u hu
        rw [Nat.add_mul, Nat.one_mul] at this
        rw [show o + m + i * m + j = o + (i * m + m) + j by omega]; exact this⟩)
    refine ⟨cs ++ xs, ⟨cs, xs, rfl, hr, hx⟩, fun j u hu => ?_⟩
    rcases Nat.lt_or_ge j cs.length with hj | hj
    · rw [List.getElem?_append_left hj] at hu
      have := hcell j u hu
      simpa using this
    · rw [List.getElem?_append_right hj, hc] at hu
      have := hxc _ u hu
      rw [show o + m + (j - m) = o + j by omega] at this; exact this
section
variable {H : Type} {enc : TypeId × Value → H} {P : Program} {w : World} {base : Nat} {spare : Nat → Bool} {held : Bool}
theorem trod_list {α : Type} {f : α → D} {T E m : Nat} (hT : P.underlying T = some (.slice E)) (hE : P.cellsOf E = m) (hm : 0 < m) {fuel : Nat}
    (ih : ∀ n cs x, n < fuel → DataW.trod enc P w base spare held n E cs = some x → ∃ y, rd w (fun _ => True) (f y) cs) {cs : List Value} {x : DataW H × List MemPlace}
    (h : DataW.trod enc P w base spare held fuel T cs = some x) : ∃ l v, cs = [v] ∧ RdL f w (fun _ => True) l v := by
  rcases DataW.trod_slice hT h with ⟨rfl, _⟩ | ⟨a, len, cap, elems, rest, n, rfl, rfl, _, hb, hl, hm', hlen, hel, _⟩
  · exact ⟨[], _, rfl, RdL.nil 0 (by omega) none⟩
  · rw [hE] at hel
    have hi : ∀ i, i < len → ∃ y, ∃ cs, cs.length = m ∧ rd w (fun _ => True) (f y) cs ∧ ∀ j, j < m → w.cell? ((a.add (i * m)).add j) = cs[j]? := by
      intro i hi
      have h1 := hel i hi
      have h2 : elems[i]? = some (elems[i]'(by omega)) := List.getElem?_eq_getElem (by omega)
      rw [h2] at h1
      obtain ⟨cs, hcs, htr⟩ := Option.bind_eq_some_iff.1 h1
      obtain ⟨y, hy⟩ := ih n cs _ (by omega) htr
      obtain ⟨_, hcl, hc⟩ := World.cells?_some hcs
      exact ⟨y, cs, hcl, hy, hc⟩
    obtain ⟨l, hll, hR⟩ := exists_list len hi
    refine ⟨l, _, rfl, ?_⟩
    refine ⟨some a, cap, by simp [hll], by simpa [hll] using hl, hm', ?_⟩
    rcases Nat.eq_zero_or_pos len with h0 | h0
    · left; simp [hll, h0]
    · right
      obtain ⟨b, o, sp⟩ := a
      have hsp : sp = none := by
        obtain ⟨y, cs, h1, _, h3⟩ := hi 0 h0
        have := h3 0 hm
        rw [List.getElem?_eq_getElem (by omega)] at this
        simpa [Addr.add] using World.cell?_spot this
      subst hsp
      have hadd : ∀ i j, ((⟨b, o, none⟩ : Addr).add (i * m)).add j = ⟨b, o + i * m + j, none⟩ := by
        intro i j; rw [add_lit, add_lit]
      obtain ⟨xs, hx, hxc⟩ := rds_cells (f := f) (w := w) (S := fun _ => True) (m := m) (b := b) l o (fun i y hy => by
        have hil : i < l.length := (List.getElem?_eq_some_iff.1 hy).1
        obtain ⟨cs, h1, h2, h3⟩ := hR i y hy
        refine ⟨cs, h1, h2, fun j u hu => ?_⟩
        have hj : j < m := by rw [← h1]; exact (List.getElem?_eq_some_iff.1 hu).1
        rw [← hadd, h3 j hj]; exact hu)
      have hbs : b < w.heap.size := by
        obtain ⟨y, cs, h1, _, h3⟩ := hi 0 h0
        have := h3 0 hm
        rw [List.getElem?_eq_getElem (by omega), hadd] at this
        exact World.block_lt_of_cell? w _ this
      exact ⟨b, o, xs, rfl, trivial, hbs, hx, hxc⟩
end
section
variable {H : Type} {enc : TypeId × Value → H} {w : World} {base : Nat} {spare : Nat → Bool} {held : Bool}
theorem trod_intD {fuel : Nat} {cs : List Value} {x : DataW H × List MemPlace} (h : DataW.trod enc Tryz.prog w base spare held fuel 3 cs = some x) : ∃ y, rd w (fun _ => True) (Int.d y) cs := by
  obtain ⟨n, rfl, _⟩ := DataW.trod_int Tryz.underlying3 h
  exact ⟨n, rfl⟩
set_option maxRecDepth 100000 in
theorem trod_tm : ∀ (fuel : Nat) (cs : List Value) (x : DataW H × List MemPlace), DataW.trod enc Tryz.prog w base spare held fuel 75 cs = some x → ∃ t : Tm, rd w (fun _ => True) t.d cs := by
  intro fuel
  induction fuel using Nat.strongRecOn with
  | ind fuel ih =>
    intro cs x h
    obtain ⟨xs, n, rfl, hx, hcl, hxl, hf⟩ := DataW.trod_struct Tryz.underlying75 h
    have hcl' : cs.length = 3 := hcl.trans (by kernel_rfl)
    match cs, hcl', xs, hxl with
    | [c0, c1, c2], _, [x0, x1, x2], _ =>
      have e4 : Tryz.prog.cellsOf 4 = 1 := by kernel_rfl
      have e3 : Tryz.prog.cellsOf 3 = 1 := by kernel_rfl
      have e24 : Tryz.prog.cellsOf 73 = 1 := by kernel_rfl
      have f0 : DataW.trod enc Tryz.prog w base spare held n 4 [c0] = some x0 := (congrArg (fun k => DataW.trod enc Tryz.prog w base spare held n 4 (List.take k [c0, c1, c2])) e4).symm.trans (hf 0 _ rfl)
      have f1 : DataW.trod enc Tryz.prog w base spare held n 3 [c1] = some x1 := (congrArg (fun k => DataW.trod enc Tryz.prog w base spare held n 3 (List.take k [c1, c2])) e3).symm.trans (hf 1 _ rfl)
      have f2 : DataW.trod enc Tryz.prog w base spare held n 73 [c2] = some x2 := (congrArg (fun k => DataW.trod enc Tryz.prog w base spare held n 73 (List.take k [c2])) e24).symm.trans (hf 2 _ rfl)
      obtain ⟨b, hb, _⟩ := DataW.trod_bool Tryz.underlying4 f0
      obtain ⟨m, hm, _⟩ := DataW.trod_int Tryz.underlying3 f1
      obtain ⟨l, v, hv, hl⟩ := trod_list (f := Tm.d) Tryz.underlying73 (m := 3) (by kernel_rfl) (by omega) (fun n' cs x hn ht => ih n' (by omega) cs x ht) f2
      simp at hb hm hv
      subst hb hm hv
      obtain ⟨a, c, rfl, _⟩ := hl.form
      exact ⟨⟨b, m, l⟩, rd_tm.2 ⟨a, c, rfl, hl⟩⟩
set_option maxRecDepth 100000 in
theorem open_nums {T : Nat} (hT : Tryz.prog.underlying T = some (.slice 3)) {r : Reach} {b0 : Nat} {v : Value} {d : DataW H} {p : List MemPlace} (hv : Value.okWide Tryz.prog w r b0 T v) (h : DataW.Trod enc Tryz.prog w base spare held T v d p) :
    ∃ l : List Int, RdI w (fun _ => True) l v := by
  obtain ⟨a0, len, cap, rfl⟩ := okWide_slice hT hv
  obtain ⟨fuel, hf⟩ := h
  obtain ⟨l, v, e, hl⟩ := trod_list (f := Int.d) hT (m := 1) (by kernel_rfl) (by omega) (fun n cs x _ ht => trod_intD ht) hf
  simp [Value.cells] at e
  subst e
  exact ⟨l, hl⟩
set_option maxRecDepth 100000 in
theorem trodAll_below {W W' : World} (hb : Below W.heap.size W W') : ∀ (ts : List TypeId) (vs : List Value) (ds : List (DataW H)) (ps : List MemPlace),
    (∀ t ∈ ts, Tryz.prog.readableRec t = true ∧ t < Tryz.prog.types.size) → DataW.TrodAll enc Tryz.prog W 0 (fun _ => true) true ts vs ds ps → (∀ x ∈ ps, x.block < W.heap.size) →
    DataW.TrodAll enc Tryz.prog W' 0 (fun b => decide (b < W.heap.size)) true ts vs ds ps
  | [], vs, ds, ps, _, h, _ => by obtain ⟨rfl, rfl, rfl⟩ := trodAll_nil h; exact trodAll_mk0
  | t :: ts, vs, ds, ps, hts, h, hlt => by
    obtain ⟨v, vs', d, ds', p, q, rfl, rfl, rfl, hd, hr⟩ := trodAll_cons h
    refine trodAll_cons_mk (Below.trod Tryz.laidOut (hts t (by simp)).1 (hts t (by simp)).2 hd hb (fun x hx => hlt x (by simp [hx]))) (trodAll_below hb ts vs' ds' q (fun t' ht' => hts t' (by simp [ht'])) hr (fun x hx => hlt x (by simp [hx])))
end
end Go.Proofs.YtmanhdacnkpclaaGreat
/- From the reading that a row speaks of to our own: more kinds. -/
namespace Go.Proofs.YtmanhdacnkpclaaGreat
set_option linter.unusedVariables false
set_option linter.unusedSimpArgs false
open Go.ChangeShapes Go.WideShapes Go.ChangeAt Go.RowKit
section
variable {H : Type} {enc : TypeId × Value → H} {w : World} {base : Nat} {spare : Nat → Bool} {held : Bool}
set_option maxRecDepth 100000 in
theorem trod_lt (fuel : Nat) (cs : List Value) (x : DataW H × List MemPlace) (h : DataW.trod enc Tryz.prog w base spare held fuel 77 cs = some x) : ∃ l : Lt, rd w (fun _ => True) l.d cs := by
  obtain ⟨xs, n, rfl, hx, hcl, hxl, hf⟩ := DataW.trod_struct Tryz.underlying77 h
  have hcl' : cs.length = 7 := hcl.trans (by kernel_rfl)
  match cs, hcl', xs, hxl with
  | [c0, c1, c2, c3, c4, c5, c6], _, [x0, x1, x2], _ =>
    have e4 : Tryz.prog.cellsOf 4 = 1 := by kernel_rfl
    have e3 : Tryz.prog.cellsOf 75 = 3 := by kernel_rfl
    have f0 : DataW.trod enc Tryz.prog w base spare held n 4 [c0] = some x0 := (congrArg (fun k => DataW.trod enc Tryz.prog w base spare held n 4 (List.take k [c0, c1, c2, c3, c4, c5, c6])) e4).symm.trans (hf 0 _ rfl)
    have f1 : DataW.trod enc Tryz.prog w base spare held n 75 [c1, c2, c3] = some x1 := (congrArg (fun k => DataW.trod enc Tryz.prog w base spare held n 75 (List.take k [c1, c2, c3, c4, c5, c6])) e3).symm.trans (hf 1 _ rfl)
    have f2 : DataW.trod enc Tryz.prog w base spare held n 75 [c4, c5, c6] = some x2 := (congrArg (fun k => DataW.trod enc Tryz.prog w base spare held n 75 (List.take k [c4, c5, c6])) e3).symm.trans (hf 2 _ rfl)
    obtain ⟨b, hb, _⟩ := DataW.trod_bool Tryz.underlying4 f0
    obtain ⟨t, ht⟩ := trod_tm _ _ _ f1
    obtain ⟨u, hu⟩ := trod_tm _ _ _ f2
    simp at hb
    subst hb
    exact ⟨⟨b, t, u⟩, [.bool b], [c1, c2, c3, c4, c5, c6], rfl, rfl, [c1, c2, c3], [c4, c5, c6], rfl, ht, [c4, c5, c6], [], rfl, hu, rfl⟩
set_option maxRecDepth 100000 in
theorem open_clause {r : Reach} {b0 : Nat} {v : Value} {d : DataW H} {p : List MemPlace} (hv : Value.okWide Tryz.prog w r b0 39 v) (h : DataW.Trod enc Tryz.prog w base spare held 39 v d p) :
    ∃ l : List Lt, RdL Lt.d w (fun _ => True) l v := by
  obtain ⟨a0, len, cap, rfl⟩ := okWide_slice Tryz.underlying39 hv
  obtain ⟨fuel, hf⟩ := h
  obtain ⟨l, v, e, hl⟩ := trod_list (f := Lt.d) Tryz.underlying39 (m := 7) (by kernel_rfl) (by omega) (fun n cs x _ ht => trod_lt n cs x ht) hf
  simp [Value.cells] at e
  subst e
  exact ⟨l, hl⟩
end
end Go.Proofs.YtmanhdacnkpclaaGreat
/- From the reading that a row speaks of to our own: bindings, literals, models, more. -/
namespace Go.Proofs.YtmanhdacnkpclaaGreat
set_option linter.all false
open Go.ChangeShapes Go.WideShapes Go.ChangeAt Go.RowKit
section
variable {H : Type} {enc : TypeId × Value → H} {w : World} {base : Nat} {spare : Nat → Bool} {held : Bool}
set_option maxRecDepth 100000 in
theorem trod_cl (fuel : Nat) (cs : List Value) (x : DataW H × List MemPlace) (h : DataW.trod enc Tryz.prog w base spare held fuel 39 cs = some x) : ∃ l : List Lt, rd w (fun _ => True) (Cl.d l) cs := by
  obtain ⟨l, v, e, hl⟩ := trod_list (f := Lt.d) Tryz.underlying39 (m := 7) (by kernel_rfl) (by omega) (fun n cs x _ ht => trod_lt n cs x ht) h
  subst e
  exact ⟨l, hl⟩
set_option maxRecDepth 100000 in
theorem open_clauses {r : Reach} {b0 : Nat} {v : Value} {d : DataW H} {p : List MemPlace} (hv : Value.okWide Tryz.prog w r b0 24 v) (h : DataW.Trod enc Tryz.prog w base spare held 24 v d p) :
    ∃ l : List (List Lt), RdL Cl.d w (fun _ => True) l v := by
  obtain ⟨a0, len, cap, rfl⟩ := okWide_slice Tryz.underlying24 hv
  obtain ⟨fuel, hf⟩ := h
  obtain ⟨l, v, e, hl⟩ := trod_list (f := Cl.d) Tryz.underlying24 (m := 1) (by kernel_rfl) (by omega) (fun n cs x _ ht => trod_cl n cs x ht) hf
  simp [Value.cells] at e
  subst e
  exact ⟨l, hl⟩
end
end Go.Proofs.YtmanhdacnkpclaaGreat
