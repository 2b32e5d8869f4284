/- What functions do: the library's Split, Cut, CutSuffix, Join. -/
import Derived.Test.YtmanhdacnkpclaaGreatDoorzdGl
import Derived.Test.YtmanhdacnkpclaaGreatDoorzdTC
import Derived.Test.YtmanhdacnkpclaaGreatDoorzdShelf
namespace Go.Proofs.YtmanhdacnkpclaaGreatDoor
set_option linter.all false
open Go.RowKit

/-- from the elder words to the new ones: a slice that is handed over, with what is asked of variables -/
theorem Fn.ofElderOwnG {P : Program} {f : FuncId} {args : List A1} {E m : Nat} {ds : List D} (h : ∀ (who : Nat → Tag) (w : World) (vs : List Value), Glob w who → vs.length = args.length → (∀ (i : Nat) (A : A1) (v : Value), args[i]? = some A → vs[i]? = some v → A1m w who (.t i) 0 A v) →
    Calls P f vs.toArray w fun e w' => ∃ v, e = .returned v ∧ Own w' w.heap.size E m (Fz who) v ds ∧ Below w.heap.size w w') : FnD P f args (.one (.c (.own E m ds))) := fun who w vs hfz hbu hin hl ha _ => by
  refine (h who w vs hfz.2 hl ha).mono ?_
  rintro e w' ⟨v, rfl, ho, hb⟩
  have hnew : ∀ k, v.ownBlock = some k → w.heap.size ≤ k ∧ k < w'.heap.size := fun k hk => ho.lt k hk
  have hold : ∀ b, b < w.heap.size → tagOwn v who b = who b := fun b hlt => if_neg fun e => by have := hnew b e; omega
  refine ⟨v, _, [], tagOwn v who, rfl, rfl, rfl, ⟨ho.wide (fun b _ hF => ?_) (Nat.zero_le _), fun k hk => if_pos hk⟩, (fun h => by cases h), ⟨hb.os, hb.tape, hb.output, hb.size, fun b hlt _ => hb.block b hlt, fun b hlt _ => hold b hlt⟩, fun b h => ?_, fun b b' j h h' => ?_⟩
  · have : b < w.heap.size := hfz.1 b (by rw [show who b = .froz from hF]; simp)
    exact (hold b this).trans hF
  · rcases Classical.em (v.ownBlock = some b) with e | e
    · exact (hnew b e).2
    · rw [show tagOwn v who b = who b from if_neg e] at h
      exact Nat.lt_of_lt_of_le (hfz.1 b h) hb.size
  · have key : ∀ b, tagOwn v who b = .bx j → who b = .bx j := fun b h => by
      rcases Classical.em (v.ownBlock = some b) with e | e
      · rw [show tagOwn v who b = .own (.t 0) 0 0 from if_pos e] at h; cases h
      · rw [show tagOwn v who b = who b from if_neg e] at h; exact h
    exact hbu b b' j (key b h) (key b' h')
/-- several plain results -/
theorem Fn.ofElderT {P : Program} {f : FuncId} {args : List A1} {us : List Value} (h : ∀ (who : Nat → Tag) (w : World) (vs : List Value), Glob w who → vs.length = args.length → (∀ (i : Nat) (A : A1) (v : Value), args[i]? = some A → vs[i]? = some v → A1m w who (.t i) 0 A v) →
    Calls P f vs.toArray w fun e w' => e = .returned (.tuple us.toArray) ∧ Below w.heap.size w w') : FnD P f args (.tup (us.map fun u => A1.c (.val u))) := fun who w vs hfz hbu hin hl ha _ => by
  refine (h who w vs hfz.2 hl ha).mono ?_
  rintro e w' ⟨rfl, hb⟩
  refine ⟨.tuple us.toArray, _, [], who, rfl, rfl, ?_, ⟨us, rfl, by simp, fun p a v hp hv => ?_⟩, (fun h => by cases h), ⟨hb.os, hb.tape, hb.output, hb.size, fun b hlt _ => hb.block b hlt, fun _ _ _ => rfl⟩, fun b h => Nat.lt_of_lt_of_le (hfz.1 b h) hb.size, hbu⟩
  · simp [X.ids, List.flatMap_map, A1.ids, CV.ids]
  · rw [List.getElem?_map, hv] at hp
    injection hp with hp
    subst hp
    exact rfl
theorem rds_strs (w : World) (S : Nat → Prop) : ∀ l : List (List UInt8), rds w S (l.map Str.d) (l.map fun x => Value.string ⟨x.toArray⟩)
  | [] => rfl
  | x :: l => ⟨[.string ⟨x.toArray⟩], l.map fun x => Value.string ⟨x.toArray⟩, rfl, rfl, rds_strs w S l⟩
theorem strs_rds {w : World} {S : Nat → Prop} : ∀ {l : List (List UInt8)} {xs : List Value}, rds w S (l.map Str.d) xs → xs = l.map fun x => Value.string ⟨x.toArray⟩
  | [], xs, h => h
  | x :: l, xs, h => by
    obtain ⟨c1, c2, rfl, h1, h2⟩ := h
    rw [show c1 = [.string ⟨x.toArray⟩] from h1, strs_rds h2]; rfl
theorem drewN_below (w : World) (n : Nat) : Below w.heap.size w (w.drewN n) := ⟨rfl, rfl, rfl, Nat.le_refl _, fun _ _ => rfl⟩
theorem pieces_eq (t : List UInt8) : (Lib.splitB ⟨barL.toArray⟩ 0 (Lib.countB ⟨t.toArray⟩ ⟨barL.toArray⟩) ⟨t.toArray⟩).map Value.string = (splitB t).map fun x => Value.string ⟨x.toArray⟩ := by
  have h := Lib.splitB_data ⟨barL.toArray⟩ 0 (Lib.countB ⟨t.toArray⟩ ⟨barL.toArray⟩) ⟨t.toArray⟩
  have e : Lib.splitK barL 0 (Lib.count t barL) t = splitB t := splitB_lib t
  have h2 : (Lib.splitB ⟨barL.toArray⟩ 0 (Lib.countB ⟨t.toArray⟩ ⟨barL.toArray⟩) ⟨t.toArray⟩).map (·.data.toList) = splitB t := h.trans e
  rw [← h2, List.map_map]
  refine List.map_congr_left fun b _ => ?_
  show Value.string b = Value.string ⟨b.data.toList.toArray⟩
  rw [Lib.mk_data]
theorem pieces_len (t : List UInt8) : (splitB t).length = Lib.countB ⟨t.toArray⟩ ⟨barL.toArray⟩ + 1 := by
  have h := congrArg List.length (pieces_eq t)
  rw [List.length_map, List.length_map, Lib.splitB_all ⟨barL.toArray⟩ (by decide) 0 _ _ rfl] at h
  exact h.symm
theorem csplit (t : List UInt8) (ht : t.length < 4294967281) : FnD Tryz.prog 28 [sA t, sA barL] (.one (.c (.own 9 1 ((splitB t).map Str.d)))) := by
  refine Fn.ofElderOwnG fun who w vs hg hl ha => ?_
  match vs, hl with
  | [v0, v1], _ =>
    have h0 : v0 = .string ⟨t.toArray⟩ := ha 0 _ v0 rfl rfl
    have h1 : v1 = .string ⟨barL.toArray⟩ := ha 1 _ v1 rfl rfl
    subst h0 h1
    obtain ⟨⟨m, hm⟩, _, _⟩ := hg 0 (by simp [globs])
    have hsz : (⟨t.toArray⟩ : ByteArray).size = t.length := rfl
    have hle := Lib.countB_le ⟨barL.toArray⟩ (by decide) _ ⟨t.toArray⟩ (Nat.le_refl _)
    refine (Tryz.strings_Split ⟨t.toArray⟩ ⟨barL.toArray⟩ m w (by rw [hsz]; exact ht) hm (by decide)).mono ?_
    rintro e w' ⟨rfl, rfl⟩
    rw [pieces_eq]
    have hn := pieces_len t
    have hmx : maxLen = 9223372036854775807 := rfl
    refine ⟨_, rfl, ⟨(splitB t).map fun x => Value.string ⟨x.toArray⟩, ⟨by simp, .inr ⟨w.heap.size, Lib.countB ⟨t.toArray⟩ ⟨barL.toArray⟩ + 1, _, ?_, Nat.le_refl _, heap_alloc_new w _, ?_, ?_, ?_, ?_⟩⟩, rds_strs _ _ _, fun u hu => ?_⟩, ?_⟩
    · rw [List.length_map, hn]
    · rw [List.length_map, hn]; exact Nat.le_refl _
    · rw [hmx]; omega
    · simp [hn]
    · simp only [hn]; simp; exact List.take_of_length_le (by rw [List.length_map, hn]; exact Nat.le_refl _)
    · obtain ⟨x, _, rfl⟩ := List.mem_map.1 hu; rfl
    · exact ⟨rfl, rfl, rfl, by show w.heap.size ≤ (w.heap.push _).size; rw [Array.size_push]; omega, fun k hk => heap_alloc_old w _ hk⟩
theorem index_sign : ∀ l : List UInt8, Lib.index l [61] = if eqAt l = l.length then -1 else (eqAt l : Int)
  | [] => rfl
  | c :: l => by
    have ih := index_sign l
    have hle := eqAt_le l
    unfold Lib.index
    simp only [eqAt, List.length_cons]
    by_cases hc : c.toNat = 61
    · have : c = 61 := UInt8.toNat_inj.1 (by rw [hc]; rfl)
      subst this
      simp [List.isPrefixOf]
    · have hne : ((61 : UInt8) == c) = false := beq_eq_false_iff_ne.2 fun e => hc (by rw [← e]; rfl)
      have hpf : List.isPrefixOf [61] (c :: l) = false := by simp [List.isPrefixOf, hne]
      rw [hpf, ih]
      simp only [if_neg hc, Bool.false_eq_true, if_false]
      by_cases h : eqAt l = l.length
      · simp [h]
      · have h2 : ¬ eqAt l + 1 = l.length + 1 := by omega
        have : ((eqAt l : Int) == -1) = false := beq_eq_false_iff_ne.2 (by omega)
        rw [if_neg h, if_neg h2, this]
        simp
theorem cut_sign (l : List UInt8) : Lib.cut l [61] = (l.take (eqAt l), l.drop (eqAt l + 1), decide (eqAt l ≠ l.length)) := by
  unfold Lib.cut
  rw [index_sign]
  by_cases h : eqAt l = l.length
  · rw [if_pos h, if_neg (by decide), h]
    simp
  · rw [if_neg h, if_pos (by omega), Int.toNat_natCast, decide_eq_true h]
    rfl
theorem ccut (l : List UInt8) (hl : l.length < 4294967281) : FnD Tryz.prog 29 [sA l, sA [61]] (.tup [sA (l.take (eqAt l)), sA (l.drop (eqAt l + 1)), bA (decide (eqAt l ≠ l.length))]) := by
  refine Fn.ofElderT (us := [.string ⟨(l.take (eqAt l)).toArray⟩, .string ⟨(l.drop (eqAt l + 1)).toArray⟩, .bool (decide (eqAt l ≠ l.length))]) fun who w vs hg hn ha => ?_
  match vs, hn with
  | [v0, v1], _ =>
    have h0 : v0 = .string ⟨l.toArray⟩ := ha 0 _ v0 rfl rfl
    have h1 : v1 = .string ⟨([61] : List UInt8).toArray⟩ := ha 1 _ v1 rfl rfl
    subst h0 h1
    obtain ⟨⟨m, hm⟩, _, _⟩ := hg 0 (by simp [globs])
    have hsz : (⟨l.toArray⟩ : ByteArray).size = l.length := rfl
    refine (Tryz.strings_Cut ⟨l.toArray⟩ ⟨([61] : List UInt8).toArray⟩ m w (by rw [hsz]; exact hl) hm).mono ?_
    rintro e w' ⟨rfl, n, rfl⟩
    exact ⟨by rw [cut_sign], drewN_below w n⟩
theorem csuf (l : List UInt8) (hl : l.length ≤ 9223372036854775807) : FnD Tryz.prog 30 [sA l, sA [33]] (.tup [sA (if negEnd l then l.take (l.length - 1) else l), bA (negEnd l)]) := by
  refine Fn.ofElderT (us := [.string ⟨(if negEnd l then l.take (l.length - 1) else l).toArray⟩, .bool (negEnd l)]) fun who w vs hg hn ha => ?_
  match vs, hn with
  | [v0, v1], _ =>
    have h0 : v0 = .string ⟨l.toArray⟩ := ha 0 _ v0 rfl rfl
    have h1 : v1 = .string ⟨([33] : List UInt8).toArray⟩ := ha 1 _ v1 rfl rfl
    subst h0 h1
    have hsz : (⟨l.toArray⟩ : ByteArray).size = l.length := rfl
    refine (Tryz.strings_CutSuffix ⟨l.toArray⟩ ⟨([33] : List UInt8).toArray⟩ w (by rw [hsz]; exact hl)).mono ?_
    rintro e w' ⟨rfl, rfl⟩
    refine ⟨?_, Below.refl _ _⟩
    have e1 : Lib.trimSuffix l [33] = if negEnd l then l.take (l.length - 1) else l := trim_lib l
    have e2 : Lib.hasSuffix l [33] = negEnd l := neg_lib l
    show Ending.returned (.tuple #[.string ⟨(Lib.trimSuffix l [33]).toArray⟩, .bool (Lib.hasSuffix l [33])]) = _
    rw [e1, e2]
theorem join_bar : ∀ (x : List UInt8) (l : List (List UInt8)), Lib.join (x :: l) barL = barJ (x :: l)
  | x, [] => by rw [Lib.join_one]; rfl
  | x, y :: l => by
    have ih := join_bar y l
    rw [Lib.join_cons] at ih ⊢
    show _ = x ++ barL ++ barJ (y :: l)
    rw [← ih]
    simp [Lib.joinTail]
theorem cjoin (xs : List (List UInt8)) (hx : xs ≠ []) (hN : xs.length ≤ 1000) (hlen : (barJ xs).length ≤ 1000000) : FnD Tryz.prog 46 [lA Str.d xs, sA barL] (.one (sA (barJ xs))) := by
  refine Fn.ofElder fun who w vs hl ha => ?_
  match vs, hl with
  | [v0, v1], _ =>
    have h0 : rd w (Fz who) (.arr (xs.map Str.d)) [v0] := ha 0 _ v0 rfl rfl
    have h1 : v1 = .string ⟨barL.toArray⟩ := ha 1 _ v1 rfl rfl
    subst h1
    obtain ⟨a, cap, e, hle, hcap, hc⟩ := h0
    injection e with e
    rw [List.length_map] at e hle hc
    rcases hc with hc | ⟨b, o, us, rfl, _, hb, hr, hcell⟩
    · exact absurd (List.length_eq_zero_iff.1 hc) hx
    subst e
    have hus := strs_rds hr
    have hmap : (xs.map fun x => (⟨x.toArray⟩ : ByteArray)).map (·.data.toList) = xs := by rw [List.map_map]; exact (List.map_congr_left fun x _ => by simp).trans (List.map_id _)
    have hj : Lib.join ((xs.map fun x => (⟨x.toArray⟩ : ByteArray)).map (·.data.toList)) barL = barJ xs := by
      rw [hmap]
      cases xs with
      | nil => exact absurd rfl hx
      | cons x l => exact join_bar x l
    have hlx : (xs.map fun x => (⟨x.toArray⟩ : ByteArray)).length = xs.length := List.length_map ..
    have key := Tryz.strings_Join b o cap (xs.map fun x => (⟨x.toArray⟩ : ByteArray)) ⟨barL.toArray⟩ w (fun j x hj => by
      rw [List.getElem?_map, Option.map_eq_some_iff] at hj
      obtain ⟨y, hy, rfl⟩ := hj
      exact hcell j _ (by rw [hus, List.getElem?_map, hy]; rfl)) hb (by omega) (by omega) (by
        show (Lib.join ((xs.map fun x => (⟨x.toArray⟩ : ByteArray)).map (·.data.toList)) barL).length ≤ _
        rw [hj]; omega)
    rw [hlx] at key
    refine key.mono ?_
    rintro e w' ⟨rfl, hbl⟩
    refine ⟨?_, hbl⟩
    show Ending.returned (.string ⟨(Lib.join ((xs.map fun x => (⟨x.toArray⟩ : ByteArray)).map (·.data.toList)) barL).toArray⟩) = _
    rw [hj]
end Go.Proofs.YtmanhdacnkpclaaGreatDoor
