/- Proved here: what the law of this claim leans on (an evaluator of the model's code, contracts of functions). No condition. -/
import Derived.Test.YtapgkaecamljbaaMd
import Derived.Test.YtapgkaecamljbaaMc
import Derived.TacticsIn
import Derived.Shelf.SlSortCmp.WholeK
import Derived.Test.YtapgkaecamljbaaProg
namespace Go.Proofs.Ytapgkaecamljbaa
open Go.RowKit
set_option linter.unusedSimpArgs false
set_option linter.unusedVariables false
set_option maxRecDepth 10000

theorem openQ_S {S : Mem} {size : Nat} {x : AV} {α : Type} {E : Enc α} {l : List α} (h : openQ S size x = true) (hl : lstV E S x = some l) (hne : l ≠ []) : openS S size x = true := by
  obtain ⟨i, o, v, cap, ex, rfl⟩ := lst_sl hl (List.length_pos_iff.2 hne)
  have := List.length_pos_iff.2 hne
  simp only [openQ, openS, Bool.and_eq_true, decide_eq_true_eq] at h ⊢
  exact ⟨⟨by omega, h.1⟩, h.2⟩
noncomputable def rerightS : Spec := fun args S => match args with
  | [.ag cs] => match evtOf S cs with
    | some e => if e.fits ∧ openQ S 13 (cs.getD 2 .u) = true then some (.b (decide e.right), S) else none
    | none => none
  | _ => none
theorem right3 {s g q : Int} {ps : List Pol} {ds : List Int} : Evt.right ⟨3, s, ps, ds, g, q⟩ ↔ (1 ≤ q ∧ q ≤ 281474976710656 ∧ s = 0 ∧ g = 0 ∧ ps.length = 0 ∧ ds.length = 0) := by
  simp [Evt.right, valOk]
  constructor
  · rintro ⟨⟨h1, h2⟩, rfl, rfl, rfl, rfl⟩; exact ⟨h1, h2, rfl, rfl, rfl, rfl⟩
  · rintro ⟨h1, h2, rfl, rfl, rfl, rfl⟩; exact ⟨⟨h1, h2⟩, rfl, rfl, rfl, rfl⟩
theorem right2 {s g q : Int} {ps : List Pol} {ds : List Int} : Evt.right ⟨2, s, ps, ds, g, q⟩ ↔ (1 ≤ s ∧ s ≤ 255 ∧ 1 ≤ g ∧ g ≤ 281474976710656 ∧ q = 0 ∧ ps.length = 0 ∧ ds.length = 0) := by
  simp [Evt.right, valOk, subOk]
  constructor
  · rintro ⟨⟨h1, h2⟩, ⟨h3, h4⟩, rfl, rfl, rfl⟩; exact ⟨h1, h2, h3, h4, rfl, rfl, rfl⟩
  · rintro ⟨h1, h2, h3, h4, rfl, rfl, rfl⟩; exact ⟨⟨h1, h2⟩, ⟨h3, h4⟩, rfl, rfl, rfl⟩
theorem right1 {s g q : Int} {ps : List Pol} {ds : List Int} : Evt.right ⟨1, s, ps, ds, g, q⟩ ↔ (s = 0 ∧ g = 0 ∧ q = 0 ∧ ds.length ≤ 8 ∧ Pols ps ∧ riseTo ds ds.length ∧ (∀ p ∈ ps, p.sub ∉ ds) ∧ 0 < ps.length + ds.length) := by
  simp [Evt.right, dropsOk]
  constructor
  · rintro ⟨h1, h2, ⟨h3, h4, h5⟩, rfl, rfl, rfl⟩; exact ⟨rfl, rfl, rfl, h3, h2, h4, h5, h1⟩
  · rintro ⟨rfl, rfl, rfl, h3, h2, h4, h5, h1⟩; exact ⟨h1, h2, ⟨h3, h4, h5⟩, rfl, rfl, rfl⟩
theorem right0 {k s g q : Int} {ps : List Pol} {ds : List Int} (h1 : k ≠ 1) (h2 : k ≠ 2) (h3 : k ≠ 3) : ¬ Evt.right ⟨k, s, ps, ds, g, q⟩ := by
  rintro (h | h | h)
  · exact h1 h.1
  · exact h2 h.1
  · exact h3 h.1
theorem oRe_ok : OK Try.prog (lamOf Try.prog) (orcOf [(42, allS)]) := orc_ok (by simpa using rall_ok)
theorem reright_ok : SpecOK Try.prog 31 rerightS := by
  intro args S x S' h
  simp only [rerightS] at h
  split at h
  · rename_i cs
    split at h
    · rename_i ev hev
      split at h
      · rename_i hf
        cases h
        obtain ⟨xp, xd, rfl, hp, hd⟩ := evtOf_ok hev
        obtain ⟨k, s, ps, ds, g, q⟩ := ev
        obtain ⟨⟨hf1, hf2, hf3⟩, hop⟩ := hf
        simp only at hp hd hf1 hf2 hf3
        have hop : openQ S 13 xp = true := hop
        refine fn_of_wp f31 rfl (W_sound oRe_ok mixed _ _ _ _ _ ?_)
        by_cases k3 : k = 3
        · subst k3
          simp (maxSteps := 1000000) (disch := omega) only [c31, lst_len hp, lst_len hd, lst_cells hp, lst_cells hd, go_sem, Option.map_none, Option.map_some, ↓reduceIte, Nat.reduceBEq, Nat.reduceAdd, Nat.reduceSub, Nat.reduceEqDiff, Nat.reduceLeDiff, Nat.reduceMul, Nat.reduceLT, Int.reduceLT, Int.reduceLE, Int.reduceAdd, Int.reduceSub, Int.reduceMul, Int.reduceNeg, Int.reduceEq, Int.reduceNe, Int.reduceToNat, decide_true, decide_false, iaddr_i, iaddr_sl_i, not_true_eq_false, not_false_eq_true, reduceCtorEq, ne_eq, forall_const, false_imp_iff, true_imp_iff, implies_true, Int.cast_ofNat_Int, Int.natCast_zero, Int.natCast_one, Int.add_zero, Int.zero_add]
          rw [show decide (Evt.right ⟨3, s, ps, ds, g, q⟩) = decide (1 ≤ q ∧ q ≤ 281474976710656 ∧ s = 0 ∧ g = 0 ∧ ps.length = 0 ∧ ds.length = 0) from decide_eq_decide.2 right3]
          repeat' (apply And.intro <;> intro _)
          all_goals first | exact wkv_f (by omega) | exact wkv_b (by omega)
        by_cases k2 : k = 2
        · subst k2
          simp (maxSteps := 1000000) (disch := omega) only [c31, lst_len hp, lst_len hd, lst_cells hp, lst_cells hd, go_sem, Option.map_none, Option.map_some, ↓reduceIte, Nat.reduceBEq, Nat.reduceAdd, Nat.reduceSub, Nat.reduceEqDiff, Nat.reduceLeDiff, Nat.reduceMul, Nat.reduceLT, Int.reduceLT, Int.reduceLE, Int.reduceAdd, Int.reduceSub, Int.reduceMul, Int.reduceNeg, Int.reduceEq, Int.reduceNe, Int.reduceToNat, decide_true, decide_false, iaddr_i, iaddr_sl_i, not_true_eq_false, not_false_eq_true, reduceCtorEq, ne_eq, forall_const, false_imp_iff, true_imp_iff, implies_true, Int.cast_ofNat_Int, Int.natCast_zero, Int.natCast_one, Int.add_zero, Int.zero_add]
          rw [show decide (Evt.right ⟨2, s, ps, ds, g, q⟩) = decide (1 ≤ s ∧ s ≤ 255 ∧ 1 ≤ g ∧ g ≤ 281474976710656 ∧ q = 0 ∧ ps.length = 0 ∧ ds.length = 0) from decide_eq_decide.2 right2]
          repeat' (apply And.intro <;> intro _)
          all_goals first | exact wkv_f (by omega) | exact wkv_b (by omega)
        by_cases k1 : k = 1
        · subst k1
          have a1 : ∀ L, allS [xp] (S ++ L) = some (.i .i64 (allE ps), S ++ L) := fun L => allS_eq (lstV_grow hp L) hf3 (by
            by_cases hne : ps = []
            · exact .inl hne
            · exact .inr (openQ_S (openQ_grow hop L) (lstV_grow hp L) hne))
          by_cases hs : s = 0
          rotate_left
          · simp (maxSteps := 1000000) (disch := omega) only [c31, lst_len hp, lst_len hd, lst_cells hp, lst_cells hd, hs, go_sem, Option.map_none, Option.map_some, ↓reduceIte, Nat.reduceBEq, Nat.reduceAdd, Nat.reduceSub, Nat.reduceEqDiff, Nat.reduceLeDiff, Nat.reduceMul, Nat.reduceLT, Int.reduceLT, Int.reduceLE, Int.reduceAdd, Int.reduceSub, Int.reduceMul, Int.reduceNeg, Int.reduceEq, Int.reduceNe, Int.reduceToNat, decide_true, decide_false, iaddr_i, iaddr_sl_i, not_true_eq_false, not_false_eq_true, reduceCtorEq, ne_eq, forall_const, false_imp_iff, true_imp_iff, implies_true, Int.cast_ofNat_Int, Int.natCast_zero, Int.natCast_one, Int.add_zero, Int.zero_add]
            exact wkv_f fun h => hs (right1.1 h).1
          by_cases hg : g = 0
          rotate_left
          · simp (maxSteps := 1000000) (disch := omega) only [c31, lst_len hp, lst_len hd, lst_cells hp, lst_cells hd, hs, hg, go_sem, Option.map_none, Option.map_some, ↓reduceIte, Nat.reduceBEq, Nat.reduceAdd, Nat.reduceSub, Nat.reduceEqDiff, Nat.reduceLeDiff, Nat.reduceMul, Nat.reduceLT, Int.reduceLT, Int.reduceLE, Int.reduceAdd, Int.reduceSub, Int.reduceMul, Int.reduceNeg, Int.reduceEq, Int.reduceNe, Int.reduceToNat, decide_true, decide_false, iaddr_i, iaddr_sl_i, not_true_eq_false, not_false_eq_true, reduceCtorEq, ne_eq, forall_const, false_imp_iff, true_imp_iff, implies_true, Int.cast_ofNat_Int, Int.natCast_zero, Int.natCast_one, Int.add_zero, Int.zero_add]
            exact wkv_f fun h => hg (right1.1 h).2.1
          by_cases hq : q = 0
          rotate_left
          · simp (maxSteps := 1000000) (disch := omega) only [c31, lst_len hp, lst_len hd, lst_cells hp, lst_cells hd, hs, hg, hq, go_sem, Option.map_none, Option.map_some, ↓reduceIte, Nat.reduceBEq, Nat.reduceAdd, Nat.reduceSub, Nat.reduceEqDiff, Nat.reduceLeDiff, Nat.reduceMul, Nat.reduceLT, Int.reduceLT, Int.reduceLE, Int.reduceAdd, Int.reduceSub, Int.reduceMul, Int.reduceNeg, Int.reduceEq, Int.reduceNe, Int.reduceToNat, decide_true, decide_false, iaddr_i, iaddr_sl_i, not_true_eq_false, not_false_eq_true, reduceCtorEq, ne_eq, forall_const, false_imp_iff, true_imp_iff, implies_true, Int.cast_ofNat_Int, Int.natCast_zero, Int.natCast_one, Int.add_zero, Int.zero_add]
            exact wkv_f fun h => hq (right1.1 h).2.2.1
          by_cases hd8 : ds.length ≤ 8
          rotate_left
          · have hdI : (8 : Int) < ds.length := by omega
            simp (maxSteps := 1000000) (disch := omega) only [c31, lst_len hp, lst_len hd, lst_cells hp, lst_cells hd, hs, hg, hq, hdI, go_sem, Option.map_none, Option.map_some, ↓reduceIte, Nat.reduceBEq, Nat.reduceAdd, Nat.reduceSub, Nat.reduceEqDiff, Nat.reduceLeDiff, Nat.reduceMul, Nat.reduceLT, Int.reduceLT, Int.reduceLE, Int.reduceAdd, Int.reduceSub, Int.reduceMul, Int.reduceNeg, Int.reduceEq, Int.reduceNe, Int.reduceToNat, decide_true, decide_false, iaddr_i, iaddr_sl_i, not_true_eq_false, not_false_eq_true, reduceCtorEq, ne_eq, forall_const, false_imp_iff, true_imp_iff, implies_true, Int.cast_ofNat_Int, Int.natCast_zero, Int.natCast_one, Int.add_zero, Int.zero_add]
            exact wkv_f fun h => hd8 (right1.1 h).2.2.2.1
          have hdI : ¬ (8 : Int) < ds.length := by omega
          by_cases hP : Pols ps
          rotate_left
          · have hA : ¬ allE ps = 0 := by rw [allE_zero]; exact hP
            simp (maxSteps := 1000000) (disch := omega) only [c31, lst_len hp, lst_len hd, lst_cells hp, lst_cells hd, hs, hg, hq, hdI, orc_cons, a1, hA, go_sem, Option.map_none, Option.map_some, ↓reduceIte, Nat.reduceBEq, Nat.reduceAdd, Nat.reduceSub, Nat.reduceEqDiff, Nat.reduceLeDiff, Nat.reduceMul, Nat.reduceLT, Int.reduceLT, Int.reduceLE, Int.reduceAdd, Int.reduceSub, Int.reduceMul, Int.reduceNeg, Int.reduceEq, Int.reduceNe, Int.reduceToNat, decide_true, decide_false, iaddr_i, iaddr_sl_i, not_true_eq_false, not_false_eq_true, reduceCtorEq, ne_eq, forall_const, false_imp_iff, true_imp_iff, implies_true, Int.cast_ofNat_Int, Int.natCast_zero, Int.natCast_one, Int.add_zero, Int.zero_add]
            exact wkv_f fun h => hP (right1.1 h).2.2.2.2.1
          have hA : allE ps = 0 := by rw [allE_zero]; exact hP
          rw [hA] at a1
          subst hs hg hq
          simp (maxSteps := 1000000) (disch := omega) only [c31, lst_len hp, lst_len hd, lst_cells hp, lst_cells hd, hdI, orc_cons, a1, go_sem, Option.map_none, Option.map_some, ↓reduceIte, Nat.reduceBEq, Nat.reduceAdd, Nat.reduceSub, Nat.reduceEqDiff, Nat.reduceLeDiff, Nat.reduceMul, Nat.reduceLT, Int.reduceLT, Int.reduceLE, Int.reduceAdd, Int.reduceSub, Int.reduceMul, Int.reduceNeg, Int.reduceEq, Int.reduceNe, Int.reduceToNat, decide_true, decide_false, iaddr_i, iaddr_sl_i, not_true_eq_false, not_false_eq_true, reduceCtorEq, ne_eq, forall_const, false_imp_iff, true_imp_iff, implies_true, Int.cast_ofNat_Int, Int.natCast_zero, Int.natCast_one, Int.add_zero, Int.zero_add]
          refine wp_loop (fun j e M dl => dl = [] ∧ ∃ (i : Nat) (last : Int), j = ds.length - i ∧ i ≤ ds.length ∧ S <+: M ∧ M[S.length]? = some (.cells [.i .i64 1, .i .i64 0, xp, xd, .i .u64 0, .i .u64 0] 0 none true) ∧
            riseTo ds i ∧ (∀ p ∈ ps, p.sub ∉ ds.take i) ∧ (i = 0 → last = 0) ∧ (∀ h : 0 < i, ∀ h2 : i ≤ ds.length, last = ds[i - 1]) ∧
            e.get 1 = .p S.length 0 0 ∧ e.get 110 = xd ∧ e.get 111 = .i .i64 ds.length ∧ e.get 112 = .i .i64 i ∧ e.get 3 = .i .i64 last) (j := ds.length)
            ⟨rfl, 0, 0, rfl, Nat.zero_le _, ext_app _, by rw [at_app0]; rfl, fun i h hi => absurd hi (Nat.not_lt_zero _), by simp, fun _ => rfl, fun h => absurd h (Nat.lt_irrefl _), rfl, rfl, rfl, rfl, rfl⟩ ?_
          rintro j e M d' ⟨rfl, i, last, rfl, hi, hSM, hat, hrise, hnot, hl0, hl1, h1, h110, h111, h112, h3⟩
          refine W_sound oRe_ok mixed _ _ _ _ _ ?_
          by_cases hil : i < ds.length
          · obtain ⟨bi, o, v, cap, ex, rfl⟩ := lst_sl hd hil
            have hdM := lst_ext hd hSM
            have hc := lstV_cell hdM rfl (fun a => rfl) hil []
            rw [List.append_nil] at hc
            have hiI : (i : Int) < ds.length := by omega
            have hrise1 := fun (h : riseTo ds ds.length) => h i hil hil
            by_cases hA1 : ds[i] ≤ last
            · simp (maxSteps := 1000000) (disch := omega) only [c31l1, h1, h110, h111, h112, h3, hiI, Int.toNat_natCast, Nat.mul_one, hc, hA1, go_sem, Option.map_none, Option.map_some, ↓reduceIte, Nat.reduceBEq, Nat.reduceAdd, Nat.reduceSub, Nat.reduceEqDiff, Nat.reduceLeDiff, Nat.reduceMul, Nat.reduceLT, Int.reduceLT, Int.reduceLE, Int.reduceAdd, Int.reduceSub, Int.reduceMul, Int.reduceNeg, Int.reduceEq, Int.reduceNe, Int.reduceToNat, decide_true, decide_false, iaddr_i, iaddr_sl_i, not_true_eq_false, not_false_eq_true, reduceCtorEq, ne_eq, forall_const, false_imp_iff, true_imp_iff, implies_true, Int.cast_ofNat_Int, Int.natCast_zero, Int.natCast_one, Int.add_zero, Int.zero_add]
              refine wkv_fP hSM fun h => ?_
              obtain ⟨g1, g2⟩ := hrise1 (right1.1 h).2.2.2.2.2.1
              rcases Nat.eq_zero_or_pos i with hi0 | hi0
              · have := hl0 hi0; have := g1.1; omega
              · have := g2 hi0; rw [← hl1 hi0 hi] at this; omega
            by_cases hA2 : 255 < ds[i]
            · simp (maxSteps := 1000000) (disch := omega) only [c31l1, h1, h110, h111, h112, h3, hiI, Int.toNat_natCast, Nat.mul_one, hc, hA1, hA2, go_sem, Option.map_none, Option.map_some, ↓reduceIte, Nat.reduceBEq, Nat.reduceAdd, Nat.reduceSub, Nat.reduceEqDiff, Nat.reduceLeDiff, Nat.reduceMul, Nat.reduceLT, Int.reduceLT, Int.reduceLE, Int.reduceAdd, Int.reduceSub, Int.reduceMul, Int.reduceNeg, Int.reduceEq, Int.reduceNe, Int.reduceToNat, decide_true, decide_false, iaddr_i, iaddr_sl_i, not_true_eq_false, not_false_eq_true, reduceCtorEq, ne_eq, forall_const, false_imp_iff, true_imp_iff, implies_true, Int.cast_ofNat_Int, Int.natCast_zero, Int.natCast_one, Int.add_zero, Int.zero_add]
              refine wkv_fP hSM fun h => ?_
              obtain ⟨g1, g2⟩ := hrise1 (right1.1 h).2.2.2.2.2.1
              have := g1.2; omega
            simp (maxSteps := 1000000) (disch := omega) only [c31l1, h1, h110, h111, h112, h3, hiI, Int.toNat_natCast, Nat.mul_one, hc, hA1, hA2, hat, lst_len hp, go_sem, Option.map_none, Option.map_some, ↓reduceIte, Nat.reduceBEq, Nat.reduceAdd, Nat.reduceSub, Nat.reduceEqDiff, Nat.reduceLeDiff, Nat.reduceMul, Nat.reduceLT, Int.reduceLT, Int.reduceLE, Int.reduceAdd, Int.reduceSub, Int.reduceMul, Int.reduceNeg, Int.reduceEq, Int.reduceNe, Int.reduceToNat, decide_true, decide_false, iaddr_i, iaddr_sl_i, not_true_eq_false, not_false_eq_true, reduceCtorEq, ne_eq, forall_const, false_imp_iff, true_imp_iff, implies_true, Int.cast_ofNat_Int, Int.natCast_zero, Int.natCast_one, Int.add_zero, Int.zero_add]
            refine wp_loop (fun j e M' dl => dl = [] ∧ ∃ (n : Nat), j = ps.length - n ∧ n ≤ ps.length ∧ S <+: M' ∧ M'[S.length]? = some (.cells [.i .i64 1, .i .i64 0, xp, .sl bi o v ds.length cap ex, .i .u64 0, .i .u64 0] 0 none true) ∧
              (∀ p ∈ ps.take n, p.sub ≠ ds[i]) ∧
              e.get 1 = .p S.length 0 0 ∧ e.get 110 = .sl bi o v ds.length cap ex ∧ e.get 111 = .i .i64 ds.length ∧ e.get 112 = .i .i64 i ∧ e.get 3 = .i .i64 ds[i] ∧ e.get 5 = .i .i64 ds[i] ∧ e.get 125 = xp ∧ e.get 126 = .i .i64 ps.length ∧ e.get 127 = .i .i64 n) (j := ps.length)
              ⟨rfl, 0, rfl, Nat.zero_le _, hSM, hat, by simp, rfl, rfl, rfl, rfl, rfl, rfl, rfl, rfl, rfl⟩ ?_
            rintro j e M' d' ⟨rfl, n, rfl, hn, hSM', hat', hno, h1, h110, h111, h112, h3, h5, h125, h126, h127⟩
            refine W_sound oRe_ok mixed _ _ _ _ _ ?_
            have hwi : wrapV .i64 ((i : Int) + 1) = ((i + 1 : Nat) : Int) := by rw [wrap_i64 (by omega) (by omega)]; omega
            by_cases hnl : n < ps.length
            · obtain ⟨pi, po, pv, pcap, pex, rfl⟩ := lst_sl hp hnl
              have hrow := lstV_row (lst_ext hp hSM') hnl []
              rw [List.append_nil] at hrow
              have hrow : rowB (M'[pi]?) (po + n * 13) pv 13 = some (polE.enc ps[n]) := hrow
              have hnI : (n : Int) < ps.length := by omega
              have hwn : wrapV .i64 ((n : Int) + 1) = ((n + 1 : Nat) : Int) := by rw [wrap_i64 (by omega) (by omega)]; omega
              have hmem : ps[n] ∈ ps := List.getElem_mem hnl
              have htk := List.take_succ_eq_append_getElem hnl
              generalize hpv : ps[n] = p at hrow hmem htk
              simp only [polE, Pol.enc] at hrow
              by_cases hsub : p.sub = ds[i]
              · simp (maxSteps := 1000000) (disch := omega) only [c31l0, h1, h110, h111, h112, h3, h5, h125, h126, h127, hnI, Int.toNat_natCast, hrow, List.replicate, hsub, go_sem, Option.map_none, Option.map_some, ↓reduceIte, Nat.reduceBEq, Nat.reduceAdd, Nat.reduceSub, Nat.reduceEqDiff, Nat.reduceLeDiff, Nat.reduceMul, Nat.reduceLT, Int.reduceLT, Int.reduceLE, Int.reduceAdd, Int.reduceSub, Int.reduceMul, Int.reduceNeg, Int.reduceEq, Int.reduceNe, Int.reduceToNat, decide_true, decide_false, iaddr_i, iaddr_sl_i, not_true_eq_false, not_false_eq_true, reduceCtorEq, ne_eq, forall_const, false_imp_iff, true_imp_iff, implies_true, Int.cast_ofNat_Int, Int.natCast_zero, Int.natCast_one, Int.add_zero, Int.zero_add]
                refine wkv_fP (ext_more hSM' _) fun h => ?_
                exact (right1.1 h).2.2.2.2.2.2.1 p hmem (by rw [hsub]; exact List.getElem_mem hil)
              · simp (maxSteps := 1000000) (disch := omega) only [c31l0, h1, h110, h111, h112, h3, h5, h125, h126, h127, hnI, Int.toNat_natCast, hrow, List.replicate, hsub, hwn, go_sem, Option.map_none, Option.map_some, ↓reduceIte, Nat.reduceBEq, Nat.reduceAdd, Nat.reduceSub, Nat.reduceEqDiff, Nat.reduceLeDiff, Nat.reduceMul, Nat.reduceLT, Int.reduceLT, Int.reduceLE, Int.reduceAdd, Int.reduceSub, Int.reduceMul, Int.reduceNeg, Int.reduceEq, Int.reduceNe, Int.reduceToNat, decide_true, decide_false, iaddr_i, iaddr_sl_i, not_true_eq_false, not_false_eq_true, reduceCtorEq, ne_eq, forall_const, false_imp_iff, true_imp_iff, implies_true, Int.cast_ofNat_Int, Int.natCast_zero, Int.natCast_one, Int.add_zero, Int.zero_add]
                refine ⟨ps.length - (n + 1), by omega, n + 1, rfl, hnl, ext_more hSM' _, at_old hat', fun p' hp' => ?_, rfl⟩
                rw [htk] at hp'
                rcases List.mem_append.1 hp' with hp' | hp'
                · exact hno p' hp'
                · rw [List.mem_singleton.1 hp']; exact hsub
            · have hnI : ¬ (n : Int) < ps.length := by omega
              rw [List.take_of_length_le (by omega)] at hno
              simp (maxSteps := 1000000) (disch := omega) only [c31l0, h1, h110, h111, h112, h3, h5, h125, h126, h127, hnI, hwi, go_sem, Option.map_none, Option.map_some, ↓reduceIte, Nat.reduceBEq, Nat.reduceAdd, Nat.reduceSub, Nat.reduceEqDiff, Nat.reduceLeDiff, Nat.reduceMul, Nat.reduceLT, Int.reduceLT, Int.reduceLE, Int.reduceAdd, Int.reduceSub, Int.reduceMul, Int.reduceNeg, Int.reduceEq, Int.reduceNe, Int.reduceToNat, decide_true, decide_false, iaddr_i, iaddr_sl_i, not_true_eq_false, not_false_eq_true, reduceCtorEq, ne_eq, forall_const, false_imp_iff, true_imp_iff, implies_true, Int.cast_ofNat_Int, Int.natCast_zero, Int.natCast_one, Int.add_zero, Int.zero_add]
              refine ⟨ds.length - (i + 1), by omega, i + 1, ds[i], rfl, hil, hSM', hat', ?_, ?_, fun h => absurd h (Nat.succ_ne_zero i), fun _ _ => rfl, rfl, rfl⟩
              · intro m hm hmi
                by_cases e : m = i
                · subst e
                  refine ⟨⟨?_, by omega⟩, fun h0 => ?_⟩
                  · rcases Nat.eq_zero_or_pos m with hi0 | hi0
                    · have := hl0 hi0; omega
                    · have g2 := hl1 hi0 hi
                      have g3 := (hrise (m - 1) (by omega) (by omega)).1.1
                      omega
                  · have g2 := hl1 h0 hi; omega
                · exact hrise m hm (by omega)
              · intro p' hp' hmem
                rw [List.take_succ_eq_append_getElem hil] at hmem
                rcases List.mem_append.1 hmem with hm | hm
                · exact hnot p' hp' hm
                · exact hno p' hp' (List.mem_singleton.1 hm)
          · have hiI : ¬ (i : Int) < ds.length := by omega
            obtain rfl : i = ds.length := by omega
            simp (maxSteps := 1000000) (disch := omega) only [c31l1, h1, h110, h111, h112, h3, hiI, hat, lst_len hp, lst_len hd, go_sem, Option.map_none, Option.map_some, ↓reduceIte, Nat.reduceBEq, Nat.reduceAdd, Nat.reduceSub, Nat.reduceEqDiff, Nat.reduceLeDiff, Nat.reduceMul, Nat.reduceLT, Int.reduceLT, Int.reduceLE, Int.reduceAdd, Int.reduceSub, Int.reduceMul, Int.reduceNeg, Int.reduceEq, Int.reduceNe, Int.reduceToNat, decide_true, decide_false, iaddr_i, iaddr_sl_i, not_true_eq_false, not_false_eq_true, reduceCtorEq, ne_eq, forall_const, false_imp_iff, true_imp_iff, implies_true, Int.cast_ofNat_Int, Int.natCast_zero, Int.natCast_one, Int.add_zero, Int.zero_add]
            rw [List.take_length] at hnot
            have key : Evt.right ⟨1, 0, ps, ds, 0, 0⟩ ↔ 0 < ps.length + ds.length := right1.trans ⟨fun h => h.2.2.2.2.2.2.2, fun h => ⟨rfl, rfl, rfl, hd8, hP, hrise, hnot, h⟩⟩
            exact ⟨fun h1 => wkv_bP hSM (key.trans (by omega)), fun h1 => wkv_tP hSM (key.2 (by omega))⟩
        · simp (maxSteps := 1000000) (disch := omega) only [c31, lst_len hp, lst_len hd, lst_cells hp, lst_cells hd, k1, k2, k3, go_sem, Option.map_none, Option.map_some, ↓reduceIte, Nat.reduceBEq, Nat.reduceAdd, Nat.reduceSub, Nat.reduceEqDiff, Nat.reduceLeDiff, Nat.reduceMul, Nat.reduceLT, Int.reduceLT, Int.reduceLE, Int.reduceAdd, Int.reduceSub, Int.reduceMul, Int.reduceNeg, Int.reduceEq, Int.reduceNe, Int.reduceToNat, decide_true, decide_false, iaddr_i, iaddr_sl_i, not_true_eq_false, not_false_eq_true, reduceCtorEq, ne_eq, forall_const, false_imp_iff, true_imp_iff, implies_true, Int.cast_ofNat_Int, Int.natCast_zero, Int.natCast_one, Int.add_zero, Int.zero_add]
          exact wkv_f (right0 k1 k2 k3)
      · cases h
    · cases h
  · cases h
end Go.Proofs.Ytapgkaecamljbaa

namespace Go.Proofs.Ytapgkaecamljbaa
open Go.RowKit
set_option linter.unusedSimpArgs false
set_option linter.unusedVariables false
set_option maxRecDepth 10000

def Pol.good (p : Pol) : Prop := i64 p.sub ∧ u84 p.a p.b p.c p.d ∧ i64 p.bits ∧ u64 p.rate ∧ u64 p.burst ∧ u64 p.srate ∧ u64 p.sburst ∧ u64 p.quota ∧ u64 p.lease ∧ u64 p.quantum
instance (p : Pol) : Decidable p.good := by unfold Pol.good; infer_instance
def Ent.good (x : Ent) : Prop := x.pol.good ∧ u64 x.granted
instance (x : Ent) : Decidable x.good := by unfold Ent.good; infer_instance
theorem Pol.good.fits {p : Pol} (h : p.good) : p.fits := h.2.1
def Bk.good (b : Bk) : Prop := u64 b.period ∧ b.entries.length ≤ 1000000 ∧ ∀ x ∈ b.entries, x.good
instance (b : Bk) : Decidable b.good := by unfold Bk.good; infer_instance
theorem Bk.good.fits {b : Bk} (h : b.good) : b.fits := ⟨h.2.1, fun x hx => (h.2.2 x hx).1.fits⟩

/-! ### policy.Nums -/
def Pol.ns (p : Pol) : List Int := [p.sub, num p.a p.b p.c p.d, p.bits, p.rate, p.burst, p.srate, p.sburst, p.quota, p.lease, p.quantum]
theorem ns_u64 {p : Pol} (h : p.good) (hr : p.right) : ∀ n ∈ p.ns, u64 n := by
  obtain ⟨_, ⟨ha, hb, hc, hd⟩, _, h3, h4, h5, h6, h7, h8, h9⟩ := h
  have hn := u32_num ha hb hc hd
  have hb2 := hr.2.2.1.1
  have hb3 := cl_bound p.bits
  have h1 := hr.1
  have h2 := hr.2.1
  intro n hn
  simp only [Pol.ns, List.mem_cons, List.not_mem_nil, or_false] at hn
  rcases hn with rfl | rfl | rfl | rfl | rfl | rfl | rfl | rfl | rfl | rfl <;> first | assumption | (unfold u64 u32 at *; omega)
def numsS : Spec := fun args S => match args with
  | [.ag cs] => match polE.dec cs with
    | some p => if p.good then (if p.right then some (.sl S.length 0 0 10 10 true, S ++ [.cells (p.ns.map (.i .u64)) 0 none true]) else some (.sn, S)) else none
    | none => none
  | _ => none
theorem oPn_ok : OK Try.prog (lamOf Try.prog) (orcOf [(59, polS), (61, numS)]) := orc_ok (by simpa using ⟨pol_ok, num_ok⟩)
theorem polS_dec {p : Pol} (h : p.fits) (S : Mem) : polS [.ag [.i .i64 p.sub, .i .u8 p.a, .i .u8 p.b, .i .u8 p.c, .i .u8 p.d, .i .i64 p.bits, .i .u64 p.rate, .i .u64 p.burst, .i .u64 p.srate, .i .u64 p.sburst, .i .u64 p.quota, .i .u64 p.lease, .i .u64 p.quantum]] S = some (.b (decide p.right), S) := polS_eq h S
theorem nums_ok : SpecOK Try.prog 37 numsS := by
  intro args S x S' h
  simp only [numsS] at h
  split at h
  · rename_i cs
    split at h
    · rename_i p hp
      split at h
      · rename_i hg
        obtain rfl := polE.ed _ _ hp
        refine fn_of_wp f37 rfl (W_sound oPn_ok mixed _ _ _ _ _ ?_)
        have hq := polS_dec hg.fits
        have hn := numS_eq hg.fits
        have hu := u84_num hg.fits
        split at h
        · rename_i hr
          cases h
          have hb := hr.2.2.1.1
          have hb3 := cl_bound p.bits
          have w1 : wrapV .u64 p.sub = p.sub := wrap_u64 (by have := hr.1; omega) (by have := hr.2.1; omega)
          have w2 : wrapV .u64 p.bits = p.bits := wrap_u64 (by omega) (by omega)
          have w3 : wrapV .u64 (num p.a p.b p.c p.d) = num p.a p.b p.c p.d := wrap_u64 (by unfold u32 at hu; omega) (by unfold u32 at hu; omega)
          have hd : decide p.right = true := decide_eq_true hr
          simp (maxSteps := 1000000) (disch := omega) only [c37, polE, Pol.enc, orc_cons, hq, hd, hn, w1, w2, w3, List.replicate, go_sem, Option.map_none, Option.map_some, ↓reduceIte, Nat.reduceBEq, Nat.reduceAdd, Nat.reduceSub, Nat.reduceEqDiff, Nat.reduceLeDiff, Nat.reduceMul, Nat.reduceLT, Int.reduceLT, Int.reduceLE, Int.reduceAdd, Int.reduceSub, Int.reduceMul, Int.reduceNeg, Int.reduceEq, Int.reduceNe, Int.reduceToNat, decide_true, decide_false, iaddr_i, iaddr_sl_i, not_true_eq_false, not_false_eq_true, reduceCtorEq, ne_eq, forall_const, false_imp_iff, true_imp_iff, implies_true, Int.cast_ofNat_Int, Int.natCast_zero, Int.natCast_one, Int.add_zero, Int.zero_add]
          exact wkv_at (p := 1) rfl (by intro x hx; obtain ⟨a, _, rfl⟩ := List.mem_map.1 hx; exact Flat_i)
        · rename_i hr
          cases h
          have hd : decide p.right = false := decide_eq_false hr
          simp (maxSteps := 1000000) (disch := omega) only [c37, polE, Pol.enc, orc_cons, hq, hd, go_sem, Option.map_none, Option.map_some, ↓reduceIte, Nat.reduceBEq, Nat.reduceAdd, Nat.reduceSub, Nat.reduceEqDiff, Nat.reduceLeDiff, Nat.reduceMul, Nat.reduceLT, Int.reduceLT, Int.reduceLE, Int.reduceAdd, Int.reduceSub, Int.reduceMul, Int.reduceNeg, Int.reduceEq, Int.reduceNe, Int.reduceToNat, decide_true, decide_false, iaddr_i, iaddr_sl_i, not_true_eq_false, not_false_eq_true, reduceCtorEq, ne_eq, forall_const, false_imp_iff, true_imp_iff, implies_true, Int.cast_ofNat_Int, Int.natCast_zero, Int.natCast_one, Int.add_zero, Int.zero_add]
          exact wkv_drop rfl
      · cases h
    · cases h
  · cases h
theorem nsV {p : Pol} {S : Mem} (hg : p.good) (hr : p.right) : numsS [.ag p.enc] S = some (.sl S.length 0 0 10 10 true, S ++ [.cells (p.ns.map (.i .u64)) 0 none true]) := by
  have : polE.dec p.enc = some p := polE.de p
  simp only [numsS, this, if_pos hg, if_pos hr]
def rnumsS : Spec := fun args S => match args with
  | [.ag cs] => match polE.dec cs with
    | some p => if p.good then (if p.right then some (retX true S p.ns, retM true numE S p.ns) else some (.sn, S)) else none
    | none => none
  | _ => none
theorem numE_flat : ∀ (n : Nat) (a : Int), ∀ c ∈ numE.enc a, AV.Flat n c := by
  intro n a c hc
  have : c = .i .u64 a := by simpa [numE, intE] using hc
  rw [this]; exact Flat_i
theorem oRp_ok : OK Try.prog (lamOf Try.prog) (orcOf [(63, polS), (64, numS)]) := orc_ok (by simpa using ⟨rpol_ok, rnum_ok⟩)
theorem rnums_ok : SpecOK Try.prog 39 rnumsS := by
  intro args S x S' h
  simp only [rnumsS] at h
  split at h
  · rename_i cs
    split at h
    · rename_i p hp
      split at h
      · rename_i hg
        obtain rfl := polE.ed _ _ hp
        refine fn_of_wp f39 rfl (W_sound oRp_ok mixed _ _ _ _ _ ?_)
        have hq := polS_dec hg.fits
        have hn := numS_eq hg.fits
        have hu := u84_num hg.fits
        split at h
        · rename_i hr
          cases h
          have hb := hr.2.2.1.1
          have hb3 := cl_bound p.bits
          have w1 : wrapV .u64 p.sub = p.sub := wrap_u64 (by have := hr.1; omega) (by have := hr.2.1; omega)
          have w2 : wrapV .u64 p.bits = p.bits := wrap_u64 (by omega) (by omega)
          have w3 : wrapV .u64 (num p.a p.b p.c p.d) = num p.a p.b p.c p.d := wrap_u64 (by unfold u32 at hu; omega) (by unfold u32 at hu; omega)
          have hd : decide p.right = true := decide_eq_true hr
          simp (maxSteps := 1000000) (disch := omega) only [c39, polE, Pol.enc, orc_cons, hq, hd, hn, w1, w2, w3, src_sl, srcN_some, app_ex, appN_some, List.replicate, go_sem, Option.map_none, Option.map_some, ↓reduceIte, Nat.reduceBEq, Nat.reduceAdd, Nat.reduceSub, Nat.reduceEqDiff, Nat.reduceLeDiff, Nat.reduceMul, Nat.reduceLT, Int.reduceLT, Int.reduceLE, Int.reduceAdd, Int.reduceSub, Int.reduceMul, Int.reduceNeg, Int.reduceEq, Int.reduceNe, Int.reduceToNat, decide_true, decide_false, iaddr_i, iaddr_sl_i, not_true_eq_false, not_false_eq_true, reduceCtorEq, ne_eq, forall_const, false_imp_iff, true_imp_iff, implies_true, Int.cast_ofNat_Int, Int.natCast_zero, Int.natCast_one, Int.add_zero, Int.zero_add]
          have hacc : Acc true numE S (S ++ [.cells (polE.enc p) 0 none true, .cells [.i .u64 p.sub, .i .u64 (num p.a p.b p.c p.d), .i .u64 p.bits] 0 none true, .cells [.i .u64 p.rate, .i .u64 p.burst, .i .u64 p.srate, .i .u64 p.sburst, .i .u64 p.quota, .i .u64 p.lease, .i .u64 p.quantum] 0 none true, .cells (p.ns.map (.i .u64)) 0 (some 1) true]) (.sl (S.length + 3) 0 0 10 10 false) p.ns :=
            ⟨_, rfl, .inr (.inr ⟨by simp [Pol.ns], 3, 0, rfl, rfl⟩)⟩
          exact hacc.ret numE_flat
        · rename_i hr
          cases h
          have hd : decide p.right = false := decide_eq_false hr
          simp (maxSteps := 1000000) (disch := omega) only [c39, polE, Pol.enc, orc_cons, hq, hd, go_sem, Option.map_none, Option.map_some, ↓reduceIte, Nat.reduceBEq, Nat.reduceAdd, Nat.reduceSub, Nat.reduceEqDiff, Nat.reduceLeDiff, Nat.reduceMul, Nat.reduceLT, Int.reduceLT, Int.reduceLE, Int.reduceAdd, Int.reduceSub, Int.reduceMul, Int.reduceNeg, Int.reduceEq, Int.reduceNe, Int.reduceToNat, decide_true, decide_false, iaddr_i, iaddr_sl_i, not_true_eq_false, not_false_eq_true, reduceCtorEq, ne_eq, forall_const, false_imp_iff, true_imp_iff, implies_true, Int.cast_ofNat_Int, Int.natCast_zero, Int.natCast_one, Int.add_zero, Int.zero_add]
          exact wkv_drop rfl
      · cases h
    · cases h
  · cases h
theorem rnsV {p : Pol} {S : Mem} (hg : p.good) (hr : p.right) : rnumsS [.ag p.enc] S = some (retX true S p.ns, retM true numE S p.ns) := by
  have : polE.dec p.enc = some p := polE.de p
  simp only [rnumsS, this, if_pos hg, if_pos hr]

/-! ### Bytes -/
def entNs (l : List Ent) : List Int := l.flatMap fun x => x.pol.ns ++ [x.granted]
def Bk.ns (b : Bk) : List Int := b.period :: entNs b.entries
theorem entNs_len (l : List Ent) : (entNs l).length = 11 * l.length := by
  unfold entNs
  induction l with
  | nil => rfl
  | cons a l ih => rw [List.flatMap_cons, List.length_append, ih, List.length_append]; simp [Pol.ns]; omega
theorem bns_u64 {b : Bk} (hg : b.good) (ho : b.ok) : ∀ n ∈ b.ns, u64 n := by
  intro n hn
  rcases List.mem_cons.1 hn with rfl | hn
  · exact hg.1
  · obtain ⟨x, hx, hn⟩ := List.mem_flatMap.1 hn
    rcases List.mem_append.1 hn with hn | hn
    · refine ns_u64 (hg.2.2 x hx).1 ?_ n hn
      obtain ⟨i, hi, rfl⟩ := List.getElem_of_mem hx
      have := (ho.2.2.1.2 i (by unfold polsOf; simpa using hi) (by unfold polsOf; simpa using hi)).1
      unfold polsOf at this; simpa using this
    · simp at hn; subst hn; exact (hg.2.2 x hx).2
theorem ok_right {b : Bk} (ho : b.ok) {k : Nat} (hk : k < b.entries.length) : b.entries[k].pol.right := by
  have := (ho.2.2.1.2 k (by unfold polsOf; simpa using hk) (by unfold polsOf; simpa using hk)).1
  unfold polsOf at this; simpa using this
noncomputable def bytesS : Spec := fun args S => match args with
  | [.ag cb] => match bookOf S cb with
    | some b => if b.good then (if b.ok then some (.tu [retX true S (lebs b.ns), .i .i64 0], retM true byteE S (lebs b.ns)) else some (.tu [.sn, .i .i64 131], S)) else none
    | none => none
  | _ => none
theorem lebs_ne {b : Bk} : lebs b.ns ≠ [] := by
  unfold Bk.ns lebs
  rw [List.flatMap_cons]
  intro h
  exact leb_ne _ (List.append_eq_nil_iff.1 h).1
theorem u64E (l : List Int) : l.flatMap numE.enc = l.map (.i .u64) := by
  induction l with
  | nil => rfl
  | cons a l ih => rw [List.flatMap_cons, ih]; rfl
theorem oBy_ok : OK Try.prog (lamOf Try.prog) (orcOf [(16, brightS), (37, numsS), (38, lebsS false)]) := orc_ok (by simpa using ⟨bright_ok, nums_ok, lebs_ok⟩)
set_option maxHeartbeats 2000000 in
theorem bytes_ok : SpecOK Try.prog 17 bytesS := by
  intro args S x S' h
  simp only [bytesS] at h
  split at h
  · rename_i cb
    split at h
    · rename_i b hb
      split at h
      · rename_i hg
        obtain ⟨s, rfl, hl⟩ := bookOf_ok hb
        obtain ⟨p, l⟩ := b
        simp only at hl
        have b1 := fun L => bright_eq (bookOf_mk (p := p) (lstV_grow hl L)) hg.fits
        refine fn_of_wp f17 rfl (W_sound oBy_ok mixed _ _ _ _ _ ?_)
        split at h
        · rename_i ho
          cases h
          have hd : decide (Bk.ok ⟨p, l⟩) = true := decide_eq_true ho
          have hlim := hg.2.1
          simp only at hlim
          simp (maxSteps := 1000000) (disch := omega) only [c17, orc_cons, b1, hd, lst_len hl, List.replicate, go_sem, Option.map_none, Option.map_some, ↓reduceIte, Nat.reduceBEq, Nat.reduceAdd, Nat.reduceSub, Nat.reduceEqDiff, Nat.reduceLeDiff, Nat.reduceMul, Nat.reduceLT, Int.reduceLT, Int.reduceLE, Int.reduceAdd, Int.reduceSub, Int.reduceMul, Int.reduceNeg, Int.reduceEq, Int.reduceNe, Int.reduceToNat, decide_true, decide_false, iaddr_i, iaddr_sl_i, not_true_eq_false, not_false_eq_true, reduceCtorEq, ne_eq, forall_const, false_imp_iff, true_imp_iff, implies_true, Int.cast_ofNat_Int, Int.natCast_zero, Int.natCast_one, Int.add_zero, Int.zero_add]
          have h0 : AccL numE S (S ++ [.cells [.i .u64 p, s] 0 none true, .cells [.i .u64 p] 0 none true]) (.sl (S.length + 1) 0 0 1 1 true) [p] := by
            have : AccL numE S ((S ++ [Blk.cells [.i .u64 p, s] 0 none true]) ++ [Blk.cells [.i .u64 p] 0 none true]) (.sl (S ++ [Blk.cells [.i .u64 p, s] 0 none true]).length 0 0 1 1 true) [p] := accL_lit (E := numE) (l := [p]) (ext_app _)
            rwa [List.append_assoc, List.length_append] at this
          refine wp_loop (fun j e M dl => dl = [] ∧ ∃ (k : Nat) (x : AV), j = l.length - k ∧ k ≤ l.length ∧ AccL numE S M x (p :: entNs (l.take k)) ∧
            e.get 14 = s ∧ e.get 15 = .i .i64 l.length ∧ e.get 16 = .i .i64 k ∧ e.get 4 = x) (j := l.length) ⟨rfl, 0, _, rfl, Nat.zero_le _, h0, rfl, rfl, rfl, rfl⟩ ?_
          rintro j e M d' ⟨rfl, k, x, rfl, hk, hx, h14, h15, h16, h4⟩
          refine W_sound oBy_ok mixed _ _ _ _ _ ?_
          have hM := lst_ext hl hx.ext
          have htl : (entNs (l.take k)).length = 11 * k := by rw [entNs_len, List.length_take]; omega
          by_cases hkl : k < l.length
          · obtain ⟨bi, o, v, cap, ex, rfl⟩ := lst_sl hl hkl
            have hr : ∀ L, rowB ((M ++ L)[bi]?) (o + k * 14) v 14 = some (entE.enc l[k]) := lstV_row hM hkl
            have hr0 := hr []
            rw [List.append_nil] at hr0
            have hkI : (k : Int) < l.length := by omega
            have hw : wrapV .i64 ((k : Int) + 1) = ((k + 1 : Nat) : Int) := by rw [wrap_i64 (by omega) (by omega)]; omega
            have hpr := ok_right ho (k := k) hkl
            have hpg := (hg.2.2 _ (List.getElem_mem hkl)).1
            have hns := fun M => nsV (S := M) hpg hpr
            obtain ⟨x1, M1, U1, ha1, hM1, hx1, _⟩ := hx.apps (bytes := 8) numE_one [.cells (entE.enc l[k]) 0 none true, .cells (l[k].pol.ns.map (.i .u64)) 0 none true] l[k].pol.ns (by simp [Pol.ns]; omega) (by simp [Pol.ns]; omega)
            obtain ⟨x2, M2, U2, ha2, hM2, hx2, _⟩ := hx1.apps (bytes := 8) numE_one [.cells [.i .u64 l[k].granted] 0 none true] [l[k].granted] (by simp [Pol.ns]; omega) (by simp [Pol.ns]; omega)
            have ha1 : appV (M ++ [.cells (entE.enc l[k]) 0 none true, .cells (l[k].pol.ns.map (.i .u64)) 0 none true]) 1 8 x (l[k].pol.ns.map (.i .u64)) 10 = some (x1, M1 ++ (.cells (entE.enc l[k]) 0 none true :: .cells (l[k].pol.ns.map (.i .u64)) 0 none true :: U1)) := by rw [u64E] at ha1; exact ha1
            have ha2 : appV (M1 ++ (.cells (entE.enc l[k]) 0 none true :: .cells (l[k].pol.ns.map (.i .u64)) 0 none true :: (U1 ++ [.cells [.i .u64 l[k].granted] 0 none true]))) 1 8 x1 [.i .u64 l[k].granted] 1 = some (x2, M2 ++ (.cells [.i .u64 l[k].granted] 0 none true :: U2)) := by
              rw [List.append_assoc] at ha2; exact ha2
            have hat : ∀ L : Mem, (M1 ++ L)[M.length]? = L[0]? := fun L => by rw [← hM1]; exact at_app0
            have hrow : rowB (some (.cells (l[k].pol.ns.map (.i .u64)) 0 none true)) 0 0 10 = some (l[k].pol.ns.map (.i .u64)) := rfl
            have v0 := eqv_lst hx.lst
            have v1 := eqv_lst hx1.lst
            have v2 := eqv_lst hx2.lst
            have vc : avEqvL l[k].pol.enc l[k].pol.enc = true := by simp [Pol.enc, avEqvL, avEqv]
            have r13 : rowB (some (.cells (entE.enc l[k]) 0 none true)) 0 0 13 = some l[k].pol.enc := rfl
            have c13 : cellB (some (.cells (entE.enc l[k]) 0 none true)) 13 0 = some (.i .u64 l[k].granted) := rfl
            generalize l[k].pol.ns.map (AV.i .u64) = N at ha1 ha2 hns hrow
            simp (maxSteps := 1000000) (disch := omega) only [c17l1, h4, h14, h15, h16, hkI, Int.toNat_natCast, hr0, entE, Ent.enc, List.replicate, go_sem, Option.map_none, Option.map_some, ↓reduceIte, Nat.reduceBEq, Nat.reduceAdd, Nat.reduceSub, Nat.reduceEqDiff, Nat.reduceLeDiff, Nat.reduceMul, Nat.reduceLT, Int.reduceLT, Int.reduceLE, Int.reduceAdd, Int.reduceSub, Int.reduceMul, Int.reduceNeg, Int.reduceEq, Int.reduceNe, Int.reduceToNat, decide_true, decide_false, iaddr_i, iaddr_sl_i, not_true_eq_false, not_false_eq_true, reduceCtorEq, ne_eq, forall_const, false_imp_iff, true_imp_iff, implies_true, Int.cast_ofNat_Int, Int.natCast_zero, Int.natCast_one, Int.add_zero, Int.zero_add]
            have hB : Blk.cells [.i .i64 l[k].pol.sub, .i .u8 l[k].pol.a, .i .u8 l[k].pol.b, .i .u8 l[k].pol.c, .i .u8 l[k].pol.d, .i .i64 l[k].pol.bits, .i .u64 l[k].pol.rate, .i .u64 l[k].pol.burst, .i .u64 l[k].pol.srate, .i .u64 l[k].pol.sburst, .i .u64 l[k].pol.quota, .i .u64 l[k].pol.lease, .i .u64 l[k].pol.quantum, .i .u64 l[k].granted] 0 none true = .cells (entE.enc l[k]) 0 none true := rfl
            rw [hB]
            generalize Blk.cells (entE.enc l[k]) 0 none true = B6 at ha1 ha2 r13 c13
            generalize l[k].pol.enc = C13 at hns r13 vc
            refine draw_of ?_
            simp (maxSteps := 1000000) (disch := omega) only [c17d0, orc_cons, hns, r13, c13, src_sl, Nat.mul_one, hrow, srcN_some, ha1, ha2, hat, v0, v1, v2, vc, hw, dNs_nil, dNs_cons, dnK_some, dnK_none, dOpt_none, dOpt_some, doK_some, doK_none, dStages_nil, dStages_cons, s1K_app, s2K_app, s3K_app, s4K_app, dEnd_app, evOne_op, evOne_gd, evG_tt, evG_tf, evG_ft, evG_ff, evG_ud, kSt_nil, kSt_cons, kNs_nil, kNs_cons, kN_zero, kN_succ, kA_some, eqK_some, eqK_none, kOpt_none, kOpt_some, kLike_nil, kLike_cons, ROp.use, IOp.use, IO'.use, X.use, dstL_none, dstL_some, List.flatMap_cons, List.flatMap_nil, eqv_m, eqv_p, eqv_i, eqv_b, eqv_sl, eqv_sn, eqv_pn, eqv_ud, eqv_u, eqv_mn, eqv_ag, eqvL_cons, eqvL_nil, eqv_tu, Bool.and_true, Bool.true_and, Bool.and_self, Nat.le_refl, Nat.reduceLeDiff, and_self, and_true, true_and, go_sem, Option.map_none, Option.map_some, ↓reduceIte, Nat.reduceBEq, Nat.reduceAdd, Nat.reduceSub, Nat.reduceEqDiff, Nat.reduceLeDiff, Nat.reduceMul, Nat.reduceLT, Int.reduceLT, Int.reduceLE, Int.reduceAdd, Int.reduceSub, Int.reduceMul, Int.reduceNeg, Int.reduceEq, Int.reduceNe, Int.reduceToNat, decide_true, decide_false, iaddr_i, iaddr_sl_i, not_true_eq_false, not_false_eq_true, reduceCtorEq, ne_eq, forall_const, false_imp_iff, true_imp_iff, implies_true, Int.cast_ofNat_Int, Int.natCast_zero, Int.natCast_one, Int.add_zero, Int.zero_add]
            refine ⟨l.length - (k + 1), by omega, k + 1, x2, rfl, hkl, ?_, rfl, rfl⟩
            rw [show p :: entNs (l.take (k + 1)) = p :: entNs (l.take k) ++ l[k].pol.ns ++ [l[k].granted] by unfold entNs; rw [List.take_succ_eq_append_getElem hkl, List.flatMap_append]; simp]
            exact hx2
          · have hkI : ¬ (k : Int) < l.length := by omega
            rw [List.take_of_length_le (by omega)] at hx htl
            have h8 := ho.2.2.1.1
            rw [show (polsOf (Bk.mk p l).entries).length = l.length by unfold polsOf; simp] at h8
            have hlb := lebs_eq (z := false) hx.lst (by simp; omega) (bns_u64 hg ho)
            simp (maxSteps := 1000000) (disch := omega) only [c17l1, h4, h14, h15, h16, hkI, orc_cons, hlb, go_sem, Option.map_none, Option.map_some, ↓reduceIte, Nat.reduceBEq, Nat.reduceAdd, Nat.reduceSub, Nat.reduceEqDiff, Nat.reduceLeDiff, Nat.reduceMul, Nat.reduceLT, Int.reduceLT, Int.reduceLE, Int.reduceAdd, Int.reduceSub, Int.reduceMul, Int.reduceNeg, Int.reduceEq, Int.reduceNe, Int.reduceToNat, decide_true, decide_false, iaddr_i, iaddr_sl_i, not_true_eq_false, not_false_eq_true, reduceCtorEq, ne_eq, forall_const, false_imp_iff, true_imp_iff, implies_true, Int.cast_ofNat_Int, Int.natCast_zero, Int.natCast_one, Int.add_zero, Int.zero_add]
            have hne : lebs (p :: entNs l) ≠ [] := lebs_ne (b := ⟨p, l⟩)
            have hacc : Acc true byteE S (retM false byteE M (lebs (p :: entNs l))) (retX false M (lebs (p :: entNs l))) (lebs (p :: entNs l)) := by
              obtain ⟨T, hT⟩ := hx.ext
              rw [retX_ne hne, retM_ne hne]
              refine ⟨T ++ [.cells ((lebs (p :: entNs l)).flatMap byteE.enc) 0 (some byteE.sz) true], by rw [← hT, List.append_assoc], .inr (.inr ⟨hne, T.length, 0, by rw [← hT, List.length_append], by simp⟩)⟩
            exact hacc.ret2 byteE_flat Flat_i
        · rename_i ho
          cases h
          have hd : decide (Bk.ok ⟨p, l⟩) = false := decide_eq_false ho
          simp (maxSteps := 1000000) (disch := omega) only [c17, orc_cons, b1, hd, go_sem, Option.map_none, Option.map_some, ↓reduceIte, Nat.reduceBEq, Nat.reduceAdd, Nat.reduceSub, Nat.reduceEqDiff, Nat.reduceLeDiff, Nat.reduceMul, Nat.reduceLT, Int.reduceLT, Int.reduceLE, Int.reduceAdd, Int.reduceSub, Int.reduceMul, Int.reduceNeg, Int.reduceEq, Int.reduceNe, Int.reduceToNat, decide_true, decide_false, iaddr_i, iaddr_sl_i, not_true_eq_false, not_false_eq_true, reduceCtorEq, ne_eq, forall_const, false_imp_iff, true_imp_iff, implies_true, Int.cast_ofNat_Int, Int.natCast_zero, Int.natCast_one, Int.add_zero, Int.zero_add]
          exact wkv_drop rfl
      · cases h
    · cases h
  · cases h
end Go.Proofs.Ytapgkaecamljbaa

namespace Go.Proofs.Ytapgkaecamljbaa
open Go.RowKit
set_option linter.unusedSimpArgs false
set_option linter.unusedVariables false
set_option maxRecDepth 10000

theorem has_ok : SpecOK Try.prog 58 inIS := by
  intro args S x S' h
  simp only [inIS] at h
  split at h
  · rename_i s n
    split at h
    · rename_i l hl
      split at h
      · rename_i hf
        cases h
        refine fn_of_wp f58 rfl (W_sound none_ok mixed _ _ _ _ _ ?_)
        simp (maxSteps := 1000000) (disch := omega) only [c58, lst_len hl, go_sem, Option.map_none, Option.map_some, ↓reduceIte, Nat.reduceBEq, Nat.reduceAdd, Nat.reduceSub, Nat.reduceEqDiff, Nat.reduceLeDiff, Nat.reduceMul, Nat.reduceLT, Int.reduceLT, Int.reduceLE, Int.reduceAdd, Int.reduceSub, Int.reduceMul, Int.reduceNeg, Int.reduceEq, Int.reduceNe, Int.reduceToNat, decide_true, decide_false, iaddr_i, iaddr_sl_i, not_true_eq_false, not_false_eq_true, reduceCtorEq, ne_eq, forall_const, false_imp_iff, true_imp_iff, implies_true, Int.cast_ofNat_Int, Int.natCast_zero, Int.natCast_one, Int.add_zero, Int.zero_add]
        refine wp_loop (fun j e M dl => dl = [] ∧ M = S ∧ ∃ (k : Nat), j = l.length - k ∧ k ≤ l.length ∧ n ∉ l.take k ∧ e.get 1 = .i .i64 n ∧ e.get 7 = s ∧ e.get 8 = .i .i64 l.length ∧ e.get 9 = .i .i64 k) (j := l.length)
          ⟨rfl, rfl, 0, rfl, Nat.zero_le _, by simp, rfl, rfl, rfl, rfl⟩ ?_
        rintro j e M d' ⟨rfl, rfl, k, rfl, hk, hn, h1, h7, h8, h9⟩
        refine W_sound none_ok mixed _ _ _ _ _ ?_
        by_cases hkl : k < l.length
        · obtain ⟨bi, o, v, cap, ex, rfl⟩ := lst_sl hl hkl
          have hc := lstV_cell hl rfl (fun a => rfl) hkl []
          rw [List.append_nil] at hc
          have hkI : (k : Int) < l.length := by omega
          have hw1 : wrapV .i64 ((k : Int) + 1) = ((k + 1 : Nat) : Int) := by rw [wrap_i64 (by omega) (by omega)]; omega
          by_cases he : l[k] = n
          · simp (maxSteps := 1000000) (disch := omega) only [c58l0, h1, h7, h8, h9, hkI, Int.toNat_natCast, Nat.mul_one, hc, he, go_sem, Option.map_none, Option.map_some, ↓reduceIte, Nat.reduceBEq, Nat.reduceAdd, Nat.reduceSub, Nat.reduceEqDiff, Nat.reduceLeDiff, Nat.reduceMul, Nat.reduceLT, Int.reduceLT, Int.reduceLE, Int.reduceAdd, Int.reduceSub, Int.reduceMul, Int.reduceNeg, Int.reduceEq, Int.reduceNe, Int.reduceToNat, decide_true, decide_false, iaddr_i, iaddr_sl_i, not_true_eq_false, not_false_eq_true, reduceCtorEq, ne_eq, forall_const, false_imp_iff, true_imp_iff, implies_true, Int.cast_ofNat_Int, Int.natCast_zero, Int.natCast_one, Int.add_zero, Int.zero_add]
            exact wkv_tP ext_refl (he ▸ List.getElem_mem hkl)
          · simp (maxSteps := 1000000) (disch := omega) only [c58l0, h1, h7, h8, h9, hkI, Int.toNat_natCast, Nat.mul_one, hc, he, hw1, go_sem, Option.map_none, Option.map_some, ↓reduceIte, Nat.reduceBEq, Nat.reduceAdd, Nat.reduceSub, Nat.reduceEqDiff, Nat.reduceLeDiff, Nat.reduceMul, Nat.reduceLT, Int.reduceLT, Int.reduceLE, Int.reduceAdd, Int.reduceSub, Int.reduceMul, Int.reduceNeg, Int.reduceEq, Int.reduceNe, Int.reduceToNat, decide_true, decide_false, iaddr_i, iaddr_sl_i, not_true_eq_false, not_false_eq_true, reduceCtorEq, ne_eq, forall_const, false_imp_iff, true_imp_iff, implies_true, Int.cast_ofNat_Int, Int.natCast_zero, Int.natCast_one, Int.add_zero, Int.zero_add]
            refine ⟨l.length - (k + 1), by omega, k + 1, rfl, hkl, ?_, rfl⟩
            rw [List.take_succ_eq_append_getElem hkl]
            intro hm
            rcases List.mem_append.1 hm with hm | hm
            · exact hn hm
            · exact he (List.mem_singleton.1 hm).symm
        · have hkI : ¬ (k : Int) < l.length := by omega
          rw [List.take_of_length_le (by omega)] at hn
          simp (maxSteps := 1000000) (disch := omega) only [c58l0, h1, h7, h8, h9, hkI, go_sem, Option.map_none, Option.map_some, ↓reduceIte, Nat.reduceBEq, Nat.reduceAdd, Nat.reduceSub, Nat.reduceEqDiff, Nat.reduceLeDiff, Nat.reduceMul, Nat.reduceLT, Int.reduceLT, Int.reduceLE, Int.reduceAdd, Int.reduceSub, Int.reduceMul, Int.reduceNeg, Int.reduceEq, Int.reduceNe, Int.reduceToNat, decide_true, decide_false, iaddr_i, iaddr_sl_i, not_true_eq_false, not_false_eq_true, reduceCtorEq, ne_eq, forall_const, false_imp_iff, true_imp_iff, implies_true, Int.cast_ofNat_Int, Int.natCast_zero, Int.natCast_one, Int.add_zero, Int.zero_add]
          exact wkv_fP ext_refl hn
      · cases h
    · cases h
  · cases h
theorem in_eq {S : Mem} {x : AV} {l : List Int} (hl : lstV (intE .i64) S x = some l) (n : Int) (hn : l.length ≤ 1000000) : inIS [x, .i .i64 n] S = some (.b (decide (n ∈ l)), S) := by
  simp only [inIS, hl, if_pos hn]

def noPol : Pol := ⟨0, 0, 0, 0, 0, 0, 0, 0, 0, 0, 0, 0, 0⟩
def subIsP (n : Int) (p : Pol) : Bool := decide (p.sub = n)
def foundPV (o : Option Pol) : AV := match o with
  | some a => .tu [.ag (polE.enc a), .b true]
  | none => .tu [.ag (polE.enc noPol), .b false]
theorem foundPV_flat (o : Option Pol) (n : Nat) : (foundPV o).flat n := by
  cases o <;> rfl
def putPS : Spec := fun args S => match args with
  | [x, .i .i64 n] => match lstV polE S x with
    | some l => if l.length ≤ 1000000 then some (foundPV (l.find? (subIsP n)), S) else none
    | none => none
  | _ => none
theorem putP_eq {S : Mem} {x : AV} {l : List Pol} (hl : lstV polE S x = some l) (n : Int) (hn : l.length ≤ 1000000) : putPS [x, .i .i64 n] S = some (foundPV (l.find? (subIsP n)), S) := by
  simp only [putPS, hl, if_pos hn]
theorem putP_ok : SpecOK Try.prog 57 putPS := by
  intro args S x S' h
  simp only [putPS] at h
  split at h
  · rename_i s n
    split at h
    · rename_i l hl
      split at h
      · rename_i hf
        cases h
        refine fn_of_wp f57 rfl (W_sound none_ok mixed _ _ _ _ _ ?_)
        simp (maxSteps := 1000000) (disch := omega) only [c57, lst_len hl, List.replicate, go_sem, Option.map_none, Option.map_some, ↓reduceIte, Nat.reduceBEq, Nat.reduceAdd, Nat.reduceSub, Nat.reduceEqDiff, Nat.reduceLeDiff, Nat.reduceMul, Nat.reduceLT, Int.reduceLT, Int.reduceLE, Int.reduceAdd, Int.reduceSub, Int.reduceMul, Int.reduceNeg, Int.reduceEq, Int.reduceNe, Int.reduceToNat, decide_true, decide_false, iaddr_i, iaddr_sl_i, not_true_eq_false, not_false_eq_true, reduceCtorEq, ne_eq, forall_const, false_imp_iff, true_imp_iff, implies_true, Int.cast_ofNat_Int, Int.natCast_zero, Int.natCast_one, Int.add_zero, Int.zero_add]
        refine wp_loop (fun j e M dl => dl = [] ∧ ∃ (k : Nat), j = l.length - k ∧ k ≤ l.length ∧ S <+: M ∧ M[S.length]? = some (.cells (polE.enc noPol) 0 none true) ∧ (∀ i (hi : i < k) (h1 : i < l.length), subIsP n l[i] = false) ∧
          e.get 4 = .p S.length 0 0 ∧ e.get 1 = .i .i64 n ∧ e.get 8 = s ∧ e.get 9 = .i .i64 l.length ∧ e.get 10 = .i .i64 k) (j := l.length) ⟨rfl, 0, rfl, Nat.zero_le _, ext_app _, by rw [at_app0]; rfl, fun i hi => absurd hi (Nat.not_lt_zero _), rfl, rfl, rfl, rfl, rfl⟩ ?_
        rintro j e M d' ⟨rfl, k, rfl, hk, hSM, hat, hn, h4, h1, h8, h9, h10⟩
        refine W_sound none_ok mixed _ _ _ _ _ ?_
        simp only [polE, Pol.enc, noPol] at hat
        have hato := fun L => at_old (L := L) hat
        by_cases hkl : k < l.length
        · obtain ⟨bi, o, v, cap, ex, rfl⟩ := lst_sl hl hkl
          have hrow := lstV_row (lst_ext hl hSM) hkl []
          rw [List.append_nil] at hrow
          have hr : rowB (M[bi]?) (o + k * 13) v 13 = some (polE.enc l[k]) := hrow
          have hkI : (k : Int) < l.length := by omega
          have hw1 : wrapV .i64 ((k : Int) + 1) = ((k + 1 : Nat) : Int) := by rw [wrap_i64 (by omega) (by omega)]; omega
          by_cases he : l[k].sub = n
          · rw [show l.find? (subIsP n) = some l[k] by
              rw [find_of_idx, List.findIdx?_eq_some_iff_getElem.2 ⟨hkl, by simpa [subIsP] using he, fun j hj => by rw [hn j hj (by omega)]; simp⟩]; exact List.getElem?_eq_getElem hkl]
            generalize hpv : l[k] = p at hr he
            simp only [polE, Pol.enc] at hr
            have hS := fun L B => set_old (L := L) (B' := B) hat
            have hfin : (M.set S.length (.cells (polE.enc p) 0 none true))[S.length]? = some (.cells (polE.enc p) 0 none true) := at_set hat
            have hfin := fun L => at_old (L := L) hfin
            simp only [polE, Pol.enc] at hfin
            subst he
            simp (maxSteps := 1000000) (disch := omega) only [c57l0, h4, h1, h8, h9, h10, hkI, Int.toNat_natCast, hr, hw1, List.replicate, eq_self, hato, hS, hfin, go_sem, Option.map_none, Option.map_some, ↓reduceIte, Nat.reduceBEq, Nat.reduceAdd, Nat.reduceSub, Nat.reduceEqDiff, Nat.reduceLeDiff, Nat.reduceMul, Nat.reduceLT, Int.reduceLT, Int.reduceLE, Int.reduceAdd, Int.reduceSub, Int.reduceMul, Int.reduceNeg, Int.reduceEq, Int.reduceNe, Int.reduceToNat, decide_true, decide_false, iaddr_i, iaddr_sl_i, not_true_eq_false, not_false_eq_true, reduceCtorEq, ne_eq, forall_const, false_imp_iff, true_imp_iff, implies_true, Int.cast_ofNat_Int, Int.natCast_zero, Int.natCast_one, Int.add_zero, Int.zero_add]
            have hfl : (foundPV (some p)).flat S.length := rfl
            exact wkv_dropP (ext_more (ext_set hSM (Nat.le_refl _) _) _) hfl
          · generalize hpv : l[k] = p at hr he
            simp only [polE, Pol.enc] at hr
            simp (maxSteps := 1000000) (disch := omega) only [c57l0, h4, h1, h8, h9, h10, hkI, Int.toNat_natCast, hr, hw1, List.replicate, he, go_sem, Option.map_none, Option.map_some, ↓reduceIte, Nat.reduceBEq, Nat.reduceAdd, Nat.reduceSub, Nat.reduceEqDiff, Nat.reduceLeDiff, Nat.reduceMul, Nat.reduceLT, Int.reduceLT, Int.reduceLE, Int.reduceAdd, Int.reduceSub, Int.reduceMul, Int.reduceNeg, Int.reduceEq, Int.reduceNe, Int.reduceToNat, decide_true, decide_false, iaddr_i, iaddr_sl_i, not_true_eq_false, not_false_eq_true, reduceCtorEq, ne_eq, forall_const, false_imp_iff, true_imp_iff, implies_true, Int.cast_ofNat_Int, Int.natCast_zero, Int.natCast_one, Int.add_zero, Int.zero_add]
            refine ⟨l.length - (k + 1), by omega, k + 1, rfl, hkl, ext_more hSM _, at_old hat, fun i hi g1 => ?_, rfl⟩
            by_cases hik : i = k
            · subst hik; rw [hpv]; simpa [subIsP] using he
            · exact hn i (by omega) g1
        · have hkI : ¬ (k : Int) < l.length := by omega
          have hself := set_self hat
          simp (maxSteps := 1000000) (disch := omega) only [c57l0, h4, h1, h8, h9, h10, hkI, hat, hself, go_sem, Option.map_none, Option.map_some, ↓reduceIte, Nat.reduceBEq, Nat.reduceAdd, Nat.reduceSub, Nat.reduceEqDiff, Nat.reduceLeDiff, Nat.reduceMul, Nat.reduceLT, Int.reduceLT, Int.reduceLE, Int.reduceAdd, Int.reduceSub, Int.reduceMul, Int.reduceNeg, Int.reduceEq, Int.reduceNe, Int.reduceToNat, decide_true, decide_false, iaddr_i, iaddr_sl_i, not_true_eq_false, not_false_eq_true, reduceCtorEq, ne_eq, forall_const, false_imp_iff, true_imp_iff, implies_true, Int.cast_ofNat_Int, Int.natCast_zero, Int.natCast_one, Int.add_zero, Int.zero_add]
          rw [show l.find? (subIsP n) = none by
            rw [List.find?_eq_none]
            intro y hy
            obtain ⟨i, hi, rfl⟩ := List.getElem_of_mem hy
            rw [hn i (by omega) hi]; simp]
          exact wkv_dropP hSM rfl
      · cases h
    · cases h
  · cases h
end Go.Proofs.Ytapgkaecamljbaa

namespace Go.Proofs.Ytapgkaecamljbaa
open Go.RowKit
set_option linter.unusedSimpArgs false
set_option linter.unusedVariables false
set_option maxRecDepth 10000

theorem lst_Flat {α : Type} {E : Enc α} {S : Mem} {x : AV} {l : List α} (h : lstV E S x = some l) : AV.Flat S.length x := by
  rcases lstV_lst h with ⟨rfl, _⟩ | ⟨rfl, _⟩ | ⟨i, o, v, len, cap, ex, rfl, _, hr⟩
  · intro g; rw [ren_sn]
  · intro g; rw [ren_se]
  · refine Flat_sl ?_
    unfold rowAt at hr
    split at hr
    · rename_i hB; exact (List.getElem?_eq_some_iff.1 hB).1
    · cases hr
theorem flat_book {n : Nat} {p : Int} {s y : AV} (hs : AV.Flat n s) (hy : AV.Flat n y) : (AV.tu [.ag [.i .u64 p, s], y]).flat n := by
  show ren n _ _ = _
  rw [ren_tu, renL_cons, renL_cons, renL_nil, ren_ag, renL_cons, renL_cons, renL_nil, ren_i, hs, hy]

/-! ### Plain -/
def refOne (old : List Ent) (e : Evt) (id : Int) : Option Ent := if id ∈ e.drops then none else match old.find? (hasSub id), e.puts.find? (subIsP id) with
  | some x, some p => some ⟨p, x.granted⟩
  | some x, none => some x
  | none, some p => some ⟨p, 0⟩
  | none, none => none
def refBad (old : List Ent) (e : Evt) (id : Int) : Prop := id ∈ e.drops ∧ old.find? (hasSub id) = none
instance (old : List Ent) (e : Evt) (id : Int) : Decidable (refBad old e id) := by unfold refBad; infer_instance
def refEnts (old : List Ent) (e : Evt) (k : Nat) : List Ent := (List.range k).filterMap fun i : Nat => refOne old e ((i : Int) + 1)
theorem refEnts_succ (old : List Ent) (e : Evt) (k : Nat) : refEnts old e (k + 1) = refEnts old e k ++ (refOne old e ((k : Int) + 1)).toList := by
  unfold refEnts
  rw [List.range_succ, List.filterMap_append]
  congr 1
  first | done | (simp only [List.filterMap_cons, List.filterMap_nil]; cases refOne old e ((k : Int) + 1) <;> rfl)
theorem refEnts_len (old : List Ent) (e : Evt) (k : Nat) : (refEnts old e k).length ≤ k := by
  unfold refEnts
  have := List.length_filterMap_le (fun i : Nat => refOne old e ((i : Int) + 1)) (List.range k)
  rwa [List.length_range] at this
theorem refOne_fits {old : List Ent} {e : Evt} {id : Int} {x : Ent} (ho : ∀ x ∈ old, x.pol.fits) (hp : ∀ p ∈ e.puts, p.fits) (h : refOne old e id = some x) : x.pol.fits := by
  unfold refOne at h
  split at h
  · cases h
  · split at h
    · rename_i y p h1 h2; cases h; exact hp p (List.mem_of_find?_eq_some h2)
    · rename_i y h1 h2; cases h; exact ho _ (List.mem_of_find?_eq_some h1)
    · rename_i p h1 h2; cases h; exact hp p (List.mem_of_find?_eq_some h2)
    · cases h
theorem refEnts_fits {old : List Ent} {e : Evt} {k : Nat} (ho : ∀ x ∈ old, x.pol.fits) (hp : ∀ p ∈ e.puts, p.fits) : ∀ x ∈ refEnts old e k, x.pol.fits := by
  intro x hx
  unfold refEnts at hx
  obtain ⟨i, _, h⟩ := List.mem_filterMap.1 hx
  exact refOne_fits ho hp h

/-! ### The document's commit -/
noncomputable def rcommitS : Spec := fun args S => match args with
  | [.ag cb, .ag ce] => match bookOf S cb, evtOf S ce with
    | some b, some e => if b.fits ∧ e.fits then
        (if ∃ i : Nat, i < 255 ∧ refBad b.entries e ((i : Int) + 1) then some (.tu [.ag cb, .b false], S)
        else some (.tu [.ag [.i .u64 b.period, retX false S (refEnts b.entries e 255)], .b (decide (Bk.ok ⟨b.period, refEnts b.entries e 255⟩))], retM false entE S (refEnts b.entries e 255)))
      else none
    | _, _ => none
  | _ => none
theorem found_case (o : Option Ent) : ∃ (a : Ent) (ok : Bool), foundV o = .tu [.ag (entE.enc a), .b ok] ∧ ((ok = true ∧ o = some a) ∨ (ok = false ∧ o = none ∧ a = noEnt)) := by
  cases o with
  | none => exact ⟨noEnt, false, rfl, .inr ⟨rfl, rfl, rfl⟩⟩
  | some a => exact ⟨a, true, rfl, .inl ⟨rfl, rfl⟩⟩
theorem foundP_case (o : Option Pol) : ∃ (a : Pol) (ok : Bool), foundPV o = .tu [.ag (polE.enc a), .b ok] ∧ ((ok = true ∧ o = some a) ∨ (ok = false ∧ o = none)) := by
  cases o with
  | none => exact ⟨noPol, false, rfl, .inr ⟨rfl, rfl⟩⟩
  | some a => exact ⟨a, true, rfl, .inl ⟨rfl, rfl⟩⟩
theorem oRc_ok : OK Try.prog (lamOf Try.prog) (orcOf [(20, findS), (57, putPS), (58, inIS), (21, brightS)]) := orc_ok (by simpa using ⟨rfind_ok, putP_ok, has_ok, rbright_ok⟩)
theorem rcommit_ok : SpecOK Try.prog 32 rcommitS := by
  intro args S x S' h
  simp only [rcommitS] at h
  split at h
  · rename_i cb ce
    split at h
    · rename_i b ev hb hev
      split at h
      · rename_i hf
        obtain ⟨hbf, hef⟩ := hf
        obtain ⟨s, rfl, hl⟩ := bookOf_ok hb
        obtain ⟨xp, xd, rfl, hp, hd⟩ := evtOf_ok hev
        obtain ⟨p, l⟩ := b
        obtain ⟨hf1, hf2, hf3⟩ := hef
        simp only at hl h
        have hbl := hbf.1
        simp only at hbl
        refine fn_of_wp f32 rfl (W_sound oRc_ok mixed _ _ _ _ _ ?_)
        simp (maxSteps := 1000000) (disch := omega) only [c32, lst_cells hl, lst_cells hp, lst_cells hd, List.replicate, go_sem, Option.map_none, Option.map_some, ↓reduceIte, Nat.reduceBEq, Nat.reduceAdd, Nat.reduceSub, Nat.reduceEqDiff, Nat.reduceLeDiff, Nat.reduceMul, Nat.reduceLT, Int.reduceLT, Int.reduceLE, Int.reduceAdd, Int.reduceSub, Int.reduceMul, Int.reduceNeg, Int.reduceEq, Int.reduceNe, Int.reduceToNat, decide_true, decide_false, iaddr_i, iaddr_sl_i, not_true_eq_false, not_false_eq_true, reduceCtorEq, ne_eq, forall_const, false_imp_iff, true_imp_iff, implies_true, Int.cast_ofNat_Int, Int.natCast_zero, Int.natCast_one, Int.add_zero, Int.zero_add]
        obtain ⟨k0, s0, ps, ds, g0, q0⟩ := ev
        simp only at hp hd hf1 hf2 hf3 h
        obtain ⟨S3, hS3⟩ : ∃ S3, S3 = S ++ [Blk.cells [.i .u64 p, s] 0 none true, .cells [.i .i64 k0, .i .i64 s0, xp, xd, .i .u64 g0, .i .u64 q0] 0 none true, .cells [.i .u64 0, .sn] 0 none true] := ⟨_, rfl⟩
        have hS3l : S3.length = S.length + 3 := by rw [hS3]; simp
        have hSS3 : S <+: S3 := by rw [hS3]; exact ext_app _
        have a0 : S3[S.length]? = some (.cells [.i .u64 p, s] 0 none true) := by rw [hS3, at_app0]; rfl
        have a1 : S3[S.length + 1]? = some (.cells [.i .i64 k0, .i .i64 s0, xp, xd, .i .u64 g0, .i .u64 q0] 0 none true) := by rw [hS3, at_app]; rfl
        have a2 : S3[S.length + 2]? = some (.cells [.i .u64 0, .sn] 0 none true) := by rw [hS3, at_app]; rfl
        have hM0 : S ++ [Blk.cells [.i .u64 p, s] 0 none true, .cells [.i .i64 k0, .i .i64 s0, xp, xd, .i .u64 g0, .i .u64 q0] 0 none true, .cells [.i .u64 0, .sn] 0 none true, .cells [.i .u64 p, .sn] 0 none true] = S3 ++ [.cells [.i .u64 p, .sn] 0 none true] := by rw [hS3]; simp
        rw [hM0]
        refine wp_loop (fun j e M dl => dl = [] ∧ ∃ (k : Nat) (y : AV), j = 255 - k ∧ k ≤ 255 ∧ S3 <+: M ∧ M[S.length + 3]? = some (.cells [.i .u64 p, y] 0 none true) ∧ Acc false entE S3 M y (refEnts l ⟨k0, s0, ps, ds, g0, q0⟩ k) ∧ (∀ i : Nat, i < k → ¬ refBad l ⟨k0, s0, ps, ds, g0, q0⟩ ((i : Int) + 1)) ∧
          e.get 2 = .p S.length 0 0 ∧ e.get 3 = .p (S.length + 1) 0 0 ∧ e.get 4 = .p (S.length + 2) 0 0 ∧ e.get 6 = .p (S.length + 3) 0 0 ∧ e.get 7 = .i .i64 ((k : Int) + 1)) (j := 255)
          ⟨rfl, 0, .sn, rfl, by omega, ext_app _, by rw [← hS3l, at_app0]; rfl, acc_nil (ext_app _), fun i hi => absurd hi (Nat.not_lt_zero _), rfl, rfl, rfl, rfl, rfl⟩ ?_
        rintro j e M d' ⟨rfl, k, y, rfl, hk, hSM, hB, hA, hnb, e2, e3, e4, e6, e7⟩
        refine W_sound oRc_ok mixed _ _ _ _ _ ?_
        have b0 := at_pre hSM a0
        have b1 := at_pre hSM a1
        have b2 := at_pre hSM a2
        have hSM0 := hSS3.trans hSM
        have hlM := lst_ext hl hSM0
        by_cases hk2 : k < 255
        · have hkI : (k : Int) + 1 ≤ 255 := by omega
          have hw : wrapV .i64 ((k : Int) + 1 + 1) = ((k + 1 : Nat) : Int) + 1 := by rw [wrap_i64 (by omega) (by omega)]; omega
          have hfi := find_eq (bookOf_mk (p := p) hlM) ((k : Int) + 1) hbl
          obtain ⟨a, ok, hfd, hcase⟩ := found_case (l.find? (hasSub ((k : Int) + 1)))
          rw [show (Bk.mk p l).entries = l from rfl, hfd] at hfi
          obtain ⟨p', okp, hpd, hpcase⟩ := foundP_case (ps.find? (subIsP ((k : Int) + 1)))
          have hpu : ∀ L, putPS [xp, .i .i64 ((k : Int) + 1)] (M ++ L) = some (.tu [.ag (polE.enc p'), .b okp], M ++ L) := fun L => by
            rw [putP_eq (lst_ext hp (ext_more hSM0 L)) _ hf1, hpd]
          have hin : ∀ L, inIS [xd, .i .i64 ((k : Int) + 1)] (M ++ L) = some (.b (decide ((k : Int) + 1 ∈ ds)), M ++ L) := fun L => in_eq (lst_ext hd (ext_more hSM0 L)) _ hf2
          have hlen := refEnts_len l ⟨k0, s0, ps, ds, g0, q0⟩ k
          have hsucc := refEnts_succ l ⟨k0, s0, ps, ds, g0, q0⟩ k
          have b0o := fun L => at_old (L := L) b0
          have b1o := fun L => at_old (L := L) b1
          have b2o := fun L => at_old (L := L) b2
          have hBo := fun L => at_old (L := L) hB
          by_cases hdr : (k : Int) + 1 ∈ ds
          · rw [decide_eq_true hdr] at hin
            rcases hcase with ⟨rfl, hf⟩ | ⟨rfl, hf, rfl⟩
            · have hone : refOne l ⟨k0, s0, ps, ds, g0, q0⟩ ((k : Int) + 1) = none := by unfold refOne; rw [if_pos hdr]
              rw [hone, Option.toList_none, List.append_nil] at hsucc
              simp only [entE, Ent.enc] at hfi
              simp only [polE, Pol.enc] at hpu
              simp (maxSteps := 1000000) (disch := omega) only [c32l0, e2, e3, e4, e6, e7, hkI, b0, b1, orc_cons, hfi, List.replicate, b0o, b1o, hpu, hin, hw, go_sem, Option.map_none, Option.map_some, ↓reduceIte, Nat.reduceBEq, Nat.reduceAdd, Nat.reduceSub, Nat.reduceEqDiff, Nat.reduceLeDiff, Nat.reduceMul, Nat.reduceLT, Int.reduceLT, Int.reduceLE, Int.reduceAdd, Int.reduceSub, Int.reduceMul, Int.reduceNeg, Int.reduceEq, Int.reduceNe, Int.reduceToNat, decide_true, decide_false, iaddr_i, iaddr_sl_i, not_true_eq_false, not_false_eq_true, reduceCtorEq, ne_eq, forall_const, false_imp_iff, true_imp_iff, implies_true, Int.cast_ofNat_Int, Int.natCast_zero, Int.natCast_one, Int.add_zero, Int.zero_add]
              refine ⟨255 - (k + 1), by omega, k + 1, y, rfl, hk2, ext_more hSM _, hBo _, by rw [hsucc]; exact hA.grow _, fun i hi => ?_, rfl⟩
              by_cases e : i = k
              · subst e; exact fun hb => by rw [hb.2] at hf; cases hf
              · exact hnb i (by omega)
            · rw [if_pos ⟨k, hk2, hdr, hf⟩] at h
              cases h
              simp only [entE, Ent.enc, noEnt] at hfi
              simp only [polE, Pol.enc] at hpu
              have hS := fun L B => set_old (L := L) (B' := B) b2
              have hfin : (M.set (S.length + 2) (.cells [.i .u64 p, s] 0 none true))[S.length + 2]? = some (.cells [.i .u64 p, s] 0 none true) := at_set b2
              have hfin := fun L => at_old (L := L) hfin
              simp (maxSteps := 1000000) (disch := omega) only [c32l0, e2, e3, e4, e6, e7, hkI, b0, b1, orc_cons, hfi, List.replicate, b0o, b1o, b2o, hpu, hin, hw, lst_one hl, hS, hfin, go_sem, Option.map_none, Option.map_some, ↓reduceIte, Nat.reduceBEq, Nat.reduceAdd, Nat.reduceSub, Nat.reduceEqDiff, Nat.reduceLeDiff, Nat.reduceMul, Nat.reduceLT, Int.reduceLT, Int.reduceLE, Int.reduceAdd, Int.reduceSub, Int.reduceMul, Int.reduceNeg, Int.reduceEq, Int.reduceNe, Int.reduceToNat, decide_true, decide_false, iaddr_i, iaddr_sl_i, not_true_eq_false, not_false_eq_true, reduceCtorEq, ne_eq, forall_const, false_imp_iff, true_imp_iff, implies_true, Int.cast_ofNat_Int, Int.natCast_zero, Int.natCast_one, Int.add_zero, Int.zero_add]
              exact wkv_dropP (ext_more (ext_set hSM0 (by omega) _) _) (flat_book (lst_Flat hl) Flat_b)
          · rw [decide_eq_false hdr] at hin
            have hnb' : ∀ i : Nat, i < k + 1 → ¬ refBad l ⟨k0, s0, ps, ds, g0, q0⟩ ((i : Int) + 1) := fun i hi => by
              by_cases e : i = k
              · subst e; exact fun hb => hdr hb.1
              · exact hnb i (by omega)
            have step : ∀ (x : Ent) (L : Mem), refOne l ⟨k0, s0, ps, ds, g0, q0⟩ ((k : Int) + 1) = some x → ∃ y' M', appV (M ++ L) 14 88 y (entE.enc x) 1 = some (y', M') ∧ y'.cells = some [y'] ∧ y'.one = true ∧ M'[S.length + 3]? = some (.cells [.i .u64 p, y] 0 none true) ∧
                S3 <+: M'.set (S.length + 3) (.cells [.i .u64 p, y'] 0 none true) ∧ (M'.set (S.length + 3) (.cells [.i .u64 p, y'] 0 none true))[S.length + 3]? = some (.cells [.i .u64 p, y'] 0 none true) ∧
                Acc false entE S3 (M'.set (S.length + 3) (.cells [.i .u64 p, y'] 0 none true)) y' (refEnts l ⟨k0, s0, ps, ds, g0, q0⟩ (k + 1)) := fun x L hx => by
              obtain ⟨y', M', ha, hA', hkeep⟩ := (hA.grow L).app' (bytes := 88) entE_one x (by omega) (by omega)
              have hB' := hkeep _ _ (hBo L) rfl
              refine ⟨y', M', ha, lst_cells hA'.lst, lst_one hA'.lst, hB', ext_set hA'.ext (by omega) _, at_set hB', ?_⟩
              rw [hsucc, hx]
              exact hA'.setB (by omega) hB' rfl _
            rcases hpcase with ⟨rfl, hpf⟩ | ⟨rfl, hpf⟩
            · have hone : refOne l ⟨k0, s0, ps, ds, g0, q0⟩ ((k : Int) + 1) = some ⟨p', a.granted⟩ := by
                unfold refOne; rw [if_neg hdr, hpf]
                rcases hcase with ⟨_, hf⟩ | ⟨_, hf, rfl⟩
                · rw [hf]
                · rw [hf]; rfl
              obtain ⟨y', M', ha, hyc, hyo, hB', x1, x2, x3⟩ := step ⟨p', a.granted⟩ [.cells (entE.enc ⟨p', a.granted⟩) 0 none true, .cells (polE.enc p') 0 none true, .cells (entE.enc ⟨p', a.granted⟩) 0 none true] hone
              simp only [entE, Ent.enc, polE, Pol.enc] at ha
              simp only [entE, Ent.enc] at hfi
              simp only [polE, Pol.enc] at hpu
              cases ok with
              | true =>
                simp (maxSteps := 1000000) (disch := omega) only [c32l0, e2, e3, e4, e6, e7, hkI, b0, b1, orc_cons, hfi, List.replicate, b0o, b1o, hpu, hin, hw, hBo, ha, hB', hyc, hyo, List.take_zero, List.drop_succ_cons, List.drop_zero, List.nil_append, List.cons_append, go_sem, Option.map_none, Option.map_some, ↓reduceIte, Nat.reduceBEq, Nat.reduceAdd, Nat.reduceSub, Nat.reduceEqDiff, Nat.reduceLeDiff, Nat.reduceMul, Nat.reduceLT, Int.reduceLT, Int.reduceLE, Int.reduceAdd, Int.reduceSub, Int.reduceMul, Int.reduceNeg, Int.reduceEq, Int.reduceNe, Int.reduceToNat, decide_true, decide_false, iaddr_i, iaddr_sl_i, not_true_eq_false, not_false_eq_true, reduceCtorEq, ne_eq, forall_const, false_imp_iff, true_imp_iff, implies_true, Int.cast_ofNat_Int, Int.natCast_zero, Int.natCast_one, Int.add_zero, Int.zero_add]
                exact ⟨255 - (k + 1), by omega, k + 1, y', rfl, hk2, x1, x2, x3, hnb', rfl⟩
              | false =>
                simp (maxSteps := 1000000) (disch := omega) only [c32l0, e2, e3, e4, e6, e7, hkI, b0, b1, orc_cons, hfi, List.replicate, b0o, b1o, hpu, hin, hw, hBo, ha, hB', hyc, hyo, List.take_zero, List.drop_succ_cons, List.drop_zero, List.nil_append, List.cons_append, go_sem, Option.map_none, Option.map_some, ↓reduceIte, Nat.reduceBEq, Nat.reduceAdd, Nat.reduceSub, Nat.reduceEqDiff, Nat.reduceLeDiff, Nat.reduceMul, Nat.reduceLT, Int.reduceLT, Int.reduceLE, Int.reduceAdd, Int.reduceSub, Int.reduceMul, Int.reduceNeg, Int.reduceEq, Int.reduceNe, Int.reduceToNat, decide_true, decide_false, iaddr_i, iaddr_sl_i, not_true_eq_false, not_false_eq_true, reduceCtorEq, ne_eq, forall_const, false_imp_iff, true_imp_iff, implies_true, Int.cast_ofNat_Int, Int.natCast_zero, Int.natCast_one, Int.add_zero, Int.zero_add]
                exact ⟨255 - (k + 1), by omega, k + 1, y', rfl, hk2, x1, x2, x3, hnb', rfl⟩
            · rcases hcase with ⟨rfl, hf⟩ | ⟨rfl, hf, rfl⟩
              · have hone : refOne l ⟨k0, s0, ps, ds, g0, q0⟩ ((k : Int) + 1) = some a := by
                  unfold refOne; rw [if_neg hdr, hpf, hf]
                obtain ⟨y', M', ha, hyc, hyo, hB', x1, x2, x3⟩ := step a [.cells (entE.enc a) 0 none true, .cells (polE.enc p') 0 none true, .cells (entE.enc a) 0 none true] hone
                simp only [entE, Ent.enc, polE, Pol.enc] at ha
                simp only [entE, Ent.enc] at hfi
                simp only [polE, Pol.enc] at hpu
                simp (maxSteps := 1000000) (disch := omega) only [c32l0, e2, e3, e4, e6, e7, hkI, b0, b1, orc_cons, hfi, List.replicate, b0o, b1o, hpu, hin, hw, hBo, ha, hB', hyc, hyo, List.take_zero, List.drop_succ_cons, List.drop_zero, List.nil_append, List.cons_append, go_sem, Option.map_none, Option.map_some, ↓reduceIte, Nat.reduceBEq, Nat.reduceAdd, Nat.reduceSub, Nat.reduceEqDiff, Nat.reduceLeDiff, Nat.reduceMul, Nat.reduceLT, Int.reduceLT, Int.reduceLE, Int.reduceAdd, Int.reduceSub, Int.reduceMul, Int.reduceNeg, Int.reduceEq, Int.reduceNe, Int.reduceToNat, decide_true, decide_false, iaddr_i, iaddr_sl_i, not_true_eq_false, not_false_eq_true, reduceCtorEq, ne_eq, forall_const, false_imp_iff, true_imp_iff, implies_true, Int.cast_ofNat_Int, Int.natCast_zero, Int.natCast_one, Int.add_zero, Int.zero_add]
                exact ⟨255 - (k + 1), by omega, k + 1, y', rfl, hk2, x1, x2, x3, hnb', rfl⟩
              · have hone : refOne l ⟨k0, s0, ps, ds, g0, q0⟩ ((k : Int) + 1) = none := by
                  unfold refOne; rw [if_neg hdr, hpf, hf]
                rw [hone, Option.toList_none, List.append_nil] at hsucc
                simp only [entE, Ent.enc, noEnt] at hfi
                simp only [polE, Pol.enc] at hpu
                simp (maxSteps := 1000000) (disch := omega) only [c32l0, e2, e3, e4, e6, e7, hkI, b0, b1, orc_cons, hfi, List.replicate, b0o, b1o, hpu, hin, hw, go_sem, Option.map_none, Option.map_some, ↓reduceIte, Nat.reduceBEq, Nat.reduceAdd, Nat.reduceSub, Nat.reduceEqDiff, Nat.reduceLeDiff, Nat.reduceMul, Nat.reduceLT, Int.reduceLT, Int.reduceLE, Int.reduceAdd, Int.reduceSub, Int.reduceMul, Int.reduceNeg, Int.reduceEq, Int.reduceNe, Int.reduceToNat, decide_true, decide_false, iaddr_i, iaddr_sl_i, not_true_eq_false, not_false_eq_true, reduceCtorEq, ne_eq, forall_const, false_imp_iff, true_imp_iff, implies_true, Int.cast_ofNat_Int, Int.natCast_zero, Int.natCast_one, Int.add_zero, Int.zero_add]
                exact ⟨255 - (k + 1), by omega, k + 1, y, rfl, hk2, ext_more hSM _, hBo _, by rw [hsucc]; exact hA.grow _, hnb', rfl⟩
        · have hkI : ¬ (k : Int) + 1 ≤ 255 := by omega
          obtain rfl : k = 255 := by omega
          rw [if_neg (by rintro ⟨i, hi, hb⟩; exact hnb i hi hb)] at h
          cases h
          have hfit : Bk.fits ⟨p, refEnts l ⟨k0, s0, ps, ds, g0, q0⟩ 255⟩ := ⟨by have := refEnts_len l ⟨k0, s0, ps, ds, g0, q0⟩ 255; simp only; omega, refEnts_fits hbf.2 hf3⟩
          have hbr := bright_eq (bookOf_mk (p := p) hA.lst) hfit
          have hatset := fun B => at_set (B' := B) b2
          simp (maxSteps := 1000000) (disch := omega) only [c32l0, e2, e3, e4, e6, e7, hkI, hB, orc_cons, hbr, b2, lst_one hA.lst, hatset, go_sem, Option.map_none, Option.map_some, ↓reduceIte, Nat.reduceBEq, Nat.reduceAdd, Nat.reduceSub, Nat.reduceEqDiff, Nat.reduceLeDiff, Nat.reduceMul, Nat.reduceLT, Int.reduceLT, Int.reduceLE, Int.reduceAdd, Int.reduceSub, Int.reduceMul, Int.reduceNeg, Int.reduceEq, Int.reduceNe, Int.reduceToNat, decide_true, decide_false, iaddr_i, iaddr_sl_i, not_true_eq_false, not_false_eq_true, reduceCtorEq, ne_eq, forall_const, false_imp_iff, true_imp_iff, implies_true, Int.cast_ofNat_Int, Int.natCast_zero, Int.natCast_one, Int.add_zero, Int.zero_add]
          exact ((hA.base hSS3).setB (by omega) b2 rfl _).retB entE_flat Flat_i Flat_b
      · cases h
    · cases h
  · cases h
end Go.Proofs.Ytapgkaecamljbaa

namespace Go.Proofs.Ytapgkaecamljbaa
open Go.RowKit
set_option linter.unusedSimpArgs false
set_option linter.unusedVariables false
set_option maxRecDepth 10000

/-- Behind a lease, or a new period. -/
def Bk.turn (b : Bk) (e : Evt) : Option Bk :=
  if e.kind = 2 then (leased b.entries e.sub e.granted).map fun l => ⟨b.period, l⟩
  else if e.period = b.period + 1 then some ⟨e.period, b.entries.map (·.grant 0)⟩ else none
noncomputable def Bk.turned (b : Bk) (e : Evt) : Option Bk := if b.ok ∧ e.right then Bk.fin (b.turn e) else none
def nzB : List AV → Bool
  | [_, x] => nz x
  | _ => false
noncomputable def turnS : Spec := fun args S => match args with
  | [.ag cb, .ag ce] => match bookOf S cb, evtOf S ce with
    | some b, some e => if b.fits ∧ e.fits ∧ ¬ (b.ok ∧ e.right ∧ e.kind = 1) then match b.turned e with
        | some b' => some (bookR (nzB cb) S b' 0)
        | none => some (bookR (nzB cb) S b 131)
      else none
    | _, _ => none
  | _ => none
theorem leased_some {l l' : List Ent} {s g : Int} (h : leased l s g = some l') : ∃ (k : Nat) (hk : k < l.length), l' = l.set k (l[k].grant g) ∧ l.findIdx? (hasSub s) = some k ∧ l[k].granted ≤ g ∧ g ≤ l[k].pol.quota := by
  unfold leased at h
  split at h
  · rename_i k hi
    obtain ⟨hk, _, _⟩ := List.findIdx?_eq_some_iff_getElem.1 hi
    rw [List.getElem?_eq_getElem hk] at h
    simp only at h
    split at h
    · rename_i hc; injection h with h; exact ⟨k, hk, h.symm, hi, hc⟩
    · cases h
  · cases h
theorem leased_len {l l' : List Ent} {s g : Int} (h : leased l s g = some l') : l.length = l'.length := by
  obtain ⟨k, hk, rfl, _⟩ := leased_some h
  rw [List.length_set]
theorem leased_fits {l l' : List Ent} {s g : Int} (h : leased l s g = some l') (hf : ∀ x ∈ l, x.pol.fits) : ∀ x ∈ l', x.pol.fits := by
  obtain ⟨k, hk, rfl, _⟩ := leased_some h
  intro x hx
  rcases List.mem_or_eq_of_mem_set hx with hx | rfl
  · exact hf x hx
  · exact hf l[k] (List.getElem_mem hk)
def zeroTo (l : List Ent) (k : Nat) : List Ent := (l.take k).map (·.grant 0) ++ l.drop k
theorem zeroTo_len (l : List Ent) (k : Nat) : (zeroTo l k).length = l.length := by
  unfold zeroTo; rw [List.length_append, List.length_map, List.length_take, List.length_drop]; omega
theorem zeroTo_at (l : List Ent) {k : Nat} (h : k < l.length) : (zeroTo l k)[k]'(by rw [zeroTo_len]; exact h) = l[k] := by
  unfold zeroTo
  rw [List.getElem_append_right (by rw [List.length_map, List.length_take]; omega), List.getElem_drop]
  congr 1; rw [List.length_map, List.length_take]; omega
theorem zeroTo_succ (l : List Ent) {k : Nat} (h : k < l.length) : (zeroTo l k).set k (l[k].grant 0) = zeroTo l (k + 1) := by
  unfold zeroTo
  rw [List.set_append_right _ _ (by rw [List.length_map, List.length_take]; omega), List.length_map, List.length_take, show k - min k l.length = 0 by omega, List.drop_eq_getElem_cons h, List.set_cons_zero, List.take_succ_eq_append_getElem h, List.map_append, List.append_assoc]
  rfl
theorem zeroTo_all (l : List Ent) : zeroTo l l.length = l.map (·.grant 0) := by
  unfold zeroTo; rw [List.take_length, List.drop_length, List.append_nil]
theorem nz_sl {i o v n c : Nat} {ex : Bool} : nz (.sl i o v n c ex) = true := (rfl)
theorem oAp_ok : OK Try.prog (lamOf Try.prog) (orcOf [(27, cloneES), (16, brightS), (28, erightS), (30, leaseS)]) := orc_ok (by simpa using ⟨cloneE_ok, bright_ok, eright_ok, lease_ok⟩)
theorem turn_ok : SpecOK Try.prog 13 turnS := by
  intro args S x S' h
  simp only [turnS] at h
  split at h
  · rename_i cb ce
    split at h
    · rename_i b ev hb hev
      split at h
      · rename_i hf
        obtain ⟨hbf, hef, hk1⟩ := hf
        obtain ⟨s, rfl, hl⟩ := bookOf_ok hb
        obtain ⟨xp, xd, rfl, hp, hd⟩ := evtOf_ok hev
        obtain ⟨p, l⟩ := b
        obtain ⟨k, sub, ps, ds, g, q⟩ := ev
        simp only at hp hd hl
        have b1 := fun L => bright_eq (bookOf_mk (p := p) (lstV_grow hl L)) hbf
        have e1 := fun L => eright_eq (evtOf_mk (k := k) (s := sub) (g := g) (p := q) (lstV_grow hp L) (lstV_grow hd L)) hef
        have c1 := fun L => cloneE_eq (lstV_grow hl L) hbf.1
        refine fn_of_wp f13 rfl (W_sound oAp_ok mixed _ _ _ _ _ ?_)
        by_cases hne : l = []
        · subst hne
          have fit0 : ∀ q, Bk.fits ⟨q, []⟩ := fun q => ⟨by simp, fun x hx => by cases hx⟩
          cases hz : nz s with
          | false =>
            have c1 : ∀ L, cloneES [s] (S ++ L) = some (.sn, S ++ L) := fun L => by rw [c1 L, hz]; rfl
            have b2 : ∀ (q : Int) (L : Mem), brightS [.ag [.i .u64 q, .sn]] (S ++ L) = some (.b (decide (Bk.ok ⟨q, []⟩)), S ++ L) := fun q L => bright_eq (bookOf_mk rfl) (fit0 q)
            have l1 : ∀ L, leaseS [.sn, .ag [.i .i64 k, .i .i64 sub, xp, xd, .i .u64 g, .i .u64 q]] (S ++ L) = some (.tu [.sn, .b false], S ++ L) := fun L => by
              simp only [leaseS, evtOf_mk (k := k) (s := sub) (g := g) (p := q) (lstV_grow hp L) (lstV_grow hd L), show lstV entE (S ++ L) .sn = some [] from rfl]; rfl
            simp (maxSteps := 1000000) (disch := omega) only [c13, orc_cons, lst_cells hl, c1, b1, b2, e1, l1, go_sem, Option.map_none, Option.map_some, ↓reduceIte, Nat.reduceBEq, Nat.reduceAdd, Nat.reduceSub, Nat.reduceEqDiff, Nat.reduceLeDiff, Nat.reduceMul, Nat.reduceLT, Int.reduceLT, Int.reduceLE, Int.reduceAdd, Int.reduceSub, Int.reduceMul, Int.reduceNeg, Int.reduceEq, Int.reduceNe, Int.reduceToNat, decide_true, decide_false, iaddr_i, iaddr_sl_i, not_true_eq_false, not_false_eq_true, reduceCtorEq, ne_eq, forall_const, false_imp_iff, true_imp_iff, implies_true, Int.cast_ofNat_Int, Int.natCast_zero, Int.natCast_one, Int.add_zero, Int.zero_add]
            have hzB : nzB [AV.i .u64 p, s] = false := hz
            rw [show nzB [AV.i .u64 (Bk.mk p []).period, s] = false from hz] at h
            refine ⟨fun hok => ⟨fun hr => ?_, fun hr => ⟨fun k1 => absurd ⟨Decidable.not_not.1 hok, Decidable.not_not.1 hr, k1⟩ hk1, fun _ => ⟨fun k2 => ?_, fun k2 => ⟨fun k3 => ?_, fun k3 => ?_⟩⟩⟩⟩, fun hok => ?_⟩
            · rw [show Bk.turned ⟨p, []⟩ ⟨k, sub, ps, ds, g, q⟩ = none by unfold Bk.turned; rw [if_neg fun z => hr z.2]] at h
              cases h
              exact wkv_drop rfl
            · rw [show Bk.turned ⟨p, []⟩ ⟨k, sub, ps, ds, g, q⟩ = none by unfold Bk.turned Bk.turn; rw [if_pos ⟨Decidable.not_not.1 hok, Decidable.not_not.1 hr⟩, if_pos k2]; rfl] at h
              cases h
              exact wkv_drop rfl
            · have ht : Bk.turned ⟨p, []⟩ ⟨k, sub, ps, ds, g, q⟩ = Bk.fin (if q = p + 1 then some ⟨q, []⟩ else none) := by
                unfold Bk.turned Bk.turn; rw [if_pos ⟨Decidable.not_not.1 hok, Decidable.not_not.1 hr⟩, if_neg k2]; rfl
              rw [ht] at h
              have hp48 := Decidable.not_not.1 hok
              have hw : wrapV .u64 (p + 1) = p + 1 := wrap_u64 (by have := hp48.1; simp only at this; omega) (by have := hp48.2.1; simp only at this; omega)
              rw [hw]
              refine wp_unroll oAp_ok mixed 1 ?_
              simp (maxSteps := 1000000) (disch := omega) only [c13l2, LW_succ, orc_cons, b2, go_sem, Option.map_none, Option.map_some, ↓reduceIte, Nat.reduceBEq, Nat.reduceAdd, Nat.reduceSub, Nat.reduceEqDiff, Nat.reduceLeDiff, Nat.reduceMul, Nat.reduceLT, Int.reduceLT, Int.reduceLE, Int.reduceAdd, Int.reduceSub, Int.reduceMul, Int.reduceNeg, Int.reduceEq, Int.reduceNe, Int.reduceToNat, decide_true, decide_false, iaddr_i, iaddr_sl_i, not_true_eq_false, not_false_eq_true, reduceCtorEq, ne_eq, forall_const, false_imp_iff, true_imp_iff, implies_true, Int.cast_ofNat_Int, Int.natCast_zero, Int.natCast_one, Int.add_zero, Int.zero_add]
              refine ⟨fun hq => ?_, fun hq => ?_⟩
              · rw [if_pos (Decidable.not_not.1 hq)] at h
                refine ⟨fun h1 => ?_, fun h1 => ?_⟩
                · simp only [Bk.fin, if_neg h1] at h
                  cases h
                  exact wkv_drop rfl
                · simp only [Bk.fin, if_pos (Decidable.not_not.1 h1)] at h
                  cases h
                  exact wkv_drop rfl
              · rw [if_neg hq] at h
                cases h
                exact wkv_drop rfl
            · exfalso
              rcases Decidable.not_not.1 hr with z | z | z
              · exact absurd z.1 (by assumption)
              · exact k2 z.1
              · exact k3 z.1
            · rw [show Bk.turned ⟨p, []⟩ ⟨k, sub, ps, ds, g, q⟩ = none by unfold Bk.turned; rw [if_neg fun z => hok z.1]] at h
              cases h
              exact wkv_drop rfl
          | true =>
            have c1 : ∀ L, cloneES [s] (S ++ L) = some (.sl (S ++ L).length 0 0 0 0 true, (S ++ L) ++ [.cells [] 0 none true]) := fun L => by rw [c1 L, hz]; rfl
            have b2 : ∀ (q : Int) (A B C D E G : Blk), brightS [.ag [.i .u64 q, .sl (S.length + 5) 0 0 0 0 true]] (S ++ [A, B, C, D, E, .cells [] 0 none true, G]) = some (.b (decide (Bk.ok ⟨q, []⟩)), S ++ [A, B, C, D, E, .cells [] 0 none true, G]) := fun q A B C D E G => bright_eq (bookOf_mk (own_lst (ownV_mk (l := []) (by rw [at_app]; rfl)))) (fit0 q)
            have l1 : ∀ A B C D E G, leaseS [.sl (S.length + 5) 0 0 0 0 true, .ag [.i .i64 k, .i .i64 sub, xp, xd, .i .u64 g, .i .u64 q]] (S ++ [A, B, C, D, E, .cells [] 0 none true, G]) = some (.tu [.sn, .b false], S ++ [A, B, C, D, E, .cells [] 0 none true, G]) := fun A B C D E G => by
              have h1 := own_lst (ownV_mk (E := entE) (S := S ++ [A, B, C, D, E, .cells [] 0 none true, G]) (l := []) (b := S.length + 5) (v := 0) (ex := true) (op := none) (by rw [at_app]; rfl))
              simp only [List.length_nil] at h1
              simp only [leaseS, evtOf_mk (k := k) (s := sub) (g := g) (p := q) (lstV_grow hp _) (lstV_grow hd _), h1]; rfl
            simp (maxSteps := 1000000) (disch := omega) only [c13, orc_cons, lst_cells hl, c1, b1, b2, e1, l1, go_sem, Option.map_none, Option.map_some, ↓reduceIte, Nat.reduceBEq, Nat.reduceAdd, Nat.reduceSub, Nat.reduceEqDiff, Nat.reduceLeDiff, Nat.reduceMul, Nat.reduceLT, Int.reduceLT, Int.reduceLE, Int.reduceAdd, Int.reduceSub, Int.reduceMul, Int.reduceNeg, Int.reduceEq, Int.reduceNe, Int.reduceToNat, decide_true, decide_false, iaddr_i, iaddr_sl_i, not_true_eq_false, not_false_eq_true, reduceCtorEq, ne_eq, forall_const, false_imp_iff, true_imp_iff, implies_true, Int.cast_ofNat_Int, Int.natCast_zero, Int.natCast_one, Int.add_zero, Int.zero_add]
            rw [show nzB [AV.i .u64 (Bk.mk p []).period, s] = true from hz] at h
            refine ⟨fun hok => ⟨fun hr => ?_, fun hr => ⟨fun k1 => absurd ⟨Decidable.not_not.1 hok, Decidable.not_not.1 hr, k1⟩ hk1, fun _ => ⟨fun k2 => ?_, fun k2 => ⟨fun k3 => ?_, fun k3 => ?_⟩⟩⟩⟩, fun hok => ?_⟩
            · rw [show Bk.turned ⟨p, []⟩ ⟨k, sub, ps, ds, g, q⟩ = none by unfold Bk.turned; rw [if_neg fun z => hr z.2]] at h
              cases h
              exact Acc.retB entE_flat ⟨_, rfl, .inr (.inl ⟨rfl, rfl, 3, rfl, rfl⟩)⟩ Flat_i Flat_i
            · rw [show Bk.turned ⟨p, []⟩ ⟨k, sub, ps, ds, g, q⟩ = none by unfold Bk.turned Bk.turn; rw [if_pos ⟨Decidable.not_not.1 hok, Decidable.not_not.1 hr⟩, if_pos k2]; rfl] at h
              cases h
              exact Acc.retB entE_flat ⟨_, rfl, .inr (.inl ⟨rfl, rfl, 3, rfl, rfl⟩)⟩ Flat_i Flat_i
            · have ht : Bk.turned ⟨p, []⟩ ⟨k, sub, ps, ds, g, q⟩ = Bk.fin (if q = p + 1 then some ⟨q, []⟩ else none) := by
                unfold Bk.turned Bk.turn; rw [if_pos ⟨Decidable.not_not.1 hok, Decidable.not_not.1 hr⟩, if_neg k2]; rfl
              rw [ht] at h
              have hp48 := Decidable.not_not.1 hok
              have hw : wrapV .u64 (p + 1) = p + 1 := wrap_u64 (by have := hp48.1; simp only at this; omega) (by have := hp48.2.1; simp only at this; omega)
              rw [hw]
              refine wp_unroll oAp_ok mixed 1 ?_
              simp (maxSteps := 1000000) (disch := omega) only [c13l2, LW_succ, orc_cons, b2, go_sem, Option.map_none, Option.map_some, ↓reduceIte, Nat.reduceBEq, Nat.reduceAdd, Nat.reduceSub, Nat.reduceEqDiff, Nat.reduceLeDiff, Nat.reduceMul, Nat.reduceLT, Int.reduceLT, Int.reduceLE, Int.reduceAdd, Int.reduceSub, Int.reduceMul, Int.reduceNeg, Int.reduceEq, Int.reduceNe, Int.reduceToNat, decide_true, decide_false, iaddr_i, iaddr_sl_i, not_true_eq_false, not_false_eq_true, reduceCtorEq, ne_eq, forall_const, false_imp_iff, true_imp_iff, implies_true, Int.cast_ofNat_Int, Int.natCast_zero, Int.natCast_one, Int.add_zero, Int.zero_add]
              refine ⟨fun hq => ?_, fun hq => ?_⟩
              · rw [if_pos (Decidable.not_not.1 hq)] at h
                refine ⟨fun h1 => ?_, fun h1 => ?_⟩
                · simp only [Bk.fin, if_neg h1] at h
                  cases h
                  exact Acc.retB entE_flat ⟨_, rfl, .inr (.inl ⟨rfl, rfl, 3, rfl, rfl⟩)⟩ Flat_i Flat_i
                · simp only [Bk.fin, if_pos (Decidable.not_not.1 h1)] at h
                  cases h
                  exact Acc.retB entE_flat ⟨_, rfl, .inr (.inl ⟨rfl, rfl, 5, rfl, rfl⟩)⟩ Flat_i Flat_i
              · rw [if_neg hq] at h
                cases h
                exact Acc.retB entE_flat ⟨_, rfl, .inr (.inl ⟨rfl, rfl, 3, rfl, rfl⟩)⟩ Flat_i Flat_i
            · exfalso
              rcases Decidable.not_not.1 hr with z | z | z
              · exact absurd z.1 (by assumption)
              · exact k2 z.1
              · exact k3 z.1
            · rw [show Bk.turned ⟨p, []⟩ ⟨k, sub, ps, ds, g, q⟩ = none by unfold Bk.turned; rw [if_neg fun z => hok z.1]] at h
              cases h
              exact Acc.retB entE_flat ⟨_, rfl, .inr (.inl ⟨rfl, rfl, 3, rfl, rfl⟩)⟩ Flat_i Flat_i
        · obtain ⟨i, o, v, cap, ex, rfl⟩ := lst_sl hl (List.length_pos_iff.2 hne)
          have c1 : ∀ L, cloneES [.sl i o v l.length cap ex] (S ++ L) = some (.sl (S ++ L).length 0 0 l.length l.length false, (S ++ L) ++ [.cells (l.flatMap entE.enc) 0 (some 14) true]) := fun L => by
            rw [c1 L, retX_ne hne, retM_ne hne]; rfl
          simp (maxSteps := 1000000) (disch := omega) only [c13, orc_cons, lst_cells hl, c1, b1, e1, go_sem, Option.map_none, Option.map_some, ↓reduceIte, Nat.reduceBEq, Nat.reduceAdd, Nat.reduceSub, Nat.reduceEqDiff, Nat.reduceLeDiff, Nat.reduceMul, Nat.reduceLT, Int.reduceLT, Int.reduceLE, Int.reduceAdd, Int.reduceSub, Int.reduceMul, Int.reduceNeg, Int.reduceEq, Int.reduceNe, Int.reduceToNat, decide_true, decide_false, iaddr_i, iaddr_sl_i, not_true_eq_false, not_false_eq_true, reduceCtorEq, ne_eq, forall_const, false_imp_iff, true_imp_iff, implies_true, Int.cast_ofNat_Int, Int.natCast_zero, Int.natCast_one, Int.add_zero, Int.zero_add]
          have own : ∀ (A : Mem) (err : Int), WkV S (bookR (nzB [AV.i .u64 p, AV.sl i o v l.length cap ex]) S ⟨p, l⟩ err).1 (bookR (nzB [AV.i .u64 p, AV.sl i o v l.length cap ex]) S ⟨p, l⟩ err).2 (.tu [.ag [.i .u64 p, .sl (S.length + 3) 0 0 l.length l.length false], .i .i64 err])
            (S ++ (.cells [.i .u64 p, .sl i o v l.length cap ex] 0 none true :: .cells [.i .i64 k, .i .i64 sub, xp, xd, .i .u64 g, .i .u64 q] 0 none true :: .cells [.i .u64 p, .sl (S.length + 3) 0 0 l.length l.length false] 0 none true :: .cells (l.flatMap entE.enc) 0 (some 14) true :: A)) := fun A err =>
            Acc.retB entE_flat ⟨_, rfl, .inr (.inr ⟨hne, 3, 0, rfl, rfl⟩)⟩ Flat_i Flat_i
          refine ⟨fun hok => ⟨fun hr => ?_, fun hr => ⟨fun k1 => absurd ⟨Decidable.not_not.1 hok, Decidable.not_not.1 hr, k1⟩ hk1, fun _ => ⟨fun k2 => ?_, fun k2 => ⟨fun k3 => ?_, fun k3 => ?_⟩⟩⟩⟩, fun hok => ?_⟩
          · rw [show Bk.turned ⟨p, l⟩ ⟨k, sub, ps, ds, g, q⟩ = none by unfold Bk.turned; rw [if_neg fun z => hr z.2]] at h
            cases h
            exact own _ _
          · have ht : Bk.turned ⟨p, l⟩ ⟨k, sub, ps, ds, g, q⟩ = Bk.fin ((leased l sub g).map fun l => ⟨p, l⟩) := by
              unfold Bk.turned Bk.turn; rw [if_pos ⟨Decidable.not_not.1 hok, Decidable.not_not.1 hr⟩, if_pos k2]
            rw [ht] at h
            have ho : ∀ T : Mem, T[5]? = some (.cells (l.flatMap entE.enc) 0 (some 14) true) → ownV entE (S ++ T) (.sl (S.length + 5) 0 0 l.length l.length false) = some l := fun T hT => ownV_mk (by rw [at_app]; exact hT)
            rw [lease_eq (l := l) (e := ⟨k, sub, ps, ds, g, q⟩)]
            rotate_left
            · exact own_lst (ho _ rfl)
            · exact evtOf_mk (lstV_grow hp _) (lstV_grow hd _)
            · exact hbf.1
            · exact ho _ rfl
            cases hle : leased l sub g with
            | none =>
              rw [hle] at h
              cases h
              simp (maxSteps := 1000000) (disch := omega) only [go_sem, Option.map_none, Option.map_some, ↓reduceIte, Nat.reduceBEq, Nat.reduceAdd, Nat.reduceSub, Nat.reduceEqDiff, Nat.reduceLeDiff, Nat.reduceMul, Nat.reduceLT, Int.reduceLT, Int.reduceLE, Int.reduceAdd, Int.reduceSub, Int.reduceMul, Int.reduceNeg, Int.reduceEq, Int.reduceNe, Int.reduceToNat, decide_true, decide_false, iaddr_i, iaddr_sl_i, not_true_eq_false, not_false_eq_true, reduceCtorEq, ne_eq, forall_const, false_imp_iff, true_imp_iff, implies_true, Int.cast_ofNat_Int, Int.natCast_zero, Int.natCast_one, Int.add_zero, Int.zero_add]
              exact own _ _
            | some l' =>
              rw [hle] at h
              have hlen := leased_len hle
              simp only
              rw [setOwn_eq (v' := 0) (op := some 14) (r := true) (cs := l.flatMap entE.enc)]
              rotate_left
              · rw [at_app]; rfl
              simp (maxSteps := 1000000) (disch := omega) only [orc_cons, go_sem, Option.map_none, Option.map_some, ↓reduceIte, Nat.reduceBEq, Nat.reduceAdd, Nat.reduceSub, Nat.reduceEqDiff, Nat.reduceLeDiff, Nat.reduceMul, Nat.reduceLT, Int.reduceLT, Int.reduceLE, Int.reduceAdd, Int.reduceSub, Int.reduceMul, Int.reduceNeg, Int.reduceEq, Int.reduceNe, Int.reduceToNat, decide_true, decide_false, iaddr_i, iaddr_sl_i, not_true_eq_false, not_false_eq_true, reduceCtorEq, ne_eq, forall_const, false_imp_iff, true_imp_iff, implies_true, Int.cast_ofNat_Int, Int.natCast_zero, Int.natCast_one, Int.add_zero, Int.zero_add]
              rw [bright_eq (b := ⟨p, l'⟩)]
              rotate_left
              · refine bookOf_mk (l := l') ?_
                rw [hlen]
                exact own_lst (ownV_mk (by rw [at_app]; rfl))
              · exact ⟨by rw [← hlen]; exact hbf.1, leased_fits hle hbf.2⟩
              simp (maxSteps := 1000000) (disch := omega) only [go_sem, Option.map_none, Option.map_some, ↓reduceIte, Nat.reduceBEq, Nat.reduceAdd, Nat.reduceSub, Nat.reduceEqDiff, Nat.reduceLeDiff, Nat.reduceMul, Nat.reduceLT, Int.reduceLT, Int.reduceLE, Int.reduceAdd, Int.reduceSub, Int.reduceMul, Int.reduceNeg, Int.reduceEq, Int.reduceNe, Int.reduceToNat, decide_true, decide_false, iaddr_i, iaddr_sl_i, not_true_eq_false, not_false_eq_true, reduceCtorEq, ne_eq, forall_const, false_imp_iff, true_imp_iff, implies_true, Int.cast_ofNat_Int, Int.natCast_zero, Int.natCast_one, Int.add_zero, Int.zero_add]
              refine ⟨fun h1 => ?_, fun h1 => ?_⟩
              · simp only [Option.map_some, Bk.fin, if_neg h1] at h
                cases h
                exact own _ _
              · simp only [Option.map_some, Bk.fin, if_pos (Decidable.not_not.1 h1)] at h
                cases h
                exact Acc.retB entE_flat ⟨_, rfl, .inr (.inr ⟨fun q => hne (List.eq_nil_of_length_eq_zero (by have q : l' = [] := q; rw [hlen, q]; rfl)), 5, 0, by rw [hlen], rfl⟩)⟩ Flat_i Flat_i
          · have ht : Bk.turned ⟨p, l⟩ ⟨k, sub, ps, ds, g, q⟩ = Bk.fin (if q = p + 1 then some ⟨q, l.map (·.grant 0)⟩ else none) := by
              unfold Bk.turned Bk.turn; rw [if_pos ⟨Decidable.not_not.1 hok, Decidable.not_not.1 hr⟩, if_neg k2]
            rw [ht] at h
            have hp48 := Decidable.not_not.1 hok
            have hw : wrapV .u64 (p + 1) = p + 1 := wrap_u64 (by have := hp48.1; simp only at this; omega) (by have := hp48.2.1; simp only at this; omega)
            rw [hw]
            refine wp_loop (fun j e M dl => dl = [] ∧ ∃ n : Nat, j = l.length - n ∧ n ≤ l.length ∧
              M = S ++ [.cells [.i .u64 p, .sl i o v l.length cap ex] 0 none true, .cells [.i .i64 k, .i .i64 sub, xp, xd, .i .u64 g, .i .u64 q] 0 none true, .cells [.i .u64 0, .sn] 0 none true, .cells (l.flatMap entE.enc) 0 (some 14) true, .cells [.i .u64 p, .sl (S.length + 3) 0 0 l.length l.length false] 0 none true, .cells ((zeroTo l n).flatMap entE.enc) 0 (some 14) true, .cells [.i .u64 q, .sl (S.length + 5) 0 0 l.length l.length false] 0 none true] ∧
              e.get 7 = .p (S.length + 6) 0 0 ∧ e.get 4 = .p (S.length + 2) 0 0 ∧ e.get 6 = .p (S.length + 4) 0 0 ∧ e.get 8 = .b (decide (q = p + 1)) ∧ e.get 66 = .i .i64 l.length ∧ e.get 67 = .i .i64 n) (j := l.length) ⟨rfl, 0, rfl, Nat.zero_le _, rfl, rfl, rfl, rfl, rfl, rfl, rfl⟩ ?_
            rintro j e M d' ⟨rfl, n, rfl, hn, rfl, h7, h4, h6, h8, h66, h67⟩
            refine W_sound oAp_ok mixed _ _ _ _ _ ?_
            have hz := zeroTo_len l n
            by_cases hnl : n < l.length
            · have hnI : (n : Int) < l.length := by omega
              have hw1 : wrapV .i64 ((n : Int) + 1) = ((n + 1 : Nat) : Int) := by have := hbf.1; simp only at this; rw [wrap_i64 (by omega) (by omega)]; omega
              have hsp := splice_at (E := entE) (zeroTo l n) (show n < (zeroTo l n).length by omega) (l[n].grant 0) (f := 13) (ys := [.i .u64 0]) (by simp [entE]) (by rw [zeroTo_at l hnl]; rfl)
              rw [zeroTo_succ l hnl] at hsp
              have hsp : ((zeroTo l n).flatMap entE.enc).take (n * 14 + 13) ++ AV.i .u64 0 :: ((zeroTo l n).flatMap entE.enc).drop (n * 14 + 13 + 1) = (zeroTo l (n + 1)).flatMap entE.enc := hsp
              have hle : n * 14 + 13 + 1 ≤ ((zeroTo l n).flatMap entE.enc).length := by rw [enc_length]; show n * 14 + 13 + 1 ≤ (zeroTo l n).length * 14; omega
              simp (maxSteps := 1000000) (disch := omega) only [c13l2, h7, h4, h6, h8, h66, h67, hnI, Int.toNat_natCast, hw1, hsp, hle, go_sem, Option.map_none, Option.map_some, ↓reduceIte, Nat.reduceBEq, Nat.reduceAdd, Nat.reduceSub, Nat.reduceEqDiff, Nat.reduceLeDiff, Nat.reduceMul, Nat.reduceLT, Int.reduceLT, Int.reduceLE, Int.reduceAdd, Int.reduceSub, Int.reduceMul, Int.reduceNeg, Int.reduceEq, Int.reduceNe, Int.reduceToNat, decide_true, decide_false, iaddr_i, iaddr_sl_i, not_true_eq_false, not_false_eq_true, reduceCtorEq, ne_eq, forall_const, false_imp_iff, true_imp_iff, implies_true, Int.cast_ofNat_Int, Int.natCast_zero, Int.natCast_one, Int.add_zero, Int.zero_add]
              exact ⟨l.length - (n + 1), by omega, n + 1, rfl, by omega, rfl, rfl⟩
            · have hnI : ¬ (n : Int) < l.length := by omega
              obtain rfl : n = l.length := by omega
              simp (maxSteps := 1000000) (disch := omega) only [c13l2, h7, h4, h6, h8, h66, h67, hnI, orc_cons, zeroTo_all, go_sem, Option.map_none, Option.map_some, ↓reduceIte, Nat.reduceBEq, Nat.reduceAdd, Nat.reduceSub, Nat.reduceEqDiff, Nat.reduceLeDiff, Nat.reduceMul, Nat.reduceLT, Int.reduceLT, Int.reduceLE, Int.reduceAdd, Int.reduceSub, Int.reduceMul, Int.reduceNeg, Int.reduceEq, Int.reduceNe, Int.reduceToNat, decide_true, decide_false, iaddr_i, iaddr_sl_i, not_true_eq_false, not_false_eq_true, reduceCtorEq, ne_eq, forall_const, false_imp_iff, true_imp_iff, implies_true, Int.cast_ofNat_Int, Int.natCast_zero, Int.natCast_one, Int.add_zero, Int.zero_add]
              refine ⟨fun hq => ?_, fun hq => ?_⟩
              · have hq := Decidable.not_not.1 hq
                rw [if_pos hq] at h
                rw [bright_eq (b := ⟨q, l.map (·.grant 0)⟩)]
                rotate_left
                · refine bookOf_mk (l := l.map (·.grant 0)) ?_
                  rw [show l.length = (l.map (·.grant 0)).length by simp]
                  exact own_lst (ownV_mk (by rw [at_app]; rfl))
                · exact ⟨by simpa using hbf.1, fun x hx => by obtain ⟨y, hy, rfl⟩ := List.mem_map.1 hx; exact hbf.2 y hy⟩
                simp (maxSteps := 1000000) (disch := omega) only [go_sem, Option.map_none, Option.map_some, ↓reduceIte, Nat.reduceBEq, Nat.reduceAdd, Nat.reduceSub, Nat.reduceEqDiff, Nat.reduceLeDiff, Nat.reduceMul, Nat.reduceLT, Int.reduceLT, Int.reduceLE, Int.reduceAdd, Int.reduceSub, Int.reduceMul, Int.reduceNeg, Int.reduceEq, Int.reduceNe, Int.reduceToNat, decide_true, decide_false, iaddr_i, iaddr_sl_i, not_true_eq_false, not_false_eq_true, reduceCtorEq, ne_eq, forall_const, false_imp_iff, true_imp_iff, implies_true, Int.cast_ofNat_Int, Int.natCast_zero, Int.natCast_one, Int.add_zero, Int.zero_add]
                refine ⟨fun h1 => ?_, fun h1 => ?_⟩
                · simp only [Bk.fin, if_neg h1] at h
                  cases h
                  exact own _ _
                · simp only [Bk.fin, if_pos (Decidable.not_not.1 h1)] at h
                  cases h
                  exact Acc.retB entE_flat ⟨_, rfl, .inr (.inr ⟨by simpa using hne, 5, 0, by rw [List.length_map], rfl⟩)⟩ Flat_i Flat_i
              · rw [if_neg hq] at h
                cases h
                exact own _ _
          · exfalso
            rcases Decidable.not_not.1 hr with z | z | z
            · exact absurd z.1 (by assumption)
            · exact k2 z.1
            · exact k3 z.1
          · rw [show Bk.turned ⟨p, l⟩ ⟨k, sub, ps, ds, g, q⟩ = none by unfold Bk.turned; rw [if_neg fun z => hok z.1]] at h
            cases h
            exact own _ _
      · cases h
    · cases h
  · cases h
end Go.Proofs.Ytapgkaecamljbaa

namespace Go.Proofs.Ytapgkaecamljbaa
open Go.RowKit
set_option linter.unusedSimpArgs false
set_option linter.unusedVariables false
set_option maxRecDepth 10000

theorem acc_cases {α : Type} {E : Enc α} {S M : Mem} {x : AV} {l : List α} (h : Acc true E S M x l) : (l = [] ∧ ∃ b, S.length ≤ b ∧ x = .sl b 0 0 0 0 true ∧ M[b]? = some (.cells [] 0 none true)) ∨ (l ≠ [] ∧ ∃ b v, S.length ≤ b ∧ x = .sl b 0 v l.length l.length false ∧ M[b]? = some (.cells (l.flatMap E.enc) v (some E.sz) true)) := by
  obtain ⟨T, rfl, ⟨_, hz, _⟩ | ⟨h0, _, p, rfl, hp⟩ | ⟨h0, p, v, rfl, hp⟩⟩ := h
  · cases hz
  · exact .inl ⟨h0, _, Nat.le_add_right _ _, rfl, by rw [at_app]; exact hp⟩
  · exact .inr ⟨h0, _, _, Nat.le_add_right _ _, rfl, by rw [at_app]; exact hp⟩
theorem acc_mk {α : Type} {E : Enc α} {S M : Mem} {l : List α} {z : Bool} {b v : Nat} (hS : S <+: M) (hb : S.length ≤ b) (hne : l ≠ []) (hB : M[b]? = some (.cells (l.flatMap E.enc) v (some E.sz) true)) : Acc z E S M (.sl b 0 v l.length l.length false) l := by
  obtain ⟨q, rfl⟩ : ∃ q, b = S.length + q := ⟨b - S.length, by omega⟩
  obtain ⟨T, rfl⟩ := hS
  rw [at_app] at hB
  exact ⟨T, rfl, .inr (.inr ⟨hne, q, v, rfl, hB⟩)⟩
theorem acc_mk0 {α : Type} {E : Enc α} {S M : Mem} {b : Nat} (hS : S <+: M) (hb : S.length ≤ b) (hB : M[b]? = some (.cells [] 0 none true)) : Acc true E S M (.sl b 0 0 0 0 true) [] := by
  obtain ⟨q, rfl⟩ : ∃ q, b = S.length + q := ⟨b - S.length, by omega⟩
  obtain ⟨T, rfl⟩ := hS
  rw [at_app] at hB
  exact ⟨T, rfl, .inr (.inl ⟨rfl, rfl, q, rfl, hB⟩)⟩
theorem Acc.setC {α : Type} {E : Enc α} {S M : Mem} {z : Bool} {x : AV} {l : List α} (h : Acc z E S M x l) {ib : Nat} (hS : S.length ≤ ib) {B : Blk} (hB : M[ib]? = some B) (hn : B.opn = none) (hc : B ≠ .cells [] 0 none true) (B' : Blk) : Acc z E S (M.set ib B') x l := by
  obtain ⟨q, rfl⟩ : ∃ q, ib = S.length + q := ⟨ib - S.length, by omega⟩
  obtain ⟨T, rfl, h⟩ := h
  rw [at_app] at hB
  refine ⟨T.set q B', set_app, ?_⟩
  rcases h with h | ⟨h0, hz, p, h1, h2⟩ | ⟨h0, p, v, h1, h2⟩
  · exact .inl h
  · have hne : q ≠ p := fun e => by
      rw [e, h2] at hB
      injection hB with hB
      exact hc hB.symm
    exact .inr (.inl ⟨h0, hz, p, h1, by rw [List.getElem?_set_ne hne]; exact h2⟩)
  · have hne : q ≠ p := fun e => by
      rw [e, h2] at hB
      injection hB with hB
      rw [← hB] at hn
      cases hn
    exact .inr (.inr ⟨h0, p, v, h1, by rw [List.getElem?_set_ne hne]; exact h2⟩)
theorem zeroTo_zero (l : List Ent) : zeroTo l 0 = l := by unfold zeroTo; simp
theorem sub_lt {p : Int} {l : List Ent} (ho : (Bk.mk p l).ok) {i j : Nat} (hi : i < l.length) (hj : j < i) : (l[j]'(by omega)).pol.sub < l[i].pol.sub := by
  have h := (ho.2.2.1.2 i (by unfold polsOf; simpa using hi) (by unfold polsOf; simpa using hi)).2 j hj
  have h := h.1
  simpa [polsOf] using h
theorem leased_hit {p : Int} {l : List Ent} {sub g : Int} (ho : (Bk.mk p l).ok) {i : Nat} (hi : i < l.length) (h1 : l[i].pol.sub = sub) (h2 : l[i].granted ≤ g) (h3 : g ≤ l[i].pol.quota) : leased l sub g = some (l.set i (l[i].grant g)) := by
  unfold leased
  have : l.findIdx? (hasSub sub) = some i := List.findIdx?_eq_some_iff_getElem.2 ⟨hi, by simpa [hasSub] using h1, fun j hj => by
    have := sub_lt ho hi hj
    simp only [hasSub, Bool.not_eq_true, decide_eq_false_iff_not]
    omega⟩
  rw [this]
  simp only
  rw [List.getElem?_eq_getElem hi]
  simp only
  rw [if_pos ⟨h2, h3⟩]
theorem leased_miss {l : List Ent} {sub g : Int} (h : ∀ i (hi : i < l.length), ¬ (l[i].pol.sub = sub ∧ l[i].granted ≤ g ∧ g ≤ l[i].pol.quota)) : leased l sub g = none := by
  unfold leased
  split
  · rename_i k hk
    obtain ⟨hkl, hs, _⟩ := List.findIdx?_eq_some_iff_getElem.1 hk
    rw [List.getElem?_eq_getElem hkl]
    simp only
    rw [if_neg fun c => h k hkl ⟨by simpa [hasSub] using hs, c.1, c.2⟩]
  · rfl
noncomputable def Bk.rapplied (b : Bk) (e : Evt) : Option Bk := if b.ok ∧ e.right then
    (if e.kind = 1 then (if ∃ i : Nat, i < 255 ∧ refBad b.entries e ((i : Int) + 1) then none else Bk.fin (some ⟨b.period, refEnts b.entries e 255⟩))
     else if e.kind = 2 then (leased b.entries e.sub e.granted).map fun l => ⟨b.period, l⟩
     else if e.period = b.period + 1 then some ⟨e.period, b.entries.map (·.grant 0)⟩ else none)
  else none
noncomputable def rapplyS : Spec := fun args S => match args with
  | [.ag cb, .ag ce] => match bookOf S cb, evtOf S ce with
    | some b, some e => if b.fits ∧ e.fits ∧ openQ S 13 (ce.getD 2 .u) = true then match b.rapplied e with
        | some b' => some (bookR (decide (e.kind ≠ 1)) S b' 0)
        | none => some (.tu [.ag cb, .i .i64 131], S)
      else none
    | _, _ => none
  | _ => none
theorem reright_eq {S : Mem} {k s g q : Int} {xp xd : AV} {ps : List Pol} {ds : List Int} (hp : lstV polE S xp = some ps) (hd : lstV (intE .i64) S xd = some ds) (hf : Evt.fits ⟨k, s, ps, ds, g, q⟩) (ho : openQ S 13 xp = true) :
    rerightS [.ag [.i .i64 k, .i .i64 s, xp, xd, .i .u64 g, .i .u64 q]] S = some (.b (decide (Evt.right ⟨k, s, ps, ds, g, q⟩)), S) := by
  have h := evtOf_mk (k := k) (s := s) (g := g) (p := q) hp hd
  simp only [rerightS, h]
  rw [if_pos ⟨hf, ho⟩]
theorem rcommit_eq {S : Mem} {cb ce : List AV} {b : Bk} {e : Evt} (hb : bookOf S cb = some b) (he : evtOf S ce = some e) (hf : b.fits ∧ e.fits) : rcommitS [.ag cb, .ag ce] S =
    if ∃ i : Nat, i < 255 ∧ refBad b.entries e ((i : Int) + 1) then some (.tu [.ag cb, .b false], S)
        else some (.tu [.ag [.i .u64 b.period, retX false S (refEnts b.entries e 255)], .b (decide (Bk.ok ⟨b.period, refEnts b.entries e 255⟩))], retM false entE S (refEnts b.entries e 255)) := by
  simp only [rcommitS, hb, he, if_pos hf]
theorem oRa_ok : OK Try.prog (lamOf Try.prog) (orcOf [(21, brightS), (31, rerightS), (32, rcommitS)]) := orc_ok (by simpa using ⟨rbright_ok, reright_ok, rcommit_ok⟩)
set_option maxHeartbeats 1000000 in
theorem rapply_ok : SpecOK Try.prog 14 rapplyS := by
  intro args S x S' h
  simp only [rapplyS] at h
  split at h
  · rename_i cb ce
    split at h
    · rename_i b ev hb hev
      split at h
      · rename_i hf
        obtain ⟨hbf, hef, hop⟩ := hf
        obtain ⟨s, rfl, hl⟩ := bookOf_ok hb
        obtain ⟨xp, xd, rfl, hp, hd⟩ := evtOf_ok hev
        obtain ⟨p, l⟩ := b
        obtain ⟨k, sub, ps, ds, g, q⟩ := ev
        simp only at hp hd hl h
        have hop : openQ S 13 xp = true := hop
        have b1 := fun L => bright_eq (bookOf_mk (p := p) (lstV_grow hl L)) hbf
        have e1 := fun L => reright_eq (k := k) (s := sub) (g := g) (q := q) (lstV_grow hp L) (lstV_grow hd L) hef (openQ_grow hop L)
        have c1 := fun L => rcommit_eq (bookOf_mk (p := p) (lstV_grow hl L)) (evtOf_mk (k := k) (s := sub) (g := g) (p := q) (lstV_grow hp L) (lstV_grow hd L)) ⟨hbf, hef⟩
        have hone := lst_one hl
        have hflat : ∀ e : Int, (AV.tu [.ag [.i .u64 p, s], .i .i64 e]).flat S.length := fun e => flat_book (lst_Flat hl) Flat_i
        refine fn_of_wp f14 rfl (W_sound oRa_ok mixed _ _ _ _ _ ?_)
        by_cases hok : (Bk.mk p l).ok
        rotate_left
        · rw [decide_eq_false hok] at b1
          rw [show Bk.rapplied ⟨p, l⟩ ⟨k, sub, ps, ds, g, q⟩ = none by unfold Bk.rapplied; rw [if_neg fun z => hok z.1]] at h
          cases h
          simp (maxSteps := 1000000) (disch := omega) only [c14, lst_cells hl, lst_cells hp, lst_cells hd, List.replicate, orc_cons, b1, hone, go_sem, Option.map_none, Option.map_some, ↓reduceIte, Nat.reduceBEq, Nat.reduceAdd, Nat.reduceSub, Nat.reduceEqDiff, Nat.reduceLeDiff, Nat.reduceMul, Nat.reduceLT, Int.reduceLT, Int.reduceLE, Int.reduceAdd, Int.reduceSub, Int.reduceMul, Int.reduceNeg, Int.reduceEq, Int.reduceNe, Int.reduceToNat, decide_true, decide_false, iaddr_i, iaddr_sl_i, not_true_eq_false, not_false_eq_true, reduceCtorEq, ne_eq, forall_const, false_imp_iff, true_imp_iff, implies_true, Int.cast_ofNat_Int, Int.natCast_zero, Int.natCast_one, Int.add_zero, Int.zero_add]
          exact wkv_drop (hflat _)
        rw [decide_eq_true hok] at b1
        by_cases hr : Evt.right ⟨k, sub, ps, ds, g, q⟩
        rotate_left
        · rw [decide_eq_false hr] at e1
          rw [show Bk.rapplied ⟨p, l⟩ ⟨k, sub, ps, ds, g, q⟩ = none by unfold Bk.rapplied; rw [if_neg fun z => hr z.2]] at h
          cases h
          simp (maxSteps := 1000000) (disch := omega) only [c14, lst_cells hl, lst_cells hp, lst_cells hd, List.replicate, orc_cons, b1, e1, hone, go_sem, Option.map_none, Option.map_some, ↓reduceIte, Nat.reduceBEq, Nat.reduceAdd, Nat.reduceSub, Nat.reduceEqDiff, Nat.reduceLeDiff, Nat.reduceMul, Nat.reduceLT, Int.reduceLT, Int.reduceLE, Int.reduceAdd, Int.reduceSub, Int.reduceMul, Int.reduceNeg, Int.reduceEq, Int.reduceNe, Int.reduceToNat, decide_true, decide_false, iaddr_i, iaddr_sl_i, not_true_eq_false, not_false_eq_true, reduceCtorEq, ne_eq, forall_const, false_imp_iff, true_imp_iff, implies_true, Int.cast_ofNat_Int, Int.natCast_zero, Int.natCast_one, Int.add_zero, Int.zero_add]
          exact wkv_drop (hflat _)
        rw [decide_eq_true hr] at e1
        by_cases hk1 : k = 1
        · subst hk1
          by_cases hbad : ∃ i : Nat, i < 255 ∧ refBad l ⟨1, sub, ps, ds, g, q⟩ ((i : Int) + 1)
          · simp only [if_pos hbad] at c1
            rw [show Bk.rapplied ⟨p, l⟩ ⟨1, sub, ps, ds, g, q⟩ = none by unfold Bk.rapplied; rw [if_pos ⟨hok, hr⟩, if_pos rfl, if_pos hbad]] at h
            cases h
            simp (maxSteps := 1000000) (disch := omega) only [c14, lst_cells hl, lst_cells hp, lst_cells hd, List.replicate, orc_cons, b1, e1, c1, hone, go_sem, Option.map_none, Option.map_some, ↓reduceIte, Nat.reduceBEq, Nat.reduceAdd, Nat.reduceSub, Nat.reduceEqDiff, Nat.reduceLeDiff, Nat.reduceMul, Nat.reduceLT, Int.reduceLT, Int.reduceLE, Int.reduceAdd, Int.reduceSub, Int.reduceMul, Int.reduceNeg, Int.reduceEq, Int.reduceNe, Int.reduceToNat, decide_true, decide_false, iaddr_i, iaddr_sl_i, not_true_eq_false, not_false_eq_true, reduceCtorEq, ne_eq, forall_const, false_imp_iff, true_imp_iff, implies_true, Int.cast_ofNat_Int, Int.natCast_zero, Int.natCast_one, Int.add_zero, Int.zero_add]
            exact wkv_drop (hflat _)
          · simp only [if_neg hbad] at c1
            have c1 := c1 [.cells [.i .u64 p, s] 0 none true, .cells [.i .i64 1, .i .i64 sub, xp, xd, .i .u64 g, .i .u64 q] 0 none true, .cells [.i .u64 0, .sn] 0 none true]
            have hX := retX_acc (z := false) (E := entE) (S := S ++ [.cells [.i .u64 p, s] 0 none true, .cells [.i .i64 1, .i .i64 sub, xp, xd, .i .u64 g, .i .u64 q] 0 none true, .cells [.i .u64 0, .sn] 0 none true]) (l := refEnts l ⟨1, sub, ps, ds, g, q⟩ 255)
            generalize retX false _ (refEnts l ⟨1, sub, ps, ds, g, q⟩ 255) = X at c1 hX
            generalize retM false entE _ (refEnts l ⟨1, sub, ps, ds, g, q⟩ 255) = M1 at c1 hX
            have m0 : M1[S.length]? = some (.cells [.i .u64 p, s] 0 none true) := at_pre hX.ext (by rw [at_app0]; rfl)
            have m2 : M1[S.length + 2]? = some (.cells [.i .u64 0, .sn] 0 none true) := at_pre hX.ext (by rw [at_app]; rfl)
            have m0o := fun L => at_old (L := L) m0
            have m2o := fun L => at_old (L := L) m2
            have hSM : S <+: M1 := (ext_app _).trans hX.ext
            have hS := fun L B => set_old (L := L) (B' := B) m2
            have hfin := fun L B => at_old (L := L) (at_set (B' := B) m2)
            by_cases hok2 : (Bk.mk p (refEnts l ⟨1, sub, ps, ds, g, q⟩ 255)).ok
            · rw [decide_eq_true hok2] at c1
              rw [show Bk.rapplied ⟨p, l⟩ ⟨1, sub, ps, ds, g, q⟩ = some ⟨p, refEnts l ⟨1, sub, ps, ds, g, q⟩ 255⟩ by unfold Bk.rapplied; rw [if_pos ⟨hok, hr⟩, if_pos rfl, if_neg hbad]; simp only [Bk.fin, if_pos hok2]] at h
              cases h
              simp (maxSteps := 1000000) (disch := omega) only [c14, lst_cells hl, lst_cells hp, lst_cells hd, List.replicate, orc_cons, b1, e1, c1, lst_one hX.lst, m2o, hS, hfin, go_sem, Option.map_none, Option.map_some, ↓reduceIte, Nat.reduceBEq, Nat.reduceAdd, Nat.reduceSub, Nat.reduceEqDiff, Nat.reduceLeDiff, Nat.reduceMul, Nat.reduceLT, Int.reduceLT, Int.reduceLE, Int.reduceAdd, Int.reduceSub, Int.reduceMul, Int.reduceNeg, Int.reduceEq, Int.reduceNe, Int.reduceToNat, decide_true, decide_false, iaddr_i, iaddr_sl_i, not_true_eq_false, not_false_eq_true, reduceCtorEq, ne_eq, forall_const, false_imp_iff, true_imp_iff, implies_true, Int.cast_ofNat_Int, Int.natCast_zero, Int.natCast_one, Int.add_zero, Int.zero_add]
              have hA := ((hX.base (ext_app _)).setB (by omega) m2 rfl (.cells [.i .u64 p, X] 0 none true)).grow [.cells [.i .u64 p, X] 0 none true]
              exact hA.retB entE_flat Flat_i Flat_i
            · rw [decide_eq_false hok2] at c1
              rw [show Bk.rapplied ⟨p, l⟩ ⟨1, sub, ps, ds, g, q⟩ = none by unfold Bk.rapplied; rw [if_pos ⟨hok, hr⟩, if_pos rfl, if_neg hbad]; simp only [Bk.fin, if_neg hok2]] at h
              cases h
              simp (maxSteps := 1000000) (disch := omega) only [c14, lst_cells hl, lst_cells hp, lst_cells hd, List.replicate, orc_cons, b1, e1, c1, hone, lst_one hX.lst, m0o, m2o, hS, hfin, go_sem, Option.map_none, Option.map_some, ↓reduceIte, Nat.reduceBEq, Nat.reduceAdd, Nat.reduceSub, Nat.reduceEqDiff, Nat.reduceLeDiff, Nat.reduceMul, Nat.reduceLT, Int.reduceLT, Int.reduceLE, Int.reduceAdd, Int.reduceSub, Int.reduceMul, Int.reduceNeg, Int.reduceEq, Int.reduceNe, Int.reduceToNat, decide_true, decide_false, iaddr_i, iaddr_sl_i, not_true_eq_false, not_false_eq_true, reduceCtorEq, ne_eq, forall_const, false_imp_iff, true_imp_iff, implies_true, Int.cast_ofNat_Int, Int.natCast_zero, Int.natCast_one, Int.add_zero, Int.zero_add]
              exact wkv_dropP (ext_more (ext_set hSM (by omega) _) _) (hflat _)
        · obtain ⟨Y, M1, hap, hY⟩ := (acc_lit (E := entE) (S := S ++ [.cells [.i .u64 p, s] 0 none true, .cells [.i .i64 k, .i .i64 sub, xp, xd, .i .u64 g, .i .u64 q] 0 none true, .cells [.i .u64 0, .sn] 0 none true]) (M := S ++ [.cells [.i .u64 p, s] 0 none true, .cells [.i .i64 k, .i .i64 sub, xp, xd, .i .u64 g, .i .u64 q] 0 none true, .cells [.i .u64 0, .sn] 0 none true]) ext_refl).apps (bytes := 88) entE_one l (by have := hbf.1; simp only at this; simp; omega) (by have := hbf.1; simp only at this; simp; omega)
          rw [List.nil_append] at hY
          have hap : appV (S ++ [.cells [.i .u64 p, s] 0 none true, .cells [.i .i64 k, .i .i64 sub, xp, xd, .i .u64 g, .i .u64 q] 0 none true, .cells [.i .u64 0, .sn] 0 none true, .cells [] 0 none true]) 14 88 (.sl (S.length + 3) 0 0 0 0 true) (l.flatMap entE.enc) l.length = some (Y, M1) := by
            have e1 : (S ++ [Blk.cells [.i .u64 p, s] 0 none true, .cells [.i .i64 k, .i .i64 sub, xp, xd, .i .u64 g, .i .u64 q] 0 none true, .cells [.i .u64 0, .sn] 0 none true]).length = S.length + 3 := by simp
            rw [e1, List.append_assoc] at hap
            exact hap
          have hsrc : ∀ L, srcV (S ++ L) 14 s = some (l.flatMap entE.enc, l.length) := fun L => src_lst (lstV_grow hl L)
          have v0 := eqv_lst hl
          have v1 := eqv_lst hY.lst
          have m0 : M1[S.length]? = some (.cells [.i .u64 p, s] 0 none true) := at_pre hY.ext (by rw [at_app0]; rfl)
          have m1 : M1[S.length + 1]? = some (.cells [.i .i64 k, .i .i64 sub, xp, xd, .i .u64 g, .i .u64 q] 0 none true) := at_pre hY.ext (by rw [at_app]; rfl)
          have m2 : M1[S.length + 2]? = some (.cells [.i .u64 0, .sn] 0 none true) := at_pre hY.ext (by rw [at_app]; rfl)
          have m0o := fun L => at_old (L := L) m0
          have m1o := fun L => at_old (L := L) m1
          have m2o := fun L => at_old (L := L) m2
          simp (maxSteps := 1000000) (disch := omega) only [c14, lst_cells hl, lst_cells hp, lst_cells hd, List.replicate, orc_cons, b1, e1, hk1, go_sem, Option.map_none, Option.map_some, ↓reduceIte, Nat.reduceBEq, Nat.reduceAdd, Nat.reduceSub, Nat.reduceEqDiff, Nat.reduceLeDiff, Nat.reduceMul, Nat.reduceLT, Int.reduceLT, Int.reduceLE, Int.reduceAdd, Int.reduceSub, Int.reduceMul, Int.reduceNeg, Int.reduceEq, Int.reduceNe, Int.reduceToNat, decide_true, decide_false, iaddr_i, iaddr_sl_i, not_true_eq_false, not_false_eq_true, reduceCtorEq, ne_eq, forall_const, false_imp_iff, true_imp_iff, implies_true, Int.cast_ofNat_Int, Int.natCast_zero, Int.natCast_one, Int.add_zero, Int.zero_add]
          refine draw_of ?_
          simp (maxSteps := 1000000) (disch := omega) only [c14d0, lst_cells hl, hsrc, hap, v0, v1, lst_one hY.lst, lst_cells hY.lst, m0, m0o, dNs_nil, dNs_cons, dnK_some, dnK_none, dOpt_none, dOpt_some, doK_some, doK_none, dStages_nil, dStages_cons, s1K_app, s2K_app, s3K_app, s4K_app, dEnd_app, evOne_op, evOne_gd, evG_tt, evG_tf, evG_ft, evG_ff, evG_ud, kSt_nil, kSt_cons, kNs_nil, kNs_cons, kN_zero, kN_succ, kA_some, eqK_some, eqK_none, kOpt_none, kOpt_some, kLike_nil, kLike_cons, ROp.use, IOp.use, IO'.use, X.use, dstL_none, dstL_some, List.flatMap_cons, List.flatMap_nil, eqv_m, eqv_p, eqv_i, eqv_b, eqv_sl, eqv_sn, eqv_pn, eqv_ud, eqv_u, eqv_mn, eqv_ag, eqvL_cons, eqvL_nil, eqv_tu, Bool.and_true, Bool.true_and, Bool.and_self, Nat.le_refl, Nat.reduceLeDiff, and_self, and_true, true_and, go_sem, Option.map_none, Option.map_some, ↓reduceIte, Nat.reduceBEq, Nat.reduceAdd, Nat.reduceSub, Nat.reduceEqDiff, Nat.reduceLeDiff, Nat.reduceMul, Nat.reduceLT, Int.reduceLT, Int.reduceLE, Int.reduceAdd, Int.reduceSub, Int.reduceMul, Int.reduceNeg, Int.reduceEq, Int.reduceNe, Int.reduceToNat, decide_true, decide_false, iaddr_i, iaddr_sl_i, not_true_eq_false, not_false_eq_true, reduceCtorEq, ne_eq, forall_const, false_imp_iff, true_imp_iff, implies_true, Int.cast_ofNat_Int, Int.natCast_zero, Int.natCast_one, Int.add_zero, Int.zero_add]
          have hS4 : S <+: M1 := (ext_app _).trans hY.ext
          have hlY := fun M' => lst_len hY.lst M'
          have hM1l : S.length + 3 ≤ M1.length := by have := List.IsPrefix.length_le hY.ext; simpa using this
          have herr : ∀ M : Mem, S <+: M → M[S.length + 2]? = some (.cells [.i .u64 0, .sn] 0 none true) → S <+: M.set (S.length + 2) (.cells [.i .u64 p, s] 0 none true) := fun M h _ => ext_set h (by omega) _
          by_cases hk2 : k = 2
          · subst hk2
            have hra : Bk.rapplied ⟨p, l⟩ ⟨2, sub, ps, ds, g, q⟩ = (leased l sub g).map fun l => ⟨p, l⟩ := by unfold Bk.rapplied; rw [if_pos ⟨hok, hr⟩, if_neg hk1, if_pos rfl]
            rw [hra] at h
            have mBo : ∀ L, (M1 ++ (.cells [.i .u64 p, Y] 0 none true :: L))[M1.length]? = some (.cells [.i .u64 p, Y] 0 none true) := fun L => by rw [at_app0]; rfl
            simp (maxSteps := 1000000) (disch := omega) only [m1o, mBo, hlY, at_app0, List.getElem?_cons_zero, go_sem, Option.map_none, Option.map_some, ↓reduceIte, Nat.reduceBEq, Nat.reduceAdd, Nat.reduceSub, Nat.reduceEqDiff, Nat.reduceLeDiff, Nat.reduceMul, Nat.reduceLT, Int.reduceLT, Int.reduceLE, Int.reduceAdd, Int.reduceSub, Int.reduceMul, Int.reduceNeg, Int.reduceEq, Int.reduceNe, Int.reduceToNat, decide_true, decide_false, iaddr_i, iaddr_sl_i, not_true_eq_false, not_false_eq_true, reduceCtorEq, ne_eq, forall_const, false_imp_iff, true_imp_iff, implies_true, Int.cast_ofNat_Int, Int.natCast_zero, Int.natCast_one, Int.add_zero, Int.zero_add]
            refine wp_loop (fun j e M dl => dl = [] ∧ ∃ (i : Nat), j = l.length - i ∧ i ≤ l.length ∧ (M1 ++ [.cells [.i .u64 p, Y] 0 none true]) <+: M ∧ (∀ n (hn : n < l.length), n < i → ¬ (l[n].pol.sub = sub ∧ l[n].granted ≤ g ∧ g ≤ l[n].pol.quota)) ∧
              e.get 2 = .p S.length 0 0 ∧ e.get 3 = .p (S.length + 1) 0 0 ∧ e.get 4 = .p (S.length + 2) 0 0 ∧ e.get 8 = .p M1.length 0 0 ∧ e.get 45 = Y ∧ e.get 46 = .i .i64 l.length ∧ e.get 47 = .i .i64 i) (j := l.length)
              ⟨rfl, 0, rfl, Nat.zero_le _, ext_refl, fun n _ hn => absurd hn (Nat.not_lt_zero _), rfl, rfl, rfl, rfl, rfl, rfl, rfl⟩ ?_
            rintro j e M d' ⟨rfl, i, rfl, hi, hpre, hno, e2, e3, e4, e8, e45, e46, e47⟩
            refine W_sound oRa_ok mixed _ _ _ _ _ ?_
            have hM1M : M1 <+: M := (ext_app _).trans hpre
            have n0 := at_pre hM1M m0
            have n1 := at_pre hM1M m1
            have n2 := at_pre hM1M m2
            have nB := at_pre hpre (by rw [at_app0]; rfl : (M1 ++ [Blk.cells [.i .u64 p, Y] 0 none true])[M1.length]? = some (.cells [.i .u64 p, Y] 0 none true))
            by_cases hil : i < l.length
            · rcases acc_cases hY with ⟨rfl, _⟩ | ⟨hne, b, v, hb, rfl, hBb⟩
              · exact absurd hil (Nat.not_lt_zero _)
              have hb3 : S.length + 3 ≤ b := by simpa using hb
              have hbl : b < M1.length := (List.getElem?_eq_some_iff.1 hBb).1
              have hrow := lstV_row (lst_ext hY.lst hM1M) hil []
              rw [List.append_nil, Nat.zero_add] at hrow
              have hrow : rowB (M[b]?) (i * 14) v 14 = some (entE.enc l[i]) := hrow
              have hiI : (i : Int) < l.length := by omega
              have hwi : wrapV .i64 ((i : Int) + 1) = ((i + 1 : Nat) : Int) := by have := hbf.1; simp only at this; rw [wrap_i64 (by omega) (by omega)]; omega
              have hNb := fun L => at_old (L := L) (at_pre hM1M hBb)
              have n0o := fun L => at_old (L := L) n0
              have n1o := fun L => at_old (L := L) n1
              have n2o := fun L => at_old (L := L) n2
              have nBo := fun L => at_old (L := L) nB
              have hcont : ¬ (l[i].pol.sub = sub ∧ l[i].granted ≤ g ∧ g ≤ l[i].pol.quota) → ∀ n (hn : n < l.length), n < i + 1 → ¬ (l[n].pol.sub = sub ∧ l[n].granted ≤ g ∧ g ≤ l[n].pol.quota) := fun hx n hn hni => by
                by_cases e : n = i
                · subst e; exact hx
                · exact hno n hn (by omega)
              have hnext : ∀ L : Mem, (M1 ++ [.cells [.i .u64 p, .sl b 0 v l.length l.length false] 0 none true]) <+: M ++ L := fun L => ext_more hpre L
              have hsp := splice_at (E := entE) l hil (l[i].grant g) (f := 13) (ys := [.i .u64 g]) (by simp [entE]) (by rfl)
              have hsp : (l.flatMap entE.enc).take (i * 14 + 13) ++ AV.i .u64 g :: (l.flatMap entE.enc).drop (i * 14 + 13 + 1) = (l.set i (l[i].grant g)).flatMap entE.enc := hsp
              have hle : i * 14 + 13 + 1 ≤ (l.flatMap entE.enc).length := by rw [enc_length]; show i * 14 + 13 + 1 ≤ l.length * 14; omega
              simp only [entE, Ent.enc] at hrow
              by_cases c1 : l[i].pol.sub = sub
              · by_cases c2 : l[i].granted ≤ g
                · by_cases c3 : g ≤ l[i].pol.quota
                  · rw [leased_hit hok hil c1 c2 c3] at h
                    cases h
                    have hMb := at_pre hM1M hBb
                    obtain ⟨M', hM'⟩ : ∃ M', M' = M.set b (.cells ((l.set i (l[i].grant g)).flatMap entE.enc) v (some entE.sz) true) := ⟨_, rfl⟩
                    have hSb := fun L B => set_old (L := L) (B' := B) hMb
                    have k2 : M'[S.length + 2]? = some (.cells [.i .u64 0, .sn] 0 none true) := by rw [hM', List.getElem?_set_ne (by omega)]; exact n2
                    have kB : M'[M1.length]? = some (.cells [.i .u64 p, .sl b 0 v l.length l.length false] 0 none true) := by rw [hM', List.getElem?_set_ne (by omega)]; exact nB
                    have kb : M'[b]? = some (.cells ((l.set i (l[i].grant g)).flatMap entE.enc) v (some entE.sz) true) := by rw [hM']; exact at_set hMb
                    have kS : S <+: M' := by rw [hM']; exact ext_set (hS4.trans hM1M) (by omega) _
                    have k2o := fun L => at_old (L := L) k2
                    have kBo := fun L => at_old (L := L) kB
                    have hS2 := fun L B => set_old (L := L) (B' := B) k2
                    have hfin := fun L B => at_old (L := L) (at_set (B' := B) k2)
                    simp (maxSteps := 1000000) (disch := omega) only [c14l1, e2, e3, e4, e8, e45, e46, e47, hiI, Int.toNat_natCast, hrow, List.replicate, n0o, n1o, nBo, c1, c2, c3, hNb, hle, hsp, hSb, ← hM', k2o, kBo, hS2, hfin, go_sem, Option.map_none, Option.map_some, ↓reduceIte, Nat.reduceBEq, Nat.reduceAdd, Nat.reduceSub, Nat.reduceEqDiff, Nat.reduceLeDiff, Nat.reduceMul, Nat.reduceLT, Int.reduceLT, Int.reduceLE, Int.reduceAdd, Int.reduceSub, Int.reduceMul, Int.reduceNeg, Int.reduceEq, Int.reduceNe, Int.reduceToNat, decide_true, decide_false, iaddr_i, iaddr_sl_i, not_true_eq_false, not_false_eq_true, reduceCtorEq, ne_eq, forall_const, false_imp_iff, true_imp_iff, implies_true, Int.cast_ofNat_Int, Int.natCast_zero, Int.natCast_one, Int.add_zero, Int.zero_add]
                    have hfinA : Acc true entE S (M'.set (S.length + 2) (.cells [.i .u64 p, .sl b 0 v l.length l.length false] 0 none true)) (.sl b 0 v l.length l.length false) (l.set i (l[i].grant g)) := by
                      have h0 := acc_mk (E := entE) (z := true) (l := l.set i (l[i].grant g)) (ext_set kS (show S.length ≤ S.length + 2 by omega) (.cells [.i .u64 p, .sl b 0 v l.length l.length false] 0 none true)) (b := b) (v := v) (by omega) (by intro e; apply hne; have := congrArg List.length e; rw [List.length_set] at this; exact List.eq_nil_of_length_eq_zero this) (by rw [List.getElem?_set_ne (by omega)]; exact kb)
                      rwa [List.length_set] at h0
                    exact (hfinA.grow _).retB entE_flat Flat_i Flat_i
                  · simp (maxSteps := 1000000) (disch := omega) only [c14l1, e2, e3, e4, e8, e45, e46, e47, hiI, Int.toNat_natCast, hrow, List.replicate, n0o, n1o, c1, c2, c3, hwi, go_sem, Option.map_none, Option.map_some, ↓reduceIte, Nat.reduceBEq, Nat.reduceAdd, Nat.reduceSub, Nat.reduceEqDiff, Nat.reduceLeDiff, Nat.reduceMul, Nat.reduceLT, Int.reduceLT, Int.reduceLE, Int.reduceAdd, Int.reduceSub, Int.reduceMul, Int.reduceNeg, Int.reduceEq, Int.reduceNe, Int.reduceToNat, decide_true, decide_false, iaddr_i, iaddr_sl_i, not_true_eq_false, not_false_eq_true, reduceCtorEq, ne_eq, forall_const, false_imp_iff, true_imp_iff, implies_true, Int.cast_ofNat_Int, Int.natCast_zero, Int.natCast_one, Int.add_zero, Int.zero_add]
                    exact ⟨l.length - (i + 1), by omega, i + 1, rfl, hil, hnext _, hcont fun z => c3 z.2.2, rfl⟩
                · simp (maxSteps := 1000000) (disch := omega) only [c14l1, e2, e3, e4, e8, e45, e46, e47, hiI, Int.toNat_natCast, hrow, List.replicate, n0o, n1o, c1, c2, hwi, go_sem, Option.map_none, Option.map_some, ↓reduceIte, Nat.reduceBEq, Nat.reduceAdd, Nat.reduceSub, Nat.reduceEqDiff, Nat.reduceLeDiff, Nat.reduceMul, Nat.reduceLT, Int.reduceLT, Int.reduceLE, Int.reduceAdd, Int.reduceSub, Int.reduceMul, Int.reduceNeg, Int.reduceEq, Int.reduceNe, Int.reduceToNat, decide_true, decide_false, iaddr_i, iaddr_sl_i, not_true_eq_false, not_false_eq_true, reduceCtorEq, ne_eq, forall_const, false_imp_iff, true_imp_iff, implies_true, Int.cast_ofNat_Int, Int.natCast_zero, Int.natCast_one, Int.add_zero, Int.zero_add]
                  exact ⟨l.length - (i + 1), by omega, i + 1, rfl, hil, hnext _, hcont fun z => c2 z.2.1, rfl⟩
              · simp (maxSteps := 1000000) (disch := omega) only [c14l1, e2, e3, e4, e8, e45, e46, e47, hiI, Int.toNat_natCast, hrow, List.replicate, n0o, n1o, c1, hwi, go_sem, Option.map_none, Option.map_some, ↓reduceIte, Nat.reduceBEq, Nat.reduceAdd, Nat.reduceSub, Nat.reduceEqDiff, Nat.reduceLeDiff, Nat.reduceMul, Nat.reduceLT, Int.reduceLT, Int.reduceLE, Int.reduceAdd, Int.reduceSub, Int.reduceMul, Int.reduceNeg, Int.reduceEq, Int.reduceNe, Int.reduceToNat, decide_true, decide_false, iaddr_i, iaddr_sl_i, not_true_eq_false, not_false_eq_true, reduceCtorEq, ne_eq, forall_const, false_imp_iff, true_imp_iff, implies_true, Int.cast_ofNat_Int, Int.natCast_zero, Int.natCast_one, Int.add_zero, Int.zero_add]
                exact ⟨l.length - (i + 1), by omega, i + 1, rfl, hil, hnext _, hcont fun z => c1 z.1, rfl⟩
            · have hiI : ¬ (i : Int) < l.length := by omega
              rw [leased_miss fun n hn => hno n hn (by omega)] at h
              cases h
              have hfin := at_set (B' := .cells [.i .u64 p, s] 0 none true) n2
              simp (maxSteps := 1000000) (disch := omega) only [c14l1, e2, e3, e4, e8, e45, e46, e47, hiI, n0, n2, hone, hfin, go_sem, Option.map_none, Option.map_some, ↓reduceIte, Nat.reduceBEq, Nat.reduceAdd, Nat.reduceSub, Nat.reduceEqDiff, Nat.reduceLeDiff, Nat.reduceMul, Nat.reduceLT, Int.reduceLT, Int.reduceLE, Int.reduceAdd, Int.reduceSub, Int.reduceMul, Int.reduceNeg, Int.reduceEq, Int.reduceNe, Int.reduceToNat, decide_true, decide_false, iaddr_i, iaddr_sl_i, not_true_eq_false, not_false_eq_true, reduceCtorEq, ne_eq, forall_const, false_imp_iff, true_imp_iff, implies_true, Int.cast_ofNat_Int, Int.natCast_zero, Int.natCast_one, Int.add_zero, Int.zero_add]
              exact wkv_dropP (herr _ (hS4.trans hM1M) n2) (hflat _)
          · have hk3 : k = 3 := by
              rcases hr with z | z | z
              · exact absurd z.1 hk1
              · exact absurd z.1 hk2
              · exact z.1
            subst hk3
            have hra : Bk.rapplied ⟨p, l⟩ ⟨3, sub, ps, ds, g, q⟩ = if q = p + 1 then some ⟨q, l.map (·.grant 0)⟩ else none := by unfold Bk.rapplied; rw [if_pos ⟨hok, hr⟩, if_neg hk1, if_neg hk2]
            rw [hra] at h
            have hp1 := hok.1
            have hp2 := hok.2.1
            simp only at hp1 hp2
            have hw : wrapV .u64 (p + 1) = p + 1 := wrap_u64 (by omega) (by omega)
            have mBo : ∀ L, (M1 ++ (.cells [.i .u64 p, Y] 0 none true :: L))[M1.length]? = some (.cells [.i .u64 p, Y] 0 none true) := fun L => by rw [at_app0]; rfl
            by_cases hq : q = p + 1
            · rw [if_pos hq] at h
              cases h
              simp (maxSteps := 1000000) (disch := omega) only [m0o, m1o, mBo, hlY, at_app0, List.getElem?_cons_zero, hk1, hw, hq, go_sem, Option.map_none, Option.map_some, ↓reduceIte, Nat.reduceBEq, Nat.reduceAdd, Nat.reduceSub, Nat.reduceEqDiff, Nat.reduceLeDiff, Nat.reduceMul, Nat.reduceLT, Int.reduceLT, Int.reduceLE, Int.reduceAdd, Int.reduceSub, Int.reduceMul, Int.reduceNeg, Int.reduceEq, Int.reduceNe, Int.reduceToNat, decide_true, decide_false, iaddr_i, iaddr_sl_i, not_true_eq_false, not_false_eq_true, reduceCtorEq, ne_eq, forall_const, false_imp_iff, true_imp_iff, implies_true, Int.cast_ofNat_Int, Int.natCast_zero, Int.natCast_one, Int.add_zero, Int.zero_add]
              rw [← hq]
              clear hw
              obtain ⟨S4, hS4e⟩ : ∃ S4, S4 = S ++ [Blk.cells [.i .u64 p, s] 0 none true, .cells [.i .i64 3, .i .i64 sub, xp, xd, .i .u64 g, .i .u64 q] 0 none true, .cells [.i .u64 0, .sn] 0 none true] := ⟨_, rfl⟩
              rw [← hS4e] at hY
              have hSS4 : S <+: S4 := by rw [hS4e]; exact ext_app _
              have hS4l : S4.length = S.length + 3 := by rw [hS4e]; simp
              have hlim := hbf.1
              simp only at hlim
              refine wp_loop (fun j e M dl => dl = [] ∧ ∃ (n : Nat), j = l.length - n ∧ n ≤ l.length ∧ M[M1.length]? = some (.cells [.i .u64 q, Y] 0 none true) ∧ M[S.length + 2]? = some (.cells [.i .u64 0, .sn] 0 none true) ∧ Acc true entE S4 M Y (zeroTo l n) ∧
                e.get 8 = .p M1.length 0 0 ∧ e.get 4 = .p (S.length + 2) 0 0 ∧ e.get 95 = .i .i64 l.length ∧ e.get 96 = .i .i64 n) (j := l.length)
                ⟨rfl, 0, rfl, Nat.zero_le _, by rw [at_app0]; rfl, m2o _, by rw [zeroTo_zero]; exact hY.grow _, rfl, rfl, rfl, rfl⟩ ?_
              rintro j e M d' ⟨rfl, n, rfl, hn, hB, hR, hA, e8, e4, e95, e96⟩
              refine W_sound oRa_ok mixed _ _ _ _ _ ?_
              have hz := zeroTo_len l n
              by_cases hnl : n < l.length
              · have hnI : (n : Int) < l.length := by omega
                rcases acc_cases hA with ⟨h0, _⟩ | ⟨hne, b, v, hb, hYe, hBb⟩
                · rw [h0] at hz; simp at hz; omega
                have hbne : b ≠ M1.length := fun e => by rw [e, hB] at hBb; injection hBb with hBb; injection hBb with _ _ h3 _; cases h3
                rw [hz] at hYe
                subst hYe
                have hw1 : wrapV .i64 ((n : Int) + 1) = ((n + 1 : Nat) : Int) := by rw [wrap_i64 (by omega) (by omega)]; omega
                have hsp := splice_at (E := entE) (zeroTo l n) (show n < (zeroTo l n).length by omega) (l[n].grant 0) (f := 13) (ys := [.i .u64 0]) (by simp [entE]) (by rw [zeroTo_at l hnl]; rfl)
                rw [zeroTo_succ l hnl] at hsp
                have hsp : ((zeroTo l n).flatMap entE.enc).take (n * 14 + 13) ++ AV.i .u64 0 :: ((zeroTo l n).flatMap entE.enc).drop (n * 14 + 13 + 1) = (zeroTo l (n + 1)).flatMap entE.enc := hsp
                have hle : n * 14 + 13 + 1 ≤ ((zeroTo l n).flatMap entE.enc).length := by rw [enc_length]; show n * 14 + 13 + 1 ≤ (zeroTo l n).length * 14; omega
                simp (maxSteps := 1000000) (disch := omega) only [c14l2, e8, e4, e95, e96, hnI, hB, Int.toNat_natCast, hBb, hle, hsp, hw1, go_sem, Option.map_none, Option.map_some, ↓reduceIte, Nat.reduceBEq, Nat.reduceAdd, Nat.reduceSub, Nat.reduceEqDiff, Nat.reduceLeDiff, Nat.reduceMul, Nat.reduceLT, Int.reduceLT, Int.reduceLE, Int.reduceAdd, Int.reduceSub, Int.reduceMul, Int.reduceNeg, Int.reduceEq, Int.reduceNe, Int.reduceToNat, decide_true, decide_false, iaddr_i, iaddr_sl_i, not_true_eq_false, not_false_eq_true, reduceCtorEq, ne_eq, forall_const, false_imp_iff, true_imp_iff, implies_true, Int.cast_ofNat_Int, Int.natCast_zero, Int.natCast_one, Int.add_zero, Int.zero_add]
                refine ⟨l.length - (n + 1), by omega, n + 1, rfl, hnl, by rw [List.getElem?_set_ne hbne]; exact hB, by rw [List.getElem?_set_ne (by omega)]; exact hR, ?_, rfl⟩
                have h0 := acc_mk (E := entE) (z := true) (l := zeroTo l (n + 1)) (ext_set hA.ext hb (.cells ((zeroTo l (n + 1)).flatMap entE.enc) v (some entE.sz) true)) (b := b) (v := v) hb (by intro e; have := congrArg List.length e; rw [zeroTo_len, List.length_nil] at this; omega) (at_set hBb)
                rwa [zeroTo_len] at h0
              · have hnI : ¬ (n : Int) < l.length := by omega
                obtain rfl : n = l.length := by omega
                rw [zeroTo_all] at hA
                have hfin := at_set (B' := .cells [.i .u64 q, Y] 0 none true) hR
                simp (maxSteps := 1000000) (disch := omega) only [c14l2, e8, e4, e95, e96, hnI, hB, hR, lst_one hA.lst, hfin, go_sem, Option.map_none, Option.map_some, ↓reduceIte, Nat.reduceBEq, Nat.reduceAdd, Nat.reduceSub, Nat.reduceEqDiff, Nat.reduceLeDiff, Nat.reduceMul, Nat.reduceLT, Int.reduceLT, Int.reduceLE, Int.reduceAdd, Int.reduceSub, Int.reduceMul, Int.reduceNeg, Int.reduceEq, Int.reduceNe, Int.reduceToNat, decide_true, decide_false, iaddr_i, iaddr_sl_i, not_true_eq_false, not_false_eq_true, reduceCtorEq, ne_eq, forall_const, false_imp_iff, true_imp_iff, implies_true, Int.cast_ofNat_Int, Int.natCast_zero, Int.natCast_one, Int.add_zero, Int.zero_add]
                exact ((hA.base hSS4).setC (by omega) hR rfl (by simp) _).retB entE_flat Flat_i Flat_i
            · rw [if_neg hq] at h
              cases h
              have hS := fun L B => set_old (L := L) (B' := B) m2
              have hfin := fun L B => at_old (L := L) (at_set (B' := B) m2)
              simp (maxSteps := 1000000) (disch := omega) only [m0o, m1o, m2o, mBo, hlY, at_app0, List.getElem?_cons_zero, hk1, hw, hq, hone, hS, hfin, go_sem, Option.map_none, Option.map_some, ↓reduceIte, Nat.reduceBEq, Nat.reduceAdd, Nat.reduceSub, Nat.reduceEqDiff, Nat.reduceLeDiff, Nat.reduceMul, Nat.reduceLT, Int.reduceLT, Int.reduceLE, Int.reduceAdd, Int.reduceSub, Int.reduceMul, Int.reduceNeg, Int.reduceEq, Int.reduceNe, Int.reduceToNat, decide_true, decide_false, iaddr_i, iaddr_sl_i, not_true_eq_false, not_false_eq_true, reduceCtorEq, ne_eq, forall_const, false_imp_iff, true_imp_iff, implies_true, Int.cast_ofNat_Int, Int.natCast_zero, Int.natCast_one, Int.add_zero, Int.zero_add]
              exact wkv_dropP (ext_more (herr _ hS4 m2) _) (hflat _)
      · cases h
    · cases h
  · cases h
end Go.Proofs.Ytapgkaecamljbaa

namespace Go.Proofs.Ytapgkaecamljbaa
open Go.RowKit
set_option linter.unusedSimpArgs false
set_option linter.unusedVariables false
set_option maxRecDepth 10000

/-- No subscriber twice. -/
def Once (l : List Ent) : Prop := l.Pairwise fun a b => a.pol.sub ≠ b.pol.sub
def Rises (l : List Ent) : Prop := l.Pairwise fun a b => a.pol.sub < b.pol.sub
abbrev ofSub (l : List Ent) (id : Int) : Option Ent := l.find? (hasSub id)
theorem ofSub_some {l : List Ent} {id : Int} {x : Ent} (h : ofSub l id = some x) : x ∈ l ∧ x.pol.sub = id :=
  ⟨List.mem_of_find?_eq_some h, by have := List.find?_some h; simpa [hasSub] using this⟩
theorem ofSub_mem {l : List Ent} (ho : Once l) {x : Ent} (hx : x ∈ l) : ofSub l x.pol.sub = some x := by
  induction l with
  | nil => cases hx
  | cons a l ih =>
    obtain ⟨h1, h2⟩ := List.pairwise_cons.1 ho
    rcases List.mem_cons.1 hx with rfl | hx
    · simp [ofSub, hasSub]
    · have := h1 x hx
      simp only [ofSub, List.find?_cons]
      have hf : hasSub x.pol.sub a = false := by simpa [hasSub] using this
      rw [hf]
      exact ih h2 hx
theorem ofSub_iff {l : List Ent} (ho : Once l) {id : Int} {x : Ent} : ofSub l id = some x ↔ x ∈ l ∧ x.pol.sub = id :=
  ⟨ofSub_some, fun ⟨h1, h2⟩ => h2 ▸ ofSub_mem ho h1⟩
theorem Rises.once {l : List Ent} (h : Rises l) : Once l := h.imp fun h => Int.ne_of_lt h
theorem rises_ext : ∀ {l m : List Ent}, Rises l → Rises m → (∀ x, x ∈ l ↔ x ∈ m) → l = m
  | [], [], _, _, _ => rfl
  | [], b :: m, _, _, h => absurd ((h b).2 (by simp)) (by simp)
  | a :: l, [], _, _, h => absurd ((h a).1 (by simp)) (by simp)
  | a :: l, b :: m, h1, h2, h => by
    obtain ⟨a1, a2⟩ := List.pairwise_cons.1 h1
    obtain ⟨b1, b2⟩ := List.pairwise_cons.1 h2
    have hab : a = b := by
      rcases List.mem_cons.1 ((h a).1 (by simp)) with e | ha
      · exact e
      · rcases List.mem_cons.1 ((h b).2 (by simp)) with e | hb
        · exact e.symm
        · have := b1 a ha; have := a1 b hb; omega
    subst hab
    rw [rises_ext a2 b2 fun x => ?_]
    constructor
    · intro hx
      rcases List.mem_cons.1 ((h x).1 (by simp [hx])) with e | hm
      · have := a1 x hx; rw [e] at this; omega
      · exact hm
    · intro hx
      rcases List.mem_cons.1 ((h x).2 (by simp [hx])) with e | hm
      · have := b1 x hx; rw [e] at this; omega
      · exact hm
/-- All that subscribers have, in their order. -/
theorem mem_range_look {f : Int → Option Ent} (hf : ∀ id x, f id = some x → x.pol.sub = id) {k : Nat} {x : Ent} : x ∈ (List.range k).filterMap (fun i : Nat => f ((i : Int) + 1)) ↔ f x.pol.sub = some x ∧ 1 ≤ x.pol.sub ∧ x.pol.sub ≤ k := by
  constructor
  · intro h
    obtain ⟨i, hi, he⟩ := List.mem_filterMap.1 h
    have hs := hf _ _ he
    have := List.mem_range.1 hi
    exact ⟨by rw [hs]; exact he, by omega, by omega⟩
  · rintro ⟨h1, h2, h3⟩
    refine List.mem_filterMap.2 ⟨(x.pol.sub - 1).toNat, List.mem_range.2 (by omega), ?_⟩
    rw [show (((x.pol.sub - 1).toNat : Nat) : Int) + 1 = x.pol.sub by omega]; exact h1
theorem rises_range {f : Int → Option Ent} (hf : ∀ id x, f id = some x → x.pol.sub = id) : ∀ k : Nat, Rises ((List.range k).filterMap (fun i : Nat => f ((i : Int) + 1)))
  | 0 => by simp [Rises]
  | k + 1 => by
    rw [List.range_succ, List.filterMap_append]
    refine List.pairwise_append.2 ⟨rises_range hf k, ?_, fun a ha b hb => ?_⟩
    · simp only [List.filterMap_cons, List.filterMap_nil]
      cases f ((k : Int) + 1) <;> simp
    · have h1 := (mem_range_look hf).1 ha
      simp only [List.filterMap_cons, List.filterMap_nil] at hb
      cases he : f ((k : Int) + 1) with
      | none => rw [he] at hb; cases hb
      | some c =>
        rw [he] at hb
        have hbc := List.mem_singleton.1 hb
        have := hf _ _ he
        rw [hbc]; omega
theorem refOne_sub {old : List Ent} {e : Evt} (id : Int) (x : Ent) (h : refOne old e id = some x) : x.pol.sub = id := by
  unfold refOne at h
  split at h
  · cases h
  · split at h
    · rename_i y p h1 h2
      cases h
      have := List.find?_some h2
      simpa [subIsP] using this
    · rename_i y h1 h2; cases h; exact (ofSub_some h1).2
    · rename_i p h1 h2
      cases h
      have := List.find?_some h2
      simpa [subIsP] using this
    · cases h
/-- Whatever is sorted, and has what subscribers have, is the document's answer. -/
theorem sorted_ref {old d : List Ent} {e : Evt} (hd : Rises d) (hr : ∀ x ∈ d, 1 ≤ x.pol.sub ∧ x.pol.sub ≤ 255) (hl : ∀ id, 1 ≤ id → id ≤ 255 → ofSub d id = refOne old e id) : d = refEnts old e 255 := by
  refine rises_ext hd (rises_range refOne_sub 255) fun x => ?_
  show x ∈ d ↔ x ∈ (List.range 255).filterMap (fun i : Nat => refOne old e ((i : Int) + 1))
  rw [mem_range_look refOne_sub]
  constructor
  · intro hx
    obtain ⟨h1, h2⟩ := hr x hx
    exact ⟨by rw [← hl _ h1 h2]; exact ofSub_mem hd.once hx, h1, by omega⟩
  · rintro ⟨h1, h2, h3⟩
    rw [← hl _ h2 (by omega)] at h1
    exact (ofSub_some h1).1

/-! ### The program's way: one by one -/
theorem once_none {a : List Ent} {id : Int} (h : ∀ y ∈ a, y.pol.sub ≠ id) : ofSub a id = none := by
  rw [ofSub, List.find?_eq_none]
  intro y hy
  simpa [hasSub] using h y hy
theorem ofSub_app (a b : List Ent) (id : Int) : ofSub (a ++ b) id = (ofSub a id).or (ofSub b id) := by
  simp [ofSub, List.find?_append]
theorem ofSub_cons (x : Ent) (b : List Ent) (id : Int) : ofSub (x :: b) id = if x.pol.sub = id then some x else ofSub b id := by
  simp only [ofSub, List.find?_cons, hasSub]
  by_cases h : x.pol.sub = id <;> simp [h]
theorem once_mid {a b : List Ent} {x : Ent} (h : Once (a ++ x :: b)) : Once (a ++ b) ∧ (∀ y ∈ a, y.pol.sub ≠ x.pol.sub) ∧ (∀ y ∈ b, y.pol.sub ≠ x.pol.sub) := by
  obtain ⟨h1, h2, h3⟩ := List.pairwise_append.1 h
  obtain ⟨h4, h5⟩ := List.pairwise_cons.1 h2
  exact ⟨List.pairwise_append.2 ⟨h1, h5, fun y hy z hz => h3 y hy z (by simp [hz])⟩, fun y hy => h3 y hy x (by simp), fun y hy => (h4 y hy).symm⟩
theorem ofSub_erase {a b : List Ent} {x : Ent} (h : Once (a ++ x :: b)) (id : Int) : ofSub (a ++ b) id = if id = x.pol.sub then none else ofSub (a ++ x :: b) id := by
  obtain ⟨_, h1, h2⟩ := once_mid h
  rw [ofSub_app, ofSub_app, ofSub_cons]
  by_cases e : id = x.pol.sub
  · subst e
    rw [if_pos rfl, once_none h1, once_none h2]; rfl
  · rw [if_neg e, if_neg (Ne.symm e)]
theorem ofSub_set {a b : List Ent} {x y : Ent} (h : Once (a ++ x :: b)) (hy : y.pol.sub = x.pol.sub) (id : Int) : ofSub (a ++ y :: b) id = if id = x.pol.sub then some y else ofSub (a ++ x :: b) id := by
  obtain ⟨_, h1, h2⟩ := once_mid h
  rw [ofSub_app, ofSub_app, ofSub_cons, ofSub_cons, hy]
  by_cases e : id = x.pol.sub
  · subst e
    rw [if_pos rfl, if_pos rfl, once_none h1]; rfl
  · rw [if_neg e, if_neg (Ne.symm e), if_neg (Ne.symm e)]
theorem once_set {a b : List Ent} {x y : Ent} (h : Once (a ++ x :: b)) (hy : y.pol.sub = x.pol.sub) : Once (a ++ y :: b) := by
  obtain ⟨h0, h1, h2⟩ := once_mid h
  obtain ⟨g1, g2, g3⟩ := List.pairwise_append.1 h0
  refine List.pairwise_append.2 ⟨g1, List.pairwise_cons.2 ⟨fun z hz => by rw [hy]; exact (h2 z hz).symm, g2⟩, fun z hz w hw => ?_⟩
  rcases List.mem_cons.1 hw with rfl | hw
  · rw [hy]; exact h1 z hz
  · exact g3 z hz w hw
theorem ofSub_push {a : List Ent} {y : Ent} (h : ofSub a y.pol.sub = none) (id : Int) : ofSub (a ++ [y]) id = if id = y.pol.sub then some y else ofSub a id := by
  rw [ofSub_app, ofSub_cons]
  by_cases e : id = y.pol.sub
  · subst e
    rw [if_pos rfl, if_pos rfl, h]; rfl
  · rw [if_neg e, if_neg (Ne.symm e)]
    cases ofSub a id <;> rfl
theorem once_push {a : List Ent} {y : Ent} (ho : Once a) (h : ofSub a y.pol.sub = none) : Once (a ++ [y]) := by
  refine List.pairwise_append.2 ⟨ho, List.pairwise_singleton _ _, fun z hz w hw => ?_⟩
  rw [List.mem_singleton.1 hw]
  intro e
  have := ofSub_mem ho hz
  rw [e, h] at this
  cases this
/-- Where a subscriber's entry lies. -/
theorem split_sub {l : List Ent} {id : Int} {k : Nat} (h : l.findIdx? (hasSub id) = some k) : ∃ a x b, l = a ++ x :: b ∧ a.length = k ∧ x.pol.sub = id ∧ ofSub l id = some x := by
  obtain ⟨hk, hs, hb⟩ := List.findIdx?_eq_some_iff_getElem.1 h
  refine ⟨l.take k, l[k], l.drop (k + 1), by rw [← List.drop_eq_getElem_cons hk, List.take_append_drop], by rw [List.length_take]; omega, by simpa [hasSub] using hs, ?_⟩
  rw [ofSub, find_of_idx, h]
  exact List.getElem?_eq_getElem hk
theorem no_sub {l : List Ent} {id : Int} (h : l.findIdx? (hasSub id) = none) : ofSub l id = none := by
  rw [ofSub, find_of_idx, h]
def dropAll : List Int → List Ent → Option (List Ent)
  | [], l => some l
  | id :: ds, l => match l.findIdx? (hasSub id) with
    | some k => dropAll ds (l.eraseIdx k)
    | none => none
def putAll : List Pol → List Ent → List Ent
  | [], l => l
  | p :: ps, l => match l.findIdx? (hasSub p.sub) with
    | some k => putAll ps (l.set k ⟨p, (l.getD k noEnt).granted⟩)
    | none => putAll ps (l ++ [⟨p, 0⟩])
theorem erase_mid (a b : List Ent) (x : Ent) : (a ++ x :: b).eraseIdx a.length = a ++ b := by
  rw [List.eraseIdx_append_of_length_le (Nat.le_refl _), Nat.sub_self]; rfl
theorem set_mid (a b : List Ent) (x y : Ent) : (a ++ x :: b).set a.length y = a ++ y :: b := by
  rw [List.set_append_right _ _ (Nat.le_refl _), Nat.sub_self]; rfl
theorem getD_mid (a b : List Ent) (x d : Ent) : (a ++ x :: b).getD a.length d = x := by
  rw [List.getD_eq_getElem?_getD, List.getElem?_append_right (Nat.le_refl _), Nat.sub_self]; rfl
theorem dropAll_ok : ∀ (ds : List Int) (l : List Ent), ds.Nodup → Once l → match dropAll ds l with
    | some l' => Once l' ∧ (∀ id, ofSub l' id = if id ∈ ds then none else ofSub l id) ∧ (∀ id ∈ ds, ofSub l id ≠ none) ∧ (∀ x ∈ l', x ∈ l)
    | none => ∃ id ∈ ds, ofSub l id = none
  | [], l, _, ho => ⟨ho, fun id => by simp, by simp, fun x hx => hx⟩
  | id :: ds, l, hn, ho => by
    obtain ⟨hn1, hn2⟩ := List.nodup_cons.1 hn
    simp only [dropAll]
    cases hi : l.findIdx? (hasSub id) with
    | none => exact ⟨id, by simp, no_sub hi⟩
    | some k =>
      obtain ⟨a, x, b, rfl, rfl, hx, hf⟩ := split_sub hi
      simp only
      rw [erase_mid]
      have ho' := (once_mid ho).1
      have hl := ofSub_erase ho
      have ih := dropAll_ok ds (a ++ b) hn2 ho'
      cases hd : dropAll ds (a ++ b) with
      | none =>
        rw [hd] at ih
        obtain ⟨i, hi1, hi2⟩ := ih
        refine ⟨i, by simp [hi1], ?_⟩
        rw [hl, if_neg (fun e => hn1 (by rw [← hx, ← e]; exact hi1))] at hi2
        exact hi2
      | some l' =>
        rw [hd] at ih
        obtain ⟨i1, i2, i3, i4⟩ := ih
        refine ⟨i1, fun j => ?_, fun j hj => ?_, fun y hy => ?_⟩
        · rw [i2, hl]
          by_cases e : j = id
          · subst e; rw [hx]; simp
          · rw [hx, if_neg e]
            by_cases e2 : j ∈ ds <;> simp [e, e2]
        · rcases List.mem_cons.1 hj with rfl | hj
          · rw [hf]; simp
          · have := i3 j hj
            rw [hl, if_neg (fun e => hn1 (by rw [← hx, ← e]; exact hj))] at this
            exact this
        · rcases List.mem_append.1 (i4 y hy) with h | h
          · simp [h]
          · simp [h]
theorem putAll_ok : ∀ (ps : List Pol) (l : List Ent), (ps.Pairwise fun p q => p.sub ≠ q.sub) → Once l → Once (putAll ps l) ∧
    ∀ id, ofSub (putAll ps l) id = match ps.find? (subIsP id) with
      | some p => some ⟨p, match ofSub l id with | some x => x.granted | none => 0⟩
      | none => ofSub l id
  | [], l, _, ho => ⟨ho, fun id => rfl⟩
  | p :: ps, l, hn, ho => by
    obtain ⟨hn1, hn2⟩ := List.pairwise_cons.1 hn
    have hps : ps.find? (subIsP p.sub) = none := by
      rw [List.find?_eq_none]; intro q hq
      have := hn1 q hq
      simp only [subIsP, decide_eq_true_eq]
      exact fun e => this e.symm
    simp only [putAll]
    cases hi : l.findIdx? (hasSub p.sub) with
    | none =>
      have h0 := no_sub hi
      have h0' : ofSub l (Ent.mk p 0).pol.sub = none := h0
      obtain ⟨i1, i2⟩ := putAll_ok ps (l ++ [⟨p, 0⟩]) hn2 (once_push ho h0')
      refine ⟨i1, fun id => ?_⟩
      simp only
      rw [i2, ofSub_push h0', List.find?_cons]
      by_cases e : id = p.sub
      · subst e
        rw [hps]
        simp [subIsP, h0]
      · have e' : ¬ p.sub = id := fun z => e z.symm
        have hf : subIsP id p = false := by simp [subIsP, e']
        rw [hf, if_neg e]
    | some k =>
      obtain ⟨a, x, b, rfl, rfl, hx, hf⟩ := split_sub hi
      simp only
      rw [set_mid, getD_mid]
      have hy : (Ent.mk p x.granted).pol.sub = x.pol.sub := hx.symm
      obtain ⟨i1, i2⟩ := putAll_ok ps (a ++ ⟨p, x.granted⟩ :: b) hn2 (once_set ho hy)
      refine ⟨i1, fun id => ?_⟩
      rw [i2, ofSub_set ho hy, List.find?_cons]
      by_cases e : id = p.sub
      · subst e
        rw [hps, hx, if_pos rfl, hf]
        simp [subIsP]
      · have e' : ¬ p.sub = id := fun z => e z.symm
        have hff : subIsP id p = false := by simp [subIsP, e']
        rw [hff, hx, if_neg e]

/-! ### The program's commit is the document's -/
theorem ok_once {p : Int} {l : List Ent} (ho : (Bk.mk p l).ok) : Once l := by
  refine List.pairwise_iff_getElem.2 fun i j hi hj hij => ?_
  have := sub_lt ho hj hij
  omega
theorem ok_range {p : Int} {l : List Ent} (ho : (Bk.mk p l).ok) : ∀ x ∈ l, 1 ≤ x.pol.sub ∧ x.pol.sub ≤ 255 := by
  intro x hx
  obtain ⟨i, hi, rfl⟩ := List.getElem_of_mem hx
  have := (ho.2.2.1.2 i (by unfold polsOf; simpa using hi) (by unfold polsOf; simpa using hi)).1
  have h1 : l[i].pol.right := by simpa [polsOf] using this
  exact ⟨h1.1, h1.2.1⟩
theorem pols_once {ps : List Pol} (h : Pols ps) : ps.Pairwise fun p q => p.sub ≠ q.sub := by
  refine List.pairwise_iff_getElem.2 fun i j hi hj hij => ?_
  have := ((h.2 j hj hj).2 i hij).1
  omega
theorem pols_range {ps : List Pol} (h : Pols ps) : ∀ p ∈ ps, 1 ≤ p.sub ∧ p.sub ≤ 255 := by
  intro p hp
  obtain ⟨i, hi, rfl⟩ := List.getElem_of_mem hp
  have := (h.2 i hi hi).1
  exact ⟨this.1, this.2.1⟩
theorem rise_lt {ds : List Int} (h : riseTo ds ds.length) : ∀ j (hj : j < ds.length) i (hi : i < j), ds[i] < ds[j]
  | j + 1, hj, i, hi => by
    have h1 := (h (j + 1) hj hj).2 (by omega)
    simp only [Nat.add_sub_cancel] at h1
    by_cases e : i = j
    · subst e; exact h1
    · have := rise_lt h j (by omega) i (by omega); omega
theorem rise_nodup {ds : List Int} (h : riseTo ds ds.length) : ds.Nodup := by
  refine List.pairwise_iff_getElem.2 fun i j hi hj hij => ?_
  have := rise_lt h j hj i hij
  omega
theorem rise_range {ds : List Int} (h : riseTo ds ds.length) : ∀ d ∈ ds, 1 ≤ d ∧ d ≤ 255 := by
  intro d hd
  obtain ⟨i, hi, rfl⟩ := List.getElem_of_mem hd
  exact (h i hi hi).1
theorem commit_none {p : Int} {l : List Ent} {ps : List Pol} {ds : List Int} (ho : (Bk.mk p l).ok) (hr : Evt.right ⟨1, 0, ps, ds, 0, 0⟩) (h : dropAll ds l = none) : ∃ i : Nat, i < 255 ∧ refBad l ⟨1, 0, ps, ds, 0, 0⟩ ((i : Int) + 1) := by
  have hri := (right1.1 hr).2.2.2.2.2.1
  have := dropAll_ok ds l (rise_nodup hri) (ok_once ho)
  rw [h] at this
  obtain ⟨id, hid, hn⟩ := this
  have hrg := rise_range hri id hid
  refine ⟨(id - 1).toNat, by omega, ?_⟩
  rw [show (((id - 1).toNat : Nat) : Int) + 1 = id by omega]
  exact ⟨hid, hn⟩
theorem commit_some {p : Int} {l l1 d : List Ent} {ps : List Pol} {ds : List Int} (ho : (Bk.mk p l).ok) (hr : Evt.right ⟨1, 0, ps, ds, 0, 0⟩) (h : dropAll ds l = some l1) (hd : Rises d) (hm : ∀ x, x ∈ d ↔ x ∈ putAll ps l1) :
    (¬ ∃ i : Nat, i < 255 ∧ refBad l ⟨1, 0, ps, ds, 0, 0⟩ ((i : Int) + 1)) ∧ d = refEnts l ⟨1, 0, ps, ds, 0, 0⟩ 255 := by
  obtain ⟨_, _, _, _, hP, hri, hnd, _⟩ := right1.1 hr
  have hda := dropAll_ok ds l (rise_nodup hri) (ok_once ho)
  rw [h] at hda
  obtain ⟨o1, o2, o3, o4⟩ := hda
  obtain ⟨q1, q2⟩ := putAll_ok ps l1 (pols_once hP) o1
  refine ⟨?_, sorted_ref hd (fun x hx => ?_) fun id _ _ => ?_⟩
  · rintro ⟨i, _, hb1, hb2⟩
    exact o3 _ hb1 hb2
  · have hx := (hm x).1 hx
    have hl := ofSub_mem q1 hx
    rw [q2] at hl
    split at hl
    · rename_i pp hf
      have h1 := List.mem_of_find?_eq_some hf
      have h2 := List.find?_some hf
      have h3 : pp.sub = x.pol.sub := by simpa [subIsP] using h2
      rw [← h3]; exact pols_range hP pp h1
    · exact ok_range ho x (o4 x (ofSub_some hl).1)
  · have hdo := hd.once
    have e1 : ofSub d id = ofSub (putAll ps l1) id := by
      cases hx : ofSub (putAll ps l1) id with
      | some x => exact (ofSub_iff hdo).2 ⟨(hm x).2 (ofSub_some hx).1, (ofSub_some hx).2⟩
      | none =>
        cases hy : ofSub d id with
        | none => rfl
        | some y =>
          have := (ofSub_iff q1).2 ⟨(hm y).1 (ofSub_some hy).1, (ofSub_some hy).2⟩
          rw [hx] at this; cases this
    rw [e1, q2]
    unfold refOne
    by_cases hds : id ∈ ds
    · have hno : ps.find? (subIsP id) = none := by
        rw [List.find?_eq_none]; intro q hq
        simp only [subIsP, decide_eq_true_eq]
        exact fun e => hnd q hq (by rw [e]; exact hds)
      rw [hno, o2, if_pos hds, if_pos hds]
    · rw [if_neg hds, o2, if_neg hds]
      show _ = match ofSub l id, ps.find? (subIsP id) with
        | some x, some p => some (⟨p, x.granted⟩ : Ent)
        | some x, none => some x
        | none, some p => some ⟨p, 0⟩
        | none, none => none
      cases ps.find? (subIsP id) <;> cases ofSub l id <;> rfl
end Go.Proofs.Ytapgkaecamljbaa

namespace Go.Proofs.Ytapgkaecamljbaa
open Go.RowKit
set_option linter.unusedSimpArgs false
set_option linter.unusedVariables false
set_option maxRecDepth 10000

def nanS : Spec := fun args S => match args with
  | [.i .i64 n] => some (.b false, S)
  | _ => none
theorem nan_ok : SpecOK Try.prog 80 nanS := by
  intro args S x S' h
  simp only [nanS] at h
  split at h
  · cases h
    refine fn_of_wp f80 rfl (W_sound none_ok mixed _ _ _ _ _ ?_)
    simp (maxSteps := 1000000) (disch := omega) only [c80, go_sem, Option.map_none, Option.map_some, ↓reduceIte, Nat.reduceBEq, Nat.reduceAdd, Nat.reduceSub, Nat.reduceEqDiff, Nat.reduceLeDiff, Nat.reduceMul, Nat.reduceLT, Int.reduceLT, Int.reduceLE, Int.reduceAdd, Int.reduceSub, Int.reduceMul, Int.reduceNeg, Int.reduceEq, Int.reduceNe, Int.reduceToNat, decide_true, decide_false, iaddr_i, iaddr_sl_i, not_true_eq_false, not_false_eq_true, reduceCtorEq, ne_eq, forall_const, false_imp_iff, true_imp_iff, implies_true, Int.cast_ofNat_Int, Int.natCast_zero, Int.natCast_one, Int.add_zero, Int.zero_add]
    first | exact wkv_same | simpa using wkv_same
  · cases h
def cmpI (a b : Int) : Int := if a < b then -1 else if b < a then 1 else 0
def cmpS : Spec := fun args S => match args with
  | [.i .i64 a, .i .i64 b] => some (.i .i64 (cmpI a b), S)
  | _ => none
theorem oCmp_ok : OK Try.prog (lamOf Try.prog) (orcOf [(80, nanS)]) := orc_ok (by simpa using nan_ok)
theorem cmp_ok : SpecOK Try.prog 56 cmpS := by
  intro args S x S' h
  simp only [cmpS] at h
  split at h
  · rename_i a b
    cases h
    refine fn_of_wp f56 rfl (W_sound oCmp_ok mixed _ _ _ _ _ ?_)
    unfold cmpI
    by_cases h1 : a < b
    · simp (maxSteps := 1000000) (disch := omega) only [c56, orc_cons, nanS, h1, go_sem, Option.map_none, Option.map_some, ↓reduceIte, Nat.reduceBEq, Nat.reduceAdd, Nat.reduceSub, Nat.reduceEqDiff, Nat.reduceLeDiff, Nat.reduceMul, Nat.reduceLT, Int.reduceLT, Int.reduceLE, Int.reduceAdd, Int.reduceSub, Int.reduceMul, Int.reduceNeg, Int.reduceEq, Int.reduceNe, Int.reduceToNat, decide_true, decide_false, iaddr_i, iaddr_sl_i, not_true_eq_false, not_false_eq_true, reduceCtorEq, ne_eq, forall_const, false_imp_iff, true_imp_iff, implies_true, Int.cast_ofNat_Int, Int.natCast_zero, Int.natCast_one, Int.add_zero, Int.zero_add]
      exact wkv_same
    · by_cases h2 : b < a
      · simp (maxSteps := 1000000) (disch := omega) only [c56, orc_cons, nanS, h1, h2, go_sem, Option.map_none, Option.map_some, ↓reduceIte, Nat.reduceBEq, Nat.reduceAdd, Nat.reduceSub, Nat.reduceEqDiff, Nat.reduceLeDiff, Nat.reduceMul, Nat.reduceLT, Int.reduceLT, Int.reduceLE, Int.reduceAdd, Int.reduceSub, Int.reduceMul, Int.reduceNeg, Int.reduceEq, Int.reduceNe, Int.reduceToNat, decide_true, decide_false, iaddr_i, iaddr_sl_i, not_true_eq_false, not_false_eq_true, reduceCtorEq, ne_eq, forall_const, false_imp_iff, true_imp_iff, implies_true, Int.cast_ofNat_Int, Int.natCast_zero, Int.natCast_one, Int.add_zero, Int.zero_add]
        exact wkv_same
      · simp (maxSteps := 1000000) (disch := omega) only [c56, orc_cons, nanS, h1, h2, go_sem, Option.map_none, Option.map_some, ↓reduceIte, Nat.reduceBEq, Nat.reduceAdd, Nat.reduceSub, Nat.reduceEqDiff, Nat.reduceLeDiff, Nat.reduceMul, Nat.reduceLT, Int.reduceLT, Int.reduceLE, Int.reduceAdd, Int.reduceSub, Int.reduceMul, Int.reduceNeg, Int.reduceEq, Int.reduceNe, Int.reduceToNat, decide_true, decide_false, iaddr_i, iaddr_sl_i, not_true_eq_false, not_false_eq_true, reduceCtorEq, ne_eq, forall_const, false_imp_iff, true_imp_iff, implies_true, Int.cast_ofNat_Int, Int.natCast_zero, Int.natCast_one, Int.add_zero, Int.zero_add]
        exact wkv_same
  · cases h
/-- The comparer of book.commit. -/
def cmpES : Spec := fun args S => match args with
  | [.ag ca, .ag cb] => match entE.dec ca, entE.dec cb with
    | some a, some b => some (.i .i64 (cmpI a.pol.sub b.pol.sub), S)
    | _, _ => none
  | _ => none
theorem oCmE_ok : OK Try.prog (lamOf Try.prog) (orcOf [(56, cmpS)]) := orc_ok (by simpa using cmp_ok)
theorem cmpE_ok : SpecOK Try.prog 55 cmpES := by
  intro args S x S' h
  simp only [cmpES] at h
  split at h
  · rename_i ca cb
    split at h
    · rename_i a b ha hb
      obtain rfl := entE.ed _ _ ha
      obtain rfl := entE.ed _ _ hb
      cases h
      refine fn_of_wp f55 rfl (W_sound oCmE_ok mixed _ _ _ _ _ ?_)
      simp (maxSteps := 1000000) (disch := omega) only [c55, entE, Ent.enc, orc_cons, cmpS, go_sem, Option.map_none, Option.map_some, ↓reduceIte, Nat.reduceBEq, Nat.reduceAdd, Nat.reduceSub, Nat.reduceEqDiff, Nat.reduceLeDiff, Nat.reduceMul, Nat.reduceLT, Int.reduceLT, Int.reduceLE, Int.reduceAdd, Int.reduceSub, Int.reduceMul, Int.reduceNeg, Int.reduceEq, Int.reduceNe, Int.reduceToNat, decide_true, decide_false, iaddr_i, iaddr_sl_i, not_true_eq_false, not_false_eq_true, reduceCtorEq, ne_eq, forall_const, false_imp_iff, true_imp_iff, implies_true, Int.cast_ofNat_Int, Int.natCast_zero, Int.natCast_one, Int.add_zero, Int.zero_add]
      exact wkv_drop rfl
    · cases h
  · cases h
end Go.Proofs.Ytapgkaecamljbaa

namespace Go.Proofs.Ytapgkaecamljbaa
open Go.RowKit
set_option linter.unusedSimpArgs false
set_option linter.unusedVariables false
set_option maxRecDepth 10000

def zero14 : List AV := noEnt.enc
/-- The cells behind a deletion at 'k' of 'n'. -/
def cutCells (cs : List AV) (k n : Nat) : List AV := cs.take (k * 14) ++ (cs.drop ((k + 1) * 14)).take ((n - (k + 1)) * 14) ++ zero14 ++ cs.drop (n * 14)
def delS : Spec := fun args S => match args with
  | [.sl i 0 v n cap false, .i .i64 a, .i .i64 b] => match S[i]? with
    | some (.cells cs ver (some 14) true) => if ver = v ∧ cs.length = cap * 14 ∧ n ≤ cap ∧ 0 ≤ a ∧ a < (n : Int) ∧ b = a + 1 ∧ n ≤ 1000000 ∧ cs.all AV.one = true then
        some (.sl i 0 v (n - 1) cap false, S.set i (.cells (cutCells cs a.toNat n) v (some 14) true)) else none
    | _ => none
  | _ => none
theorem splice_cut {cs : List AV} {k n : Nat} (hk : k < n) (hn : n * 14 ≤ cs.length) : splice (splice cs (k * 14) ((cs.drop ((k + 1) * 14)).take ((n - (k + 1)) * 14))) ((n - 1) * 14) zero14 = cutCells cs k n := by
  have hml : ((cs.drop ((k + 1) * 14)).take ((n - (k + 1)) * 14)).length = (n - (k + 1)) * 14 := by rw [List.length_take, List.length_drop]; omega
  have hkl : (cs.take (k * 14)).length = k * 14 := by rw [List.length_take]; omega
  have hz : zero14.length = 14 := rfl
  unfold cutCells
  generalize hm : (cs.drop ((k + 1) * 14)).take ((n - (k + 1)) * 14) = mid at hml
  unfold splice
  rw [hml, hz]
  have e1 : k * 14 + (n - (k + 1)) * 14 = (n - 1) * 14 := by omega
  rw [e1]
  have h1 : (cs.take (k * 14) ++ (mid ++ cs.drop ((n - 1) * 14))).take ((n - 1) * 14) = cs.take (k * 14) ++ mid := by
    rw [← List.append_assoc, List.take_append_of_le_length (by rw [List.length_append, hkl, hml]; omega), List.take_of_length_le (by rw [List.length_append, hkl, hml]; omega)]
  have h2 : (cs.take (k * 14) ++ (mid ++ cs.drop ((n - 1) * 14))).drop ((n - 1) * 14 + 14) = cs.drop (n * 14) := by
    rw [← List.append_assoc, List.drop_append, List.drop_of_length_le (by rw [List.length_append, hkl, hml]; omega), List.nil_append, List.length_append, hkl, hml, List.drop_drop]
    congr 1; omega
  rw [h1, h2, List.append_assoc (cs.take (k * 14) ++ mid)]
theorem bnds_two {q q' : IntKind} {len cap a b : Nat} (h : a ≤ b) (h2 : b ≤ cap) : bnds len cap (some (.i q (a : Int))) (some (.i q' (b : Int))) none = some (a, b, cap) := bnds_both h h2
theorem del_ok : SpecOK Try.prog 53 delS := by
  intro args S x S' h
  simp only [delS] at h
  split at h
  · rename_i i v n cap a b
    split at h
    · rename_i cs ver hB
      split at h
      · rename_i hc
        obtain ⟨rfl, hcl, hnc, ha0, han, rfl, hlim, hone⟩ := hc
        cases h
        obtain ⟨k, rfl⟩ := Int.eq_ofNat_of_zero_le ha0
        rw [Int.toNat_natCast]
        have hkn : k < n := by omega
        have hk1 : ((k : Nat) : Int) + 1 = ((k + 1 : Nat) : Int) := by omega
        rw [hk1]
        have s1 : sliceV S 14 (.sl i 0 ver n cap false) (some (.i .i64 (k : Int))) (some (.i .i64 ((k + 1 : Nat) : Int))) (some (.i .i64 (n : Int))) = some (.sl i (cutAt 0 k n 14) ver 1 (n - k) true) := by
          simp only [sliceV, bnds, bndV, natV_nat, Option.isSome_some, Option.isNone_some]
          simp [show n ≤ cap from hnc, show k + 1 ≤ n from hkn, show k ≤ n by omega, natV]
        have s2 : sliceV S 14 (.sl i 0 ver n cap false) none (some (.i .i64 (k : Int))) none = some (.sl i 0 ver k cap false) := by
          refine slice_hi (by omega) ?_
          simp [openS, hB, Blk.opn]; omega
        have hne : ¬ ((k : Nat) : Int) = ((k + 1 : Nat) : Int) := by omega
        refine fn_of_wp f53 rfl (W_sound none_ok mixed _ _ _ _ _ ?_)
        by_cases hlast : k + 1 = n
        · subst hlast
          have hz : zerosV noEnt.enc 1 = noEnt.enc := by rfl
          have s4 : sliceV S 14 (.sl i 0 ver k cap false) (some (.i .i64 (k : Int))) (some (.i .i64 ((k + 1 : Nat) : Int))) none = some (.sl i (k * 14) ver 1 (cap - k) false) := by
            simp only [sliceV, bnds_both (q := .i64) (q' := .i64) (show k ≤ k + 1 by omega) hnc, Option.isSome_none, Bool.or_false, Bool.false_eq_true, if_false]
            rw [if_neg (by omega)]
            simp only [hB, Blk.opn, if_true, Nat.zero_add, Nat.add_sub_cancel_left]
          obtain ⟨S3, hS3⟩ : ∃ S3, S3 = S.set i (.cells (splice cs (k * 14) zero14) ver (some 14) true) := ⟨_, rfl⟩
          have hclr : clearV S noEnt.enc (.sl i (k * 14) ver 1 (cap - k) false) = some (.tu [], S3) := by
            simp only [clearV, hB]
            rw [if_neg (by omega), if_pos ⟨trivial, by show k * 14 + 1 * 14 ≤ cs.length; omega, by rw [hz]; rfl⟩, hS3, hz]; rfl
          simp only [noEnt, Ent.enc] at hclr
          have hfin : S3 = S.set i (.cells (cutCells cs k (k + 1)) ver (some 14) true) := by
            rw [hS3]
            have hz14 : zero14.length = 14 := rfl
            unfold cutCells splice
            rw [Nat.sub_self, Nat.zero_mul, List.take_zero, List.append_nil, hz14, show k * 14 + 14 = (k + 1) * 14 by omega, List.append_assoc]
          have ha : ∀ cs', appV S 14 88 (.sl i 0 ver k cap false) cs' 0 = some (.sl i 0 ver k cap false, S) := fun cs' => by simp [appV]
          rw [Nat.add_sub_cancel]
          by_cases hcap : k + 1 = cap
          · have s3 : sliceV S 14 (.sl i 0 ver (k + 1) cap false) (some (.i .i64 ((k + 1 : Nat) : Int))) none none = some .se := by
              simp only [sliceV, bnds_lo (q := .i64) (show k + 1 ≤ k + 1 by omega) hnc, Option.isSome_none, Bool.or_false, Bool.false_eq_true, if_false]
              rw [if_pos hcap]
            have hse : srcV S 14 .se = some ([], 0) := rfl
            simp (maxSteps := 1000000) (disch := omega) only [c53, s1, s2, s3, hne, hse, ha, s4, hclr, go_sem, Option.map_none, Option.map_some, ↓reduceIte, Nat.reduceBEq, Nat.reduceAdd, Nat.reduceSub, Nat.reduceEqDiff, Nat.reduceLeDiff, Nat.reduceMul, Nat.reduceLT, Int.reduceLT, Int.reduceLE, Int.reduceAdd, Int.reduceSub, Int.reduceMul, Int.reduceNeg, Int.reduceEq, Int.reduceNe, Int.reduceToNat, decide_true, decide_false, iaddr_i, iaddr_sl_i, not_true_eq_false, not_false_eq_true, reduceCtorEq, ne_eq, forall_const, false_imp_iff, true_imp_iff, implies_true, Int.cast_ofNat_Int, Int.natCast_zero, Int.natCast_one, Int.add_zero, Int.zero_add]
            rw [hfin]
            exact wkv_same
          · have s3 : sliceV S 14 (.sl i 0 ver (k + 1) cap false) (some (.i .i64 ((k + 1 : Nat) : Int))) none none = some (.sl i ((k + 1) * 14) ver 0 (cap - (k + 1)) false) := by
              simp only [sliceV, bnds_lo (q := .i64) (show k + 1 ≤ k + 1 by omega) hnc, Option.isSome_none, Bool.or_false, Bool.false_eq_true, if_false]
              rw [if_neg hcap]
              simp only [hB, Blk.opn, if_true, Nat.zero_add, Nat.sub_self]
            have hle3 : (k + 1) * 14 + 0 ≤ cs.length := by omega
            have hse : srcV S 14 (.sl i ((k + 1) * 14) ver 0 (cap - (k + 1)) false) = some ([], 0) := by
              rw [src_sl, hB, Nat.zero_mul, rowB_some, if_pos hle3]; rfl
            simp (maxSteps := 1000000) (disch := omega) only [c53, s1, s2, s3, hne, hse, ha, s4, hclr, go_sem, Option.map_none, Option.map_some, ↓reduceIte, Nat.reduceBEq, Nat.reduceAdd, Nat.reduceSub, Nat.reduceEqDiff, Nat.reduceLeDiff, Nat.reduceMul, Nat.reduceLT, Int.reduceLT, Int.reduceLE, Int.reduceAdd, Int.reduceSub, Int.reduceMul, Int.reduceNeg, Int.reduceEq, Int.reduceNe, Int.reduceToNat, decide_true, decide_false, iaddr_i, iaddr_sl_i, not_true_eq_false, not_false_eq_true, reduceCtorEq, ne_eq, forall_const, false_imp_iff, true_imp_iff, implies_true, Int.cast_ofNat_Int, Int.natCast_zero, Int.natCast_one, Int.add_zero, Int.zero_add]
            rw [hfin]
            exact wkv_same
        · have hn1 : k + 1 < n := by omega
          have s3 : sliceV S 14 (.sl i 0 ver n cap false) (some (.i .i64 ((k + 1 : Nat) : Int))) none none = some (.sl i (0 + (k + 1) * 14) ver (n - (k + 1)) (cap - (k + 1)) false) := by
            simp only [sliceV, bnds_lo (q := .i64) (show k + 1 ≤ n by omega) hnc, Option.isSome_none, Bool.or_false, Bool.false_eq_true, if_false]
            rw [if_neg (by omega)]
            simp only [hB, Blk.opn, if_true]
          have hle3 : (k + 1) * 14 + (n - (k + 1)) * 14 ≤ cs.length := by omega
          generalize hmid : (cs.drop ((k + 1) * 14)).take ((n - (k + 1)) * 14) = mid
          have hmidl : mid.length = (n - (k + 1)) * 14 := by rw [← hmid, List.length_take, List.length_drop]; omega
          have hmid1 : mid.all AV.one = true := by
            rw [List.all_eq_true] at hone ⊢
            intro y hy; rw [← hmid] at hy
            exact hone y (List.mem_of_mem_drop (List.mem_of_mem_take hy))
          obtain ⟨S2, hS2⟩ : ∃ S2, S2 = S.set i (.cells (splice cs (0 + k * 14) mid) ver (some 14) true) := ⟨_, rfl⟩
          have ha : appV S 14 88 (.sl i 0 ver k cap false) mid (n - (k + 1)) = some (.sl i 0 ver (n - 1) cap false, S2) := by
            simp only [appV, hB]
            rw [if_neg (by omega), if_pos (by omega), if_pos ⟨trivial, by omega, hmid1⟩, hS2, show k + (n - (k + 1)) = n - 1 by omega]
          have hB2 : S2[i]? = some (.cells (splice cs (0 + k * 14) mid) ver (some 14) true) := by rw [hS2]; exact at_set hB
          have s4 : sliceV S2 14 (.sl i 0 ver (n - 1) cap false) (some (.i .i64 ((n - 1 : Nat) : Int))) (some (.i .i64 (n : Int))) none = some (.sl i (0 + (n - 1) * 14) ver (n - (n - 1)) (cap - (n - 1)) false) := by
            simp only [sliceV, bnds_both (q := .i64) (q' := .i64) (show n - 1 ≤ n by omega) hnc, Option.isSome_none, Bool.or_false, Bool.false_eq_true, if_false]
            rw [if_neg (by omega)]
            simp only [hB2, Blk.opn, if_true]
          rw [show n - (n - 1) = 1 by omega, Nat.zero_add] at s4
          obtain ⟨S3, hS3⟩ : ∃ S3, S3 = S2.set i (.cells (splice (splice cs (0 + k * 14) mid) ((n - 1) * 14) zero14) ver (some 14) true) := ⟨_, rfl⟩
          have hsl : (splice cs (0 + k * 14) mid).length = cap * 14 := by
            unfold splice
            rw [List.length_append, List.length_append, List.length_take, List.length_drop, hmidl]; omega
          have hz : zerosV noEnt.enc 1 = noEnt.enc := by rfl
          have hclr : clearV S2 noEnt.enc (.sl i ((n - 1) * 14) ver 1 (cap - (n - 1)) false) = some (.tu [], S3) := by
            simp only [clearV, hB2]
            rw [if_neg (by omega), if_pos ⟨trivial, by rw [hsl]; show (n - 1) * 14 + 1 * 14 ≤ cap * 14; omega, by rw [hz]; rfl⟩, hS3, hz]; rfl
          simp only [noEnt, Ent.enc] at hclr
          simp (maxSteps := 1000000) (disch := omega) only [c53, s1, s2, s3, hne, src_sl, hB, hle3, hmid, srcN_some, ha, s4, hclr, go_sem, Option.map_none, Option.map_some, ↓reduceIte, Nat.reduceBEq, Nat.reduceAdd, Nat.reduceSub, Nat.reduceEqDiff, Nat.reduceLeDiff, Nat.reduceMul, Nat.reduceLT, Int.reduceLT, Int.reduceLE, Int.reduceAdd, Int.reduceSub, Int.reduceMul, Int.reduceNeg, Int.reduceEq, Int.reduceNe, Int.reduceToNat, decide_true, decide_false, iaddr_i, iaddr_sl_i, not_true_eq_false, not_false_eq_true, reduceCtorEq, ne_eq, forall_const, false_imp_iff, true_imp_iff, implies_true, Int.cast_ofNat_Int, Int.natCast_zero, Int.natCast_one, Int.add_zero, Int.zero_add]
          have hfin : S3 = S.set i (.cells (cutCells cs k n) ver (some 14) true) := by
            rw [hS3, hS2, List.set_set, ← hmid, Nat.zero_add, splice_cut hkn (by omega)]
          rw [hfin]
          exact wkv_same
      · cases h
    · cases h
  · cases h
end Go.Proofs.Ytapgkaecamljbaa

namespace Go.Proofs.Ytapgkaecamljbaa
open Go.RowKit
set_option linter.unusedSimpArgs false
set_option linter.unusedVariables false
set_option maxRecDepth 10000

/-- A list in a block of its own, perhaps with room behind it. -/
def Sp (i : Nat) (S : Mem) (x : AV) (l : List Ent) : Prop := ∃ v cap junk, x = .sl i 0 v l.length cap false ∧ S[i]? = some (.cells (l.flatMap entE.enc ++ junk) v (some 14) true) ∧ junk.length = (cap - l.length) * 14 ∧ l.length ≤ cap ∧ junk.all AV.one = true
theorem flat14 (l : List Ent) : (l.flatMap entE.enc).length = l.length * 14 := enc_length (E := entE) l
theorem Sp.lst {i : Nat} {S : Mem} {x : AV} {l : List Ent} (h : Sp i S x l) : lstV entE S x = some l := by
  obtain ⟨v, cap, junk, rfl, hB, hj, hlc, _⟩ := h
  refine lst_lstV (.inr (.inr ⟨_, _, _, _, _, _, rfl, rfl, ?_⟩))
  rw [rowAt_B, hB]
  show rowB _ 0 v (l.length * 14) = _
  rw [rowB_some, if_pos (by rw [List.length_append, flat14]; omega), List.drop_zero, List.take_append_of_le_length (by rw [flat14]; omega), ← flat14, List.take_length]
theorem Sp.del {i : Nat} {S : Mem} {x : AV} {l : List Ent} (h : Sp i S x l) {k : Nat} (hk : k < l.length) (hl : l.length ≤ 1000000) :
    ∃ x' B, delS [x, .i .i64 (k : Int), .i .i64 ((k : Int) + 1)] S = some (x', S.set i B) ∧ Sp i (S.set i B) x' (l.eraseIdx k) := by
  obtain ⟨v, cap, junk, rfl, hB, hj, hlc, hj1⟩ := h
  have hcl : (l.flatMap entE.enc ++ junk).length = cap * 14 := by rw [List.length_append, flat14, hj]; omega
  have hone : (l.flatMap entE.enc ++ junk).all AV.one = true := by rw [List.all_append, hj1, all_one entE_one l]; rfl
  refine ⟨_, _, by simp only [delS, hB]; rw [if_pos ⟨trivial, hcl, hlc, by omega, by omega, trivial, hl, hone⟩], ?_⟩
  rw [Int.toNat_natCast]
  have hle : (l.eraseIdx k).length = l.length - 1 := by rw [List.length_eraseIdx, if_pos hk]
  refine ⟨v, cap, zero14 ++ junk, by rw [hle], ?_, ?_, by omega, ?_⟩
  · rw [at_set hB]
    congr 2
    have he : l.eraseIdx k = l.take k ++ l.drop (k + 1) := List.eraseIdx_eq_take_drop_succ ..
    have t1 : (l.flatMap entE.enc ++ junk).take (k * 14) = (l.take k).flatMap entE.enc := by
      rw [List.take_append_of_le_length (by rw [flat14]; omega)]; exact flat_take (E := entE) l k
    have t2 : ((l.flatMap entE.enc ++ junk).drop ((k + 1) * 14)).take ((l.length - (k + 1)) * 14) = (l.drop (k + 1)).flatMap entE.enc := by
      rw [List.drop_append_of_le_length (by rw [flat14]; omega)]
      rw [show (l.flatMap entE.enc).drop ((k + 1) * 14) = (l.drop (k + 1)).flatMap entE.enc from flat_drop (E := entE) l (k + 1)]
      rw [List.take_append_of_le_length (by rw [flat14, List.length_drop]; omega), List.take_of_length_le (by rw [flat14, List.length_drop]; omega)]
    have t3 : (l.flatMap entE.enc ++ junk).drop (l.length * 14) = junk := by rw [← flat14, List.drop_left]
    unfold cutCells
    rw [t1, t2, t3, he, List.flatMap_append, List.append_assoc, List.append_assoc]
    first | done | simp [List.append_assoc]
  · rw [List.length_append, hj, hle]
    show 14 + _ = _
    omega
  · rw [List.all_append, hj1]; rfl
theorem Sp.app {i : Nat} {S : Mem} {x : AV} {l : List Ent} (h : Sp i S x l) (a : Ent) (hl : l.length ≤ 1000000) :
    ∃ x' B, appV S 14 88 x (entE.enc a) 1 = some (x', S.set i B) ∧ Sp i (S.set i B) x' (l ++ [a]) := by
  obtain ⟨v, cap, junk, rfl, hB, hj, hlc, hj1⟩ := h
  have ha14 : (entE.enc a).length = 14 := rfl
  have hlim1 : (l.length + 1) * 88 ≤ lim := by show _ ≤ 70368744177664; omega
  have hlim2 : l.length + 1 ≤ lim := by show _ ≤ 70368744177664; omega
  by_cases hc : l.length + 1 ≤ cap
  · refine ⟨.sl i 0 v (l.length + 1) cap false, .cells (splice (l.flatMap entE.enc ++ junk) (0 + l.length * 14) (entE.enc a)) v (some 14) true, ?_, ?_⟩
    · simp only [appV, hB]
      rw [if_neg (by omega), if_pos hc, if_pos ⟨trivial, by rw [List.length_append, flat14, hj]; omega, entE_one a⟩]
    · refine ⟨v, cap, junk.drop 14, by rw [List.length_append]; rfl, ?_, by rw [List.length_drop, hj, List.length_append]; simp; omega, by rw [List.length_append]; exact hc, ?_⟩
      · rw [at_set hB]
        congr 2
        unfold splice
        rw [Nat.zero_add, ha14, ← flat14, List.take_left, List.flatMap_append, List.drop_append, List.drop_of_length_le (by omega), List.nil_append, Nat.add_sub_cancel_left]
        simp [List.append_assoc]
      · rw [List.all_eq_true] at hj1 ⊢
        exact fun y hy => hj1 y (List.mem_of_mem_drop hy)
  · have hcl : cap = l.length := by omega
    obtain rfl : junk = [] := List.eq_nil_of_length_eq_zero (by rw [hj]; omega)
    rw [List.append_nil] at hB
    refine ⟨.sl i 0 (v + 1) (l.length + 1) (l.length + 1) false, .cells ((l.flatMap entE.enc).take (l.length * 14) ++ entE.enc a) (v + 1) (some 14) true, ?_, ?_⟩
    · simp only [appV, hB, Bool.false_eq_true, if_false]
      rw [if_neg (by omega), if_neg hc, if_pos ⟨hlim1, hlim2⟩, if_pos ⟨trivial, trivial, trivial, by rw [flat14]; omega, entE_one a⟩]
    · refine ⟨v + 1, l.length + 1, [], by rw [List.length_append]; rfl, ?_, by rw [List.length_append]; simp, by rw [List.length_append]; exact Nat.le_refl _, rfl⟩
      rw [at_set hB, ← flat14, List.take_length, List.append_nil, List.flatMap_append]
      simp
/-- A policy is laid in place. -/
theorem Sp.pol {i : Nat} {S : Mem} {x : AV} {l : List Ent} (h : Sp i S x l) {k : Nat} (hk : k < l.length) (p : Pol) :
    ∃ v cap cs, x = .sl i 0 v l.length cap false ∧ S[i]? = some (.cells cs v (some 14) true) ∧ k * 14 + 13 ≤ cs.length ∧ Sp i (S.set i (.cells (cs.take (k * 14) ++ (p.enc ++ cs.drop (k * 14 + 13))) v (some 14) true)) x (l.set k ⟨p, l[k].granted⟩) := by
  obtain ⟨v, cap, junk, rfl, hB, hj, hlc, hj1⟩ := h
  have hcs : k * 14 + 13 ≤ (l.flatMap entE.enc).length := by rw [flat14]; omega
  refine ⟨v, cap, _, rfl, hB, by rw [List.length_append]; omega, v, cap, junk, by rw [List.length_set], ?_, by rw [List.length_set]; exact hj, by rw [List.length_set]; exact hlc, hj1⟩
  rw [at_set hB]
  have hsp := splice_at (E := entE) l hk ⟨p, l[k].granted⟩ (f := 0) (ys := p.enc) (by simp [entE, Pol.enc]) (by rfl)
  have hsp : (l.flatMap entE.enc).take (k * 14) ++ p.enc ++ (l.flatMap entE.enc).drop (k * 14 + 13) = (l.set k ⟨p, l[k].granted⟩).flatMap entE.enc := by rw [← hsp]; show _ = (l.flatMap entE.enc).take (k * 14 + 0) ++ (p.enc ++ (l.flatMap entE.enc).drop (k * 14 + 0 + 13)); simp only [Nat.add_zero, List.append_assoc]
  rw [← hsp, List.take_append_of_le_length (by omega), List.drop_append_of_le_length (by omega)]
  simp [List.append_assoc]
end Go.Proofs.Ytapgkaecamljbaa

namespace Go.Proofs.Ytapgkaecamljbaa
open Go.RowKit
set_option linter.unusedSimpArgs false
set_option linter.unusedVariables false

theorem cmpI_neg {a b : Int} : cmpI a b < 0 ↔ a < b := by
  unfold cmpI
  split
  · rename_i h; exact ⟨fun _ => h, fun _ => by omega⟩
  · rename_i h
    split
    · exact ⟨fun z => by omega, fun z => absurd z h⟩
    · exact ⟨fun z => by omega, fun z => absurd z h⟩
/-- A permutation in which no later one is less than an earlier one: it rises, if no subscriber is there twice. -/
theorem rises_of_sorted {l d : List Ent} (hp : d.Perm l) (ho : Once l) (hs : ∀ i j (hij : i < j) (hj : j < d.length), ¬ cmpI d[j].pol.sub (d[i]'(by omega)).pol.sub < 0) : Rises d ∧ ∀ x, x ∈ d ↔ x ∈ l := by
  have hod : Once d := (hp.pairwise_iff fun h => Ne.symm h).2 ho
  refine ⟨List.pairwise_iff_getElem.2 fun i j hi hj hij => ?_, fun x => hp.mem_iff⟩
  have h1 := List.pairwise_iff_getElem.1 hod i j hi hj hij
  have h2 := hs i j hij hj
  rw [cmpI_neg] at h2
  omega
end Go.Proofs.Ytapgkaecamljbaa

namespace Go.Proofs.Ytapgkaecamljbaa
open Go.RowKit Go.Sort
set_option linter.unusedSimpArgs false
set_option linter.unusedVariables false
set_option maxRecDepth 10000

instance : Inhabited Ent := ⟨noEnt⟩
def entV (a : Ent) : List Value := [.int .i64 a.pol.sub, .int .u8 a.pol.a, .int .u8 a.pol.b, .int .u8 a.pol.c, .int .u8 a.pol.d, .int .i64 a.pol.bits, .int .u64 a.pol.rate, .int .u64 a.pol.burst, .int .u64 a.pol.srate, .int .u64 a.pol.sburst, .int .u64 a.pol.quota, .int .u64 a.pol.lease, .int .u64 a.pol.quantum, .int .u64 a.granted]
theorem entV_len (a : Ent) : (entV a).length = 14 := rfl
theorem entV_cell (a : Ent) : ∀ v ∈ entV a, v.oneCell' = true := by
  intro v hv
  simp only [entV, List.mem_cons, List.not_mem_nil, or_false] at hv
  rcases hv with rfl | rfl | rfl | rfl | rfl | rfl | rfl | rfl | rfl | rfl | rfl | rfl | rfl | rfl <;> rfl
theorem vr_i {K : Ctx} {S : Mem} {q : IntKind} {n : Int} {v : Value} (h : VR K S (.i q n) v) : v = .int q n := by cases h; rfl
theorem ent_cell {K : Ctx} {S : Mem} {a : Ent} {j : Nat} (hj : j < 14) {v : Value} (h : VR K S ((entE.enc a).getD j .u) v) : v = (entV a)[j]! := by
  simp only [entE, Ent.enc] at h
  match j, hj with
  | 0, _ | 1, _ | 2, _ | 3, _ | 4, _ | 5, _ | 6, _ | 7, _ | 8, _ | 9, _ | 10, _ | 11, _ | 12, _ | 13, _ => exact vr_i h
theorem cell_vr {K : Ctx} {S : Mem} {a : Ent} {j : Nat} (hj : j < 14) : VR K S ((entE.enc a).getD j .u) ((entV a)[j]!) := by
  simp only [entE, Ent.enc]
  match j, hj with
  | 0, _ | 1, _ | 2, _ | 3, _ | 4, _ | 5, _ | 6, _ | 7, _ | 8, _ | 9, _ | 10, _ | 11, _ | 12, _ | 13, _ => exact .i _ _
theorem flat_get {l : List Ent} {junk : List AV} {t : Nat} (ht : t < l.length * 14) : (l.flatMap entE.enc ++ junk).getD t .u = (entE.enc (l.toArray[t / 14]!)).getD (t % 14) .u := by
  have hk : t / 14 < l.length := by omega
  have e : l.toArray[t / 14]! = l[t / 14] := by rw [getElem!_pos l.toArray (t / 14) (by simpa using hk)]; simp
  rw [e]
  have hp := flat_part (f := entE.enc) (w := 14) (fun a => rfl) l (t / 14) hk
  simp only [List.getD_eq_getElem?_getD]
  congr 1
  rw [List.getElem?_append_left (by rw [flat14]; exact ht), ← hp, List.getElem?_take, if_pos (by omega), List.getElem?_drop]
  congr 1; omega
/-- What a block of entries holds. -/
theorem cells_ents {K : Ctx} {S : Mem} {l : List Ent} {junk : List AV} {c : Array Value} (hV : ∀ k, k < (l.flatMap entE.enc ++ junk).length → VR K S ((l.flatMap entE.enc ++ junk).getD k .u) (c.getD k undef)) :
    ∀ t, t < l.length * 14 → c.getD t undef = (flatK entV 14 l.toArray)[t]! := by
  intro t ht
  have h := hV t (by rw [List.length_append, flat14]; omega)
  rw [flat_get ht] at h
  rw [get_flatK _ _ _ t (by simpa using ht)]
  exact ent_cell (by omega) h
/-- A block of entries is what the kit's sort asks for. -/
theorem holds_of_sim {base : Bs} {w0 : World} {K : Ctx} {S : Mem} {w : World} (h : Sim base w0 K S w) {i v : Nat} {l : List Ent} {junk : List AV} {op : Option Nat} (hB : S[i]? = some (.cells (l.flatMap entE.enc ++ junk) v op true)) : HoldsK entV 14 w (K.μ i) 0 l.toArray := by
  intro j hj
  have hj' : j < l.length * 14 := by simpa using hj
  have hjl : j < (l.flatMap entE.enc ++ junk).length := by rw [List.length_append, flat14]; omega
  obtain ⟨x, h1, h2⟩ := h.load hB hjl
  have hf := (h.set1 hB hjl h2).1
  rw [Nat.zero_add]
  refine ⟨?_, hf⟩
  rw [h1]
  rw [flat_get hj'] at h2
  rw [get_flatK _ _ _ j (by simpa using hj')]
  exact congrArg some (ent_cell (by omega) h2)
theorem put_size (F arr : Array Value) : (putCells id 0 F arr).size = arr.size := by unfold putCells; simp
theorem put_get {F arr : Array Value} {k : Nat} (hk : k < arr.size) : (putCells id 0 F arr).getD k undef = if k < F.size then F[k]! else arr.getD k undef := by
  have h : (putCells id 0 F arr)[k]? = some (if 0 ≤ k ∧ k < 0 + F.size then id F[k - 0]! else arr[k]) := by
    unfold putCells
    rw [Array.getElem?_mapIdx, Array.getElem?_eq_getElem hk]; rfl
  rw [Array.getD_eq_getD_getElem?, h, Option.getD_some]
  by_cases c : k < F.size
  · rw [if_pos ⟨Nat.zero_le _, by omega⟩, if_pos c, Nat.sub_zero]; rfl
  · rw [if_neg (by omega), if_neg c, Array.getD_eq_getD_getElem?, Array.getElem?_eq_getElem hk]; rfl
/-- Behind the kit's sort. -/
theorem sim_sorted {base : Bs} {w0 : World} {K : Ctx} {S : Mem} {w : World} (h : Sim base w0 K S w) {i v : Nat} {l : List Ent} {junk : List AV} {op : Option Nat} (hB : S[i]? = some (.cells (l.flatMap entE.enc ++ junk) v op true)) {d : Array Ent} (hd : d.size = l.length) (n : Nat) (os : Array Obj) :
    Sim base w0 K (S.set i (.cells (d.toList.flatMap entE.enc ++ junk) v op true)) (sortWorldK entV 14 w (K.μ i) 0 n d os) ∧ Stp K S w K (S.set i (.cells (d.toList.flatMap entE.enc ++ junk) v op true)) (sortWorldK entV 14 w (K.μ i) 0 n d os) := by
  obtain ⟨c, et, fz, h1, h2, h3, h4, h5, h6⟩ := h.blk i _ hB
  have hdl : d.toList.length = l.length := by rw [Array.length_toList, hd]
  have hlen : (d.toList.flatMap entE.enc ++ junk).length = (l.flatMap entE.enc ++ junk).length := by rw [List.length_append, List.length_append, flat14, flat14, hdl]
  refine h.resort hB h1 (f := putCells id 0 (flatK entV 14 d)) (put_size _ _) hlen (fun k hk => ?_) n os
  have hkc : k < c.size := by rw [hlen] at hk; omega
  rw [put_get hkc, size_flatK]
  by_cases c1 : k < d.size * 14
  · rw [if_pos c1, get_flatK _ _ _ k c1, flat_get (l := d.toList) (by rw [hdl, ← hd]; exact c1)]
    rw [show d.toList.toArray = d by simp]
    exact cell_vr (by omega)
  · rw [if_neg c1]
    have h7 := h5 k (by rw [← hlen]; exact hk)
    have e : (d.toList.flatMap entE.enc ++ junk).getD k .u = (l.flatMap entE.enc ++ junk).getD k .u := by
      simp only [List.getD_eq_getElem?_getD]
      rw [List.getElem?_append_right (by rw [flat14, hdl, ← hd]; omega), List.getElem?_append_right (by rw [flat14, ← hd]; omega), flat14, flat14, hdl]
    rw [e]; exact h7
end Go.Proofs.Ytapgkaecamljbaa

namespace Go.Proofs.Ytapgkaecamljbaa
open Go.RowKit Go.Sort
set_option linter.unusedSimpArgs false
set_option linter.unusedVariables false
set_option maxRecDepth 100000

theorem nan_calls (a : Int) (W : World) : Calls Try.prog 80 #[.int .i64 a] W fun e w' => e = .returned (.bool false) ∧ w' = W := by
  go_enter Try.func80, Try.ntmps80
  go_wp2
  go_ret
  simp
set_option maxHeartbeats 1000000 in
theorem cmp_calls (a b : Int) (W : World) : Calls Try.prog 56 #[.int .i64 a, .int .i64 b] W fun e w' => e = .returned (.int .i64 (cmpI a b)) ∧ w' = W := by
  have h1 := fun (x : Int) (W : World) => nan_calls x W
  unfold cmpI
  go_enter Try.func56, Try.ntmps56
  by_cases c1 : a < b
  · go_wp2_with (go_at_call 80; refine (h1 _ _).mono ?_; rintro e w' ⟨rfl, rfl⟩)
    go_ret
    exact ⟨rfl, rfl⟩
  · by_cases c2 : b < a
    · go_wp2_with (go_at_call 80; refine (h1 _ _).mono ?_; rintro e w' ⟨rfl, rfl⟩)
      go_ret
      exact ⟨rfl, rfl⟩
    · go_wp2_with (go_at_call 80; refine (h1 _ _).mono ?_; rintro e w' ⟨rfl, rfl⟩)
      go_ret
      exact ⟨rfl, rfl⟩
set_option maxHeartbeats 1000000 in
theorem closure_calls (x y : Ent) (W : World) : Calls Try.prog 55 #[.agg (entV x).toArray, .agg (entV y).toArray] W fun e w' => e = .returned (.int .i64 (cmpI x.pol.sub y.pol.sub)) ∧ ∃ q os', w' = grow (W.drewN q) os' := by
  have hcon := fun W' => cmp_calls x.pol.sub y.pol.sub W'
  generalize cmpI x.pol.sub y.pol.sub = r at hcon ⊢
  obtain ⟨⟨s, a1, a2, a3, a4, a5, a6, a7, a8, a9, a10, a11, a12⟩, a13⟩ := x
  obtain ⟨⟨t, b1, b2, b3, b4, b5, b6, b7, b8, b9, b10, b11, b12⟩, b13⟩ := y
  simp only [entV] at hcon ⊢
  go_enter Try.func55, Try.ntmps55
  go_wp2_with (go_at_call 56; refine (hcon _).mono ?_; rintro e w' ⟨rfl, rfl⟩)
  go_ret
  exact ⟨rfl, 0, _, by rw [alloc_eq_grow, alloc_eq_grow, grow_grow]; rfl⟩
end Go.Proofs.Ytapgkaecamljbaa

namespace Go.Proofs.Ytapgkaecamljbaa
open Go.RowKit
set_option linter.unusedSimpArgs false
set_option linter.unusedVariables false
set_option maxRecDepth 10000

structure Cf where
  v : Nat
  cap : Nat
  junk : List AV
  l : List Ent
def Cf.x (i : Nat) (c : Cf) : AV := .sl i 0 c.v c.l.length c.cap false
def Cf.blk (c : Cf) : Blk := .cells (c.l.flatMap entE.enc ++ c.junk) c.v (some 14) true
structure Cf.wf (c : Cf) : Prop where
  hj : c.junk.length = (c.cap - c.l.length) * 14
  hc : c.l.length ≤ c.cap
  ho : c.junk.all AV.one = true
def Cf.del (c : Cf) (k : Nat) : Cf := ⟨c.v, c.cap, zero14 ++ c.junk, c.l.eraseIdx k⟩
def Cf.app (c : Cf) (a : Ent) : Cf := if c.l.length + 1 ≤ c.cap then ⟨c.v, c.cap, c.junk.drop 14, c.l ++ [a]⟩ else ⟨c.v + 1, c.l.length + 1, [], c.l ++ [a]⟩
def Cf.pol (c : Cf) (k : Nat) (p : Pol) : Cf := ⟨c.v, c.cap, c.junk, c.l.set k ⟨p, (c.l.getD k noEnt).granted⟩⟩
noncomputable def sortE (l : List Ent) : List Ent := open Classical in if h : ∃ d, Rises d ∧ ∀ x, x ∈ d ↔ x ∈ l then h.choose else l
noncomputable def Cf.sort (c : Cf) : Cf := ⟨c.v, c.cap, c.junk, sortE c.l⟩
theorem Cf.app_l (c : Cf) (a : Ent) : (c.app a).l = c.l ++ [a] := by unfold Cf.app; split <;> rfl
theorem Cf.mk_x {c : Cf} {i : Nat} {x : AV} (h : x = c.x i) : x = .sl i 0 c.v c.l.length c.cap false := h
section
variable {i : Nat} {S : Mem} {c : Cf}
theorem Cf.sp (hw : c.wf) (hB : S[i]? = some c.blk) : Sp i S (c.x i) c.l := ⟨_, _, _, rfl, hB, hw.hj, hw.hc, hw.ho⟩
theorem Cf.lst (hw : c.wf) (hB : S[i]? = some c.blk) : lstV entE S (c.x i) = some c.l := (Cf.sp hw hB).lst
theorem Cf.eqs (hw : c.wf) {x : AV} {l : List Ent} {B : Blk} (h : Sp i S x l) (hx : x = c.x i) (hl : l = c.l) (hB : S[i]? = some B) : True := trivial
theorem Cf.del_wf (hw : c.wf) {k : Nat} (hk : k < c.l.length) : (c.del k).wf := by
  have hle : (c.l.eraseIdx k).length = c.l.length - 1 := by rw [List.length_eraseIdx, if_pos hk]
  have := hw.hc
  refine ⟨?_, ?_, ?_⟩
  · show (zero14 ++ c.junk).length = (c.cap - (c.l.eraseIdx k).length) * 14
    rw [List.length_append, hw.hj, hle]
    show 14 + _ = _
    omega
  · show (c.l.eraseIdx k).length ≤ c.cap
    rw [hle]; omega
  · show (zero14 ++ c.junk).all AV.one = true
    rw [List.all_append, hw.ho]; rfl
theorem Cf.del_eq (hw : c.wf) (hB : S[i]? = some c.blk) {k : Nat} (hk : k < c.l.length) (hl : c.l.length ≤ 1000000) : delS [c.x i, .i .i64 (k : Int), .i .i64 ((k : Int) + 1)] S = some ((c.del k).x i, S.set i (c.del k).blk) := by
  have hj := hw.hj
  have hlc := hw.hc
  have hcl : (c.l.flatMap entE.enc ++ c.junk).length = c.cap * 14 := by rw [List.length_append, flat14, hj]; omega
  have hone : (c.l.flatMap entE.enc ++ c.junk).all AV.one = true := by rw [List.all_append, hw.ho, all_one entE_one c.l]; rfl
  have hle : (c.l.eraseIdx k).length = c.l.length - 1 := by rw [List.length_eraseIdx, if_pos hk]
  have hB : S[i]? = some (.cells (c.l.flatMap entE.enc ++ c.junk) c.v (some 14) true) := hB
  simp only [delS, Cf.x, hB]
  rw [if_pos ⟨trivial, hcl, hlc, by omega, by omega, trivial, hl, hone⟩, Int.toNat_natCast]
  have hx : c.l.length - 1 = (c.del k).l.length := hle.symm
  have hbk : cutCells (c.l.flatMap entE.enc ++ c.junk) k c.l.length = (c.l.eraseIdx k).flatMap entE.enc ++ (zero14 ++ c.junk) := by
    have he : c.l.eraseIdx k = c.l.take k ++ c.l.drop (k + 1) := List.eraseIdx_eq_take_drop_succ ..
    have t1 : (c.l.flatMap entE.enc ++ c.junk).take (k * 14) = (c.l.take k).flatMap entE.enc := by
      rw [List.take_append_of_le_length (by rw [flat14]; omega)]; exact flat_take (E := entE) c.l k
    have t2 : ((c.l.flatMap entE.enc ++ c.junk).drop ((k + 1) * 14)).take ((c.l.length - (k + 1)) * 14) = (c.l.drop (k + 1)).flatMap entE.enc := by
      rw [List.drop_append_of_le_length (by rw [flat14]; omega)]
      rw [show (c.l.flatMap entE.enc).drop ((k + 1) * 14) = (c.l.drop (k + 1)).flatMap entE.enc from flat_drop (E := entE) c.l (k + 1)]
      rw [List.take_append_of_le_length (by rw [flat14, List.length_drop]; omega), List.take_of_length_le (by rw [flat14, List.length_drop]; omega)]
    have t3 : (c.l.flatMap entE.enc ++ c.junk).drop (c.l.length * 14) = c.junk := by rw [← flat14, List.drop_left]
    unfold cutCells
    rw [t1, t2, t3, he, List.flatMap_append, List.append_assoc, List.append_assoc]
    first | done | simp [List.append_assoc]
  rw [hx, hbk]; rfl
theorem Cf.app_wf (hw : c.wf) (a : Ent) : (c.app a).wf := by
  have hj := hw.hj
  have hlc := hw.hc
  unfold Cf.app
  split
  · rename_i h
    refine ⟨?_, ?_, ?_⟩
    · show (c.junk.drop 14).length = (c.cap - (c.l ++ [a]).length) * 14
      rw [List.length_drop, hj, List.length_append]; simp; omega
    · show (c.l ++ [a]).length ≤ c.cap
      rw [List.length_append]; exact h
    · show (c.junk.drop 14).all AV.one = true
      have := hw.ho
      rw [List.all_eq_true] at this ⊢
      exact fun y hy => this y (List.mem_of_mem_drop hy)
  · refine ⟨?_, ?_, rfl⟩
    · show ([] : List AV).length = (c.l.length + 1 - (c.l ++ [a]).length) * 14
      rw [List.length_append]; simp
    · show (c.l ++ [a]).length ≤ c.l.length + 1
      rw [List.length_append]; exact Nat.le_refl _
theorem Cf.app_eq (hw : c.wf) (hB : S[i]? = some c.blk) (a : Ent) (hl : c.l.length ≤ 1000000) : appV S 14 88 (c.x i) (entE.enc a) 1 = some ((c.app a).x i, S.set i (c.app a).blk) := by
  have hj := hw.hj
  have hlc := hw.hc
  have ha14 : (entE.enc a).length = 14 := rfl
  have hlim1 : (c.l.length + 1) * 88 ≤ lim := by show _ ≤ 70368744177664; omega
  have hlim2 : c.l.length + 1 ≤ lim := by show _ ≤ 70368744177664; omega
  have hB : S[i]? = some (.cells (c.l.flatMap entE.enc ++ c.junk) c.v (some 14) true) := hB
  unfold Cf.app
  by_cases hc : c.l.length + 1 ≤ c.cap
  · rw [if_pos hc]
    simp only [appV, Cf.x, hB]
    rw [if_neg (by omega), if_pos hc, if_pos ⟨trivial, by rw [List.length_append, flat14, hj]; omega, entE_one a⟩]
    have hbk : splice (c.l.flatMap entE.enc ++ c.junk) (0 + c.l.length * 14) (entE.enc a) = (c.l ++ [a]).flatMap entE.enc ++ c.junk.drop 14 := by
      unfold splice
      rw [Nat.zero_add, ha14, ← flat14, List.take_left, List.flatMap_append, List.drop_append, List.drop_of_length_le (by omega), List.nil_append, Nat.add_sub_cancel_left]
      simp [List.append_assoc]
    rw [hbk, List.length_append]; rfl
  · have hcl : c.cap = c.l.length := by omega
    have hj0 : c.junk = [] := List.eq_nil_of_length_eq_zero (by rw [hj]; omega)
    rw [if_neg hc]
    rw [hj0, List.append_nil] at hB
    simp only [appV, Cf.x, hB, Bool.false_eq_true, if_false]
    rw [if_neg (by omega), if_neg hc, if_pos ⟨hlim1, hlim2⟩, if_pos ⟨trivial, trivial, trivial, by rw [flat14]; omega, entE_one a⟩]
    have hbk : (c.l.flatMap entE.enc).take (c.l.length * 14) ++ entE.enc a = (c.l ++ [a]).flatMap entE.enc ++ [] := by
      rw [← flat14, List.take_length, List.append_nil, List.flatMap_append]
      simp
    rw [hbk, List.length_append]; rfl
theorem Cf.pol_wf (hw : c.wf) (k : Nat) (p : Pol) : (c.pol k p).wf := by
  refine ⟨?_, ?_, hw.ho⟩
  · show c.junk.length = (c.cap - (c.l.set k _).length) * 14
    rw [List.length_set]; exact hw.hj
  · show (c.l.set k _).length ≤ c.cap
    rw [List.length_set]; exact hw.hc
theorem Cf.pol_eq (hw : c.wf) {k : Nat} (hk : k < c.l.length) (p : Pol) :
    k * 14 + 13 ≤ (c.l.flatMap entE.enc ++ c.junk).length ∧ (c.l.flatMap entE.enc ++ c.junk).take (k * 14) ++ (p.enc ++ (c.l.flatMap entE.enc ++ c.junk).drop (k * 14 + 13)) = (c.pol k p).l.flatMap entE.enc ++ c.junk := by
  have hcs : k * 14 + 13 ≤ (c.l.flatMap entE.enc).length := by rw [flat14]; omega
  refine ⟨by rw [List.length_append]; omega, ?_⟩
  have hg : c.l.getD k noEnt = c.l[k] := by rw [List.getD_eq_getElem?_getD, List.getElem?_eq_getElem hk]; rfl
  have hsp := splice_at (E := entE) c.l hk ⟨p, c.l[k].granted⟩ (f := 0) (ys := p.enc) (by simp [entE, Pol.enc]) (by rfl)
  have hsp : (c.l.flatMap entE.enc).take (k * 14) ++ p.enc ++ (c.l.flatMap entE.enc).drop (k * 14 + 13) = (c.l.set k ⟨p, c.l[k].granted⟩).flatMap entE.enc := by rw [← hsp]; show _ = (c.l.flatMap entE.enc).take (k * 14 + 0) ++ (p.enc ++ (c.l.flatMap entE.enc).drop (k * 14 + 0 + 13)); simp only [Nat.add_zero, List.append_assoc]
  show _ = (c.l.set k ⟨p, (c.l.getD k noEnt).granted⟩).flatMap entE.enc ++ c.junk
  rw [hg, ← hsp, List.take_append_of_le_length (by omega), List.drop_append_of_le_length (by omega)]
  simp [List.append_assoc]
end

/-! ### Sorting: plain -/
theorem ex_rises : ∀ (l : List Ent), Once l → ∃ d, Rises d ∧ (∀ x, x ∈ d ↔ x ∈ l) ∧ d.length = l.length
  | [], _ => ⟨[], List.Pairwise.nil, fun x => Iff.rfl, rfl⟩
  | a :: l, ho => by
    obtain ⟨h1, h2⟩ := List.pairwise_cons.1 ho
    obtain ⟨d, d1, d2, d3⟩ := ex_rises l h2
    refine ⟨d.filter (fun x => decide (x.pol.sub < a.pol.sub)) ++ a :: d.filter (fun x => decide (a.pol.sub < x.pol.sub)), ?_, fun x => ?_, ?_⟩
    · refine List.pairwise_append.2 ⟨d1.filter _, List.pairwise_cons.2 ⟨fun y hy => ?_, d1.filter _⟩, fun y hy z hz => ?_⟩
      · have := (List.mem_filter.1 hy).2; simpa using this
      · have h3 := (List.mem_filter.1 hy).2
        simp only [decide_eq_true_eq] at h3
        rcases List.mem_cons.1 hz with rfl | hz
        · exact h3
        · have h4 := (List.mem_filter.1 hz).2
          simp only [decide_eq_true_eq] at h4
          omega
    · simp only [List.mem_append, List.mem_cons, List.mem_filter, decide_eq_true_eq]
      constructor
      · rintro (⟨h, _⟩ | h | ⟨h, _⟩)
        · exact .inr ((d2 x).1 h)
        · exact .inl h
        · exact .inr ((d2 x).1 h)
      · rintro (h | h)
        · exact .inr (.inl h)
        · have := h1 x h
          by_cases hlt : x.pol.sub < a.pol.sub
          · exact .inl ⟨(d2 x).2 h, hlt⟩
          · exact .inr (.inr ⟨(d2 x).2 h, by omega⟩)
    · rw [List.length_append, List.length_cons, List.length_cons, ← d3]
      have hne : ∀ x ∈ d, x.pol.sub ≠ a.pol.sub := fun x hx => (h1 x ((d2 x).1 hx)).symm
      clear h1 h2 d1 d2 d3 ho
      induction d with
      | nil => rfl
      | cons b d ih =>
        have ih := ih fun x hx => hne x (by simp [hx])
        have hb := hne b (by simp)
        simp only [List.filter_cons]
        by_cases hlt : b.pol.sub < a.pol.sub
        · have h2 : ¬ a.pol.sub < b.pol.sub := by omega
          simp only [hlt, h2, decide_true, decide_false, if_true, Bool.false_eq_true, if_false, List.length_cons]
          omega
        · have h2 : a.pol.sub < b.pol.sub := by omega
          simp only [hlt, h2, decide_true, decide_false, if_true, Bool.false_eq_true, if_false, List.length_cons]
          omega
theorem sortE_ok {l : List Ent} (ho : Once l) : Rises (sortE l) ∧ (∀ x, x ∈ sortE l ↔ x ∈ l) ∧ (sortE l).length = l.length := by
  obtain ⟨d, d1, d2, d3⟩ := ex_rises l ho
  have hex : ∃ d, Rises d ∧ ∀ x, x ∈ d ↔ x ∈ l := ⟨d, d1, d2⟩
  have h : Rises (sortE l) ∧ ∀ x, x ∈ sortE l ↔ x ∈ l := by
    unfold sortE
    rw [dif_pos hex]; exact hex.choose_spec
  refine ⟨h.1, h.2, ?_⟩
  rw [rises_ext h.1 d1 fun x => (h.2 x).trans (d2 x).symm]; exact d3
theorem sortE_eq {l d : List Ent} (ho : Once l) (hd : Rises d) (hm : ∀ x, x ∈ d ↔ x ∈ l) : d = sortE l :=
  rises_ext hd (sortE_ok ho).1 fun x => (hm x).trans ((sortE_ok ho).2.1 x).symm
theorem Cf.sort_wf {c : Cf} (hw : c.wf) (ho : Once c.l) : c.sort.wf := by
  have h := (sortE_ok ho).2.2
  refine ⟨?_, ?_, hw.ho⟩
  · show c.junk.length = (c.cap - (sortE c.l).length) * 14
    rw [h]; exact hw.hj
  · show (sortE c.l).length ≤ c.cap
    rw [h]; exact hw.hc
end Go.Proofs.Ytapgkaecamljbaa

namespace Go.Proofs.Ytapgkaecamljbaa
open Go.Shelf
def Try.laysSort_ren : Go.Shelf.Ren := ⟨fun | 6 => 54 | 15 => 79 | 14 => 78 | 28 => 97 | 29 => 98 | 20 => 89 | 21 => 90 | 22 => 91 | 23 => 92 | 24 => 93 | 25 => 94 | 26 => 95 | 27 => 96 | 46 => 104 | 47 => 105 | 48 => 106 | 49 => 107 | 50 => 108 | 57 => 110 | n => n, fun | 22 => 23 | 24 => 46 | 25 => 100 | 3 => 3 | 39 => 123 | 0 => 0 | 53 => 107 | 55 => 22 | 4 => 4 | 46 => 132 | 45 => 131 | 50 => 113 | 5 => 5 | 9 => 9 | 66 => 141 | 70 => 145 | 76 => 148 | 77 => 149 | n => n, fun | n => n⟩
theorem Try.laysSort : Go.Proofs.SlLaysF0.n6 Try.prog Try.laysSort_ren := {
  mixed := by kernel_rfl
  f6 := ⟨Try.f54.name, by decide, Try.func54.trans (congrArg some (by kernel_rfl))⟩
  f14 := ⟨Try.f78.name, by decide, Try.func78.trans (congrArg some (by kernel_rfl))⟩
  f15 := Try.func79.trans (congrArg some (by kernel_rfl))
  f20 := ⟨Try.f89.name, by decide, Try.func89.trans (congrArg some (by kernel_rfl))⟩
  f21 := ⟨Try.f90.name, by decide, Try.func90.trans (congrArg some (by kernel_rfl))⟩
  f22 := ⟨Try.f91.name, by decide, Try.func91.trans (congrArg some (by kernel_rfl))⟩
  f23 := ⟨Try.f92.name, by decide, Try.func92.trans (congrArg some (by kernel_rfl))⟩
  f24 := ⟨Try.f93.name, by decide, Try.func93.trans (congrArg some (by kernel_rfl))⟩
  f25 := ⟨Try.f94.name, by decide, Try.func94.trans (congrArg some (by kernel_rfl))⟩
  f26 := ⟨Try.f95.name, by decide, Try.func95.trans (congrArg some (by kernel_rfl))⟩
  f27 := ⟨Try.f96.name, by decide, Try.func96.trans (congrArg some (by kernel_rfl))⟩
  f28 := Try.func97.trans (congrArg some (by kernel_rfl))
  f29 := Try.func98.trans (congrArg some (by kernel_rfl))
  f46 := ⟨Try.f104.name, by decide, Try.func104.trans (congrArg some (by kernel_rfl))⟩
  f47 := Try.func105.trans (congrArg some (by kernel_rfl))
  f48 := Try.func106.trans (congrArg some (by kernel_rfl))
  f49 := ⟨Try.f107.name, by decide, Try.func107.trans (congrArg some (by kernel_rfl))⟩
  f50 := ⟨Try.f108.name, by decide, Try.func108.trans (congrArg some (by kernel_rfl))⟩
  f57 := ⟨Try.f110.name, by decide, Try.func110.trans (congrArg some (by kernel_rfl))⟩
  t0 := Try.underlying0
  a0 := Try.isAgg0
  z0 := Try.sizeOf0
  v0 := Try.zeroValue0
  t3 := Try.underlying3
  a3 := Try.isAgg3
  z3 := Try.sizeOf3
  v3 := Try.zeroValue3
  t4 := Try.underlying4
  a4 := Try.isAgg4
  z4 := Try.sizeOf4
  v4 := Try.zeroValue4
  t5 := Try.underlying5
  a5 := Try.isAgg5
  z5 := Try.sizeOf5
  v5 := Try.zeroValue5
  t9 := Try.underlying9
  a9 := Try.isAgg9
  z9 := Try.sizeOf9
  v9 := Try.zeroValue9
  t22 := Try.underlying23
  a22 := Try.isAgg23
  z22 := Try.sizeOf23
  v22 := Try.zeroValue23
  t25 := Try.underlying100
  a25 := Try.isAgg100
  z25 := Try.sizeOf100
  v25 := Try.zeroValue100
  t39 := Try.underlying123
  a39 := Try.isAgg123
  z39 := Try.sizeOf123
  v39 := Try.zeroValue123
  t45 := Try.underlying131
  a45 := Try.isAgg131
  z45 := Try.sizeOf131
  v45 := Try.zeroValue131
  t46 := Try.underlying132
  a46 := Try.isAgg132
  z46 := Try.sizeOf132
  v46 := Try.zeroValue132
  t50 := Try.underlying113
  a50 := Try.isAgg113
  z50 := Try.sizeOf113
  v50 := Try.zeroValue113
  t53 := Try.underlying107
  a53 := Try.isAgg107
  z53 := Try.sizeOf107
  v53 := Try.zeroValue107
  t55 := Try.underlying22
  a55 := Try.isAgg22
  z55 := Try.sizeOf22
  v55 := Try.zeroValue22
  t66 := Try.underlying141
  a66 := Try.isAgg141
  z66 := Try.sizeOf141
  v66 := Try.zeroValue141
  t70 := Try.underlying145
  a70 := Try.isAgg145
  z70 := Try.sizeOf145
  v70 := Try.zeroValue145
  t76 := Try.underlying148
  a76 := Try.isAgg148
  z76 := Try.sizeOf148
  v76 := Try.zeroValue148
  t77 := Try.underlying149
  a77 := Try.isAgg149
  z77 := Try.sizeOf149
  v77 := Try.zeroValue149 }
end Go.Proofs.Ytapgkaecamljbaa

namespace Go.Proofs.Ytapgkaecamljbaa
open Go.RowKit Go.Sort
set_option linter.unusedSimpArgs false
set_option linter.unusedVariables false
set_option maxRecDepth 10000

noncomputable def sortS : Spec := fun args S => match args with
  | [.sl i 0 v n cap false, .f (.func f) [] []] => open Classical in if h : f = 55 ∧ ∃ c : Cf, c.wf ∧ Once c.l ∧ c.l.length ≤ 1000000 ∧ v = c.v ∧ n = c.l.length ∧ cap = c.cap ∧ S[i]? = some c.blk then
      some (.tu [], S.set i h.2.choose.sort.blk) else none
  | _ => none
theorem cf_same {S : Mem} {i : Nat} {c c' : Cf} (h1 : c.v = c'.v) (h2 : c.l.length = c'.l.length) (h3 : c.cap = c'.cap) (h4 : S[i]? = some c.blk) (h5 : S[i]? = some c'.blk) : c = c' := by
  obtain ⟨v, cap, junk, l⟩ := c
  obtain ⟨v', cap', junk', l'⟩ := c'
  simp only at h1 h2 h3
  subst h1 h3
  rw [h4] at h5
  simp only [Cf.blk, Option.some.injEq, Blk.cells.injEq, and_true] at h5
  have h6 : (l.flatMap entE.enc).length = (l'.flatMap entE.enc).length := by rw [flat14, flat14, h2]
  obtain ⟨h7, h8⟩ := List.append_inj h5 h6
  have h9 : l = l' := by
    have e1 := decL_enc (E := entE) l
    have e2 := decL_enc (E := entE) l'
    rw [h7, h2] at e1
    rw [e1] at e2
    exact Option.some.inj e2
  rw [h9, h8]
theorem sort_eq {S : Mem} {i : Nat} {c : Cf} (hw : c.wf) (ho : Once c.l) (hl : c.l.length ≤ 1000000) (hB : S[i]? = some c.blk) : sortS [c.x i, .f (.func 55) [] []] S = some (.tu [], S.set i c.sort.blk) := by
  have hex : 55 = 55 ∧ ∃ c' : Cf, c'.wf ∧ Once c'.l ∧ c'.l.length ≤ 1000000 ∧ c.v = c'.v ∧ c.l.length = c'.l.length ∧ c.cap = c'.cap ∧ S[i]? = some c'.blk := ⟨rfl, c, hw, ho, hl, rfl, rfl, rfl, hB⟩
  simp only [sortS, Cf.x]
  rw [dif_pos hex]
  obtain ⟨_, _, _, g1, g2, g3, g4⟩ := hex.2.choose_spec
  exact congrArg (fun q : Cf => some (AV.tu [], S.set i q.sort.blk)) (cf_same g1 g2 g3 hB g4).symm
theorem swo_sub : SWO (ltOf fun x y : Ent => cmpI x.pol.sub y.pol.sub) := by
  have e : ∀ x y : Ent, ltOf (fun x y : Ent => cmpI x.pol.sub y.pol.sub) x y = decide (x.pol.sub < y.pol.sub) := fun x y => by
    unfold ltOf
    simp only
    exact decide_eq_decide.2 cmpI_neg
  refine ⟨fun x => ?_, fun x y z h1 h2 => ?_, fun x y z h1 h2 => ?_⟩
  · rw [e]; simp
  · rw [e] at h1 h2 ⊢
    simp only [decide_eq_true_eq] at h1 h2 ⊢
    omega
  · rw [e] at h1 h2 ⊢
    simp only [decide_eq_false_iff_not] at h1 h2 ⊢
    omega
theorem sort_ok : SpecOK Try.prog 54 sortS := by
  intro args S x S' h
  unfold sortS at h
  split at h
  · rename_i i v n cap f
    split at h
    · rename_i hex
      obtain ⟨rfl, hc⟩ := hex
      simp only [Option.some.injEq, Prod.mk.injEq] at h
      obtain ⟨rfl, rfl⟩ := h
      have sp := hc.choose_spec
      revert sp
      generalize hc.choose = c
      intro sp
      obtain ⟨hw, ho, hl, rfl, rfl, rfl, hB⟩ := sp
      clear hc
      refine ⟨by kernel_rfl, fun base w0 K w vs hΛ hA hS => ?_⟩
      obtain ⟨v1, v2, hvs⟩ : ∃ v1 v2, vs.toList = [v1, v2] := by
        match hh : vs.toList, hA.1 with
        | [p, q], _ => exact ⟨p, q, rfl⟩
      rw [hvs] at hA
      have q1 : VR K S (.sl i 0 c.v c.l.length c.cap false) v1 := hA.2 0 (by simp) (by simp)
      have q2 : VR K S (.f (.func 55) [] []) v2 := hA.2 1 (by simp) (by simp)
      have hvs' : vs = #[v1, v2] := by rw [← Array.toArray_toList (xs := vs), hvs]
      subst hvs'
      have hB : S[i]? = some (.cells (c.l.flatMap entE.enc ++ c.junk) c.v (some 14) true) := hB
      cases q1 with
      | sl _ _ _ _ _ _ a cc B h1 h2 h3 h4 h5 h6 =>
        rw [hB] at h1
        injection h1 with h1
        subst h1
        obtain ⟨rfl, _⟩ := h6 rfl
        cases q2 with
        | f _ _ _ x' y' hx hy hhx hhy =>
          have hx0 : x' = #[] := Array.eq_empty_of_size_eq_zero hx.symm
          have hy0 : y' = #[] := Array.eq_empty_of_size_eq_zero hy.symm
          subst hx0 hy0
          have hH := holds_of_sim hS hB
          have hblk : K.μ i < w.heap.size := by
            obtain ⟨ar, et, fz, g1, _⟩ := hS.blk i _ hB
            exact (Array.getElem?_eq_some_iff.1 g1).1
          have hk := AnyQ.slices_SortFunc Try.laysSort 14 Try.isAgg46 Try.sizeOf46 entV entV_len entV_cell (fun x y : Ent => cmpI x.pol.sub y.pol.sub) swo_sub 55 #[] (K.μ i) 0 cc c.l.toArray w
            (fun args w => run_callFunc (by kernel_rfl) args) (fun m os dk hs x y => closure_calls x y _) hH hblk (by simp; omega)
          have hk' : Calls Try.prog 54 #[.slice (some ⟨K.μ i, 0, none⟩) c.l.length cc, .func (.func 55) #[] #[]] w _ := hk
          refine hk'.mono fun e w' hp => ?_
          obtain ⟨rfl, d', n, os, hpm, hso, rfl⟩ := hp
          obtain ⟨p1, p2, p3⟩ := hpm
          have hsz : d'.size = c.l.length := by rw [p1]; simp
          have hd : d'.toList.length = c.l.length := by rw [Array.length_toList, hsz]
          have hperm : d'.toList.Perm c.l := by
            have e1 : d'.extract 0 c.l.toArray.size = d' := by
              rw [show c.l.toArray.size = d'.size by rw [hsz]; simp]; simp
            have e2 : c.l.toArray.extract 0 c.l.toArray.size = c.l.toArray := by simp
            rw [e1, e2] at p3
            simpa using p3
          have hri := rises_of_sorted hperm ho fun i j hij hj => by
            have hj' : j < d'.size := by simpa using hj
            have hh := hso i j (Nat.zero_le _) hij (by rw [show c.l.toArray.size = d'.size by rw [hsz]; simp]; exact hj')
            have e1 : d'[j]! = d'.toList[j] := by rw [getElem!_pos d' j hj']; simp
            have e2 : d'[i]! = d'.toList[i]'(by omega) := by rw [getElem!_pos d' i (by omega)]; simp
            rw [e1, e2] at hh
            unfold ltOf at hh
            simpa using hh
          have hde : d'.toList = sortE c.l := sortE_eq ho hri.1 hri.2
          obtain ⟨r1, r2⟩ := sim_sorted hS hB hsz n os
          have hbk : c.sort.blk = .cells (d'.toList.flatMap entE.enc ++ c.junk) c.v (some 14) true := by rw [hde]; rfl
          rw [hbk]
          exact ⟨K, _, rfl, .tu [] #[] rfl fun k => .u _, r1, r2⟩
    · cases h
  · cases h
end Go.Proofs.Ytapgkaecamljbaa

namespace Go.Proofs.Ytapgkaecamljbaa
open Go.RowKit
set_option linter.unusedSimpArgs false
set_option linter.unusedVariables false
set_option maxRecDepth 10000

def dropC : List Int → Cf → Cf × Bool
  | [], c => (c, true)
  | id :: ds, c => match c.l.findIdx? (hasSub id) with
    | some k => dropC ds (c.del k)
    | none => (c, false)
def putC : List Pol → Cf → Cf
  | [], c => c
  | p :: ps, c => match c.l.findIdx? (hasSub p.sub) with
    | some k => putC ps (c.pol k p)
    | none => putC ps (c.app ⟨p, 0⟩)
theorem dropC_all : ∀ (ds : List Int) (c : Cf), dropAll ds c.l = if (dropC ds c).2 = true then some (dropC ds c).1.l else none
  | [], c => rfl
  | id :: ds, c => by
    cases h : c.l.findIdx? (hasSub id) with
    | none => simp only [dropAll, dropC, h]; rfl
    | some k => simp only [dropAll, dropC, h]; exact dropC_all ds (c.del k)
theorem putC_all : ∀ (ps : List Pol) (c : Cf), (putC ps c).l = putAll ps c.l
  | [], c => rfl
  | p :: ps, c => by
    cases h : c.l.findIdx? (hasSub p.sub) with
    | none => simp only [putAll, putC, h]; exact (putC_all ps (c.app ⟨p, 0⟩)).trans (by rw [Cf.app_l])
    | some k => simp only [putAll, putC, h]; exact putC_all ps (c.pol k p)
def commitOk (l : List Ent) (e : Evt) : Prop := Once l ∧ e.drops.Nodup ∧ (e.puts.Pairwise fun p q => p.sub ≠ q.sub) ∧ l.length + e.puts.length ≤ 1000000 ∧ e.drops.length ≤ 1000000

/-- A list that is empty and has no block of its own to grow in. -/
def noX (S : Mem) : AV → Bool
  | .sn => true
  | .sl i 0 0 0 0 true => match S[i]? with
    | some (.cells [] 0 none true) => true
    | _ => false
  | _ => false
theorem noX_cases {S : Mem} {x : AV} (h : noX S x = true) : x = .sn ∨ ∃ i, x = .sl i 0 0 0 0 true ∧ S[i]? = some (.cells [] 0 none true) := by
  unfold noX at h
  split at h
  · exact .inl rfl
  · rename_i i
    split at h
    · rename_i hB; exact .inr ⟨i, rfl, hB⟩
    · cases h
  · cases h
def bs (md : Option Nat) (S : Mem) : Mem := match md with
  | some i => S.take i
  | none => S
/-- The list in its own block ('md': the block's number), or in no block yet, or in a new block. -/
def Kx (S M : Mem) (md : Option Nat) (x : AV) (c : Cf) : Prop := match md with
  | some i => x = c.x i ∧ c.wf ∧ i < S.length ∧ ∃ L, M = S.set i c.blk ++ L
  | none => S <+: M ∧ ((c.l = [] ∧ noX S x = true) ∨ ∃ (p : Nat) (c' : Cf), c'.l = c.l ∧ c'.wf ∧ x = c'.x (S.length + p) ∧ M[S.length + p]? = some c'.blk)
section
variable {S M : Mem} {md : Option Nat} {x : AV} {c : Cf}
theorem set_at {i : Nat} {B : Blk} (h : i < S.length) : (S.set i B)[i]? = some B := by simp [h]
theorem Kx.blk {i : Nat} (h : Kx S M (some i) x c) : M[i]? = some c.blk := by
  obtain ⟨_, _, hi, L, rfl⟩ := h
  exact at_old (set_at hi)
theorem Kx.ext (h : Kx S M md x c) : bs md S <+: M := by
  cases md with
  | none => exact h.1
  | some i =>
    obtain ⟨_, _, hi, L, rfl⟩ := h
    refine ext_more ?_ L
    show S.take i <+: S.set i c.blk
    rw [List.set_eq_take_append_cons_drop, if_pos hi]
    exact List.prefix_append _ _
theorem Kx.grow (h : Kx S M md x c) (U : Mem) : Kx S (M ++ U) md x c := by
  cases md with
  | none =>
    refine ⟨ext_more h.1 U, ?_⟩
    rcases h.2 with h | ⟨p, c', h1, h2, h3, h4⟩
    · exact .inl h
    · exact .inr ⟨p, c', h1, h2, h3, at_old h4⟩
  | some i =>
    obtain ⟨h1, h2, hi, L, rfl⟩ := h
    exact ⟨h1, h2, hi, L ++ U, by rw [List.append_assoc]⟩
theorem Kx.lst (h : Kx S M md x c) : lstV entE M x = some c.l := by
  cases md with
  | none =>
    obtain ⟨hS, ⟨h1, h2⟩ | ⟨p, c', h1, h2, h3, h4⟩⟩ := h
    · rw [h1]
      rcases noX_cases h2 with rfl | ⟨i, rfl, hB⟩
      · rfl
      · have hB' := at_pre hS hB
        refine lst_lstV (.inr (.inr ⟨_, _, _, _, _, _, rfl, rfl, ?_⟩))
        rw [rowAt_B, hB']; rfl
    · rw [h3, ← h1]; exact Cf.lst h2 h4
  | some i =>
    have hB := h.blk
    obtain ⟨rfl, h2, hi, L, rfl⟩ := h
    exact Cf.lst h2 hB
theorem Kx.del {i : Nat} (h : Kx S M (some i) x c) {k : Nat} (hk : k < c.l.length) (hl : c.l.length ≤ 1000000) :
    ∃ x' M', delS [x, .i .i64 (k : Int), .i .i64 ((k : Int) + 1)] M = some (x', M') ∧ Kx S M' (some i) x' (c.del k) ∧ M' = M.set i (c.del k).blk := by
  have hB := h.blk
  obtain ⟨rfl, h2, hi, L, rfl⟩ := h
  have hs : ∀ U : Mem, (S.set i c.blk ++ U).set i (c.del k).blk = S.set i (c.del k).blk ++ U := fun U => by rw [set_old (set_at hi), List.set_set]
  exact ⟨_, _, Cf.del_eq h2 hB hk hl, ⟨rfl, Cf.del_wf h2 hk, hi, L, hs L⟩, rfl⟩
theorem Kx.app (h : Kx S M md x c) (a : Ent) (hl : c.l.length ≤ 1000000) : ∃ x' M', appV M 14 88 x (entE.enc a) 1 = some (x', M') ∧ Kx S M' md x' (c.app a) := by
  cases md with
  | none =>
    obtain ⟨hS, ⟨h1, h2⟩ | ⟨p, c', h1, h2, h3, h4⟩⟩ := h
    · obtain ⟨T, rfl⟩ := hS
      refine ⟨.sl (S ++ T).length 0 0 1 1 false, (S ++ T) ++ [.cells (entE.enc a) 0 (some 14) true], ?_, ext_more (ext_app _) _, .inr ⟨T.length, ⟨0, 1, [], [a]⟩, ?_, ⟨rfl, Nat.le_refl _, rfl⟩, ?_, ?_⟩⟩
      · rcases noX_cases h2 with rfl | ⟨i, rfl, hB⟩
        · simp only [appV]
          rw [if_neg (by omega), if_pos ⟨by decide, by decide⟩]
        · have hc : rowAt (S ++ T) i 0 0 (0 * 14) = some [] := by rw [rowAt_B, at_old hB]; rfl
          simp only [appV, hc]
          rw [if_neg (by omega), if_neg (by omega), if_pos ⟨by decide, by decide⟩]
          rfl
      · rw [Cf.app_l, h1]; rfl
      · rw [List.length_append]; rfl
      · rw [← List.length_append, at_app0]
        show some (Blk.cells (entE.enc a) 0 (some 14) true) = some (.cells ([a].flatMap entE.enc ++ []) 0 (some 14) true)
        simp
    · refine ⟨_, _, by rw [h3]; exact Cf.app_eq h2 h4 a (by rw [h1]; exact hl), ext_set hS (by omega) _, .inr ⟨p, c'.app a, by rw [Cf.app_l, Cf.app_l, h1], Cf.app_wf h2 a, rfl, at_set h4⟩⟩
  | some i =>
    have hB := h.blk
    obtain ⟨rfl, h2, hi, L, rfl⟩ := h
    exact ⟨_, _, Cf.app_eq h2 hB a hl, rfl, Cf.app_wf h2 a, hi, L, by rw [set_old (set_at hi), List.set_set]⟩
theorem Kx.pol (h : Kx S M md x c) {k : Nat} (hk : k < c.l.length) (p : Pol) :
    ∃ i cs v cap, x = .sl i 0 v c.l.length cap false ∧ M[i]? = some (.cells cs v (some 14) true) ∧ k * 14 + 13 ≤ cs.length ∧ Kx S (M.set i (.cells (cs.take (k * 14) ++ (p.enc ++ cs.drop (k * 14 + 13))) v (some 14) true)) md x (c.pol k p) := by
  cases md with
  | none =>
    obtain ⟨hS, ⟨h1, h2⟩ | ⟨q, c', h1, h2, h3, h4⟩⟩ := h
    · rw [h1] at hk; cases hk
    · have hk' : k < c'.l.length := by rw [h1]; exact hk
      obtain ⟨g1, g2⟩ := Cf.pol_eq h2 hk' p
      refine ⟨S.length + q, _, c'.v, c'.cap, by rw [h3, ← h1]; rfl, h4, g1, ext_set hS (by omega) _, .inr ⟨q, c'.pol k p, ?_, Cf.pol_wf h2 k p, ?_, ?_⟩⟩
      · show c'.l.set k _ = c.l.set k _
        rw [h1]
      · rw [h3]
        show AV.sl _ 0 c'.v c'.l.length c'.cap false = AV.sl _ 0 c'.v (c'.l.set k _).length c'.cap false
        rw [List.length_set]
      · rw [at_set h4, g2]; rfl
  | some i =>
    have hB := h.blk
    obtain ⟨rfl, h2, hi, L, rfl⟩ := h
    obtain ⟨g1, g2⟩ := Cf.pol_eq h2 hk p
    refine ⟨i, _, c.v, c.cap, rfl, hB, g1, ?_, Cf.pol_wf h2 k p, hi, L, ?_⟩
    · show AV.sl _ 0 c.v c.l.length c.cap false = AV.sl _ 0 c.v (c.l.set k _).length c.cap false
      rw [List.length_set]
    · rw [set_old (set_at hi), List.set_set, g2]; rfl
end
theorem putC_app {p : Pol} {ps : List Pol} {c : Cf} (h : c.l.findIdx? (hasSub p.sub) = none) : putC (p :: ps) c = putC ps (c.app ⟨p, 0⟩) := by simp only [putC, h]
theorem putC_pol {p : Pol} {ps : List Pol} {c : Cf} {k : Nat} (h : c.l.findIdx? (hasSub p.sub) = some k) : putC (p :: ps) c = putC ps (c.pol k p) := by simp only [putC, h]
theorem dropC_none {id : Int} {ds : List Int} {c : Cf} (h : c.l.findIdx? (hasSub id) = none) : dropC (id :: ds) c = (c, false) := by simp only [dropC, h]
theorem dropC_some {id : Int} {ds : List Int} {c : Cf} {k : Nat} (h : c.l.findIdx? (hasSub id) = some k) : dropC (id :: ds) c = dropC ds (c.del k) := by simp only [dropC, h]
end Go.Proofs.Ytapgkaecamljbaa

namespace Go.Proofs.Ytapgkaecamljbaa
open Go.RowKit
set_option linter.unusedSimpArgs false
set_option linter.unusedVariables false
set_option maxRecDepth 10000

theorem oCo_ok : OK Try.prog (lamOf Try.prog) (orcOf [(41, placeS), (53, delS), (54, sortS)]) := orc_ok (by simpa using ⟨place_ok, del_ok, sort_ok⟩)
theorem commit_walk {S : Mem} {x : AV} {ce : List AV} {md : Option Nat} {c0 : Cf} {ev : Evt} {rx : AV} {rS : Mem} (hK : Kx S S md x c0) (hn : md = none → c0.l = []) (hev : evtOf (bs md S) ce = some ev) (hok : commitOk c0.l ev)
    (hF : (dropC ev.drops c0).2 = false → ∀ x' c M, Kx S M md x' c → c.v = c0.v → WkV S rx rS (.tu [.sn, .b false]) M)
    (hT : (dropC ev.drops c0).2 = true → ∀ x' M, Kx S M md x' (putC ev.puts (dropC ev.drops c0).1) → ∃ M', sortS [x', .f (.func 55) [] []] M = some (.tu [], M') ∧ WkV S rx rS (.tu [x', .b true]) M') :
    FnOK Try.prog 29 [x, .ag ce] S rx rS := by
  obtain ⟨xp, xd, rfl, hp, hd⟩ := evtOf_ok hev
  obtain ⟨k0, s0, ps, ds, g0, q0⟩ := ev
  obtain ⟨ho, hdn, hpn, hlim, hlim2⟩ := hok
  simp only at hp hd hF hT ho hdn hpn hlim hlim2
  refine fn_of_wp f29 rfl (W_sound oCo_ok mixed _ _ _ _ _ ?_)
  simp (maxSteps := 1000000) (disch := omega) only [c29, lst_cells hp, lst_cells hd, lst_len hd, List.replicate, go_sem, Option.map_none, Option.map_some, ↓reduceIte, Nat.reduceBEq, Nat.reduceAdd, Nat.reduceSub, Nat.reduceEqDiff, Nat.reduceLeDiff, Nat.reduceMul, Nat.reduceLT, Int.reduceLT, Int.reduceLE, Int.reduceAdd, Int.reduceSub, Int.reduceMul, Int.reduceNeg, Int.reduceEq, Int.reduceNe, Int.reduceToNat, decide_true, decide_false, iaddr_i, iaddr_sl_i, not_true_eq_false, not_false_eq_true, reduceCtorEq, ne_eq, forall_const, false_imp_iff, true_imp_iff, implies_true, Int.cast_ofNat_Int, Int.natCast_zero, Int.natCast_one, Int.add_zero, Int.zero_add]
  obtain ⟨evb, hevb⟩ : ∃ evb : Blk, evb = .cells [.i .i64 k0, .i .i64 s0, xp, xd, .i .u64 g0, .i .u64 q0] 0 none true := ⟨_, rfl⟩
  refine wp_loop (fun j e M dl => dl = [] ∧ ∃ (t : Nat) (c : Cf) (x' : AV), j = ds.length - t ∧ t ≤ ds.length ∧ Kx S M md x' c ∧ M[S.length]? = some evb ∧ dropC (ds.drop t) c = dropC ds c0 ∧ c.v = c0.v ∧ c.l.length ≤ c0.l.length ∧ (md = none → c.l = []) ∧
    e.get 13 = xd ∧ e.get 3 = .p S.length 0 0 ∧ e.get 14 = .i .i64 ds.length ∧ e.get 15 = .i .i64 t ∧ e.get 0 = x') (j := ds.length)
    ⟨rfl, 0, c0, x, rfl, Nat.zero_le _, hK.grow _, by rw [hevb, at_app0]; rfl, by rw [List.drop_zero], rfl, Nat.le_refl _, hn, rfl, rfl, rfl, rfl, rfl⟩ ?_
  rintro j e M d' ⟨rfl, t, c, x', rfl, ht, hKx, hE, hdc, hv, hcl, hmn, e13, e3, e14, e15, e0⟩
  refine W_sound oCo_ok mixed _ _ _ _ _ ?_
  have hpl := fun (n : Int) => place_eq hKx.lst n (by omega)
  have hbdE := hKx.ext
  have hpM := lst_ext hp hbdE
  have hdM := lst_ext hd hbdE
  by_cases htl : t < ds.length
  · obtain ⟨bi, o, v, cap, ex, rfl⟩ := lst_sl hd htl
    have hc := lstV_cell hdM rfl (fun a => rfl) htl []
    rw [List.append_nil] at hc
    have htI : (t : Int) < ds.length := by omega
    have hw1 : wrapV .i64 ((t : Int) + 1) = ((t + 1 : Nat) : Int) := by rw [wrap_i64 (by omega) (by omega)]; omega
    have hdr : ds.drop t = ds[t] :: ds.drop (t + 1) := List.drop_eq_getElem_cons htl
    rw [hdr] at hdc
    cases hi : c.l.findIdx? (hasSub ds[t]) with
    | none =>
      rw [dropC_none hi] at hdc
      simp (maxSteps := 1000000) (disch := omega) only [c29l0, e13, e3, e14, e15, e0, htI, Int.toNat_natCast, Nat.mul_one, hc, orc_cons, hpl, idx_eq_none hi, go_sem, Option.map_none, Option.map_some, ↓reduceIte, Nat.reduceBEq, Nat.reduceAdd, Nat.reduceSub, Nat.reduceEqDiff, Nat.reduceLeDiff, Nat.reduceMul, Nat.reduceLT, Int.reduceLT, Int.reduceLE, Int.reduceAdd, Int.reduceSub, Int.reduceMul, Int.reduceNeg, Int.reduceEq, Int.reduceNe, Int.reduceToNat, decide_true, decide_false, iaddr_i, iaddr_sl_i, not_true_eq_false, not_false_eq_true, reduceCtorEq, ne_eq, forall_const, false_imp_iff, true_imp_iff, implies_true, Int.cast_ofNat_Int, Int.natCast_zero, Int.natCast_one, Int.add_zero, Int.zero_add]
      exact hF (by rw [← hdc]) _ _ _ hKx hv
    | some k =>
      obtain ⟨hk, _, _⟩ := List.findIdx?_eq_some_iff_getElem.1 hi
      rw [dropC_some hi] at hdc
      have hk0 : ¬ ((k : Int) < 0) := by omega
      have hwk : wrapV .i64 ((k : Int) + 1) = (k : Int) + 1 := by rw [wrap_i64 (by omega) (by omega)]
      cases md with
      | none => rw [hmn rfl] at hk; cases hk
      | some i =>
        obtain ⟨x2, M2, hde, hK2, hM2⟩ := hKx.del hk (by omega)
        have hiS : i < S.length := hKx.2.2.1
        have hE2 : M2[S.length]? = some evb := by rw [hM2, at_set_ne (by omega)]; exact hE
        simp (maxSteps := 1000000) (disch := omega) only [c29l0, e13, e3, e14, e15, e0, htI, Int.toNat_natCast, Nat.mul_one, hc, orc_cons, hpl, idx_eq_some hi, hk0, hwk, hde, hw1, go_sem, Option.map_none, Option.map_some, ↓reduceIte, Nat.reduceBEq, Nat.reduceAdd, Nat.reduceSub, Nat.reduceEqDiff, Nat.reduceLeDiff, Nat.reduceMul, Nat.reduceLT, Int.reduceLT, Int.reduceLE, Int.reduceAdd, Int.reduceSub, Int.reduceMul, Int.reduceNeg, Int.reduceEq, Int.reduceNe, Int.reduceToNat, decide_true, decide_false, iaddr_i, iaddr_sl_i, not_true_eq_false, not_false_eq_true, reduceCtorEq, ne_eq, forall_const, false_imp_iff, true_imp_iff, implies_true, Int.cast_ofNat_Int, Int.natCast_zero, Int.natCast_one, Int.add_zero, Int.zero_add]
        refine ⟨ds.length - (t + 1), by omega, t + 1, c.del k, x2, rfl, htl, hK2, hE2, hdc, hv, ?_, rfl, rfl⟩
        have : (c.l.eraseIdx k).length ≤ c.l.length := List.length_eraseIdx_le ..
        exact Nat.le_trans this hcl
  · have htI : ¬ (t : Int) < ds.length := by omega
    obtain rfl : t = ds.length := by omega
    rw [List.drop_length] at hdc
    have hc1 : (dropC ds c0).2 = true ∧ (dropC ds c0).1 = c := by rw [← hdc]; exact ⟨rfl, rfl⟩
    rw [hc1.2] at hT
    have hT := hT hc1.1
    rw [hevb] at hE
    simp (maxSteps := 1000000) (disch := omega) only [c29l0, e13, e3, e14, e15, e0, htI, hE, lst_len hp, go_sem, Option.map_none, Option.map_some, ↓reduceIte, Nat.reduceBEq, Nat.reduceAdd, Nat.reduceSub, Nat.reduceEqDiff, Nat.reduceLeDiff, Nat.reduceMul, Nat.reduceLT, Int.reduceLT, Int.reduceLE, Int.reduceAdd, Int.reduceSub, Int.reduceMul, Int.reduceNeg, Int.reduceEq, Int.reduceNe, Int.reduceToNat, decide_true, decide_false, iaddr_i, iaddr_sl_i, not_true_eq_false, not_false_eq_true, reduceCtorEq, ne_eq, forall_const, false_imp_iff, true_imp_iff, implies_true, Int.cast_ofNat_Int, Int.natCast_zero, Int.natCast_one, Int.add_zero, Int.zero_add]
    refine wp_loop (fun j e M dl => dl = [] ∧ ∃ (t : Nat) (c1 : Cf) (x1 : AV), j = ps.length - t ∧ t ≤ ps.length ∧ Kx S M md x1 c1 ∧ putC (ps.drop t) c1 = putC ps c ∧ c1.l.length ≤ c.l.length + t ∧ e.get 0 = x1 ∧ e.get 31 = xp ∧ e.get 32 = .i .i64 ps.length ∧ e.get 33 = .i .i64 t) (j := ps.length)
      ⟨rfl, 0, c, x', rfl, Nat.zero_le _, hKx, by rw [List.drop_zero], Nat.le_refl _, rfl, rfl, rfl, rfl⟩ ?_
    clear hE hpl hbdE hpM hdM e13 e3 e14 e0 e15 hKx
    rintro j2 e2 M2 d2 ⟨rfl, t, c1, x1, rfl, ht2, hK1, hpc, hl1, g0', g31, g32, g33⟩
    refine W_sound oCo_ok mixed _ _ _ _ _ ?_
    have hpM := lst_ext hp hK1.ext
    have hpl := fun (L : Mem) (n : Int) => place_eq (hK1.grow L).lst n (by omega)
    by_cases htl : t < ps.length
    · obtain ⟨bi, o, v, cap, ex, rfl⟩ := lst_sl hp htl
      have hr := lstV_row hpM htl []
      rw [List.append_nil] at hr
      have hdr : ps.drop t = ps[t] :: ps.drop (t + 1) := List.drop_eq_getElem_cons htl
      rw [hdr] at hpc
      generalize ps[t] = p at hr hpc
      have hr : rowB (M2[bi]?) (o + t * 13) v 13 = some p.enc := hr
      have htI : (t : Int) < ps.length := by omega
      have hw1 : wrapV .i64 ((t : Int) + 1) = ((t + 1 : Nat) : Int) := by rw [wrap_i64 (by omega) (by omega)]; omega
      cases hi : c1.l.findIdx? (hasSub p.sub) with
      | none =>
        rw [putC_app hi] at hpc
        obtain ⟨x2, M3, ha, hK2⟩ := (hK1.grow [.cells p.enc 0 none true, .cells (entE.enc ⟨p, 0⟩) 0 none true]).app ⟨p, 0⟩ (by omega)
        simp only [entE, Ent.enc, Pol.enc] at ha hr
        simp (maxSteps := 1000000) (disch := omega) only [c29l1, g0', g31, g32, g33, htI, Int.toNat_natCast, hr, orc_cons, hpl, idx_eq_none hi, hw1, ha, go_sem, Option.map_none, Option.map_some, ↓reduceIte, Nat.reduceBEq, Nat.reduceAdd, Nat.reduceSub, Nat.reduceEqDiff, Nat.reduceLeDiff, Nat.reduceMul, Nat.reduceLT, Int.reduceLT, Int.reduceLE, Int.reduceAdd, Int.reduceSub, Int.reduceMul, Int.reduceNeg, Int.reduceEq, Int.reduceNe, Int.reduceToNat, decide_true, decide_false, iaddr_i, iaddr_sl_i, not_true_eq_false, not_false_eq_true, reduceCtorEq, ne_eq, forall_const, false_imp_iff, true_imp_iff, implies_true, Int.cast_ofNat_Int, Int.natCast_zero, Int.natCast_one, Int.add_zero, Int.zero_add]
        refine ⟨ps.length - (t + 1), by omega, t + 1, c1.app ⟨p, 0⟩, x2, rfl, htl, hK2, hpc, ?_, rfl, rfl⟩
        rw [Cf.app_l, List.length_append]
        show c1.l.length + 1 ≤ _
        omega
      | some k =>
        obtain ⟨hk, _, _⟩ := List.findIdx?_eq_some_iff_getElem.1 hi
        rw [putC_pol hi] at hpc
        have hk0 : (k : Int) ≥ 0 := by omega
        obtain ⟨i, cs, v', cap', rfl, hB, hcs, hK2⟩ := (hK1.grow [.cells p.enc 0 none true]).pol hk p
        simp only [Pol.enc] at hr hK2 hB
        simp (maxSteps := 1000000) (disch := omega) only [c29l1, g0', g31, g32, g33, htI, Int.toNat_natCast, hr, orc_cons, hpl, idx_eq_some hi, hw1, hk0, go_sem, Option.map_none, Option.map_some, ↓reduceIte, Nat.reduceBEq, Nat.reduceAdd, Nat.reduceSub, Nat.reduceEqDiff, Nat.reduceLeDiff, Nat.reduceMul, Nat.reduceLT, Int.reduceLT, Int.reduceLE, Int.reduceAdd, Int.reduceSub, Int.reduceMul, Int.reduceNeg, Int.reduceEq, Int.reduceNe, Int.reduceToNat, decide_true, decide_false, iaddr_i, iaddr_sl_i, not_true_eq_false, not_false_eq_true, reduceCtorEq, ne_eq, forall_const, false_imp_iff, true_imp_iff, implies_true, Int.cast_ofNat_Int, Int.natCast_zero, Int.natCast_one, Int.add_zero, Int.zero_add]
        rw [hB]
        simp only [stB, splice]
        rw [if_pos ⟨trivial, rfl, hcs, rfl⟩]
        simp only [List.append_assoc, List.length_cons, List.length_nil]
        simp (maxSteps := 1000000) (disch := omega) only [go_sem, Option.map_none, Option.map_some, ↓reduceIte, Nat.reduceBEq, Nat.reduceAdd, Nat.reduceSub, Nat.reduceEqDiff, Nat.reduceLeDiff, Nat.reduceMul, Nat.reduceLT, Int.reduceLT, Int.reduceLE, Int.reduceAdd, Int.reduceSub, Int.reduceMul, Int.reduceNeg, Int.reduceEq, Int.reduceNe, Int.reduceToNat, decide_true, decide_false, iaddr_i, iaddr_sl_i, not_true_eq_false, not_false_eq_true, reduceCtorEq, ne_eq, forall_const, false_imp_iff, true_imp_iff, implies_true, Int.cast_ofNat_Int, Int.natCast_zero, Int.natCast_one, Int.add_zero, Int.zero_add]
        refine ⟨ps.length - (t + 1), by omega, t + 1, c1.pol k p, _, rfl, htl, hK2, hpc, ?_, rfl, rfl⟩
        have : (c1.pol k p).l.length = c1.l.length := List.length_set ..
        omega
    · have htI : ¬ (t : Int) < ps.length := by omega
      obtain rfl : t = ps.length := by omega
      rw [List.drop_length] at hpc
      have hpc : c1 = putC ps c := hpc
      subst hpc
      obtain ⟨M', hs, hwk⟩ := hT x1 M2 hK1
      simp (maxSteps := 1000000) (disch := omega) only [c29l1, g0', g31, g32, g33, htI, orc_cons, hs, go_sem, Option.map_none, Option.map_some, ↓reduceIte, Nat.reduceBEq, Nat.reduceAdd, Nat.reduceSub, Nat.reduceEqDiff, Nat.reduceLeDiff, Nat.reduceMul, Nat.reduceLT, Int.reduceLT, Int.reduceLE, Int.reduceAdd, Int.reduceSub, Int.reduceMul, Int.reduceNeg, Int.reduceEq, Int.reduceNe, Int.reduceToNat, decide_true, decide_false, iaddr_i, iaddr_sl_i, not_true_eq_false, not_false_eq_true, reduceCtorEq, ne_eq, forall_const, false_imp_iff, true_imp_iff, implies_true, Int.cast_ofNat_Int, Int.natCast_zero, Int.natCast_one, Int.add_zero, Int.zero_add]
      exact hwk
end Go.Proofs.Ytapgkaecamljbaa

namespace Go.Proofs.Ytapgkaecamljbaa
open Go.RowKit
set_option linter.unusedSimpArgs false
set_option linter.unusedVariables false
set_option maxRecDepth 10000

noncomputable def endX (i v : Nat) (d : List Ent) : AV := open Classical in if d = [] then .se else .sl i 0 v d.length d.length false
noncomputable def commitR (i : Nat) (c0 : Cf) (e : Evt) (S : Mem) : AV × Mem :=
  if (dropC e.drops c0).2 = true then
    (.tu [endX i (putC e.puts (dropC e.drops c0).1).v (sortE (putC e.puts (dropC e.drops c0).1).l), .b true], S.set i (.cells ((sortE (putC e.puts (dropC e.drops c0).1).l).flatMap entE.enc) (putC e.puts (dropC e.drops c0).1).v (some 14) true))
  else (.tu [.sn, .b false], S.set i (.cells [] c0.v (some 14) true))
noncomputable def commitR0 (e : Evt) (S : Mem) : AV × Mem := match e.drops with
  | [] => (.tu [retX false S (sortE (putAll e.puts [])), .b true], retM false entE S (sortE (putAll e.puts [])))
  | _ :: _ => (.tu [.sn, .b false], S)
noncomputable def commitS : Spec := fun args S => match args with
  | [x, .ag ce] => open Classical in if noX S x = true then match evtOf S ce with
      | some e => if commitOk [] e ∧ (e.drops ≠ [] ∨ e.puts ≠ []) then some (commitR0 e S) else none
      | none => none
    else match x with
      | .sl i 0 v n cap false => match ownV entE S (.sl i 0 v n cap false), evtOf (S.take i) ce with
        | some l, some e => if commitOk l e ∧ ∃ cs, S[i]? = some (.cells cs v (some 14) true) then some (commitR i ⟨v, n, [], l⟩ e S) else none
        | _, _ => none
      | _ => none
  | _ => none
theorem putC_len : ∀ (ps : List Pol) (c : Cf), (putC ps c).l.length ≤ c.l.length + ps.length
  | [], c => Nat.le_refl _
  | p :: ps, c => by
    cases h : c.l.findIdx? (hasSub p.sub) with
    | none =>
      have := putC_len ps (c.app ⟨p, 0⟩)
      rw [Cf.app_l, List.length_append] at this
      simp only [putC, h, List.length_cons, List.length_nil] at this ⊢; omega
    | some k =>
      have := putC_len ps (c.pol k p)
      have h2 : (c.pol k p).l.length = c.l.length := List.length_set ..
      simp only [putC, h, List.length_cons]; omega
theorem dropC_len : ∀ (ds : List Int) (c : Cf), (dropC ds c).1.l.length ≤ c.l.length
  | [], c => Nat.le_refl _
  | id :: ds, c => by
    cases h : c.l.findIdx? (hasSub id) with
    | none => simp only [dropC, h]; exact Nat.le_refl _
    | some k =>
      have := dropC_len ds (c.del k)
      have h2 : (c.del k).l.length ≤ c.l.length := List.length_eraseIdx_le ..
      simp only [dropC, h]; omega
theorem once_drop {c : Cf} {ds : List Int} (ho : Once c.l) (hn : ds.Nodup) (h : (dropC ds c).2 = true) : Once (dropC ds c).1.l := by
  have h1 := dropAll_ok ds c.l hn ho
  rw [dropC_all, if_pos h] at h1
  exact h1.1
theorem once_put {c : Cf} {ps : List Pol} (ho : Once c.l) (hn : ps.Pairwise fun p q => p.sub ≠ q.sub) : Once (putC ps c).l := by
  rw [putC_all]; exact (putAll_ok ps c.l hn ho).1
theorem putAll_ne : ∀ (ps : List Pol) (l : List Ent), l ≠ [] → putAll ps l ≠ []
  | [], l, h => h
  | p :: ps, l, h => by
    simp only [putAll]
    split
    · exact putAll_ne ps _ (by simpa using h)
    · exact putAll_ne ps _ (by simp)
theorem sortE_ne {l : List Ent} (ho : Once l) (h : l ≠ []) : sortE l ≠ [] := by
  have := (sortE_ok ho).2.2
  intro q
  rw [q] at this
  exact h (List.eq_nil_of_length_eq_zero this.symm)
theorem set_flat {S : Mem} {i : Nat} {d : List Ent} {v : Nat} {j : Nat} {B : Blk} (h : (S.set i (.cells (d.flatMap entE.enc) v (some 14) true))[j]? = some B) : S[j]? = some B ∨ BFlat S.length B := by
  by_cases hij : i = j
  · subst hij
    right
    by_cases hi : i < S.length
    · rw [set_at hi] at h
      injection h with h
      rw [← h]
      exact bflat_list entE_flat d v (some 14) true
    · rw [List.getElem?_eq_none (by rw [List.length_set]; omega)] at h; cases h
  · rw [at_set_ne hij] at h
    exact .inl h
theorem commit_ok : SpecOK Try.prog 29 commitS := by
  intro args S x S' h
  unfold commitS at h
  split at h
  · rename_i x0 ce
    split at h
    · rename_i hno
      split at h
      · rename_i e he
        split at h
        · rename_i hc
          obtain ⟨hok, hne⟩ := hc
          refine commit_walk (md := none) (c0 := ⟨0, 0, [], []⟩) ⟨ext_refl, .inl ⟨rfl, hno⟩⟩ (fun _ => rfl) he hok (fun hd x' c M hK _ => ?_) (fun hd x' M hK => ?_)
          · cases hds : e.drops with
            | nil => rw [hds] at hd; cases hd
            | cons a ds =>
              simp only [commitR0, hds, Option.some.injEq, Prod.mk.injEq] at h
              obtain ⟨rfl, rfl⟩ := h
              exact wkv_dropP hK.1 rfl
          · cases hds : e.drops with
            | cons a ds => rw [hds] at hd; cases hd
            | nil =>
              simp only [commitR0, hds, Option.some.injEq, Prod.mk.injEq] at h
              obtain ⟨rfl, rfl⟩ := h
              rw [hds] at hK hne
              have hps : e.puts ≠ [] := by rcases hne with q | q; exact absurd rfl q; exact q
              have hK : Kx S M none x' (putC e.puts ⟨0, 0, [], []⟩) := hK
              have hl : (putC e.puts ⟨0, 0, [], []⟩).l = putAll e.puts [] := putC_all _ _
              have ho : Once (putC e.puts ⟨0, 0, [], []⟩).l := once_put hok.1 hok.2.2.1
              have hn := putC_len e.puts ⟨0, 0, [], []⟩
              have hlen := hok.2.2.2.1
              simp only [List.length_nil, Nat.zero_add] at hn hlen
              obtain ⟨hSM, ⟨h1, h2⟩ | ⟨p, c', h1, h2, h3, h4⟩⟩ := hK
              · exfalso
                rw [hl] at h1
                cases hp : e.puts with
                | nil => exact hps hp
                | cons a r =>
                  rw [hp] at h1
                  exact putAll_ne r [⟨a, 0⟩] (by simp) h1
              · obtain ⟨T, rfl⟩ := hSM
                rw [← h1] at ho hn
                have hso := sortE_ok ho
                refine ⟨_, by rw [h3]; exact sort_eq h2 ho (by omega) h4, ?_⟩
                have hx : x' = .sl (S.length + p) 0 c'.v (sortE c'.l).length c'.cap false := by rw [h3, hso.2.2]; rfl
                have hTp : p < T.length := by
                  rw [at_app] at h4
                  exact (List.getElem?_eq_some_iff.1 h4).1
                rw [hx, ← hl, ← h1]
                refine wkv_less (cs := (sortE c'.l).flatMap entE.enc) (junk := c'.junk) (sz := 14) (rw' := true) (at_set h4) ?_
                rw [List.set_set, set_app]
                have hA : Acc false entE S (S ++ T.set p (.cells ((sortE c'.l).flatMap entE.enc) c'.v (some 14) true)) (.sl (S.length + p) 0 c'.v (sortE c'.l).length (sortE c'.l).length false) (sortE c'.l) :=
                  ⟨_, rfl, .inr (.inr ⟨sortE_ne ho (by
                    rw [h1, hl]
                    cases hp : e.puts with
                    | nil => exact absurd hp hps
                    | cons a r => exact putAll_ne r [⟨a, 0⟩] (by simp)), p, c'.v, rfl, by simp only [List.getElem?_set_self hTp]; rfl⟩)⟩
                exact Acc.ret2 entE_flat hA Flat_b
        · cases h
      · cases h
    · rename_i hno
      split at h
      · rename_i i v n cap
        split at h
        · rename_i l e hl he
          split at h
          · rename_i hc
            obtain ⟨hok, cs, hB⟩ := hc
            obtain ⟨b, v2, ex, op, hx, hB2⟩ := ownV_ok hl
            injection hx with z1 z2 z3 z4 z5 z6
            subst z1 z3 z4 z5 z6
            rw [hB] at hB2
            injection hB2 with hB2
            injection hB2 with y1 y2 y3 y4
            subst y1 y3
            simp only [Option.some.injEq, Prod.mk.injEq] at h
            have hi : i < S.length := (List.getElem?_eq_some_iff.1 hB).1
            have hB0 : S[i]? = some (Cf.blk ⟨v, l.length, [], l⟩) := by rw [hB]; show _ = some (Blk.cells (l.flatMap entE.enc ++ []) v (some 14) true); rw [List.append_nil]
            have hK : Kx S S (some i) (.sl i 0 v l.length l.length false) ⟨v, l.length, [], l⟩ := ⟨rfl, ⟨by simp, Nat.le_refl _, rfl⟩, hi, [], by rw [List.append_nil, set_self hB0]⟩
            refine commit_walk (md := some i) hK (fun q => by cases q) he hok (fun hd x' c M hK hv => ?_) (fun hd x' M hK => ?_)
            · unfold commitR at h
              rw [if_neg (by rw [hd]; exact Bool.false_ne_true)] at h
              simp only [Option.some.injEq, Prod.mk.injEq] at h
              obtain ⟨rfl, rfl⟩ := h
              have hb := hK.blk
              obtain ⟨_, _, _, L, rfl⟩ := hK
              have hv : c.v = v := hv
              refine wkv_shr (i := i) (cs := []) (junk := c.l.flatMap entE.enc ++ c.junk) (v := c.v) (sz := 14) (rw' := true) hb ?_
              rw [set_old (set_at hi), List.set_set, hv]
              exact wkv_drop' (List.length_set ..) (fun j B hj => set_flat (d := []) hj) (fun g => rfl)
            · unfold commitR at h
              rw [if_pos hd] at h
              simp only [Option.some.injEq, Prod.mk.injEq] at h
              obtain ⟨rfl, rfl⟩ := h
              have ho : Once (putC e.puts (dropC e.drops ⟨v, l.length, [], l⟩).1).l := once_put (once_drop hok.1 hok.2.1 hd) hok.2.2.1
              have hn1 := putC_len e.puts (dropC e.drops ⟨v, l.length, [], l⟩).1
              have hn2 := dropC_len e.drops ⟨v, l.length, [], l⟩
              have hlen := hok.2.2.2.1
              simp only at hn2
              generalize putC e.puts (dropC e.drops ⟨v, l.length, [], l⟩).1 = c2 at ho hn1 hK ⊢
              have hb := hK.blk
              obtain ⟨rfl, hw, _, L, rfl⟩ := hK
              have hso := sortE_ok ho
              refine ⟨_, sort_eq hw ho (by omega) hb, ?_⟩
              rw [set_old (set_at hi), List.set_set]
              have hb2 : (S.set i c2.sort.blk ++ L)[i]? = some c2.sort.blk := at_old (set_at hi)
              have hx : c2.x i = .sl i 0 c2.v (sortE c2.l).length c2.cap false := by rw [hso.2.2]; rfl
              rw [hx]
              by_cases hd0 : sortE c2.l = []
              · have hbe : c2.sort.blk = .cells c2.junk c2.v (some 14) true := by
                  show Blk.cells ((sortE c2.l).flatMap entE.enc ++ c2.junk) c2.v (some 14) true = _
                  rw [hd0]; rfl
                rw [hbe] at hb2 ⊢
                unfold endX
                rw [if_pos hd0, hd0]
                refine wkv_se (sz := 14) (rw' := true) hb2 ?_
                rw [set_old (set_at hi), List.set_set]
                exact wkv_drop' (List.length_set ..) (fun j B hj => set_flat (d := []) hj) (fun g => rfl)
              · unfold endX
                rw [if_neg hd0]
                refine wkv_less (cs := (sortE c2.l).flatMap entE.enc) (junk := c2.junk) (sz := 14) (rw' := true) hb2 ?_
                rw [set_old (set_at hi), List.set_set]
                refine wkv_drop' (List.length_set ..) (fun j B hj => set_flat hj) (Flat_tu fun y hy => ?_)
                simp only [List.mem_cons, List.not_mem_nil, or_false] at hy
                rcases hy with rfl | rfl
                · exact Flat_sl hi
                · exact Flat_b
          · cases h
        · cases h
      · cases h
  · cases h
end Go.Proofs.Ytapgkaecamljbaa

namespace Go.Proofs.Ytapgkaecamljbaa
open Go.RowKit
set_option linter.unusedSimpArgs false
set_option linter.unusedVariables false

theorem fin_some {b : Bk} (h : b.ok) : Bk.fin (some b) = some b := by simp only [Bk.fin, if_pos h]
theorem quota_le {p : Int} {l : List Ent} (ho : (Bk.mk p l).ok) {k : Nat} (hk : k < l.length) : l[k].pol.quota ≤ 281474976710656 := by
  have h := (ho.2.2.1.2 k (by unfold polsOf; simpa using hk) (by unfold polsOf; simpa using hk)).1
  have h1 : l[k].pol.right := by simpa [polsOf] using h
  exact h1.2.2.2.1 _ (by simp [Pol.nums])
theorem leased_ok {p : Int} {l l' : List Ent} {s g : Int} (ho : (Bk.mk p l).ok) (h : leased l s g = some l') : (Bk.mk p l').ok := by
  obtain ⟨k, hk, rfl, _, h1, h2⟩ := leased_some h
  have hp : polsOf (l.set k (l[k].grant g)) = polsOf l := by
    unfold polsOf
    rw [List.map_set]
    have : (l[k].grant g).pol = (l.map (·.pol))[k]'(by simpa using hk) := by simp [Ent.grant]
    rw [this, List.set_getElem_self]
  refine ⟨ho.1, ho.2.1, by show Pols (polsOf (l.set k (l[k].grant g))); rw [hp]; exact ho.2.2.1, fun x hx => ?_⟩
  rcases List.mem_or_eq_of_mem_set hx with hx | rfl
  · exact ho.2.2.2 x hx
  · have := quota_le ho hk
    show g ≤ _
    omega
theorem zeroed_ok {p q : Int} {l : List Ent} (ho : (Bk.mk p l).ok) (h1 : 1 ≤ q) (h2 : q ≤ 281474976710656) : (Bk.mk q (l.map (·.grant 0))).ok := by
  refine ⟨h1, h2, ?_, fun x hx => ?_⟩
  · have hp : polsOf (l.map (·.grant 0)) = polsOf l := by unfold polsOf; rw [List.map_map]; rfl
    show Pols (polsOf (l.map (·.grant 0)))
    rw [hp]; exact ho.2.2.1
  · obtain ⟨y, _, rfl⟩ := List.mem_map.1 hx
    show (0 : Int) ≤ _
    omega
/-- The kinds 2 and 3. -/
theorem turned_eq {b : Bk} {e : Evt} (hk : ¬ (b.ok ∧ e.right ∧ e.kind = 1)) : b.turned e = b.rapplied e := by
  unfold Bk.turned Bk.rapplied
  by_cases h : b.ok ∧ e.right
  · rw [if_pos h, if_pos h]
    obtain ⟨p, l⟩ := b
    obtain ⟨k, s, ps, ds, g, q⟩ := e
    have hk1 : ¬ k = 1 := fun z => hk ⟨h.1, h.2, z⟩
    rw [if_neg hk1]
    unfold Bk.turn
    by_cases hk2 : k = 2
    · rw [if_pos hk2]; first | rw [if_pos hk2] | skip
      simp only
      cases hl : leased l s g with
      | none => rfl
      | some l' => exact fin_some (leased_ok h.1 hl)
    · rw [if_neg hk2]; first | rw [if_neg hk2] | skip
      simp only
      by_cases hq : q = p + 1
      · rw [if_pos hq]; first | rw [if_pos hq] | skip
        have hv : valOk q := by
          rcases h.2 with z | z | z
          · exact absurd z.1 hk1
          · exact absurd z.1 hk2
          · exact z.2.1
        exact fin_some (zeroed_ok h.1 hv.1 hv.2)
      · rw [if_neg hq]; first | rfl | (rw [if_neg hq]; rfl)
  · rw [if_neg h, if_neg h]
end Go.Proofs.Ytapgkaecamljbaa

namespace Go.Proofs.Ytapgkaecamljbaa
open Go.RowKit
set_option linter.unusedSimpArgs false
set_option linter.unusedVariables false
set_option maxRecDepth 10000

theorem commit_eq {S : Mem} {i v : Nat} {l : List Ent} {ce : List AV} {e : Evt} (hB : S[i]? = some (.cells (l.flatMap entE.enc) v (some 14) true)) (he : evtOf (S.take i) ce = some e) (hok : commitOk l e) :
    commitS [.sl i 0 v l.length l.length false, .ag ce] S = some (commitR i ⟨v, l.length, [], l⟩ e S) := by
  have hno : ¬ noX S (.sl i 0 v l.length l.length false) = true := by
    intro h
    rcases noX_cases h with h | ⟨j, h, _⟩
    · cases h
    · injection h with _ _ _ _ _ h; cases h
  simp only [commitS]
  rw [if_neg hno]
  simp only [ownV_mk hB, he]
  rw [if_pos ⟨hok, _, hB⟩]
theorem commit_eq0 {S : Mem} {x : AV} {ce : List AV} {e : Evt} (hx : noX S x = true) (he : evtOf S ce = some e) (hok : commitOk [] e) (hne : e.drops ≠ [] ∨ e.puts ≠ []) : commitS [x, .ag ce] S = some (commitR0 e S) := by
  simp only [commitS]
  rw [if_pos hx]
  simp only [he]
  rw [if_pos ⟨hok, hne⟩]
theorem commit_okk {p : Int} {l : List Ent} {ps : List Pol} {ds : List Int} (ho : (Bk.mk p l).ok) (hr : Evt.right ⟨1, 0, ps, ds, 0, 0⟩) (hd : ds.length ≤ 1000000) : commitOk l ⟨1, 0, ps, ds, 0, 0⟩ ∧ (ds ≠ [] ∨ ps ≠ []) := by
  have h := right1.1 hr
  have hP := h.2.2.2.2.1
  have hri := h.2.2.2.2.2.1
  refine ⟨⟨ok_once ho, rise_nodup hri, pols_once hP, ?_, hd⟩, ?_⟩
  · have h1 : (polsOf l).length ≤ 8 := ho.2.2.1.1
    have h2 : ps.length ≤ 8 := hP.1
    have h3 : (polsOf l).length = l.length := List.length_map ..
    show l.length + ps.length ≤ 1000000
    omega
  · rcases hr with ⟨_, h0, _⟩ | ⟨h0, _⟩ | ⟨h0, _⟩
    · simp only at h0
      by_cases hd0 : ds = []
      · right
        intro hp0
        rw [hd0, hp0] at h0
        exact absurd h0 (by decide)
      · exact .inl hd0
    · exact absurd h0 (by decide : ¬ (1 : Int) = 2)
    · exact absurd h0 (by decide : ¬ (1 : Int) = 3)
theorem commitR_f {i : Nat} {c : Cf} {e : Evt} {S : Mem} (h : (dropC e.drops c).2 = false) : commitR i c e S = (.tu [.sn, .b false], S.set i (.cells [] c.v (some 14) true)) := by
  unfold commitR; rw [if_neg (by rw [h]; exact Bool.false_ne_true)]
theorem commitR_t {i : Nat} {c : Cf} {e : Evt} {S : Mem} {d : List Ent} (h : (dropC e.drops c).2 = true) (hd : sortE (putC e.puts (dropC e.drops c).1).l = d) : commitR i c e S = (.tu [endX i (putC e.puts (dropC e.drops c).1).v d, .b true], S.set i (.cells (d.flatMap entE.enc) (putC e.puts (dropC e.drops c).1).v (some 14) true)) := by
  unfold commitR; rw [if_pos h, hd]
theorem commitR0_f {e : Evt} {S : Mem} {v cap : Nat} {junk : List AV} (h : (dropC e.drops ⟨v, cap, junk, []⟩).2 = false) : commitR0 e S = (.tu [.sn, .b false], S) := by
  unfold commitR0
  split
  · rename_i hd; rw [hd] at h; cases h
  · rfl
theorem commitR0_t {e : Evt} {S : Mem} {d : List Ent} {v cap : Nat} {junk : List AV} (h : (dropC e.drops ⟨v, cap, junk, []⟩).2 = true) (hd : sortE (putC e.puts (dropC e.drops ⟨v, cap, junk, []⟩).1).l = d) (hne : e.drops ≠ [] ∨ e.puts ≠ []) (hp : e.puts.Pairwise fun p q => p.sub ≠ q.sub) :
    d ≠ [] ∧ commitR0 e S = (.tu [retX false S d, .b true], retM false entE S d) := by
  unfold commitR0
  cases hds : e.drops with
  | nil =>
    rw [hds] at hd hne
    have hd : sortE (putC e.puts ⟨v, cap, junk, []⟩).l = d := hd
    rw [putC_all] at hd
    have hd : sortE (putAll e.puts []) = d := hd
    refine ⟨?_, by rw [hd]⟩
    rw [← hd]
    refine sortE_ne (putAll_ok e.puts [] hp List.Pairwise.nil).1 ?_
    cases hp : e.puts with
    | nil => rw [hp] at hne; simp at hne
    | cons a r => exact putAll_ne r [⟨a, 0⟩] (by simp)
  | cons a ds => rw [hds] at h; cases h
noncomputable def commitB (z : Bool) (S : Mem) (b : Bk) (r : Option Bk) : AV × Mem := match r with
  | some b' => open Classical in if b'.entries = [] then (.tu [.ag [.i .u64 b'.period, .se], .i .i64 0], S) else bookR true S b' 0
  | none => bookR z S b 131
/-- What a commit leaves, said with the document's words. -/
theorem rapplied1 {p : Int} {l : List Ent} {ps : List Pol} {ds : List Int} (ho : (Bk.mk p l).ok) (hr : Evt.right ⟨1, 0, ps, ds, 0, 0⟩) :
    Bk.rapplied ⟨p, l⟩ ⟨1, 0, ps, ds, 0, 0⟩ = if ∃ i : Nat, i < 255 ∧ refBad l ⟨1, 0, ps, ds, 0, 0⟩ ((i : Int) + 1) then none else Bk.fin (some ⟨p, refEnts l ⟨1, 0, ps, ds, 0, 0⟩ 255⟩) := by
  unfold Bk.rapplied
  rw [if_pos ⟨ho, hr⟩, if_pos rfl]
/-- The program's list behind a commit. -/
theorem commit_list {p : Int} {l : List Ent} {ps : List Pol} {ds : List Int} {c : Cf} (hc : c.l = l) (ho : (Bk.mk p l).ok) (hr : Evt.right ⟨1, 0, ps, ds, 0, 0⟩) :
    ((dropC ds c).2 = false ∧ Bk.rapplied ⟨p, l⟩ ⟨1, 0, ps, ds, 0, 0⟩ = none) ∨
    ((dropC ds c).2 = true ∧ ∃ d, sortE (putC ps (dropC ds c).1).l = d ∧ d = refEnts l ⟨1, 0, ps, ds, 0, 0⟩ 255 ∧ Bk.rapplied ⟨p, l⟩ ⟨1, 0, ps, ds, 0, 0⟩ = Bk.fin (some ⟨p, d⟩)) := by
  subst hc
  rw [rapplied1 ho hr]
  have hda := dropC_all ds c
  have h := right1.1 hr
  cases hb : (dropC ds c).2 with
  | false =>
    rw [if_neg (by rw [hb]; exact Bool.false_ne_true)] at hda
    exact .inl ⟨rfl, by rw [if_pos (commit_none ho hr hda)]⟩
  | true =>
    rw [if_pos hb] at hda
    have hon : Once (putC ps (dropC ds c).1).l := once_put (once_drop (ok_once ho) (rise_nodup h.2.2.2.2.2.1) hb) (pols_once h.2.2.2.2.1)
    have hs := sortE_ok hon
    obtain ⟨h1, h2⟩ := commit_some ho hr hda hs.1 (fun x => by rw [← putC_all]; exact hs.2.1 x)
    exact .inr ⟨rfl, _, rfl, h2, by rw [if_neg h1, h2]⟩
end Go.Proofs.Ytapgkaecamljbaa

namespace Go.Proofs.Ytapgkaecamljbaa
open Go.RowKit
set_option linter.unusedSimpArgs false
set_option linter.unusedVariables false
set_option maxRecDepth 10000

theorem oA1_ok : OK Try.prog (lamOf Try.prog) (orcOf [(27, cloneES), (16, brightS), (28, erightS), (29, commitS)]) := orc_ok (by simpa using ⟨cloneE_ok, bright_ok, eright_ok, commit_ok⟩)
set_option maxHeartbeats 1000000 in
theorem apply1 {S : Mem} {s xp xd : AV} {p : Int} {l : List Ent} {ps : List Pol} {ds : List Int} (hl : lstV entE S s = some l) (hp : lstV polE S xp = some ps) (hd : lstV (intE .i64) S xd = some ds) (hbf : Bk.fits ⟨p, l⟩) (hef : Evt.fits ⟨1, 0, ps, ds, 0, 0⟩) (ho : Bk.ok ⟨p, l⟩) (hr : Evt.right ⟨1, 0, ps, ds, 0, 0⟩) :
    FnOK Try.prog 13 [.ag [.i .u64 p, s], .ag [.i .i64 1, .i .i64 0, xp, xd, .i .u64 0, .i .u64 0]] S (commitB (nz s) S ⟨p, l⟩ (Bk.rapplied ⟨p, l⟩ ⟨1, 0, ps, ds, 0, 0⟩)).1 (commitB (nz s) S ⟨p, l⟩ (Bk.rapplied ⟨p, l⟩ ⟨1, 0, ps, ds, 0, 0⟩)).2 := by
  have b1 := fun L => bright_eq (bookOf_mk (p := p) (lstV_grow hl L)) hbf
  have e1 := fun L => eright_eq (evtOf_mk (k := 1) (s := 0) (g := 0) (p := 0) (lstV_grow hp L) (lstV_grow hd L)) hef
  have c1 := fun L => cloneE_eq (lstV_grow hl L) hbf.1
  rw [decide_eq_true ho] at b1
  rw [decide_eq_true hr] at e1
  obtain ⟨hok, hne0⟩ := commit_okk ho hr hef.2.1
  have hdf : ∀ d : List Ent, d = refEnts l ⟨1, 0, ps, ds, 0, 0⟩ 255 → Bk.fits ⟨p, d⟩ := fun d hd => by
    subst hd
    exact ⟨Nat.le_trans (refEnts_len _ _ _) (by omega), refEnts_fits hbf.2 hef.2.2⟩
  refine fn_of_wp f13 rfl (W_sound oA1_ok mixed _ _ _ _ _ ?_)
  by_cases hne : l = []
  · subst hne
    have hc0 : ∀ (x : AV) (L : Mem), noX (S ++ L) x = true → commitS [x, .ag [.i .i64 1, .i .i64 0, xp, xd, .i .u64 0, .i .u64 0]] (S ++ L) = some (commitR0 ⟨1, 0, ps, ds, 0, 0⟩ (S ++ L)) := fun x L hx =>
      commit_eq0 hx (evtOf_mk (lstV_grow hp L) (lstV_grow hd L)) hok hne0
    cases hz : nz s with
    | false =>
      have c1 : ∀ L, cloneES [s] (S ++ L) = some (.sn, S ++ L) := fun L => by rw [c1 L, hz]; rfl
      have cm := fun L => hc0 .sn L rfl
      rcases commit_list (c := ⟨0, 0, [], []⟩) rfl ho hr with ⟨hF, hrn⟩ | ⟨hT, d, hs, hde, hrn⟩
      · rw [hrn]
        have cm := fun L => (cm L).trans (congrArg some (commitR0_f hF))
        simp (maxSteps := 1000000) (disch := omega) only [c13, orc_cons, lst_cells hl, c1, b1, e1, cm, go_sem, Option.map_none, Option.map_some, ↓reduceIte, Nat.reduceBEq, Nat.reduceAdd, Nat.reduceSub, Nat.reduceEqDiff, Nat.reduceLeDiff, Nat.reduceMul, Nat.reduceLT, Int.reduceLT, Int.reduceLE, Int.reduceAdd, Int.reduceSub, Int.reduceMul, Int.reduceNeg, Int.reduceEq, Int.reduceNe, Int.reduceToNat, decide_true, decide_false, iaddr_i, iaddr_sl_i, not_true_eq_false, not_false_eq_true, reduceCtorEq, ne_eq, forall_const, false_imp_iff, true_imp_iff, implies_true, Int.cast_ofNat_Int, Int.natCast_zero, Int.natCast_one, Int.add_zero, Int.zero_add]
        exact wkv_drop rfl
      · rw [hrn]
        have hd0 := (commitR0_t (S := S) hT hs hne0 hok.2.2.1).1
        have cm : ∀ L, _ = some (AV.tu [.sl (S ++ L).length 0 0 d.length d.length false, .b true], (S ++ L) ++ [.cells (d.flatMap entE.enc) 0 (some 14) true]) := fun L => (cm L).trans (by rw [(commitR0_t hT hs hne0 hok.2.2.1).2, retX_ne hd0, retM_ne hd0]; rfl)
        have hdf := hdf d hde
        have b2 : ∀ B0 B1 B2 B3 B4 : Blk, brightS [.ag [.i .u64 p, .sl (S.length + 5) 0 0 d.length d.length false]] (S ++ [B0, B1, B2, B3, B4, .cells (d.flatMap entE.enc) 0 (some 14) true]) = some (.b (decide (Bk.ok ⟨p, d⟩)), S ++ [B0, B1, B2, B3, B4, .cells (d.flatMap entE.enc) 0 (some 14) true]) := fun B0 B1 B2 B3 B4 => bright_eq (bookOf_mk (own_lst (ownV_mk (by rw [at_app]; rfl)))) hdf
        simp (maxSteps := 1000000) (disch := omega) only [c13, orc_cons, lst_cells hl, c1, b1, e1, cm, b2, go_sem, Option.map_none, Option.map_some, ↓reduceIte, Nat.reduceBEq, Nat.reduceAdd, Nat.reduceSub, Nat.reduceEqDiff, Nat.reduceLeDiff, Nat.reduceMul, Nat.reduceLT, Int.reduceLT, Int.reduceLE, Int.reduceAdd, Int.reduceSub, Int.reduceMul, Int.reduceNeg, Int.reduceEq, Int.reduceNe, Int.reduceToNat, decide_true, decide_false, iaddr_i, iaddr_sl_i, not_true_eq_false, not_false_eq_true, reduceCtorEq, ne_eq, forall_const, false_imp_iff, true_imp_iff, implies_true, Int.cast_ofNat_Int, Int.natCast_zero, Int.natCast_one, Int.add_zero, Int.zero_add]
        refine ⟨fun h1 => ?_, fun h1 => ?_⟩
        · rw [show Bk.fin (some ⟨p, d⟩) = none by simp only [Bk.fin, if_neg h1]]
          exact wkv_drop rfl
        · rw [show Bk.fin (some ⟨p, d⟩) = some ⟨p, d⟩ by simp only [Bk.fin, if_pos (Decidable.not_not.1 h1)]]
          unfold commitB
          simp only
          rw [if_neg hd0]
          exact Acc.retB entE_flat ⟨_, rfl, .inr (.inr ⟨hd0, 5, 0, rfl, rfl⟩)⟩ Flat_i Flat_i
    | true =>
      have c1 : ∀ L, cloneES [s] (S ++ L) = some (.sl (S ++ L).length 0 0 0 0 true, (S ++ L) ++ [.cells [] 0 none true]) := fun L => by rw [c1 L, hz]; rfl
      have cm := fun B0 B1 B2 B3 B4 B6 : Blk => hc0 (.sl (S.length + 5) 0 0 0 0 true) [B0, B1, B2, B3, B4, .cells [] 0 none true, B6] (by simp only [noX]; rw [at_app]; rfl)
      rcases commit_list (c := ⟨0, 0, [], []⟩) rfl ho hr with ⟨hF, hrn⟩ | ⟨hT, d, hs, hde, hrn⟩
      · rw [hrn]
        have cm := fun B0 B1 B2 B3 B4 B6 => (cm B0 B1 B2 B3 B4 B6).trans (congrArg some (commitR0_f hF))
        simp (maxSteps := 1000000) (disch := omega) only [c13, orc_cons, lst_cells hl, c1, b1, e1, cm, go_sem, Option.map_none, Option.map_some, ↓reduceIte, Nat.reduceBEq, Nat.reduceAdd, Nat.reduceSub, Nat.reduceEqDiff, Nat.reduceLeDiff, Nat.reduceMul, Nat.reduceLT, Int.reduceLT, Int.reduceLE, Int.reduceAdd, Int.reduceSub, Int.reduceMul, Int.reduceNeg, Int.reduceEq, Int.reduceNe, Int.reduceToNat, decide_true, decide_false, iaddr_i, iaddr_sl_i, not_true_eq_false, not_false_eq_true, reduceCtorEq, ne_eq, forall_const, false_imp_iff, true_imp_iff, implies_true, Int.cast_ofNat_Int, Int.natCast_zero, Int.natCast_one, Int.add_zero, Int.zero_add]
        exact Acc.retB entE_flat ⟨_, rfl, .inr (.inl ⟨rfl, rfl, 3, rfl, rfl⟩)⟩ Flat_i Flat_i
      · rw [hrn]
        have hd0 := (commitR0_t (S := S) hT hs hne0 hok.2.2.1).1
        have cm : ∀ B0 B1 B2 B3 B4 B6 : Blk, _ = some (AV.tu [.sl (S.length + 7) 0 0 d.length d.length false, .b true], S ++ [B0, B1, B2, B3, B4, .cells [] 0 none true, B6, .cells (d.flatMap entE.enc) 0 (some 14) true]) := fun B0 B1 B2 B3 B4 B6 => (cm B0 B1 B2 B3 B4 B6).trans (by rw [(commitR0_t hT hs hne0 hok.2.2.1).2, retX_ne hd0, retM_ne hd0, List.length_append, List.append_assoc]; rfl)
        have hdf := hdf d hde
        have b2 : ∀ B0 B1 B2 B3 B4 B5 B6 : Blk, brightS [.ag [.i .u64 p, .sl (S.length + 7) 0 0 d.length d.length false]] (S ++ [B0, B1, B2, B3, B4, B5, B6, .cells (d.flatMap entE.enc) 0 (some 14) true]) = some (.b (decide (Bk.ok ⟨p, d⟩)), S ++ [B0, B1, B2, B3, B4, B5, B6, .cells (d.flatMap entE.enc) 0 (some 14) true]) := fun B0 B1 B2 B3 B4 B5 B6 => bright_eq (bookOf_mk (own_lst (ownV_mk (by rw [at_app]; rfl)))) hdf
        simp (maxSteps := 1000000) (disch := omega) only [c13, orc_cons, lst_cells hl, c1, b1, e1, cm, b2, go_sem, Option.map_none, Option.map_some, ↓reduceIte, Nat.reduceBEq, Nat.reduceAdd, Nat.reduceSub, Nat.reduceEqDiff, Nat.reduceLeDiff, Nat.reduceMul, Nat.reduceLT, Int.reduceLT, Int.reduceLE, Int.reduceAdd, Int.reduceSub, Int.reduceMul, Int.reduceNeg, Int.reduceEq, Int.reduceNe, Int.reduceToNat, decide_true, decide_false, iaddr_i, iaddr_sl_i, not_true_eq_false, not_false_eq_true, reduceCtorEq, ne_eq, forall_const, false_imp_iff, true_imp_iff, implies_true, Int.cast_ofNat_Int, Int.natCast_zero, Int.natCast_one, Int.add_zero, Int.zero_add]
        refine ⟨fun h1 => ?_, fun h1 => ?_⟩
        · rw [show Bk.fin (some ⟨p, d⟩) = none by simp only [Bk.fin, if_neg h1]]
          exact Acc.retB entE_flat ⟨_, rfl, .inr (.inl ⟨rfl, rfl, 3, rfl, rfl⟩)⟩ Flat_i Flat_i
        · rw [show Bk.fin (some ⟨p, d⟩) = some ⟨p, d⟩ by simp only [Bk.fin, if_pos (Decidable.not_not.1 h1)]]
          unfold commitB
          simp only
          rw [if_neg hd0]
          exact Acc.retB entE_flat ⟨_, rfl, .inr (.inr ⟨hd0, 7, 0, rfl, rfl⟩)⟩ Flat_i Flat_i
  · obtain ⟨i, o, v, cap, ex, rfl⟩ := lst_sl hl (List.length_pos_iff.2 hne)
    have c1 : ∀ L, cloneES [.sl i o v l.length cap ex] (S ++ L) = some (.sl (S ++ L).length 0 0 l.length l.length false, (S ++ L) ++ [.cells (l.flatMap entE.enc) 0 (some 14) true]) := fun L => by
      rw [c1 L, retX_ne hne, retM_ne hne]; rfl
    have cm : ∀ B0 B1 B2 B3 B4 B6 : Blk, commitS [.sl (S.length + 5) 0 0 l.length l.length false, .ag [.i .i64 1, .i .i64 0, xp, xd, .i .u64 0, .i .u64 0]] (S ++ [B0, B1, B2, B3, B4, .cells (l.flatMap entE.enc) 0 (some 14) true, B6]) = some (commitR (S.length + 5) ⟨0, l.length, [], l⟩ ⟨1, 0, ps, ds, 0, 0⟩ (S ++ [B0, B1, B2, B3, B4, .cells (l.flatMap entE.enc) 0 (some 14) true, B6])) := fun B0 B1 B2 B3 B4 B6 => by
      refine commit_eq (by rw [at_app]; rfl) ?_ hok
      have ht : (S ++ [B0, B1, B2, B3, B4, .cells (l.flatMap entE.enc) 0 (some 14) true, B6]).take (S.length + 5) = S ++ [B0, B1, B2, B3, B4] := by
        rw [List.take_append, List.take_of_length_le (by omega), Nat.add_sub_cancel_left]; rfl
      rw [ht]
      exact evtOf_mk (lstV_grow hp _) (lstV_grow hd _)
    have own : ∀ (A : Mem) (err : Int), WkV S (bookR (nz (.sl i o v l.length cap ex)) S ⟨p, l⟩ err).1 (bookR (nz (.sl i o v l.length cap ex)) S ⟨p, l⟩ err).2 (.tu [.ag [.i .u64 p, .sl (S.length + 3) 0 0 l.length l.length false], .i .i64 err])
      (S ++ (.cells [.i .u64 p, .sl i o v l.length cap ex] 0 none true :: .cells [.i .i64 1, .i .i64 0, xp, xd, .i .u64 0, .i .u64 0] 0 none true :: .cells [.i .u64 p, .sl (S.length + 3) 0 0 l.length l.length false] 0 none true :: .cells (l.flatMap entE.enc) 0 (some 14) true :: A)) := fun A err =>
      Acc.retB entE_flat ⟨_, rfl, .inr (.inr ⟨hne, 3, 0, rfl, rfl⟩)⟩ Flat_i Flat_i
    rcases commit_list (c := ⟨0, l.length, [], l⟩) rfl ho hr with ⟨hF, hrn⟩ | ⟨hT, d, hs, hde, hrn⟩
    · rw [hrn]
      have cm := fun B0 B1 B2 B3 B4 B6 => (cm B0 B1 B2 B3 B4 B6).trans (congrArg some (commitR_f hF))
      simp (maxSteps := 1000000) (disch := omega) only [c13, orc_cons, lst_cells hl, c1, b1, e1, cm, go_sem, Option.map_none, Option.map_some, ↓reduceIte, Nat.reduceBEq, Nat.reduceAdd, Nat.reduceSub, Nat.reduceEqDiff, Nat.reduceLeDiff, Nat.reduceMul, Nat.reduceLT, Int.reduceLT, Int.reduceLE, Int.reduceAdd, Int.reduceSub, Int.reduceMul, Int.reduceNeg, Int.reduceEq, Int.reduceNe, Int.reduceToNat, decide_true, decide_false, iaddr_i, iaddr_sl_i, not_true_eq_false, not_false_eq_true, reduceCtorEq, ne_eq, forall_const, false_imp_iff, true_imp_iff, implies_true, Int.cast_ofNat_Int, Int.natCast_zero, Int.natCast_one, Int.add_zero, Int.zero_add]
      exact own _ _
    · rw [hrn]
      have cm := fun B0 B1 B2 B3 B4 B6 => (cm B0 B1 B2 B3 B4 B6).trans (congrArg some (commitR_t hT hs))
      simp only at cm
      generalize (putC ps (dropC ds ⟨0, l.length, [], l⟩).1).v = v2 at cm
      have hdf := hdf d hde
      by_cases hd0 : d = []
      · subst hd0
        have cm : ∀ B0 B1 B2 B3 B4 B6 : Blk, _ = some (AV.tu [.se, .b true], List.set (S ++ [B0, B1, B2, B3, B4, .cells (l.flatMap entE.enc) 0 (some 14) true, B6]) (S.length + 5) (.cells [] v2 (some 14) true)) := fun B0 B1 B2 B3 B4 B6 => (cm B0 B1 B2 B3 B4 B6).trans (by unfold endX; rw [if_pos rfl]; rfl)
        have b2 : ∀ M : Mem, brightS [.ag [.i .u64 p, .se]] M = some (.b (decide (Bk.ok ⟨p, []⟩)), M) := fun M => bright_eq (bookOf_mk rfl) hdf
        simp (maxSteps := 1000000) (disch := omega) only [c13, orc_cons, lst_cells hl, c1, b1, e1, cm, b2, go_sem, Option.map_none, Option.map_some, ↓reduceIte, Nat.reduceBEq, Nat.reduceAdd, Nat.reduceSub, Nat.reduceEqDiff, Nat.reduceLeDiff, Nat.reduceMul, Nat.reduceLT, Int.reduceLT, Int.reduceLE, Int.reduceAdd, Int.reduceSub, Int.reduceMul, Int.reduceNeg, Int.reduceEq, Int.reduceNe, Int.reduceToNat, decide_true, decide_false, iaddr_i, iaddr_sl_i, not_true_eq_false, not_false_eq_true, reduceCtorEq, ne_eq, forall_const, false_imp_iff, true_imp_iff, implies_true, Int.cast_ofNat_Int, Int.natCast_zero, Int.natCast_one, Int.add_zero, Int.zero_add]
        refine ⟨fun h1 => ?_, fun h1 => ?_⟩
        · rw [show Bk.fin (some ⟨p, []⟩) = none by simp only [Bk.fin, if_neg h1]]
          exact own _ _
        · rw [show Bk.fin (some ⟨p, []⟩) = some ⟨p, []⟩ by simp only [Bk.fin, if_pos (Decidable.not_not.1 h1)]]
          unfold commitB
          simp only
          rw [if_pos trivial]
          exact wkv_drop rfl
      · have cm : ∀ B0 B1 B2 B3 B4 B6 : Blk, _ = some (AV.tu [.sl (S.length + 5) 0 v2 d.length d.length false, .b true], List.set (S ++ [B0, B1, B2, B3, B4, .cells (l.flatMap entE.enc) 0 (some 14) true, B6]) (S.length + 5) (.cells (d.flatMap entE.enc) v2 (some 14) true)) := fun B0 B1 B2 B3 B4 B6 => (cm B0 B1 B2 B3 B4 B6).trans (by unfold endX; rw [if_neg hd0])
        have b2 : ∀ B0 B1 B2 B3 B4 B6 : Blk, brightS [.ag [.i .u64 p, .sl (S.length + 5) 0 v2 d.length d.length false]] (S ++ [B0, B1, B2, B3, B4, .cells (d.flatMap entE.enc) v2 (some 14) true, B6]) = some (.b (decide (Bk.ok ⟨p, d⟩)), S ++ [B0, B1, B2, B3, B4, .cells (d.flatMap entE.enc) v2 (some 14) true, B6]) := fun B0 B1 B2 B3 B4 B6 => bright_eq (bookOf_mk (own_lst (ownV_mk (by rw [at_app]; rfl)))) hdf
        simp (maxSteps := 1000000) (disch := omega) only [c13, orc_cons, lst_cells hl, c1, b1, e1, cm, b2, go_sem, Option.map_none, Option.map_some, ↓reduceIte, Nat.reduceBEq, Nat.reduceAdd, Nat.reduceSub, Nat.reduceEqDiff, Nat.reduceLeDiff, Nat.reduceMul, Nat.reduceLT, Int.reduceLT, Int.reduceLE, Int.reduceAdd, Int.reduceSub, Int.reduceMul, Int.reduceNeg, Int.reduceEq, Int.reduceNe, Int.reduceToNat, decide_true, decide_false, iaddr_i, iaddr_sl_i, not_true_eq_false, not_false_eq_true, reduceCtorEq, ne_eq, forall_const, false_imp_iff, true_imp_iff, implies_true, Int.cast_ofNat_Int, Int.natCast_zero, Int.natCast_one, Int.add_zero, Int.zero_add]
        refine ⟨fun h1 => ?_, fun h1 => ?_⟩
        · rw [show Bk.fin (some ⟨p, d⟩) = none by simp only [Bk.fin, if_neg h1]]
          exact own _ _
        · rw [show Bk.fin (some ⟨p, d⟩) = some ⟨p, d⟩ by simp only [Bk.fin, if_pos (Decidable.not_not.1 h1)]]
          unfold commitB
          simp only
          rw [if_neg hd0]
          exact Acc.retB entE_flat ⟨_, rfl, .inr (.inr ⟨hd0, 5, v2, rfl, rfl⟩)⟩ Flat_i Flat_i
end Go.Proofs.Ytapgkaecamljbaa

namespace Go.Proofs.Ytapgkaecamljbaa
open Go.RowKit
set_option linter.unusedSimpArgs false
set_option linter.unusedVariables false
set_option maxRecDepth 10000

noncomputable def applyR (z : Bool) (S : Mem) (b : Bk) (e : Evt) : AV × Mem := if e.kind = 1 then commitB z S b (b.rapplied e) else match b.rapplied e with
  | some b' => bookR z S b' 0
  | none => bookR z S b 131
noncomputable def applyS : Spec := fun args S => match args with
  | [.ag cb, .ag ce] => match bookOf S cb, evtOf S ce with
    | some b, some e => if b.fits ∧ e.fits then some (applyR (nzB cb) S b e) else none
    | _, _ => none
  | _ => none
theorem right_eq {e : Evt} (hr : e.right) (hk : e.kind = 1) : e = ⟨1, 0, e.puts, e.drops, 0, 0⟩ := by
  rcases hr with ⟨_, _, _, _, h⟩ | ⟨h, _⟩ | ⟨h, _⟩
  · rw [hk] at h; exact h
  · rw [hk] at h; exact absurd h (by decide)
  · rw [hk] at h; exact absurd h (by decide)
theorem apply_ok : SpecOK Try.prog 13 applyS := by
  intro args S x S' h
  simp only [applyS] at h
  split at h
  · rename_i cb ce
    split at h
    · rename_i b e hb he
      split at h
      · rename_i hf
        obtain ⟨hbf, hef⟩ := hf
        by_cases hc : b.ok ∧ e.right ∧ e.kind = 1
        · obtain ⟨ho, hr, hk⟩ := hc
          obtain ⟨s, rfl, hl⟩ := bookOf_ok hb
          obtain ⟨xp, xd, rfl, hp, hd⟩ := evtOf_ok he
          have hre := right_eq hr hk
          obtain ⟨k, sub, ps, ds, g, q⟩ := e
          simp only at hk
          subst hk
          simp only [Evt.mk.injEq, true_and, and_true] at hre
          obtain ⟨rfl, rfl, rfl⟩ := hre
          obtain ⟨p, l⟩ := b
          simp only [Option.some.injEq] at h
          have hz : nzB [AV.i .u64 (Bk.mk p l).period, s] = nz s := rfl
          rw [hz] at h
          have hx := congrArg Prod.fst h
          have hm := congrArg Prod.snd h
          simp only at hx hm
          have h1 := apply1 hl hp hd hbf hef ho hr
          unfold applyR at hx hm
          rw [if_pos rfl] at hx hm
          rw [hx, hm] at h1
          exact h1
        · refine turn_ok _ _ _ _ ?_
          simp only [turnS, hb, he]
          have hc' : ¬ (b.ok ∧ e.right ∧ e.kind = 1) := hc
          rw [if_pos ⟨hbf, hef, hc'⟩, turned_eq hc']
          rw [← h]
          unfold applyR
          by_cases hk : e.kind = 1
          · have hn : b.rapplied e = none := by
              unfold Bk.rapplied
              rw [if_neg fun z => hc ⟨z.1, z.2, hk⟩]
            rw [hn, if_pos hk]; rfl
          · rw [if_neg hk]
            cases b.rapplied e <;> rfl
      · cases h
    · cases h
  · cases h
/-- The book behind an event. -/
noncomputable def Bk.after (b : Bk) (e : Evt) : Bk := (b.rapplied e).getD b
noncomputable def Bk.err (b : Bk) (e : Evt) : Int := if (b.rapplied e).isSome then 0 else 131
theorem apply_call {S : Mem} {cb ce : List AV} {b : Bk} {e : Evt} (hb : bookOf S cb = some b) (he : evtOf S ce = some e) (hbf : b.fits) (hef : e.fits) :
    ∃ Y M, applyS [.ag cb, .ag ce] S = some (.tu [.ag [.i .u64 (b.after e).period, Y], .i .i64 (b.err e)], M) ∧ lstV entE M Y = some (b.after e).entries ∧ S <+: M := by
  simp only [applyS, hb, he]
  rw [if_pos ⟨hbf, hef⟩]
  unfold applyR commitB Bk.after Bk.err
  cases b.rapplied e with
  | none => split <;> exact ⟨_, _, rfl, retX_lst, retM_ext⟩
  | some b' =>
    split
    · simp only
      split
      · rename_i h0
        exact ⟨_, _, rfl, by simp only [Option.getD_some]; rw [h0]; rfl, ext_refl⟩
      · exact ⟨_, _, rfl, retX_lst, retM_ext⟩
    · exact ⟨_, _, rfl, retX_lst, retM_ext⟩
theorem rapply_call {S : Mem} {cb : List AV} {k s g q : Int} {xp xd : AV} {ps : List Pol} {ds : List Int} {b : Bk} (hb : bookOf S cb = some b) (hp : lstV polE S xp = some ps) (hd : lstV (intE .i64) S xd = some ds) (hbf : b.fits) (hef : Evt.fits ⟨k, s, ps, ds, g, q⟩) (ho : openQ S 13 xp = true) :
    ∃ Y M, rapplyS [.ag cb, .ag [.i .i64 k, .i .i64 s, xp, xd, .i .u64 g, .i .u64 q]] S = some (.tu [.ag [.i .u64 (b.after ⟨k, s, ps, ds, g, q⟩).period, Y], .i .i64 (b.err ⟨k, s, ps, ds, g, q⟩)], M) ∧ lstV entE M Y = some (b.after ⟨k, s, ps, ds, g, q⟩).entries ∧ S <+: M := by
  have he := evtOf_mk (k := k) (s := s) (g := g) (p := q) hp hd
  simp only [rapplyS, hb, he]
  rw [if_pos ⟨hbf, hef, ho⟩]
  unfold Bk.after Bk.err
  obtain ⟨y, rfl, hl⟩ := bookOf_ok hb
  cases b.rapplied ⟨k, s, ps, ds, g, q⟩ with
  | none => exact ⟨_, _, rfl, hl, ext_refl⟩
  | some b' => exact ⟨_, _, rfl, retX_lst, retM_ext⟩
end Go.Proofs.Ytapgkaecamljbaa

namespace Go.Proofs.Ytapgkaecamljbaa
open Go.RowKit
set_option linter.unusedSimpArgs false
set_option linter.unusedVariables false
set_option maxRecDepth 100000

theorem alive_run : isTrue ((evAll tab 100000 100).fn 11 [] []) = true := by kernel_rfl
def aliveS : Spec := fun args S => match args with
  | [] => some (.b true, S)
  | _ => none
theorem alive_ok : SpecOK Try.prog 11 aliveS := by
  intro args S x S' h
  unfold aliveS at h
  split at h
  · cases h
    exact fnOK_of_below (by kernel_rfl) (fun w => calls_of_ev mixed tab_ok alive_run w) S
  · cases h

end Go.Proofs.Ytapgkaecamljbaa

namespace Go.Proofs.Ytapgkaecamljbaa
open Go.RowKit
set_option linter.unusedSimpArgs false
set_option linter.unusedVariables false
set_option maxRecDepth 100000

def greatS : Spec := fun args S => match args with
  | [.ag cb, .ag ce] => match bookOf S cb, evtOf S ce with
    | some b, some e => some (.b (decide (30 < b.entries.length ∨ 30 < e.puts.length ∨ 30 < e.drops.length)), S)
    | _, _ => none
  | _ => none
theorem great_ok : SpecOK Try.prog 12 greatS := by
  intro args S x S' h
  simp only [greatS] at h
  split at h
  · rename_i cb ce
    split at h
    · rename_i b ev hb hev
      cases h
      obtain ⟨s, rfl, hl⟩ := bookOf_ok hb
      obtain ⟨xp, xd, rfl, hp, hd⟩ := evtOf_ok hev
      refine fn_of_wp f12 rfl (W_sound none_ok mixed _ _ _ _ _ ?_)
      simp (maxSteps := 1000000) (disch := omega) only [c12, lst_len hl, lst_len hp, lst_len hd, go_sem, Option.map_none, Option.map_some, ↓reduceIte, Nat.reduceBEq, Nat.reduceAdd, Nat.reduceSub, Nat.reduceEqDiff, Nat.reduceLeDiff, Nat.reduceMul, Nat.reduceLT, Int.reduceLT, Int.reduceLE, Int.reduceAdd, Int.reduceSub, Int.reduceMul, Int.reduceNeg, Int.reduceEq, Int.reduceNe, Int.reduceToNat, decide_true, decide_false, iaddr_i, iaddr_sl_i, not_true_eq_false, not_false_eq_true, reduceCtorEq, ne_eq, forall_const, false_imp_iff, true_imp_iff, implies_true, Int.cast_ofNat_Int, Int.natCast_zero, Int.natCast_one, Int.add_zero, Int.zero_add]
      refine ⟨fun h1 => ⟨fun h2 => wkv_b ?_, fun h2 => ?_⟩, fun h1 => ?_⟩
      · constructor
        · rintro (z | z | z) <;> omega
        · intro z; omega
      · rw [decide_eq_true (by omega)]; exact wkv_drop rfl
      · rw [decide_eq_true (by omega)]; exact wkv_drop rfl
    · cases h
  · cases h
theorem great_eq {S : Mem} {cb ce : List AV} {b : Bk} {e : Evt} (hb : bookOf S cb = some b) (he : evtOf S ce = some e) : greatS [.ag cb, .ag ce] S = some (.b (decide (30 < b.entries.length ∨ 30 < e.puts.length ∨ 30 < e.drops.length)), S) := by
  simp only [greatS, hb, he]
end Go.Proofs.Ytapgkaecamljbaa

