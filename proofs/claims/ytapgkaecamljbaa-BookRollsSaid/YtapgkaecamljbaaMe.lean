/- Proved here: what the law of this claim leans on (an evaluator of the model's code, contracts of functions). No condition. -/
import Derived.Test.YtapgkaecamljbaaMd
namespace Go.Proofs.Ytapgkaecamljbaa
open Go.RowKit
set_option linter.unusedSimpArgs false
set_option linter.unusedVariables false
set_option maxRecDepth 10000

/-! ### Same -/
def bsameS : Spec := fun args S => match args with
  | [.ag c1, .ag c2] => match bookOf S c1, bookOf S c2 with
    | some a, some b => if a.entries.length ≤ 1000000 then some (.b (decide (a = b)), S) else none
    | _, _ => none
  | _ => none
theorem oBs_ok : OK Try.prog (lamOf Try.prog) (orcOf [(43, eqlES)]) := orc_ok (by simpa using eqlE_ok)
theorem bsame_ok : SpecOK Try.prog 22 bsameS := by
  intro args S x S' h
  simp only [bsameS] at h
  split at h
  · rename_i c1 c2
    split at h
    · rename_i a b ha hb
      split at h
      · rename_i hf
        cases h
        obtain ⟨s1, rfl, hl1⟩ := bookOf_ok ha
        obtain ⟨s2, rfl, hl2⟩ := bookOf_ok hb
        have e1 := fun L => eqlE_eq (lstV_grow hl1 L) (lstV_grow hl2 L) hf
        refine fn_of_wp f22 rfl (W_sound oBs_ok mixed _ _ _ _ _ ?_)
        simp (maxSteps := 1000000) (disch := omega) only [c22, orc_cons, e1, go_sem, Option.map_none, Option.map_some, ↓reduceIte, Nat.reduceBEq, Nat.reduceAdd, Nat.reduceSub, Nat.reduceEqDiff, Nat.reduceLeDiff, Nat.reduceMul, Nat.reduceLT, Int.reduceLT, Int.reduceLE, Int.reduceAdd, Int.reduceSub, Int.reduceMul, Int.reduceNeg, Int.reduceEq, Int.reduceNe, Int.reduceToNat, decide_true, decide_false, iaddr_i, iaddr_sl_i, not_true_eq_false, not_false_eq_true, reduceCtorEq, ne_eq, forall_const, false_imp_iff, true_imp_iff, implies_true, Int.cast_ofNat_Int, Int.natCast_zero, Int.natCast_one, Int.add_zero, Int.zero_add]
        obtain ⟨p1, l1⟩ := a
        obtain ⟨p2, l2⟩ := b
        simp only [Bk.mk.injEq]
        exact ⟨fun h1 => wkv_b ⟨fun q => q.2, fun q => ⟨h1, q⟩⟩, fun h1 => wkv_f fun q => h1 q.1⟩
      · cases h
    · cases h
  · cases h
theorem rbsame_ok : SpecOK Try.prog 15 bsameS := by
  intro args S x S' h
  simp only [bsameS] at h
  split at h
  · rename_i c1 c2
    split at h
    · rename_i a b ha hb
      split at h
      · rename_i hf
        cases h
        obtain ⟨s1, rfl, hl1⟩ := bookOf_ok ha
        obtain ⟨s2, rfl, hl2⟩ := bookOf_ok hb
        obtain ⟨p1, l⟩ := a
        obtain ⟨p2, m⟩ := b
        simp only at hl1 hl2 hf
        simp only [Bk.mk.injEq]
        refine fn_of_wp f15 rfl (W_sound none_ok mixed _ _ _ _ _ ?_)
        simp (maxSteps := 1000000) (disch := omega) only [c15, lst_len hl1, lst_len hl2, go_sem, Option.map_none, Option.map_some, ↓reduceIte, Nat.reduceBEq, Nat.reduceAdd, Nat.reduceSub, Nat.reduceEqDiff, Nat.reduceLeDiff, Nat.reduceMul, Nat.reduceLT, Int.reduceLT, Int.reduceLE, Int.reduceAdd, Int.reduceSub, Int.reduceMul, Int.reduceNeg, Int.reduceEq, Int.reduceNe, Int.reduceToNat, decide_true, decide_false, iaddr_i, iaddr_sl_i, not_true_eq_false, not_false_eq_true, reduceCtorEq, ne_eq, forall_const, false_imp_iff, true_imp_iff, implies_true, Int.cast_ofNat_Int, Int.natCast_zero, Int.natCast_one, Int.add_zero, Int.zero_add]
        refine ⟨fun h1 => ⟨fun hne => wkv_f fun q => hne (by rw [q.2]), fun he => ?_⟩, fun h1 => wkv_f fun q => h1 q.1⟩
        have he : l.length = m.length := by omega
        have h1 := Decidable.not_not.1 h1
        refine wp_loop (fun j e M dl => dl = [] ∧ ∃ k : Nat, j = l.length - k ∧ k ≤ l.length ∧ M = S ++ [.cells [.i .u64 p1, s1] 0 none true, .cells [.i .u64 p2, s2] 0 none true] ∧ (∀ i (hi : i < k) (h1 : i < l.length) (h2 : i < m.length), l[i] = m[i]) ∧
          e.get 2 = .p S.length 0 0 ∧ e.get 3 = .p (S.length + 1) 0 0 ∧ e.get 22 = .i .i64 l.length ∧ e.get 23 = .i .i64 k) (j := l.length) ⟨rfl, 0, rfl, Nat.zero_le _, rfl, fun i hi => absurd hi (Nat.not_lt_zero _), rfl, rfl, rfl, rfl⟩ ?_
        rintro j e M d' ⟨rfl, k, rfl, hk, rfl, hn, h2, h3, h22, h23⟩
        refine W_sound none_ok mixed _ _ _ _ _ ?_
        by_cases hkl : k < l.length
        · obtain ⟨bi, o, v, cap, ex, rfl⟩ := lst_sl hl1 hkl
          obtain ⟨bj, o2, v2, cap2, ex2, rfl⟩ := lst_sl hl2 (show k < m.length by omega)
          have hkI : (k : Int) < l.length := by omega
          have hkm : k < m.length := by omega
          have ha : ∀ L, rowB ((S ++ L)[bi]?) (o + k * 14) v 14 = some (entE.enc l[k]) := lstV_row hl1 hkl
          have hb : ∀ L, rowB ((S ++ L)[bj]?) (o2 + k * 14) v2 14 = some (entE.enc m[k]) := lstV_row hl2 hkm
          simp (maxSteps := 1000000) (disch := omega) only [c15l1, h2, h3, h22, h23, hkI, Int.toNat_natCast, ha, hb, ne_ent, go_sem, Option.map_none, Option.map_some, ↓reduceIte, Nat.reduceBEq, Nat.reduceAdd, Nat.reduceSub, Nat.reduceEqDiff, Nat.reduceLeDiff, Nat.reduceMul, Nat.reduceLT, Int.reduceLT, Int.reduceLE, Int.reduceAdd, Int.reduceSub, Int.reduceMul, Int.reduceNeg, Int.reduceEq, Int.reduceNe, Int.reduceToNat, decide_true, decide_false, iaddr_i, iaddr_sl_i, not_true_eq_false, not_false_eq_true, reduceCtorEq, ne_eq, forall_const, false_imp_iff, true_imp_iff, implies_true, Int.cast_ofNat_Int, Int.natCast_zero, Int.natCast_one, Int.add_zero, Int.zero_add]
          refine ⟨fun hd => wkv_f fun q => hd (by have := q.2; subst this; rfl), fun hd => ⟨l.length - (k + 1), by omega, k + 1, rfl, hkl, fun i hi g1 g2 => ?_, rfl⟩⟩
          by_cases hik : i = k
          · subst hik; exact Decidable.not_not.1 hd
          · exact hn i (by omega) g1 g2
        · have hkI : ¬ (k : Int) < l.length := by omega
          simp (maxSteps := 1000000) (disch := omega) only [c15l1, h2, h3, h22, h23, hkI, go_sem, Option.map_none, Option.map_some, ↓reduceIte, Nat.reduceBEq, Nat.reduceAdd, Nat.reduceSub, Nat.reduceEqDiff, Nat.reduceLeDiff, Nat.reduceMul, Nat.reduceLT, Int.reduceLT, Int.reduceLE, Int.reduceAdd, Int.reduceSub, Int.reduceMul, Int.reduceNeg, Int.reduceEq, Int.reduceNe, Int.reduceToNat, decide_true, decide_false, iaddr_i, iaddr_sl_i, not_true_eq_false, not_false_eq_true, reduceCtorEq, ne_eq, forall_const, false_imp_iff, true_imp_iff, implies_true, Int.cast_ofNat_Int, Int.natCast_zero, Int.natCast_one, Int.add_zero, Int.zero_add]
          exact wkv_tP (ext_app _) ⟨h1, List.ext_getElem he fun i g1 g2 => hn i (by omega) g1 g2⟩
      · cases h
    · cases h
  · cases h
theorem bsame_eq {S : Mem} {c1 c2 : List AV} {a b : Bk} (ha : bookOf S c1 = some a) (hb : bookOf S c2 = some b) (hf : a.entries.length ≤ 1000000) : bsameS [.ag c1, .ag c2] S = some (.b (decide (a = b)), S) := by
  simp only [bsameS, ha, hb, if_pos hf]

/-! ### Find -/
def noEnt : Ent := ⟨⟨0, 0, 0, 0, 0, 0, 0, 0, 0, 0, 0, 0, 0⟩, 0⟩
def foundV (o : Option Ent) : AV := match o with
  | some a => .tu [.ag (entE.enc a), .b true]
  | none => .tu [.ag (entE.enc noEnt), .b false]
def findS : Spec := fun args S => match args with
  | [.ag cb, .i .i64 n] => match bookOf S cb with
    | some b => if b.entries.length ≤ 1000000 then some (foundV (b.entries.find? (hasSub n)), S) else none
    | none => none
  | _ => none
theorem foundV_flat (o : Option Ent) (n : Nat) : (foundV o).flat n := by
  cases o <;> rfl
theorem find_of_idx {α : Type} {p : α → Bool} {l : List α} : l.find? p = match l.findIdx? p with
    | some k => l[k]?
    | none => none := by
  induction l with
  | nil => rfl
  | cons a l ih =>
    simp only [List.find?_cons, List.findIdx?_cons]
    cases h : p a with
    | true => simp
    | false =>
      simp only [Bool.false_eq_true, if_false, ih]
      cases l.findIdx? p <;> rfl
theorem oFi_ok : OK Try.prog (lamOf Try.prog) (orcOf [(41, placeS)]) := orc_ok (by simpa using place_ok)
theorem bfind_ok : SpecOK Try.prog 19 findS := by
  intro args S x S' h
  simp only [findS] at h
  split at h
  · rename_i cb n
    split at h
    · rename_i b hb
      split at h
      · rename_i hf
        cases h
        obtain ⟨s, rfl, hl⟩ := bookOf_ok hb
        obtain ⟨p, l⟩ := b
        simp only at hl hf
        have pl := fun L => place_eq (lstV_grow hl L) n hf
        refine fn_of_wp f19 rfl (W_sound oFi_ok mixed _ _ _ _ _ ?_)
        rw [show (Bk.mk p l).entries = l from rfl, find_of_idx]
        cases hi : l.findIdx? (hasSub n) with
        | none =>
          simp (maxSteps := 1000000) (disch := omega) only [c19, orc_cons, pl, idx_eq_none hi, go_sem, Option.map_none, Option.map_some, ↓reduceIte, Nat.reduceBEq, Nat.reduceAdd, Nat.reduceSub, Nat.reduceEqDiff, Nat.reduceLeDiff, Nat.reduceMul, Nat.reduceLT, Int.reduceLT, Int.reduceLE, Int.reduceAdd, Int.reduceSub, Int.reduceMul, Int.reduceNeg, Int.reduceEq, Int.reduceNe, Int.reduceToNat, decide_true, decide_false, iaddr_i, iaddr_sl_i, not_true_eq_false, not_false_eq_true, reduceCtorEq, ne_eq, forall_const, false_imp_iff, true_imp_iff, implies_true, Int.cast_ofNat_Int, Int.natCast_zero, Int.natCast_one, Int.add_zero, Int.zero_add]
          exact wkv_drop rfl
        | some j =>
          obtain ⟨hj, _, _⟩ := List.findIdx?_eq_some_iff_getElem.1 hi
          obtain ⟨bi, o, v, cap, ex, rfl⟩ := lst_sl hl hj
          have hr : ∀ L, rowB ((S ++ L)[bi]?) (o + j * 14) v 14 = some l[j].enc := lstV_row hl hj
          have hj0 : ¬ ((j : Int) < 0) := by omega
          simp (maxSteps := 1000000) (disch := omega) only [c19, orc_cons, pl, idx_eq_some hi, hj0, Int.toNat_natCast, hr, Ent.enc, go_sem, Option.map_none, Option.map_some, ↓reduceIte, Nat.reduceBEq, Nat.reduceAdd, Nat.reduceSub, Nat.reduceEqDiff, Nat.reduceLeDiff, Nat.reduceMul, Nat.reduceLT, Int.reduceLT, Int.reduceLE, Int.reduceAdd, Int.reduceSub, Int.reduceMul, Int.reduceNeg, Int.reduceEq, Int.reduceNe, Int.reduceToNat, decide_true, decide_false, iaddr_i, iaddr_sl_i, not_true_eq_false, not_false_eq_true, reduceCtorEq, ne_eq, forall_const, false_imp_iff, true_imp_iff, implies_true, Int.cast_ofNat_Int, Int.natCast_zero, Int.natCast_one, Int.add_zero, Int.zero_add]
          rw [List.getElem?_eq_getElem hj]
          exact wkv_drop rfl
      · cases h
    · cases h
  · cases h
theorem rfind_ok : SpecOK Try.prog 20 findS := by
  intro args S x S' h
  simp only [findS] at h
  split at h
  · rename_i cb n
    split at h
    · rename_i b hb
      split at h
      · rename_i hf
        cases h
        obtain ⟨s, rfl, hl⟩ := bookOf_ok hb
        obtain ⟨p, l⟩ := b
        simp only at hl hf
        refine fn_of_wp f20 rfl (W_sound none_ok mixed _ _ _ _ _ ?_)
        simp (maxSteps := 1000000) (disch := omega) only [c20, lst_len hl, List.replicate, go_sem, Option.map_none, Option.map_some, ↓reduceIte, Nat.reduceBEq, Nat.reduceAdd, Nat.reduceSub, Nat.reduceEqDiff, Nat.reduceLeDiff, Nat.reduceMul, Nat.reduceLT, Int.reduceLT, Int.reduceLE, Int.reduceAdd, Int.reduceSub, Int.reduceMul, Int.reduceNeg, Int.reduceEq, Int.reduceNe, Int.reduceToNat, decide_true, decide_false, iaddr_i, iaddr_sl_i, not_true_eq_false, not_false_eq_true, reduceCtorEq, ne_eq, forall_const, false_imp_iff, true_imp_iff, implies_true, Int.cast_ofNat_Int, Int.natCast_zero, Int.natCast_one, Int.add_zero, Int.zero_add]
        refine wp_loop (fun j e M dl => dl = [] ∧ ∃ (k : Nat) (T : Mem), j = l.length - k ∧ k ≤ l.length ∧ M = S ++ (.cells [.i .u64 p, s] 0 none true :: .cells noEnt.enc 0 none true :: T) ∧ (∀ i (hi : i < k) (h1 : i < l.length), hasSub n l[i] = false) ∧
          e.get 4 = .p (S.length + 1) 0 0 ∧ e.get 1 = .i .i64 n ∧ e.get 9 = s ∧ e.get 10 = .i .i64 l.length ∧ e.get 11 = .i .i64 k) (j := l.length) ⟨rfl, 0, [], rfl, Nat.zero_le _, rfl, fun i hi => absurd hi (Nat.not_lt_zero _), rfl, rfl, rfl, rfl, rfl⟩ ?_
        rintro j e M d' ⟨rfl, k, T, rfl, hk, rfl, hn, h4, h1, h9, h10, h11⟩
        refine W_sound none_ok mixed _ _ _ _ _ ?_
        by_cases hkl : k < l.length
        · obtain ⟨bi, o, v, cap, ex, rfl⟩ := lst_sl hl hkl
          have hr : ∀ L, rowB ((S ++ L)[bi]?) (o + k * 14) v 14 = some l[k].enc := lstV_row hl hkl
          have hkI : (k : Int) < l.length := by omega
          have hw1 : wrapV .i64 ((k : Int) + 1) = ((k + 1 : Nat) : Int) := by rw [wrap_i64 (by omega) (by omega)]; omega
          simp (maxSteps := 1000000) (disch := omega) only [c20l0, h4, h1, h9, h10, h11, hkI, Int.toNat_natCast, hr, Ent.enc, noEnt, hw1, List.replicate, go_sem, Option.map_none, Option.map_some, ↓reduceIte, Nat.reduceBEq, Nat.reduceAdd, Nat.reduceSub, Nat.reduceEqDiff, Nat.reduceLeDiff, Nat.reduceMul, Nat.reduceLT, Int.reduceLT, Int.reduceLE, Int.reduceAdd, Int.reduceSub, Int.reduceMul, Int.reduceNeg, Int.reduceEq, Int.reduceNe, Int.reduceToNat, decide_true, decide_false, iaddr_i, iaddr_sl_i, not_true_eq_false, not_false_eq_true, reduceCtorEq, ne_eq, forall_const, false_imp_iff, true_imp_iff, implies_true, Int.cast_ofNat_Int, Int.natCast_zero, Int.natCast_one, Int.add_zero, Int.zero_add]
          refine ⟨fun he => ?_, fun he => ⟨l.length - (k + 1), by omega, k + 1, _, rfl, hkl, rfl, fun i hi g1 => ?_, rfl⟩⟩
          · rw [show l.find? (hasSub n) = some l[k] by
              rw [find_of_idx, List.findIdx?_eq_some_iff_getElem.2 ⟨hkl, by simpa [hasSub] using he, fun j hj => by rw [hn j hj (by omega)]; simp⟩]; exact List.getElem?_eq_getElem hkl]
            exact wkv_drop rfl
          · by_cases hik : i = k
            · subst hik; simpa [hasSub] using he
            · exact hn i (by omega) g1
        · have hkI : ¬ (k : Int) < l.length := by omega
          simp (maxSteps := 1000000) (disch := omega) only [c20l0, h4, h1, h9, h10, h11, hkI, Ent.enc, noEnt, List.replicate, go_sem, Option.map_none, Option.map_some, ↓reduceIte, Nat.reduceBEq, Nat.reduceAdd, Nat.reduceSub, Nat.reduceEqDiff, Nat.reduceLeDiff, Nat.reduceMul, Nat.reduceLT, Int.reduceLT, Int.reduceLE, Int.reduceAdd, Int.reduceSub, Int.reduceMul, Int.reduceNeg, Int.reduceEq, Int.reduceNe, Int.reduceToNat, decide_true, decide_false, iaddr_i, iaddr_sl_i, not_true_eq_false, not_false_eq_true, reduceCtorEq, ne_eq, forall_const, false_imp_iff, true_imp_iff, implies_true, Int.cast_ofNat_Int, Int.natCast_zero, Int.natCast_one, Int.add_zero, Int.zero_add]
          rw [show l.find? (hasSub n) = none by
            rw [List.find?_eq_none]
            intro y hy
            obtain ⟨i, hi, rfl⟩ := List.getElem_of_mem hy
            rw [hn i (by omega) hi]; simp]
          exact wkv_drop rfl
      · cases h
    · cases h
  · cases h
theorem find_eq {S : Mem} {cb : List AV} {b : Bk} (hb : bookOf S cb = some b) (n : Int) (hf : b.entries.length ≤ 1000000) : findS [.ag cb, .i .i64 n] S = some (foundV (b.entries.find? (hasSub n)), S) := by
  simp only [findS, hb, if_pos hf]

/-! ### The document's Right -/
theorem allS_eq {S : Mem} {x : AV} {l : List Pol} (hl : lstV polE S x = some l) (hf : ∀ p ∈ l, p.fits) (ho : l = [] ∨ openS S 13 x = true) : allS [x] S = some (.i .i64 (allE l), S) := by
  have : l.all (fun p => decide p.fits) = true := List.all_eq_true.2 fun p hp => decide_eq_true (hf p hp)
  simp only [allS, hl, if_pos (And.intro this ho)]
theorem oRr_ok : OK Try.prog (lamOf Try.prog) (orcOf [(42, allS)]) := orc_ok (by simpa using rall_ok)
theorem rbright_ok : SpecOK Try.prog 21 brightS := by
  intro args S x S' h
  simp only [brightS] at h
  split at h
  · rename_i cs
    split at h
    · rename_i b hb
      split at h
      · rename_i hf
        cases h
        obtain ⟨s, rfl, hl⟩ := bookOf_ok hb
        obtain ⟨p, l⟩ := b
        simp only at hl
        have hlim := hf.1
        simp only at hlim
        refine fn_of_wp f21 rfl (W_sound oRr_ok mixed _ _ _ _ _ ?_)
        simp (maxSteps := 1000000) (disch := omega) only [c21, lst_len hl, go_sem, Option.map_none, Option.map_some, ↓reduceIte, Nat.reduceBEq, Nat.reduceAdd, Nat.reduceSub, Nat.reduceEqDiff, Nat.reduceLeDiff, Nat.reduceMul, Nat.reduceLT, Int.reduceLT, Int.reduceLE, Int.reduceAdd, Int.reduceSub, Int.reduceMul, Int.reduceNeg, Int.reduceEq, Int.reduceNe, Int.reduceToNat, decide_true, decide_false, iaddr_i, iaddr_sl_i, not_true_eq_false, not_false_eq_true, reduceCtorEq, ne_eq, forall_const, false_imp_iff, true_imp_iff, implies_true, Int.cast_ofNat_Int, Int.natCast_zero, Int.natCast_one, Int.add_zero, Int.zero_add]
        refine ⟨fun h1 => ⟨fun h2 => ⟨fun h3 => ?_, fun h3 => ?_⟩, fun h2 => ?_⟩, fun h1 => ?_⟩
        · refine wkv_f fun q => ?_
          have := q.2.2.1.1; unfold polsOf at this; simp at this; omega
        rotate_left
        · exact wkv_f fun q => by have := q.2.1; simp only at this; omega
        · exact wkv_f fun q => by have := q.1; simp only at this; omega
        have h0 : Acc true polE S (S ++ [.cells [.i .u64 p, s] 0 none true, .cells [] 0 none true]) (.sl (S.length + 1) 0 0 0 0 true) [] := by
          have := acc_lit (E := polE) (M := S ++ [.cells [.i .u64 p, s] 0 none true]) (ext_app (S := S) _)
          simpa using this
        refine wp_loop (fun j e M dl => dl = [] ∧ ∃ (k : Nat) (x : AV), j = l.length - k ∧ k ≤ l.length ∧ Acc true polE S M x (polsOf (l.take k)) ∧ (∀ i (hi : i < k) (h1 : i < l.length), l[i].granted ≤ 281474976710656) ∧
          e.get 22 = s ∧ e.get 23 = .i .i64 l.length ∧ e.get 24 = .i .i64 k ∧ e.get 3 = x) (j := l.length) ⟨rfl, 0, _, rfl, Nat.zero_le _, h0, fun i hi => absurd hi (Nat.not_lt_zero _), rfl, rfl, rfl, rfl⟩ ?_
        rintro j e M d' ⟨rfl, k, x, rfl, hk, hx, hn, h22, h23, h24, h3⟩
        refine W_sound oRr_ok mixed _ _ _ _ _ ?_
        have hM := lst_ext hl hx.ext
        by_cases hkl : k < l.length
        · obtain ⟨bi, o, v, cap, ex, rfl⟩ := lst_sl hl hkl
          have hr : ∀ L, rowB ((M ++ L)[bi]?) (o + k * 14) v 14 = some (entE.enc l[k]) := lstV_row hM hkl
          have hr0 := hr []
          rw [List.append_nil] at hr0
          have hkI : (k : Int) < l.length := by omega
          have hw : wrapV .i64 ((k : Int) + 1) = ((k + 1 : Nat) : Int) := by rw [wrap_i64 (by omega) (by omega)]; omega
          have hlen : (polsOf (l.take k)).length = k := by unfold polsOf; rw [List.length_map, List.length_take]; omega
          obtain ⟨x', M', ha, hx'⟩ := Acc.app (bytes := 80) polE_one (hx.grow [.cells (entE.enc l[k]) 0 none true, .cells (polE.enc l[k].pol) 0 none true]) l[k].pol (by rw [hlen]; omega) (by rw [hlen]; omega)
          simp only [entE, polE, Ent.enc, Pol.enc] at hr0 ha
          simp (maxSteps := 1000000) (disch := omega) only [c21l0, h3, h22, h23, h24, hkI, Int.toNat_natCast, hr0, src_sl, srcN_some, ha, hw, List.replicate, go_sem, Option.map_none, Option.map_some, ↓reduceIte, Nat.reduceBEq, Nat.reduceAdd, Nat.reduceSub, Nat.reduceEqDiff, Nat.reduceLeDiff, Nat.reduceMul, Nat.reduceLT, Int.reduceLT, Int.reduceLE, Int.reduceAdd, Int.reduceSub, Int.reduceMul, Int.reduceNeg, Int.reduceEq, Int.reduceNe, Int.reduceToNat, decide_true, decide_false, iaddr_i, iaddr_sl_i, not_true_eq_false, not_false_eq_true, reduceCtorEq, ne_eq, forall_const, false_imp_iff, true_imp_iff, implies_true, Int.cast_ofNat_Int, Int.natCast_zero, Int.natCast_one, Int.add_zero, Int.zero_add]
          refine ⟨fun hg => ?_, fun hg => ⟨l.length - (k + 1), by omega, k + 1, x', rfl, hkl, ?_, fun i hi g1 => ?_, rfl, rfl⟩⟩
          · refine wkv_fP (ext_more hx.ext _) fun q => ?_
            have := q.2.2.2 l[k] (List.getElem_mem hkl); omega
          · rw [show polsOf (l.take (k + 1)) = polsOf (l.take k) ++ [l[k].pol] by unfold polsOf; rw [List.take_succ_eq_append_getElem hkl, List.map_append]; rfl]
            exact hx'
          · by_cases hik : i = k
            · subst hik; omega
            · exact hn i (by omega) g1
        · have hkI : ¬ (k : Int) < l.length := by omega
          rw [List.take_of_length_le (by omega)] at hx
          have ha := allS_eq hx.lst (fun q hq => by obtain ⟨y, hy, rfl⟩ := List.mem_map.1 hq; exact hf.2 y hy) (by
            by_cases e : polsOf l = []
            · exact .inl e
            · exact .inr (hx.opens e))
          simp (maxSteps := 1000000) (disch := omega) only [c21l0, h3, h22, h23, h24, hkI, orc_cons, ha, go_sem, Option.map_none, Option.map_some, ↓reduceIte, Nat.reduceBEq, Nat.reduceAdd, Nat.reduceSub, Nat.reduceEqDiff, Nat.reduceLeDiff, Nat.reduceMul, Nat.reduceLT, Int.reduceLT, Int.reduceLE, Int.reduceAdd, Int.reduceSub, Int.reduceMul, Int.reduceNeg, Int.reduceEq, Int.reduceNe, Int.reduceToNat, decide_true, decide_false, iaddr_i, iaddr_sl_i, not_true_eq_false, not_false_eq_true, reduceCtorEq, ne_eq, forall_const, false_imp_iff, true_imp_iff, implies_true, Int.cast_ofNat_Int, Int.natCast_zero, Int.natCast_one, Int.add_zero, Int.zero_add]
          refine wkv_bP hx.ext ?_
          rw [allE_zero]
          refine ⟨fun q => q.2.2.1, fun q => ⟨by show (1 : Int) ≤ p; omega, by show p ≤ _; omega, q, fun y hy => ?_⟩⟩
          obtain ⟨i, hi, rfl⟩ := List.getElem_of_mem hy
          exact hn i (by have : i < l.length := hi; omega) hi
      · cases h
    · cases h
  · cases h
end Go.Proofs.Ytapgkaecamljbaa

namespace Go.Proofs.Ytapgkaecamljbaa
open Go.RowKit
set_option linter.unusedSimpArgs false
set_option linter.unusedVariables false
set_option maxRecDepth 10000

/-! ### Plain -/
def i64 (n : Int) : Prop := -9223372036854775808 ≤ n ∧ n ≤ 9223372036854775807
def u64 (n : Int) : Prop := 0 ≤ n ∧ n ≤ 18446744073709551615
instance (n : Int) : Decidable (i64 n) := by unfold i64; infer_instance
instance (n : Int) : Decidable (u64 n) := by unfold u64; infer_instance
/-- The bytes of a number. -/
def leb (n : Int) : List Int := if n < 128 then [n] else (128 + n % 128) :: leb (n / 128)
  termination_by n.toNat
  decreasing_by omega
theorem leb_lt {n : Int} (h : n < 128) : leb n = [n] := by rw [leb, if_pos h]
theorem leb_ge {n : Int} (h : ¬ n < 128) : leb n = (128 + n % 128) :: leb (n / 128) := by rw [leb, if_neg h]
theorem leb_ne (n : Int) : leb n ≠ [] := by
  by_cases h : n < 128
  · rw [leb_lt h]; simp
  · rw [leb_ge h]; simp
theorem leb_len : ∀ (k : Nat) (n : Int), n < 128 * ((128 ^ k : Nat) : Int) → (leb n).length ≤ k + 1
  | 0, n, h => by rw [leb_lt (by simpa using h)]; simp
  | k + 1, n, h => by
    by_cases h1 : n < 128
    · rw [leb_lt h1]; simp
    · rw [leb_ge h1, List.length_cons]
      have : n / 128 < 128 * ((128 ^ k : Nat) : Int) := by rw [Nat.pow_succ] at h; omega
      have := leb_len k _ this
      omega
theorem leb_len10 {n : Int} (h : u64 n) : (leb n).length ≤ 10 := leb_len 9 n (by have := h.2; show n < 128 * 9223372036854775808; omega)
theorem leb_u8 {n : Int} (h : 0 ≤ n) : ∀ b ∈ leb n, u8 b := by
  by_cases h1 : n < 128
  · rw [leb_lt h1]; intro b hb; simp at hb; subst hb; unfold u8; omega
  · rw [leb_ge h1]
    intro b hb
    rcases List.mem_cons.1 hb with rfl | hb
    · unfold u8; omega
    · exact leb_u8 (n := n / 128) (by omega) b hb
  termination_by n.toNat
  decreasing_by omega
def lebs (l : List Int) : List Int := l.flatMap leb

/-! ### Rules -/
theorem or128 {cst : Bool} {a : Int} (h0 : 0 ≤ a) (h1 : a ≤ 255) : binV .int cst .or (.i .u8 a) (.i .u8 128) = some (.i .u8 (128 + a % 128)) := by
  rw [bin_i rfl]
  obtain ⟨x, rfl⟩ := Int.eq_ofNat_of_zero_le h0
  have hx : x < 256 := by omega
  have e1 : (BitVec.ofInt IntKind.u8.bits (x : Int)).toNat = x := by show (BitVec.ofInt 8 (x : Int)).toNat = x; simp [BitVec.toNat_ofInt]; omega
  have e2 : (BitVec.ofInt IntKind.u8.bits 128).toNat = 128 := rfl
  have e3 : Nat.lor x 128 = 128 + x % 128 := by
    have : ∀ y : Fin 256, Nat.lor y.val 128 = 128 + y.val % 128 := by decide
    exact this ⟨x, hx⟩
  simp only [intV, bitsV, e1, e2, e3, wrapV, Option.map_some]
  congr 2; omega
theorem shr_7 {n : Int} : shiftV .shr .u64 n 7 = some (.i .u64 (n / 128)) := by
  simp only [shiftV, IntKind.bits]
  rw [if_neg (by omega), Int.fdiv_eq_ediv_of_nonneg _ (Int.natCast_nonneg _)]; rfl
theorem wkv_head {S T : Mem} {cs : List AV} {op : Option Nat} {r ex : Bool} {l c : Nat} (hf : ∀ x ∈ cs, AV.Flat S.length x) : WkV S (.sl S.length 0 0 l c ex) (S ++ [.cells cs 0 op r]) (.sl S.length 0 0 l c ex) (S ++ (.cells cs 0 op r :: T)) := by
  have := wkv_keep (S0 := S) (L := .cells cs 0 op r :: T) (y := .sl S.length 0 0 l c ex) [0] (by simp [Blk.plain]) (by simp)
  have h1 : ren S.length (gKeep S.length (.cells cs 0 op r :: T) [0]) (.sl S.length 0 0 l c ex) = .sl S.length 0 0 l c ex := by
    rw [ren_sl0, gKeep_at0]
    simp [gQ_some, ver_cells, renS_some]
  have h2 : keepB S.length (.cells cs 0 op r :: T) [0] = [.cells cs 0 op r] := by
    simp only [keepB_eq, List.map_cons, List.map_nil, List.getD_cons_zero, renB_cells, renL_eq]
    congr 2
    exact (List.map_congr_left (g := id) fun c hc => hf _ hc _).trans (List.map_id _)
  rwa [h1, h2] at this

/-! ### leb.Put -/
def b8 (l : List Int) : List AV := l.map (.i .u8)
def buf (l : List Int) : List AV := b8 l ++ List.replicate (10 - l.length) (.i .u8 0)
theorem b8_enc (l : List Int) : l.flatMap (intE .u8).enc = b8 l := by
  induction l with
  | nil => rfl
  | cons a l ih => rw [List.flatMap_cons, ih]; rfl
theorem b8_len (l : List Int) : (b8 l).length = l.length := by unfold b8; simp
theorem buf_flat (l : List Int) (n : Nat) : ∀ x ∈ buf l, AV.Flat n x := by
  intro x hx
  unfold buf b8 at hx
  rcases List.mem_append.1 hx with h | h
  · obtain ⟨a, _, rfl⟩ := List.mem_map.1 h; exact Flat_i
  · rw [(List.mem_replicate.1 h).2]; exact Flat_i
theorem natV_0 : natV (.i .i64 0) = some 0 := (rfl)
theorem natV_10 : natV (.i .i64 10) = some 10 := (rfl)
theorem buf_app {S T : Mem} {l : List Int} {c : Int} (h : l.length < 10) : appV (S ++ (.cells (buf l) 0 none true :: T)) 1 1 (.sl S.length 0 0 l.length 10 true) [.i .u8 c] 1 = some (.sl S.length 0 0 (l.length + 1) 10 true, S ++ (.cells (buf (l ++ [c])) 0 none true :: T)) := by
  have hl : (buf l).length = 10 := by unfold buf; rw [List.length_append, b8_len, List.length_replicate]; omega
  simp only [appV]
  rw [if_neg (by omega), if_pos (by omega), at_app0, List.getElem?_cons_zero]
  simp only
  rw [if_pos ⟨trivial, by rw [hl]; omega, rfl⟩, set_app0, List.set_cons_zero]
  have : splice (buf l) (0 + l.length * 1) [.i .u8 c] = buf (l ++ [c]) := by
    unfold buf
    rw [splice, Nat.zero_add, Nat.mul_one, List.take_append_of_le_length (by rw [b8_len]; omega), List.take_of_length_le (by rw [b8_len]; omega)]
    rw [List.drop_append, List.drop_of_length_le (by rw [b8_len]; simp), List.nil_append, b8_len, List.drop_replicate]
    unfold b8
    rw [List.map_append, List.append_assoc]
    congr 3
    simp only [List.length_append, List.length_singleton]
    omega
  rw [this]
def putS : Spec := fun args S => match args with
  | [.i .u64 n] => if u64 n then some (.sl S.length 0 0 (leb n).length 10 true, S ++ [.cells (buf (leb n)) 0 none true]) else none
  | _ => none
theorem put_ok : SpecOK Try.prog 62 putS := by
  intro args S x S' h
  simp only [putS] at h
  split at h
  · rename_i n
    split at h
    · rename_i hn
      cases h
      refine fn_of_wp f62 rfl (W_sound none_ok mixed _ _ _ _ _ ?_)
      simp (maxSteps := 1000000) (disch := omega) only [c62, natV_0, natV_10, go_sem, Option.map_none, Option.map_some, ↓reduceIte, Nat.reduceBEq, Nat.reduceAdd, Nat.reduceSub, Nat.reduceEqDiff, Nat.reduceLeDiff, Nat.reduceMul, Nat.reduceLT, Int.reduceLT, Int.reduceLE, Int.reduceAdd, Int.reduceSub, Int.reduceMul, Int.reduceNeg, Int.reduceEq, Int.reduceNe, Int.reduceToNat, decide_true, decide_false, iaddr_i, iaddr_sl_i, not_true_eq_false, not_false_eq_true, reduceCtorEq, ne_eq, forall_const, false_imp_iff, true_imp_iff, implies_true, Int.cast_ofNat_Int, Int.natCast_zero, Int.natCast_one, Int.add_zero, Int.zero_add]
      refine wp_loop (fun j e M dl => dl = [] ∧ ∃ (pre : List Int) (m : Int) (T : Mem), j = m.toNat ∧ leb n = pre ++ leb m ∧ 0 ≤ m ∧ m * ((128 ^ pre.length : Nat) : Int) ≤ 18446744073709551615 ∧ pre.length ≤ 9 ∧
        M = S ++ (.cells (buf pre) 0 none true :: T) ∧ e.get 0 = .i .u64 m ∧ e.get 3 = .sl S.length 0 0 pre.length 10 true) (j := n.toNat)
        ⟨rfl, [], n, [], rfl, rfl, hn.1, by have := hn.2; simpa using this, by simp, rfl, rfl, rfl⟩ ?_
      rintro j e M d' ⟨rfl, pre, m, T, rfl, hleb, hm0, hm1, hp, rfl, h0, h3⟩
      refine W_sound none_ok mixed _ _ _ _ _ ?_
      by_cases h128 : m < 128
      · have hc : ¬ (128 : Int) ≤ m := by omega
        have ha := fun T c => buf_app (S := S) (T := T) (l := pre) (c := c) (by omega)
        have hw : wrapV .u8 m = m := wrap_u8 hm0 (by omega)
        simp (maxSteps := 1000000) (disch := omega) only [c62l0, h0, h3, hc, hw, src_sl, srcN_some, ha, List.replicate, go_sem, Option.map_none, Option.map_some, ↓reduceIte, Nat.reduceBEq, Nat.reduceAdd, Nat.reduceSub, Nat.reduceEqDiff, Nat.reduceLeDiff, Nat.reduceMul, Nat.reduceLT, Int.reduceLT, Int.reduceLE, Int.reduceAdd, Int.reduceSub, Int.reduceMul, Int.reduceNeg, Int.reduceEq, Int.reduceNe, Int.reduceToNat, decide_true, decide_false, iaddr_i, iaddr_sl_i, not_true_eq_false, not_false_eq_true, reduceCtorEq, ne_eq, forall_const, false_imp_iff, true_imp_iff, implies_true, Int.cast_ofNat_Int, Int.natCast_zero, Int.natCast_one, Int.add_zero, Int.zero_add]
        rw [hleb, leb_lt h128, List.length_append]
        exact wkv_head (buf_flat _ _)
      · have hc : (128 : Int) ≤ m := by omega
        have hp9 : pre.length < 9 := by
          rcases Nat.lt_or_ge pre.length 9 with h | h
          · exact h
          · rw [show pre.length = 9 by omega] at hm1
            have : m * 9223372036854775808 ≤ 18446744073709551615 := hm1
            omega
        have ha := fun T c => buf_app (S := S) (T := T) (l := pre) (c := c) (by omega)
        have hw : wrapV .u8 m = m % 256 := rfl
        have ho : ∀ cst, binV .int cst .or (.i .u8 (m % 256)) (.i .u8 128) = some (.i .u8 (128 + m % 128)) := fun cst => by rw [or128 (by omega) (by omega)]; congr 3; omega
        simp (maxSteps := 1000000) (disch := omega) only [c62l0, h0, h3, hc, hw, ho, shr_7, src_sl, srcN_some, ha, List.replicate, go_sem, Option.map_none, Option.map_some, ↓reduceIte, Nat.reduceBEq, Nat.reduceAdd, Nat.reduceSub, Nat.reduceEqDiff, Nat.reduceLeDiff, Nat.reduceMul, Nat.reduceLT, Int.reduceLT, Int.reduceLE, Int.reduceAdd, Int.reduceSub, Int.reduceMul, Int.reduceNeg, Int.reduceEq, Int.reduceNe, Int.reduceToNat, decide_true, decide_false, iaddr_i, iaddr_sl_i, not_true_eq_false, not_false_eq_true, reduceCtorEq, ne_eq, forall_const, false_imp_iff, true_imp_iff, implies_true, Int.cast_ofNat_Int, Int.natCast_zero, Int.natCast_one, Int.add_zero, Int.zero_add]
        refine ⟨(m / 128).toNat, by omega, pre ++ [128 + m % 128], m / 128, _, rfl, ?_, by omega, ?_, by simp; omega, rfl, rfl, by simp⟩
        · rw [hleb, leb_ge h128, List.append_assoc]; rfl
        · rw [List.length_append, List.length_singleton, Nat.pow_succ]
          have h1 : m / 128 * 128 ≤ m := by omega
          have h2 : (m / 128) * ((128 ^ pre.length * 128 : Nat) : Int) = (m / 128 * 128) * ((128 ^ pre.length : Nat) : Int) := by
            rw [Int.natCast_mul, Int.mul_assoc, Int.mul_comm (((128 ^ pre.length : Nat) : Int)) _]; rfl
          rw [h2]
          exact Int.le_trans (Int.mul_le_mul_of_nonneg_right h1 (Int.natCast_nonneg _)) hm1
    · cases h
  · cases h
theorem put_eq {n : Int} (h : u64 n) (S : Mem) : putS [.i .u64 n] S = some (.sl S.length 0 0 (leb n).length 10 true, S ++ [.cells (buf (leb n)) 0 none true]) := by
  simp only [putS, if_pos h]

/-! ### leb.Nums -/
def byteE : Enc Int := intE .u8
theorem byteE_one (a : Int) : (byteE.enc a).all AV.one = true := rfl
theorem byteE_flat : ∀ (n : Nat) (a : Int), ∀ c ∈ byteE.enc a, AV.Flat n c := by
  intro n a c hc
  have : c = .i .u8 a := by simpa [byteE, intE] using hc
  rw [this]; exact Flat_i
def numE : Enc Int := intE .u64
theorem numE_one (a : Int) : (numE.enc a).all AV.one = true := rfl
def lebsS (z : Bool) : Spec := fun args S => match args with
  | [x] => match lstV numE S x with
    | some l => if l.length ≤ 1000000 ∧ l.all (fun n => decide (u64 n)) = true then some (retX z S (lebs l), retM z byteE S (lebs l)) else none
    | none => none
  | _ => none
theorem lebs_len {l : List Int} (h : ∀ n ∈ l, u64 n) : (lebs l).length ≤ 10 * l.length := by
  induction l with
  | nil => simp [lebs]
  | cons a l ih =>
    have h1 := leb_len10 (h a (by simp))
    have h2 := ih fun n hn => h n (by simp [hn])
    unfold lebs at h2 ⊢
    rw [List.flatMap_cons, List.length_append, List.length_cons]; omega
theorem oNu_ok : OK Try.prog (lamOf Try.prog) (orcOf [(62, putS)]) := orc_ok (by simpa using put_ok)
theorem lebs_ok : SpecOK Try.prog 38 (lebsS false) := by
  intro args S x S' h
  simp only [lebsS] at h
  split at h
  · rename_i s
    split at h
    · rename_i l hl
      split at h
      · rename_i hc
        cases h
        obtain ⟨hlim, hu⟩ := hc
        have hu : ∀ n ∈ l, u64 n := fun n hn => of_decide_eq_true (List.all_eq_true.1 hu n hn)
        refine fn_of_wp f38 rfl (W_sound oNu_ok mixed _ _ _ _ _ ?_)
        simp (maxSteps := 1000000) (disch := omega) only [c38, lst_len hl, go_sem, Option.map_none, Option.map_some, ↓reduceIte, Nat.reduceBEq, Nat.reduceAdd, Nat.reduceSub, Nat.reduceEqDiff, Nat.reduceLeDiff, Nat.reduceMul, Nat.reduceLT, Int.reduceLT, Int.reduceLE, Int.reduceAdd, Int.reduceSub, Int.reduceMul, Int.reduceNeg, Int.reduceEq, Int.reduceNe, Int.reduceToNat, decide_true, decide_false, iaddr_i, iaddr_sl_i, not_true_eq_false, not_false_eq_true, reduceCtorEq, ne_eq, forall_const, false_imp_iff, true_imp_iff, implies_true, Int.cast_ofNat_Int, Int.natCast_zero, Int.natCast_one, Int.add_zero, Int.zero_add]
        refine wp_loop (fun j e M dl => dl = [] ∧ ∃ (k : Nat) (x : AV), j = l.length - k ∧ k ≤ l.length ∧ Acc false byteE S M x (lebs (l.take k)) ∧
          e.get 6 = s ∧ e.get 7 = .i .i64 l.length ∧ e.get 8 = .i .i64 k ∧ e.get 3 = x) (j := l.length) ⟨rfl, 0, .sn, rfl, Nat.zero_le _, acc_nil ext_refl, rfl, rfl, rfl, rfl⟩ ?_
        rintro j e M d' ⟨rfl, k, x, rfl, hk, hx, h6, h7, h8, h3⟩
        refine W_sound oNu_ok mixed _ _ _ _ _ ?_
        by_cases hkl : k < l.length
        · obtain ⟨bi, o, v, cap, ex, rfl⟩ := lst_sl hl hkl
          have hM := lst_ext hl hx.ext
          have hc : ∀ L, cellB ((M ++ L)[bi]?) (o + k) v = some (.i .u64 l[k]) := lstV_cell hM rfl (fun a => rfl) hkl
          have hc0 := hc []
          rw [List.append_nil] at hc0
          have hkI : (k : Int) < l.length := by omega
          have hw : wrapV .i64 ((k : Int) + 1) = ((k + 1 : Nat) : Int) := by rw [wrap_i64 (by omega) (by omega)]; omega
          have hlk := hu _ (List.getElem_mem hkl)
          have h10 := leb_len10 hlk
          have hlen : (lebs (l.take k)).length ≤ 10 * k := by
            have := lebs_len (l := l.take k) fun n hn => hu n (List.mem_of_mem_take hn)
            rw [List.length_take] at this; omega
          obtain ⟨x', M', ha, hx'⟩ := Acc.apps (bytes := 1) byteE_one (hx.grow [.cells (buf (leb l[k])) 0 none true]) (leb l[k]) (by omega) (by omega)
          rw [show (leb l[k]).flatMap byteE.enc = b8 (leb l[k]) from b8_enc _] at ha
          have ha : appV (M ++ [.cells (buf (leb l[k])) 0 none true]) 1 1 x (b8 (leb l[k])) (leb l[k]).length = some (x', M') := ha
          have hb : rowB (some (.cells (buf (leb l[k])) 0 none true)) 0 0 (leb l[k]).length = some (b8 (leb l[k])) := by
            rw [rowB_some, if_pos (by unfold buf; rw [List.length_append, b8_len]; omega), List.drop_zero]
            unfold buf
            rw [List.take_append_of_le_length (by rw [b8_len]; omega), List.take_of_length_le (by rw [b8_len]; omega)]
          simp (maxSteps := 1000000) (disch := omega) only [c38l0, h3, h6, h7, h8, hkI, Int.toNat_natCast, Nat.mul_one, hc0, orc_cons, put_eq hlk, src_sl, hb, srcN_some, ha, hw, go_sem, Option.map_none, Option.map_some, ↓reduceIte, Nat.reduceBEq, Nat.reduceAdd, Nat.reduceSub, Nat.reduceEqDiff, Nat.reduceLeDiff, Nat.reduceMul, Nat.reduceLT, Int.reduceLT, Int.reduceLE, Int.reduceAdd, Int.reduceSub, Int.reduceMul, Int.reduceNeg, Int.reduceEq, Int.reduceNe, Int.reduceToNat, decide_true, decide_false, iaddr_i, iaddr_sl_i, not_true_eq_false, not_false_eq_true, reduceCtorEq, ne_eq, forall_const, false_imp_iff, true_imp_iff, implies_true, Int.cast_ofNat_Int, Int.natCast_zero, Int.natCast_one, Int.add_zero, Int.zero_add]
          refine ⟨l.length - (k + 1), by omega, k + 1, x', rfl, hkl, ?_, rfl, rfl⟩
          rw [show lebs (l.take (k + 1)) = lebs (l.take k) ++ leb l[k] by unfold lebs; rw [List.take_succ_eq_append_getElem hkl, List.flatMap_append]; simp]
          exact hx'
        · have hkI : ¬ (k : Int) < l.length := by omega
          simp (maxSteps := 1000000) (disch := omega) only [c38l0, h3, h6, h7, h8, hkI, go_sem, Option.map_none, Option.map_some, ↓reduceIte, Nat.reduceBEq, Nat.reduceAdd, Nat.reduceSub, Nat.reduceEqDiff, Nat.reduceLeDiff, Nat.reduceMul, Nat.reduceLT, Int.reduceLT, Int.reduceLE, Int.reduceAdd, Int.reduceSub, Int.reduceMul, Int.reduceNeg, Int.reduceEq, Int.reduceNe, Int.reduceToNat, decide_true, decide_false, iaddr_i, iaddr_sl_i, not_true_eq_false, not_false_eq_true, reduceCtorEq, ne_eq, forall_const, false_imp_iff, true_imp_iff, implies_true, Int.cast_ofNat_Int, Int.natCast_zero, Int.natCast_one, Int.add_zero, Int.zero_add]
          rw [List.take_of_length_le (by omega)] at hx
          exact hx.ret byteE_flat
      · cases h
    · cases h
  · cases h
theorem lebs_eq {z : Bool} {S : Mem} {x : AV} {l : List Int} (hl : lstV numE S x = some l) (hn : l.length ≤ 1000000) (hu : ∀ n ∈ l, u64 n) : lebsS z [x] S = some (retX z S (lebs l), retM z byteE S (lebs l)) := by
  simp only [lebsS, hl, if_pos (And.intro hn (List.all_eq_true.2 fun n h => decide_eq_true (hu n h)))]

/-! ### The document's -/
def rputS (f : Nat) : Spec := fun args S => match args with
  | [.i .u64 n] => if 0 < f ∧ n < ((128 ^ f : Nat) : Int) ∧ u64 n then
      (if n < 128 then some (.sl S.length 0 0 1 1 true, S ++ [.cells [.i .u8 n] 0 none true]) else some (retX true S (leb n), retM true byteE S (leb n)))
    else none
  | _ => none
theorem rput_ok : ∀ f, SpecOK Try.prog 65 (rputS f)
  | 0 => by
    intro args S x S' h
    simp only [rputS] at h
    split at h
    · split at h
      · rename_i hc; exact absurd hc.1 (by omega)
      · cases h
    · cases h
  | f + 1 => by
    have hO : OK Try.prog (lamOf Try.prog) (orcOf [(65, rputS f)]) := orc_ok (by simpa using rput_ok f)
    intro args S x S' h
    simp only [rputS] at h
    split at h
    · rename_i n
      split at h
      · rename_i hc
        obtain ⟨_, hn1, hn⟩ := hc
        have hn0 := hn.1
        refine fn_of_wp f65 rfl (W_sound hO mixed _ _ _ _ _ ?_)
        by_cases h128 : n < 128
        · rw [if_pos h128] at h
          cases h
          have hw : wrapV .u8 n = n := wrap_u8 hn0 (by omega)
          simp (maxSteps := 1000000) (disch := omega) only [c65, h128, hw, List.replicate, go_sem, Option.map_none, Option.map_some, ↓reduceIte, Nat.reduceBEq, Nat.reduceAdd, Nat.reduceSub, Nat.reduceEqDiff, Nat.reduceLeDiff, Nat.reduceMul, Nat.reduceLT, Int.reduceLT, Int.reduceLE, Int.reduceAdd, Int.reduceSub, Int.reduceMul, Int.reduceNeg, Int.reduceEq, Int.reduceNe, Int.reduceToNat, decide_true, decide_false, iaddr_i, iaddr_sl_i, not_true_eq_false, not_false_eq_true, reduceCtorEq, ne_eq, forall_const, false_imp_iff, true_imp_iff, implies_true, Int.cast_ofNat_Int, Int.natCast_zero, Int.natCast_one, Int.add_zero, Int.zero_add]
          exact wkv_same
        · rw [if_neg h128] at h
          cases h
          have hw1 : wrapV .u64 (128 + n % 128) = 128 + n % 128 := wrap_u64 (by omega) (by omega)
          have hw2 : wrapV .u8 (128 + n % 128) = 128 + n % 128 := wrap_u8 (by omega) (by omega)
          have hw3 : wrapV .u64 (n / 128) = n / 128 := wrap_u64 (by omega) (by have := hn.2; omega)
          have hcall : ∃ x2 M2, rputS f [.i .u64 (n / 128)] (S ++ [.cells [.i .u8 (128 + n % 128)] 0 none true]) = some (x2, M2) ∧ lstV byteE M2 x2 = some (leb (n / 128)) ∧ ∃ U, M2 = S ++ [.cells [.i .u8 (128 + n % 128)] 0 none true] ++ U := by
            have hf0 : 0 < f := by
              rcases Nat.eq_zero_or_pos f with h | h
              · subst h; simp at hn1; omega
              · exact h
            have hc : 0 < f ∧ n / 128 < ((128 ^ f : Nat) : Int) ∧ u64 (n / 128) := ⟨hf0, by rw [Nat.pow_succ] at hn1; omega, by have := hn.2; unfold u64; omega⟩
            simp only [rputS]
            rw [if_pos hc]
            by_cases h2 : n / 128 < 128
            · rw [if_pos h2, leb_lt h2]
              refine ⟨_, _, rfl, ?_, _, rfl⟩
              exact own_lst (ownV_mk (E := byteE) (l := [n / 128]) (by rw [at_app0]; rfl))
            · rw [if_neg h2]
              refine ⟨_, _, rfl, retX_lst, ?_⟩
              obtain ⟨U, hU⟩ := retM_ext (z := true) (E := byteE) (S := S ++ [.cells [.i .u8 (128 + n % 128)] 0 none true]) (l := leb (n / 128))
              exact ⟨U, hU.symm⟩
          obtain ⟨x2, M2, hcall, hx2, U, rfl⟩ := hcall
          have h10 := leb_len10 hn
          rw [leb_ge h128, List.length_cons] at h10
          have hacc := accL_lit (E := byteE) (S := S) (M := S) (l := [128 + n % 128]) ext_refl
          obtain ⟨x3, M3, U3, ha, hM3, _, hx3⟩ := hacc.apps (bytes := 1) byteE_one U (leb (n / 128)) (by simp only [List.length_singleton]; omega) (by simp only [List.length_singleton]; omega)
          have hsrc : srcV (S ++ [.cells [.i .u8 (128 + n % 128)] 0 none true] ++ U) 1 x2 = some ((leb (n / 128)).flatMap byteE.enc, (leb (n / 128)).length) := by
            rcases lstV_lst hx2 with ⟨_, h⟩ | ⟨_, h⟩ | ⟨i, o, v, len, cap, ex, rfl, rfl, hrow⟩
            · exact absurd h (leb_ne _)
            · exact absurd h (leb_ne _)
            · have hrow : rowB ((S ++ [.cells [.i .u8 (128 + n % 128)] 0 none true] ++ U)[i]?) o v ((leb (n / 128)).length * 1) = some ((leb (n / 128)).flatMap byteE.enc) := by rw [← rowAt_B]; exact hrow
              rw [src_sl, hrow, srcN_some]
          have ha : appV (S ++ [.cells [.i .u8 (128 + n % 128)] 0 none true] ++ U) 1 1 (.sl S.length 0 0 1 1 true) ((leb (n / 128)).flatMap byteE.enc) (leb (n / 128)).length = some (x3, M3 ++ (U ++ U3)) := ha
          simp only [List.append_assoc, List.cons_append, List.nil_append] at hcall hsrc ha
          simp (maxSteps := 1000000) (disch := omega) only [c65, h128, hw1, hw2, hw3, orc_cons, hcall, hsrc, ha, List.replicate, go_sem, Option.map_none, Option.map_some, ↓reduceIte, Nat.reduceBEq, Nat.reduceAdd, Nat.reduceSub, Nat.reduceEqDiff, Nat.reduceLeDiff, Nat.reduceMul, Nat.reduceLT, Int.reduceLT, Int.reduceLE, Int.reduceAdd, Int.reduceSub, Int.reduceMul, Int.reduceNeg, Int.reduceEq, Int.reduceNe, Int.reduceToNat, decide_true, decide_false, iaddr_i, iaddr_sl_i, not_true_eq_false, not_false_eq_true, reduceCtorEq, ne_eq, forall_const, false_imp_iff, true_imp_iff, implies_true, Int.cast_ofNat_Int, Int.natCast_zero, Int.natCast_one, Int.add_zero, Int.zero_add]
          rw [leb_ge h128]
          exact (hx3 (leb_ne _) true).ret byteE_flat
      · cases h
    · cases h
theorem rput_len {n : Int} (S : Mem) (hn : u64 n) : ∃ x M, rputS 10 [.i .u64 n] S = some (x, M) ∧ lstV byteE M x = some (leb n) ∧ S <+: M := by
  have hc : 0 < 10 ∧ n < ((128 ^ 10 : Nat) : Int) ∧ u64 n := ⟨by omega, by have := hn.2; show n < 1180591620717411303424; omega, hn⟩
  simp only [rputS]
  rw [if_pos hc]
  by_cases h2 : n < 128
  · rw [if_pos h2, leb_lt h2]
    exact ⟨_, _, rfl, own_lst (ownV_mk (E := byteE) (l := [n]) (by rw [at_app0]; rfl)), ext_app _⟩
  · rw [if_neg h2]
    exact ⟨_, _, rfl, retX_lst, retM_ext⟩
theorem src_lst {α : Type} {E : Enc α} {S : Mem} {x : AV} {l : List α} (h : lstV E S x = some l) : srcV S E.sz x = some (l.flatMap E.enc, l.length) := by
  rcases lstV_lst h with ⟨rfl, rfl⟩ | ⟨rfl, rfl⟩ | ⟨i, o, v, len, cap, ex, rfl, rfl, hrow⟩
  · rfl
  · rfl
  · have hrow : rowB (S[i]?) o v (l.length * E.sz) = some (l.flatMap E.enc) := by rw [← rowAt_B]; exact hrow
    rw [src_sl, hrow, srcN_some]
theorem oRn_ok : OK Try.prog (lamOf Try.prog) (orcOf [(65, rputS 10)]) := orc_ok (by simpa using rput_ok 10)
theorem rlebs_ok : SpecOK Try.prog 40 (lebsS true) := by
  intro args S x S' h
  simp only [lebsS] at h
  split at h
  · rename_i s
    split at h
    · rename_i l hl
      split at h
      · rename_i hc
        cases h
        obtain ⟨hlim, hu⟩ := hc
        have hu : ∀ n ∈ l, u64 n := fun n hn => of_decide_eq_true (List.all_eq_true.1 hu n hn)
        refine fn_of_wp f40 rfl (W_sound oRn_ok mixed _ _ _ _ _ ?_)
        simp (maxSteps := 1000000) (disch := omega) only [c40, lst_len hl, go_sem, Option.map_none, Option.map_some, ↓reduceIte, Nat.reduceBEq, Nat.reduceAdd, Nat.reduceSub, Nat.reduceEqDiff, Nat.reduceLeDiff, Nat.reduceMul, Nat.reduceLT, Int.reduceLT, Int.reduceLE, Int.reduceAdd, Int.reduceSub, Int.reduceMul, Int.reduceNeg, Int.reduceEq, Int.reduceNe, Int.reduceToNat, decide_true, decide_false, iaddr_i, iaddr_sl_i, not_true_eq_false, not_false_eq_true, reduceCtorEq, ne_eq, forall_const, false_imp_iff, true_imp_iff, implies_true, Int.cast_ofNat_Int, Int.natCast_zero, Int.natCast_one, Int.add_zero, Int.zero_add]
        refine wp_loop (fun j e M dl => dl = [] ∧ ∃ (k : Nat) (x : AV), j = l.length - k ∧ k ≤ l.length ∧ Acc true byteE S M x (lebs (l.take k)) ∧
          e.get 7 = s ∧ e.get 8 = .i .i64 l.length ∧ e.get 9 = .i .i64 k ∧ e.get 3 = x) (j := l.length) ⟨rfl, 0, _, rfl, Nat.zero_le _, acc_lit ext_refl, rfl, rfl, rfl, rfl⟩ ?_
        rintro j e M d' ⟨rfl, k, x, rfl, hk, hx, h7, h8, h9, h3⟩
        refine W_sound oRn_ok mixed _ _ _ _ _ ?_
        by_cases hkl : k < l.length
        · obtain ⟨bi, o, v, cap, ex, rfl⟩ := lst_sl hl hkl
          have hM := lst_ext hl hx.ext
          have hc : ∀ L, cellB ((M ++ L)[bi]?) (o + k) v = some (.i .u64 l[k]) := lstV_cell hM rfl (fun a => rfl) hkl
          have hc0 := hc []
          rw [List.append_nil] at hc0
          have hkI : (k : Int) < l.length := by omega
          have hw : wrapV .i64 ((k : Int) + 1) = ((k + 1 : Nat) : Int) := by rw [wrap_i64 (by omega) (by omega)]; omega
          have hlk := hu _ (List.getElem_mem hkl)
          have h10 := leb_len10 hlk
          have hlen : (lebs (l.take k)).length ≤ 10 * k := by
            have := lebs_len (l := l.take k) fun n hn => hu n (List.mem_of_mem_take hn)
            rw [List.length_take] at this; omega
          obtain ⟨x2, M2, hp, hx2, hM2⟩ := rput_len M hlk
          obtain ⟨x', M', ha, hx'⟩ := Acc.apps (bytes := 1) byteE_one (hx.extM hM2) (leb l[k]) (by omega) (by omega)
          have hs : srcV M2 1 x2 = _ := src_lst hx2
          have ha : appV M2 1 1 x _ _ = _ := ha
          simp (maxSteps := 1000000) (disch := omega) only [c40l0, h3, h7, h8, h9, hkI, Int.toNat_natCast, Nat.mul_one, hc0, orc_cons, hp, hs, ha, hw, go_sem, Option.map_none, Option.map_some, ↓reduceIte, Nat.reduceBEq, Nat.reduceAdd, Nat.reduceSub, Nat.reduceEqDiff, Nat.reduceLeDiff, Nat.reduceMul, Nat.reduceLT, Int.reduceLT, Int.reduceLE, Int.reduceAdd, Int.reduceSub, Int.reduceMul, Int.reduceNeg, Int.reduceEq, Int.reduceNe, Int.reduceToNat, decide_true, decide_false, iaddr_i, iaddr_sl_i, not_true_eq_false, not_false_eq_true, reduceCtorEq, ne_eq, forall_const, false_imp_iff, true_imp_iff, implies_true, Int.cast_ofNat_Int, Int.natCast_zero, Int.natCast_one, Int.add_zero, Int.zero_add]
          refine ⟨l.length - (k + 1), by omega, k + 1, x', rfl, hkl, ?_, rfl, rfl⟩
          rw [show lebs (l.take (k + 1)) = lebs (l.take k) ++ leb l[k] by unfold lebs; rw [List.take_succ_eq_append_getElem hkl, List.flatMap_append]; simp]
          exact hx'
        · have hkI : ¬ (k : Int) < l.length := by omega
          simp (maxSteps := 1000000) (disch := omega) only [c40l0, h3, h7, h8, h9, hkI, go_sem, Option.map_none, Option.map_some, ↓reduceIte, Nat.reduceBEq, Nat.reduceAdd, Nat.reduceSub, Nat.reduceEqDiff, Nat.reduceLeDiff, Nat.reduceMul, Nat.reduceLT, Int.reduceLT, Int.reduceLE, Int.reduceAdd, Int.reduceSub, Int.reduceMul, Int.reduceNeg, Int.reduceEq, Int.reduceNe, Int.reduceToNat, decide_true, decide_false, iaddr_i, iaddr_sl_i, not_true_eq_false, not_false_eq_true, reduceCtorEq, ne_eq, forall_const, false_imp_iff, true_imp_iff, implies_true, Int.cast_ofNat_Int, Int.natCast_zero, Int.natCast_one, Int.add_zero, Int.zero_add]
          rw [List.take_of_length_le (by omega)] at hx
          exact hx.ret byteE_flat
      · cases h
    · cases h
  · cases h
end Go.Proofs.Ytapgkaecamljbaa

namespace Go.Proofs.Ytapgkaecamljbaa
open Go.RowKit
set_option linter.unusedSimpArgs false
set_option linter.unusedVariables false

section
variable {O : Orc} {e er ef : Env} {S : Mem} {k : Env → Mem → Prop} {kn : Env → Prop} {kp : Env → Mem → List Noted → Prop}

/-! ### The run -/
def dNs (O : Orc) : List (ROp × Nat) → Env → Mem → (Env → Prop) → Prop
  | [], e, _, k => k e
  | (o, _) :: r, e, S, k => optK (evOne O e S o) fun x _ => dNs O r (putE e o.dst x) S k
def dOpt (O : Orc) (o : Option ROp) (e : Env) (S : Mem) (k : Env → Mem → Prop) : Prop := match o with
  | none => k e S
  | some o => optK (evOne O e S o) fun x S' => k (putE e o.dst x) S'
def dStages (O : Orc) : List Stage → Env → Mem → (Env → Mem → List Noted → Prop) → Prop
  | [], e, S, k => k e S []
  | st :: r, e, S, k => dNs O st.ns e S fun e1 => dOpt O st.a e1 S fun e2 S2 => dOpt O st.m e2 S2 fun e3 S3 => dStages O r e3 S3 fun ef Sf pre => k ef Sf (⟨S, e1, e2, e3⟩ :: pre)

/-! ### The second look -/
def eqK (ef : Env) : Option Nat → AV → Mem → Prop
  | some t => fun x _ => avEqv x (ef.get t) = true
  | none => fun _ _ => True
def kA (O : Orc) (er ef : Env) (o : ROp) : Option Noted → Prop
  | some N => optK (evOne O er N.S o) (eqK ef o.dst)
  | none => False
def kN (O : Orc) (er ef : Env) (pre : List Noted) (o : ROp) (hi : Nat) : Nat → Nat → Prop
  | 0, _ => True
  | fuel + 1, s => if s ≤ hi then kA O er ef o (pre[s]?) ∧ kN O er ef pre o hi fuel (s + 1) else True
def kNs (O : Orc) (er ef : Env) (pre : List Noted) (s : Nat) : List (ROp × Nat) → Prop
  | [] => True
  | (o, hi) :: r => kN O er ef pre o hi (hi + 1) s ∧ kNs O er ef pre s r
def kLike (e e' : Env) : List Nat → Prop
  | [] => True
  | t :: r => avEqv (e.get t) (e'.get t) = true ∧ kLike e e' r
def kOpt (er ef e e' : Env) : Option ROp → Prop
  | none => True
  | some o => kLike e er o.use ∧ kLike e' ef (dstL o)
def kSt (O : Orc) (er ef : Env) (pre : List Noted) : List Stage → List Noted → Nat → Prop
  | st :: r, N :: r', s => kNs O er ef pre s st.ns ∧ kOpt er ef N.e1 N.e2 st.a ∧ kOpt er ef N.e2 N.e3 st.m ∧ kSt O er ef pre r r' (s + 1)
  | [], [], _ => True
  | _, _, _ => False

/-! ### Sound -/
theorem dNs_ok : ∀ (l : List (ROp × Nat)) (e : Env) (S : Mem) (k : Env → Prop), dNs O l e S k → ∃ e1, evNs O l e S = some e1 ∧ k e1
  | [], e, S, k, h => ⟨e, rfl, h⟩
  | (o, n) :: r, e, S, k, h => by
    simp only [dNs] at h
    unfold optK at h
    split at h
    · rename_i p hp
      obtain ⟨e1, h1, h2⟩ := dNs_ok r _ _ _ h
      exact ⟨e1, by simp only [evNs, hp, h1], h2⟩
    · exact h.elim
theorem dOpt_ok {o : Option ROp} (h : dOpt O o e S k) : ∃ e1 S1, evOpt O o e S = some (e1, S1) ∧ k e1 S1 := by
  unfold dOpt at h
  split at h
  · exact ⟨e, S, rfl, h⟩
  · rename_i o
    unfold optK at h
    split at h
    · rename_i p hp
      exact ⟨_, _, by simp only [evOpt, hp], h⟩
    · exact h.elim
theorem dStages_ok : ∀ (l : List Stage) (e : Env) (S : Mem) (k : Env → Mem → List Noted → Prop), dStages O l e S k → ∃ ef Sf pre, evStages O l e S = some (ef, Sf, pre) ∧ k ef Sf pre
  | [], e, S, k, h => ⟨e, S, [], rfl, h⟩
  | st :: r, e, S, k, h => by
    simp only [dStages] at h
    obtain ⟨e1, h1, h⟩ := dNs_ok _ _ _ _ h
    obtain ⟨e2, S2, h2, h⟩ := dOpt_ok h
    obtain ⟨e3, S3, h3, h⟩ := dOpt_ok h
    obtain ⟨ef, Sf, pre, h4, h⟩ := dStages_ok r _ _ _ h
    exact ⟨ef, Sf, _, by simp only [evStages, h1, h2, h3, h4], h⟩
theorem kN_ok {pre : List Noted} {o : ROp} {hi : Nat} : ∀ (fuel s : Nat), kN O er ef pre o hi fuel s → chkN O er ef pre o hi fuel s = true
  | 0, _, _ => rfl
  | fuel + 1, s, h => by
    simp only [kN] at h
    simp only [chkN]
    split
    · rename_i hs
      rw [if_pos hs] at h
      obtain ⟨h1, h2⟩ := h
      unfold kA at h1
      split at h1
      · rename_i N hN
        simp only [hN]
        rw [kN_ok fuel (s + 1) h2]
        unfold optK at h1
        split at h1
        · rename_i p hp
          simp only [hp]
          cases hd : o.dst with
          | none => rfl
          | some t => rw [hd] at h1; simpa [eqK] using h1
        · exact h1.elim
      · exact h1.elim
    · rfl
theorem kNs_ok {pre : List Noted} {s : Nat} : ∀ (l : List (ROp × Nat)), kNs O er ef pre s l → (l.all fun p => chkN O er ef pre p.1 p.2 (p.2 + 1) s) = true
  | [], _ => rfl
  | (o, hi) :: r, h => by
    simp only [List.all_cons, Bool.and_eq_true]
    exact ⟨kN_ok _ _ h.1, kNs_ok r h.2⟩
theorem kLike_ok {e e' : Env} : ∀ (l : List Nat), kLike e e' l → likeOn e e' l = true
  | [], _ => rfl
  | t :: r, h => by rw [likeOn_cons, h.1, kLike_ok r h.2]; rfl
theorem kOpt_ok {e e' : Env} {o : Option ROp} (h : kOpt er ef e e' o) : chkOpt er ef e e' o = true := by
  cases o with
  | none => rfl
  | some o => simp only [chkOpt, kLike_ok _ h.1, kLike_ok _ h.2, Bool.and_self]
theorem kSt_ok {pre : List Noted} : ∀ (l : List Stage) (l' : List Noted) (s : Nat), kSt O er ef pre l l' s → chkStages O er ef pre l l' s = true
  | [], [], _, _ => rfl
  | st :: r, N :: r', s, h => by
    obtain ⟨h1, h2, h3, h4⟩ := h
    simp only [chkStages, kNs_ok _ h1, kOpt_ok h2, kOpt_ok h3, kSt_ok r r' _ h4, Bool.and_self]
  | [], _ :: _, _, h => h.elim
  | _ :: _, [], _, h => h.elim

/-- The run, and behind it the second look. -/
def dEnd (O : Orc) (st : List Stage) (late : List Nat) (e : Env) (k : Env → Mem → Prop) : Env → Mem → List Noted → Prop := fun ef Sf pre => kSt O (keepE e late ++ ef) ef pre st pre 0 ∧ k ef Sf
theorem draw_of {st : List Stage} {late : List Nat} (h : dStages O st e S (dEnd O st late e k)) : drawK (evDraw O st late e S) k := by
  obtain ⟨ef, Sf, pre, h1, h2, h3⟩ := dStages_ok _ _ _ _ h
  have h4 := kSt_ok _ _ _ h2
  simp only [evDraw, h1, h4, if_true]
  exact h3

/-! ### Rules -/
def dnK (O : Orc) (r : List (ROp × Nat)) (e : Env) (dst : Option Nat) (S : Mem) (k : Env → Prop) : AV → Mem → Prop := fun x _ => dNs O r (putE e dst x) S k
def doK (e : Env) (dst : Option Nat) (k : Env → Mem → Prop) : AV → Mem → Prop := fun x S' => k (putE e dst x) S'
def s4K (S : Mem) (e1 e2 e3 : Env) (k : Env → Mem → List Noted → Prop) : Env → Mem → List Noted → Prop := fun ef Sf pre => k ef Sf (⟨S, e1, e2, e3⟩ :: pre)
def s3K (O : Orc) (r : List Stage) (S : Mem) (e1 e2 : Env) (k : Env → Mem → List Noted → Prop) : Env → Mem → Prop := fun e3 S3 => dStages O r e3 S3 (s4K S e1 e2 e3 k)
def s2K (O : Orc) (m : Option ROp) (r : List Stage) (S : Mem) (e1 : Env) (k : Env → Mem → List Noted → Prop) : Env → Mem → Prop := fun e2 S2 => dOpt O m e2 S2 (s3K O r S e1 e2 k)
def s1K (O : Orc) (a m : Option ROp) (r : List Stage) (S : Mem) (k : Env → Mem → List Noted → Prop) : Env → Prop := fun e1 => dOpt O a e1 S (s2K O m r S e1 k)
theorem dNs_nil : dNs O [] e S kn = kn e := (rfl)
theorem dNs_cons {o : ROp} {n : Nat} {r : List (ROp × Nat)} : dNs O ((o, n) :: r) e S kn = optK (evOne O e S o) (dnK O r e o.dst S kn) := (rfl)
theorem dnK_some {r : List (ROp × Nat)} {t : Nat} {x : AV} {S' : Mem} : dnK O r e (some t) S kn x S' = dNs O r ((t, x) :: e) S kn := (rfl)
theorem dnK_none {r : List (ROp × Nat)} {x : AV} {S' : Mem} : dnK O r e none S kn x S' = dNs O r e S kn := (rfl)
theorem dOpt_none : dOpt O none e S k = k e S := (rfl)
theorem dOpt_some {o : ROp} : dOpt O (some o) e S k = optK (evOne O e S o) (doK e o.dst k) := (rfl)
theorem doK_some {t : Nat} {x : AV} {S' : Mem} : doK e (some t) k x S' = k ((t, x) :: e) S' := (rfl)
theorem doK_none {x : AV} {S' : Mem} : doK e none k x S' = k e S' := (rfl)
theorem dStages_nil : dStages O [] e S kp = kp e S [] := (rfl)
theorem dStages_cons {ns : List (ROp × Nat)} {a m : Option ROp} {r : List Stage} : dStages O (⟨ns, a, m⟩ :: r) e S kp = dNs O ns e S (s1K O a m r S kp) := (rfl)
theorem s1K_app {a m : Option ROp} {r : List Stage} {e1 : Env} : s1K O a m r S kp e1 = dOpt O a e1 S (s2K O m r S e1 kp) := (rfl)
theorem s2K_app {m : Option ROp} {r : List Stage} {e1 e2 : Env} {S2 : Mem} : s2K O m r S e1 kp e2 S2 = dOpt O m e2 S2 (s3K O r S e1 e2 kp) := (rfl)
theorem s3K_app {r : List Stage} {e1 e2 e3 : Env} {S3 : Mem} : s3K O r S e1 e2 kp e3 S3 = dStages O r e3 S3 (s4K S e1 e2 e3 kp) := (rfl)
theorem s4K_app {e1 e2 e3 : Env} {Sf : Mem} {pre : List Noted} : s4K S e1 e2 e3 kp ef Sf pre = kp ef Sf (⟨S, e1, e2, e3⟩ :: pre) := (rfl)
theorem dEnd_app {st : List Stage} {late : List Nat} {Sf : Mem} {pre : List Noted} : dEnd O st late e k ef Sf pre = (kSt O (keepE e late ++ ef) ef pre st pre 0 ∧ k ef Sf) := (rfl)
theorem evOne_op {dst : Option Nat} {io : IOp} : evOne O e S ⟨dst, none, io⟩ = evOp O e S io := (rfl)
def evG (x : AV) (b : Bool) (o : Option (AV × Mem)) (S : Mem) : Option (AV × Mem) := match (match x with | .b y => some (y == b) | .u => none | _ => some false) with
  | none => none
  | some false => some (.ud, S)
  | some true => o
theorem evOne_gd {dst : Option Nat} {t : Nat} {b : Bool} {io : IOp} : evOne O e S ⟨dst, some (t, b), io⟩ = evG (e.get t) b (evOp O e S io) S := by
  simp only [evOne, wantV, evG]
  cases e.get t <;> rfl
theorem evG_tt {o : Option (AV × Mem)} : evG (.b true) true o S = o := (rfl)
theorem evG_tf {o : Option (AV × Mem)} : evG (.b true) false o S = some (.ud, S) := (rfl)
theorem evG_ft {o : Option (AV × Mem)} : evG (.b false) true o S = some (.ud, S) := (rfl)
theorem evG_ff {o : Option (AV × Mem)} : evG (.b false) false o S = o := (rfl)
theorem evG_ud {b : Bool} {o : Option (AV × Mem)} : evG .ud b o S = some (.ud, S) := (rfl)
theorem kSt_nil {pre : List Noted} {s : Nat} : kSt O er ef pre [] [] s = True := (rfl)
theorem kSt_cons {pre r' : List Noted} {ns : List (ROp × Nat)} {a m : Option ROp} {r : List Stage} {s : Nat} {S1 : Mem} {e1 e2 e3 : Env} : kSt O er ef pre (⟨ns, a, m⟩ :: r) (⟨S1, e1, e2, e3⟩ :: r') s = (kNs O er ef pre s ns ∧ kOpt er ef e1 e2 a ∧ kOpt er ef e2 e3 m ∧ kSt O er ef pre r r' (s + 1)) := (rfl)
theorem kNs_nil {pre : List Noted} {s : Nat} : kNs O er ef pre s [] = True := (rfl)
theorem kNs_cons {pre : List Noted} {s hi : Nat} {o : ROp} {r : List (ROp × Nat)} : kNs O er ef pre s ((o, hi) :: r) = (kN O er ef pre o hi (hi + 1) s ∧ kNs O er ef pre s r) := (rfl)
theorem kN_zero {pre : List Noted} {s hi : Nat} {o : ROp} : kN O er ef pre o hi 0 s = True := (rfl)
theorem kN_succ {pre : List Noted} {s hi f : Nat} {o : ROp} : kN O er ef pre o hi (f + 1) s = if s ≤ hi then kA O er ef o (pre[s]?) ∧ kN O er ef pre o hi f (s + 1) else True := (rfl)
theorem kA_some {o : ROp} {S1 : Mem} {e1 e2 e3 : Env} : kA O er ef o (some ⟨S1, e1, e2, e3⟩) = optK (evOne O er S1 o) (eqK ef o.dst) := (rfl)
theorem eqK_some {t : Nat} {x : AV} {S' : Mem} : eqK ef (some t) x S' = (avEqv x (ef.get t) = true) := (rfl)
theorem eqK_none {x : AV} {S' : Mem} : eqK ef none x S' = True := (rfl)
theorem kOpt_none {e e' : Env} : kOpt er ef e e' none = True := (rfl)
theorem kOpt_some {e e' : Env} {o : ROp} : kOpt er ef e e' (some o) = (kLike e er o.use ∧ kLike e' ef (dstL o)) := (rfl)
theorem kLike_nil {e e' : Env} : kLike e e' [] = True := (rfl)
theorem kLike_cons {e e' : Env} {t : Nat} {r : List Nat} : kLike e e' (t :: r) = (avEqv (e.get t) (e'.get t) = true ∧ kLike e e' r) := (rfl)
theorem eqv_ud : avEqv .ud .ud = true := by simp [avEqv]
theorem eqv_u : avEqv .u .u = true := by simp [avEqv]
theorem eqv_mn : avEqv .mn .mn = true := by simp [avEqv]
end
end Go.Proofs.Ytapgkaecamljbaa

namespace Go.Proofs.Ytapgkaecamljbaa
open Go.RowKit
set_option linter.unusedSimpArgs false
set_option linter.unusedVariables false
set_option maxRecDepth 10000

def Pol.good (p : Pol) : Prop := i64 p.sub ∧ u84 p.a p.b p.c p.d ∧ i64 p.bits ∧ u64 p.rate ∧ u64 p.burst ∧ u64 p.srate ∧ u64 p.sburst ∧ u64 p.quota ∧ u64 p.lease ∧ u64 p.quantum
instance (p : Pol) : Decidable p.good := by unfold Pol.good; infer_instance
def Ent.good (x : Ent) : Prop := x.pol.good ∧ u64 x.granted
instance (x : Ent) : Decidable x.good := by unfold Ent.good; infer_instance
theorem Pol.good.fits {p : Pol} (h : p.good) : p.fits := h.2.1
def Bk.good (b : Bk) : Prop := u64 b.period ∧ b.entries.length ≤ 1000000 ∧ ∀ x ∈ b.entries, x.good
instance (b : Bk) : Decidable b.good := by unfold Bk.good; infer_instance
theorem Bk.good.fits {b : Bk} (h : b.good) : b.fits := ⟨h.2.1, fun x hx => (h.2.2 x hx).1.fits⟩

/-! ### policy.Nums -/
def Pol.ns (p : Pol) : List Int := [p.sub, num p.a p.b p.c p.d, p.bits, p.rate, p.burst, p.srate, p.sburst, p.quota, p.lease, p.quantum]
theorem ns_u64 {p : Pol} (h : p.good) (hr : p.right) : ∀ n ∈ p.ns, u64 n := by
  obtain ⟨_, ⟨ha, hb, hc, hd⟩, _, h3, h4, h5, h6, h7, h8, h9⟩ := h
  have hn := u32_num ha hb hc hd
  have hb2 := hr.2.2.1.1
  have hb3 := cl_bound p.bits
  have h1 := hr.1
  have h2 := hr.2.1
  intro n hn
  simp only [Pol.ns, List.mem_cons, List.not_mem_nil, or_false] at hn
  rcases hn with rfl | rfl | rfl | rfl | rfl | rfl | rfl | rfl | rfl | rfl <;> first | assumption | (unfold u64 u32 at *; omega)
def numsS : Spec := fun args S => match args with
  | [.ag cs] => match polE.dec cs with
    | some p => if p.good then (if p.right then some (.sl S.length 0 0 10 10 true, S ++ [.cells (p.ns.map (.i .u64)) 0 none true]) else some (.sn, S)) else none
    | none => none
  | _ => none
theorem oPn_ok : OK Try.prog (lamOf Try.prog) (orcOf [(59, polS), (61, numS)]) := orc_ok (by simpa using ⟨pol_ok, num_ok⟩)
theorem polS_dec {p : Pol} (h : p.fits) (S : Mem) : polS [.ag [.i .i64 p.sub, .i .u8 p.a, .i .u8 p.b, .i .u8 p.c, .i .u8 p.d, .i .i64 p.bits, .i .u64 p.rate, .i .u64 p.burst, .i .u64 p.srate, .i .u64 p.sburst, .i .u64 p.quota, .i .u64 p.lease, .i .u64 p.quantum]] S = some (.b (decide p.right), S) := polS_eq h S
theorem nums_ok : SpecOK Try.prog 37 numsS := by
  intro args S x S' h
  simp only [numsS] at h
  split at h
  · rename_i cs
    split at h
    · rename_i p hp
      split at h
      · rename_i hg
        obtain rfl := polE.ed _ _ hp
        refine fn_of_wp f37 rfl (W_sound oPn_ok mixed _ _ _ _ _ ?_)
        have hq := polS_dec hg.fits
        have hn := numS_eq hg.fits
        have hu := u84_num hg.fits
        split at h
        · rename_i hr
          cases h
          have hb := hr.2.2.1.1
          have hb3 := cl_bound p.bits
          have w1 : wrapV .u64 p.sub = p.sub := wrap_u64 (by have := hr.1; omega) (by have := hr.2.1; omega)
          have w2 : wrapV .u64 p.bits = p.bits := wrap_u64 (by omega) (by omega)
          have w3 : wrapV .u64 (num p.a p.b p.c p.d) = num p.a p.b p.c p.d := wrap_u64 (by unfold u32 at hu; omega) (by unfold u32 at hu; omega)
          have hd : decide p.right = true := decide_eq_true hr
          simp (maxSteps := 1000000) (disch := omega) only [c37, polE, Pol.enc, orc_cons, hq, hd, hn, w1, w2, w3, List.replicate, go_sem, Option.map_none, Option.map_some, ↓reduceIte, Nat.reduceBEq, Nat.reduceAdd, Nat.reduceSub, Nat.reduceEqDiff, Nat.reduceLeDiff, Nat.reduceMul, Nat.reduceLT, Int.reduceLT, Int.reduceLE, Int.reduceAdd, Int.reduceSub, Int.reduceMul, Int.reduceNeg, Int.reduceEq, Int.reduceNe, Int.reduceToNat, decide_true, decide_false, iaddr_i, iaddr_sl_i, not_true_eq_false, not_false_eq_true, reduceCtorEq, ne_eq, forall_const, false_imp_iff, true_imp_iff, implies_true, Int.cast_ofNat_Int, Int.natCast_zero, Int.natCast_one, Int.add_zero, Int.zero_add]
          exact wkv_at (p := 1) rfl (by intro x hx; obtain ⟨a, _, rfl⟩ := List.mem_map.1 hx; exact Flat_i)
        · rename_i hr
          cases h
          have hd : decide p.right = false := decide_eq_false hr
          simp (maxSteps := 1000000) (disch := omega) only [c37, polE, Pol.enc, orc_cons, hq, hd, go_sem, Option.map_none, Option.map_some, ↓reduceIte, Nat.reduceBEq, Nat.reduceAdd, Nat.reduceSub, Nat.reduceEqDiff, Nat.reduceLeDiff, Nat.reduceMul, Nat.reduceLT, Int.reduceLT, Int.reduceLE, Int.reduceAdd, Int.reduceSub, Int.reduceMul, Int.reduceNeg, Int.reduceEq, Int.reduceNe, Int.reduceToNat, decide_true, decide_false, iaddr_i, iaddr_sl_i, not_true_eq_false, not_false_eq_true, reduceCtorEq, ne_eq, forall_const, false_imp_iff, true_imp_iff, implies_true, Int.cast_ofNat_Int, Int.natCast_zero, Int.natCast_one, Int.add_zero, Int.zero_add]
          exact wkv_drop rfl
      · cases h
    · cases h
  · cases h
theorem nsV {p : Pol} {S : Mem} (hg : p.good) (hr : p.right) : numsS [.ag p.enc] S = some (.sl S.length 0 0 10 10 true, S ++ [.cells (p.ns.map (.i .u64)) 0 none true]) := by
  have : polE.dec p.enc = some p := polE.de p
  simp only [numsS, this, if_pos hg, if_pos hr]
def rnumsS : Spec := fun args S => match args with
  | [.ag cs] => match polE.dec cs with
    | some p => if p.good then (if p.right then some (retX true S p.ns, retM true numE S p.ns) else some (.sn, S)) else none
    | none => none
  | _ => none
theorem numE_flat : ∀ (n : Nat) (a : Int), ∀ c ∈ numE.enc a, AV.Flat n c := by
  intro n a c hc
  have : c = .i .u64 a := by simpa [numE, intE] using hc
  rw [this]; exact Flat_i
theorem oRp_ok : OK Try.prog (lamOf Try.prog) (orcOf [(63, polS), (64, numS)]) := orc_ok (by simpa using ⟨rpol_ok, rnum_ok⟩)
theorem rnums_ok : SpecOK Try.prog 39 rnumsS := by
  intro args S x S' h
  simp only [rnumsS] at h
  split at h
  · rename_i cs
    split at h
    · rename_i p hp
      split at h
      · rename_i hg
        obtain rfl := polE.ed _ _ hp
        refine fn_of_wp f39 rfl (W_sound oRp_ok mixed _ _ _ _ _ ?_)
        have hq := polS_dec hg.fits
        have hn := numS_eq hg.fits
        have hu := u84_num hg.fits
        split at h
        · rename_i hr
          cases h
          have hb := hr.2.2.1.1
          have hb3 := cl_bound p.bits
          have w1 : wrapV .u64 p.sub = p.sub := wrap_u64 (by have := hr.1; omega) (by have := hr.2.1; omega)
          have w2 : wrapV .u64 p.bits = p.bits := wrap_u64 (by omega) (by omega)
          have w3 : wrapV .u64 (num p.a p.b p.c p.d) = num p.a p.b p.c p.d := wrap_u64 (by unfold u32 at hu; omega) (by unfold u32 at hu; omega)
          have hd : decide p.right = true := decide_eq_true hr
          simp (maxSteps := 1000000) (disch := omega) only [c39, polE, Pol.enc, orc_cons, hq, hd, hn, w1, w2, w3, src_sl, srcN_some, app_ex, appN_some, List.replicate, go_sem, Option.map_none, Option.map_some, ↓reduceIte, Nat.reduceBEq, Nat.reduceAdd, Nat.reduceSub, Nat.reduceEqDiff, Nat.reduceLeDiff, Nat.reduceMul, Nat.reduceLT, Int.reduceLT, Int.reduceLE, Int.reduceAdd, Int.reduceSub, Int.reduceMul, Int.reduceNeg, Int.reduceEq, Int.reduceNe, Int.reduceToNat, decide_true, decide_false, iaddr_i, iaddr_sl_i, not_true_eq_false, not_false_eq_true, reduceCtorEq, ne_eq, forall_const, false_imp_iff, true_imp_iff, implies_true, Int.cast_ofNat_Int, Int.natCast_zero, Int.natCast_one, Int.add_zero, Int.zero_add]
          have hacc : Acc true numE S (S ++ [.cells (polE.enc p) 0 none true, .cells [.i .u64 p.sub, .i .u64 (num p.a p.b p.c p.d), .i .u64 p.bits] 0 none true, .cells [.i .u64 p.rate, .i .u64 p.burst, .i .u64 p.srate, .i .u64 p.sburst, .i .u64 p.quota, .i .u64 p.lease, .i .u64 p.quantum] 0 none true, .cells (p.ns.map (.i .u64)) 0 (some 1) true]) (.sl (S.length + 3) 0 0 10 10 false) p.ns :=
            ⟨_, rfl, .inr (.inr ⟨by simp [Pol.ns], 3, 0, rfl, rfl⟩)⟩
          exact hacc.ret numE_flat
        · rename_i hr
          cases h
          have hd : decide p.right = false := decide_eq_false hr
          simp (maxSteps := 1000000) (disch := omega) only [c39, polE, Pol.enc, orc_cons, hq, hd, go_sem, Option.map_none, Option.map_some, ↓reduceIte, Nat.reduceBEq, Nat.reduceAdd, Nat.reduceSub, Nat.reduceEqDiff, Nat.reduceLeDiff, Nat.reduceMul, Nat.reduceLT, Int.reduceLT, Int.reduceLE, Int.reduceAdd, Int.reduceSub, Int.reduceMul, Int.reduceNeg, Int.reduceEq, Int.reduceNe, Int.reduceToNat, decide_true, decide_false, iaddr_i, iaddr_sl_i, not_true_eq_false, not_false_eq_true, reduceCtorEq, ne_eq, forall_const, false_imp_iff, true_imp_iff, implies_true, Int.cast_ofNat_Int, Int.natCast_zero, Int.natCast_one, Int.add_zero, Int.zero_add]
          exact wkv_drop rfl
      · cases h
    · cases h
  · cases h
theorem rnsV {p : Pol} {S : Mem} (hg : p.good) (hr : p.right) : rnumsS [.ag p.enc] S = some (retX true S p.ns, retM true numE S p.ns) := by
  have : polE.dec p.enc = some p := polE.de p
  simp only [rnumsS, this, if_pos hg, if_pos hr]

/-! ### Bytes -/
def entNs (l : List Ent) : List Int := l.flatMap fun x => x.pol.ns ++ [x.granted]
def Bk.ns (b : Bk) : List Int := b.period :: entNs b.entries
theorem entNs_len (l : List Ent) : (entNs l).length = 11 * l.length := by
  unfold entNs
  induction l with
  | nil => rfl
  | cons a l ih => rw [List.flatMap_cons, List.length_append, ih, List.length_append]; simp [Pol.ns]; omega
theorem bns_u64 {b : Bk} (hg : b.good) (ho : b.ok) : ∀ n ∈ b.ns, u64 n := by
  intro n hn
  rcases List.mem_cons.1 hn with rfl | hn
  · exact hg.1
  · obtain ⟨x, hx, hn⟩ := List.mem_flatMap.1 hn
    rcases List.mem_append.1 hn with hn | hn
    · refine ns_u64 (hg.2.2 x hx).1 ?_ n hn
      obtain ⟨i, hi, rfl⟩ := List.getElem_of_mem hx
      have := (ho.2.2.1.2 i (by unfold polsOf; simpa using hi) (by unfold polsOf; simpa using hi)).1
      unfold polsOf at this; simpa using this
    · simp at hn; subst hn; exact (hg.2.2 x hx).2
theorem ok_right {b : Bk} (ho : b.ok) {k : Nat} (hk : k < b.entries.length) : b.entries[k].pol.right := by
  have := (ho.2.2.1.2 k (by unfold polsOf; simpa using hk) (by unfold polsOf; simpa using hk)).1
  unfold polsOf at this; simpa using this
noncomputable def bytesS : Spec := fun args S => match args with
  | [.ag cb] => match bookOf S cb with
    | some b => if b.good then (if b.ok then some (.tu [retX true S (lebs b.ns), .i .i64 0], retM true byteE S (lebs b.ns)) else some (.tu [.sn, .i .i64 131], S)) else none
    | none => none
  | _ => none
theorem lebs_ne {b : Bk} : lebs b.ns ≠ [] := by
  unfold Bk.ns lebs
  rw [List.flatMap_cons]
  intro h
  exact leb_ne _ (List.append_eq_nil_iff.1 h).1
theorem u64E (l : List Int) : l.flatMap numE.enc = l.map (.i .u64) := by
  induction l with
  | nil => rfl
  | cons a l ih => rw [List.flatMap_cons, ih]; rfl
theorem oBy_ok : OK Try.prog (lamOf Try.prog) (orcOf [(16, brightS), (37, numsS), (38, lebsS false)]) := orc_ok (by simpa using ⟨bright_ok, nums_ok, lebs_ok⟩)
set_option maxHeartbeats 2000000 in
theorem bytes_ok : SpecOK Try.prog 17 bytesS := by
  intro args S x S' h
  simp only [bytesS] at h
  split at h
  · rename_i cb
    split at h
    · rename_i b hb
      split at h
      · rename_i hg
        obtain ⟨s, rfl, hl⟩ := bookOf_ok hb
        obtain ⟨p, l⟩ := b
        simp only at hl
        have b1 := fun L => bright_eq (bookOf_mk (p := p) (lstV_grow hl L)) hg.fits
        refine fn_of_wp f17 rfl (W_sound oBy_ok mixed _ _ _ _ _ ?_)
        split at h
        · rename_i ho
          cases h
          have hd : decide (Bk.ok ⟨p, l⟩) = true := decide_eq_true ho
          have hlim := hg.2.1
          simp only at hlim
          simp (maxSteps := 1000000) (disch := omega) only [c17, orc_cons, b1, hd, lst_len hl, List.replicate, go_sem, Option.map_none, Option.map_some, ↓reduceIte, Nat.reduceBEq, Nat.reduceAdd, Nat.reduceSub, Nat.reduceEqDiff, Nat.reduceLeDiff, Nat.reduceMul, Nat.reduceLT, Int.reduceLT, Int.reduceLE, Int.reduceAdd, Int.reduceSub, Int.reduceMul, Int.reduceNeg, Int.reduceEq, Int.reduceNe, Int.reduceToNat, decide_true, decide_false, iaddr_i, iaddr_sl_i, not_true_eq_false, not_false_eq_true, reduceCtorEq, ne_eq, forall_const, false_imp_iff, true_imp_iff, implies_true, Int.cast_ofNat_Int, Int.natCast_zero, Int.natCast_one, Int.add_zero, Int.zero_add]
          have h0 : AccL numE S (S ++ [.cells [.i .u64 p, s] 0 none true, .cells [.i .u64 p] 0 none true]) (.sl (S.length + 1) 0 0 1 1 true) [p] := by
            have : AccL numE S ((S ++ [Blk.cells [.i .u64 p, s] 0 none true]) ++ [Blk.cells [.i .u64 p] 0 none true]) (.sl (S ++ [Blk.cells [.i .u64 p, s] 0 none true]).length 0 0 1 1 true) [p] := accL_lit (E := numE) (l := [p]) (ext_app _)
            rwa [List.append_assoc, List.length_append] at this
          refine wp_loop (fun j e M dl => dl = [] ∧ ∃ (k : Nat) (x : AV), j = l.length - k ∧ k ≤ l.length ∧ AccL numE S M x (p :: entNs (l.take k)) ∧
            e.get 14 = s ∧ e.get 15 = .i .i64 l.length ∧ e.get 16 = .i .i64 k ∧ e.get 4 = x) (j := l.length) ⟨rfl, 0, _, rfl, Nat.zero_le _, h0, rfl, rfl, rfl, rfl⟩ ?_
          rintro j e M d' ⟨rfl, k, x, rfl, hk, hx, h14, h15, h16, h4⟩
          refine W_sound oBy_ok mixed _ _ _ _ _ ?_
          have hM := lst_ext hl hx.ext
          have htl : (entNs (l.take k)).length = 11 * k := by rw [entNs_len, List.length_take]; omega
          by_cases hkl : k < l.length
          · obtain ⟨bi, o, v, cap, ex, rfl⟩ := lst_sl hl hkl
            have hr : ∀ L, rowB ((M ++ L)[bi]?) (o + k * 14) v 14 = some (entE.enc l[k]) := lstV_row hM hkl
            have hr0 := hr []
            rw [List.append_nil] at hr0
            have hkI : (k : Int) < l.length := by omega
            have hw : wrapV .i64 ((k : Int) + 1) = ((k + 1 : Nat) : Int) := by rw [wrap_i64 (by omega) (by omega)]; omega
            have hpr := ok_right ho (k := k) hkl
            have hpg := (hg.2.2 _ (List.getElem_mem hkl)).1
            have hns := fun M => nsV (S := M) hpg hpr
            obtain ⟨x1, M1, U1, ha1, hM1, hx1, _⟩ := hx.apps (bytes := 8) numE_one [.cells (entE.enc l[k]) 0 none true, .cells (l[k].pol.ns.map (.i .u64)) 0 none true] l[k].pol.ns (by simp [Pol.ns]; omega) (by simp [Pol.ns]; omega)
            obtain ⟨x2, M2, U2, ha2, hM2, hx2, _⟩ := hx1.apps (bytes := 8) numE_one [.cells [.i .u64 l[k].granted] 0 none true] [l[k].granted] (by simp [Pol.ns]; omega) (by simp [Pol.ns]; omega)
            have ha1 : appV (M ++ [.cells (entE.enc l[k]) 0 none true, .cells (l[k].pol.ns.map (.i .u64)) 0 none true]) 1 8 x (l[k].pol.ns.map (.i .u64)) 10 = some (x1, M1 ++ (.cells (entE.enc l[k]) 0 none true :: .cells (l[k].pol.ns.map (.i .u64)) 0 none true :: U1)) := by rw [u64E] at ha1; exact ha1
            have ha2 : appV (M1 ++ (.cells (entE.enc l[k]) 0 none true :: .cells (l[k].pol.ns.map (.i .u64)) 0 none true :: (U1 ++ [.cells [.i .u64 l[k].granted] 0 none true]))) 1 8 x1 [.i .u64 l[k].granted] 1 = some (x2, M2 ++ (.cells [.i .u64 l[k].granted] 0 none true :: U2)) := by
              rw [List.append_assoc] at ha2; exact ha2
            have hat : ∀ L : Mem, (M1 ++ L)[M.length]? = L[0]? := fun L => by rw [← hM1]; exact at_app0
            have hrow : rowB (some (.cells (l[k].pol.ns.map (.i .u64)) 0 none true)) 0 0 10 = some (l[k].pol.ns.map (.i .u64)) := rfl
            have v0 := eqv_lst hx.lst
            have v1 := eqv_lst hx1.lst
            have v2 := eqv_lst hx2.lst
            have vc : avEqvL l[k].pol.enc l[k].pol.enc = true := by simp [Pol.enc, avEqvL, avEqv]
            have r13 : rowB (some (.cells (entE.enc l[k]) 0 none true)) 0 0 13 = some l[k].pol.enc := rfl
            have c13 : cellB (some (.cells (entE.enc l[k]) 0 none true)) 13 0 = some (.i .u64 l[k].granted) := rfl
            generalize l[k].pol.ns.map (AV.i .u64) = N at ha1 ha2 hns hrow
            simp (maxSteps := 1000000) (disch := omega) only [c17l1, h4, h14, h15, h16, hkI, Int.toNat_natCast, hr0, entE, Ent.enc, List.replicate, go_sem, Option.map_none, Option.map_some, ↓reduceIte, Nat.reduceBEq, Nat.reduceAdd, Nat.reduceSub, Nat.reduceEqDiff, Nat.reduceLeDiff, Nat.reduceMul, Nat.reduceLT, Int.reduceLT, Int.reduceLE, Int.reduceAdd, Int.reduceSub, Int.reduceMul, Int.reduceNeg, Int.reduceEq, Int.reduceNe, Int.reduceToNat, decide_true, decide_false, iaddr_i, iaddr_sl_i, not_true_eq_false, not_false_eq_true, reduceCtorEq, ne_eq, forall_const, false_imp_iff, true_imp_iff, implies_true, Int.cast_ofNat_Int, Int.natCast_zero, Int.natCast_one, Int.add_zero, Int.zero_add]
            have hB : Blk.cells [.i .i64 l[k].pol.sub, .i .u8 l[k].pol.a, .i .u8 l[k].pol.b, .i .u8 l[k].pol.c, .i .u8 l[k].pol.d, .i .i64 l[k].pol.bits, .i .u64 l[k].pol.rate, .i .u64 l[k].pol.burst, .i .u64 l[k].pol.srate, .i .u64 l[k].pol.sburst, .i .u64 l[k].pol.quota, .i .u64 l[k].pol.lease, .i .u64 l[k].pol.quantum, .i .u64 l[k].granted] 0 none true = .cells (entE.enc l[k]) 0 none true := rfl
            rw [hB]
            generalize Blk.cells (entE.enc l[k]) 0 none true = B6 at ha1 ha2 r13 c13
            generalize l[k].pol.enc = C13 at hns r13 vc
            refine draw_of ?_
            simp (maxSteps := 1000000) (disch := omega) only [c17d0, orc_cons, hns, r13, c13, src_sl, Nat.mul_one, hrow, srcN_some, ha1, ha2, hat, v0, v1, v2, vc, hw, dNs_nil, dNs_cons, dnK_some, dnK_none, dOpt_none, dOpt_some, doK_some, doK_none, dStages_nil, dStages_cons, s1K_app, s2K_app, s3K_app, s4K_app, dEnd_app, evOne_op, evOne_gd, evG_tt, evG_tf, evG_ft, evG_ff, evG_ud, kSt_nil, kSt_cons, kNs_nil, kNs_cons, kN_zero, kN_succ, kA_some, eqK_some, eqK_none, kOpt_none, kOpt_some, kLike_nil, kLike_cons, ROp.use, IOp.use, IO'.use, X.use, dstL_none, dstL_some, List.flatMap_cons, List.flatMap_nil, eqv_m, eqv_p, eqv_i, eqv_b, eqv_sl, eqv_sn, eqv_pn, eqv_ud, eqv_u, eqv_mn, eqv_ag, eqvL_cons, eqvL_nil, eqv_tu, Bool.and_true, Bool.true_and, Bool.and_self, Nat.le_refl, Nat.reduceLeDiff, and_self, and_true, true_and, go_sem, Option.map_none, Option.map_some, ↓reduceIte, Nat.reduceBEq, Nat.reduceAdd, Nat.reduceSub, Nat.reduceEqDiff, Nat.reduceLeDiff, Nat.reduceMul, Nat.reduceLT, Int.reduceLT, Int.reduceLE, Int.reduceAdd, Int.reduceSub, Int.reduceMul, Int.reduceNeg, Int.reduceEq, Int.reduceNe, Int.reduceToNat, decide_true, decide_false, iaddr_i, iaddr_sl_i, not_true_eq_false, not_false_eq_true, reduceCtorEq, ne_eq, forall_const, false_imp_iff, true_imp_iff, implies_true, Int.cast_ofNat_Int, Int.natCast_zero, Int.natCast_one, Int.add_zero, Int.zero_add]
            refine ⟨l.length - (k + 1), by omega, k + 1, x2, rfl, hkl, ?_, rfl, rfl⟩
            rw [show p :: entNs (l.take (k + 1)) = p :: entNs (l.take k) ++ l[k].pol.ns ++ [l[k].granted] by unfold entNs; rw [List.take_succ_eq_append_getElem hkl, List.flatMap_append]; simp]
            exact hx2
          · have hkI : ¬ (k : Int) < l.length := by omega
            rw [List.take_of_length_le (by omega)] at hx htl
            have h8 := ho.2.2.1.1
            rw [show (polsOf (Bk.mk p l).entries).length = l.length by unfold polsOf; simp] at h8
            have hlb := lebs_eq (z := false) hx.lst (by simp; omega) (bns_u64 hg ho)
            simp (maxSteps := 1000000) (disch := omega) only [c17l1, h4, h14, h15, h16, hkI, orc_cons, hlb, go_sem, Option.map_none, Option.map_some, ↓reduceIte, Nat.reduceBEq, Nat.reduceAdd, Nat.reduceSub, Nat.reduceEqDiff, Nat.reduceLeDiff, Nat.reduceMul, Nat.reduceLT, Int.reduceLT, Int.reduceLE, Int.reduceAdd, Int.reduceSub, Int.reduceMul, Int.reduceNeg, Int.reduceEq, Int.reduceNe, Int.reduceToNat, decide_true, decide_false, iaddr_i, iaddr_sl_i, not_true_eq_false, not_false_eq_true, reduceCtorEq, ne_eq, forall_const, false_imp_iff, true_imp_iff, implies_true, Int.cast_ofNat_Int, Int.natCast_zero, Int.natCast_one, Int.add_zero, Int.zero_add]
            have hne : lebs (p :: entNs l) ≠ [] := lebs_ne (b := ⟨p, l⟩)
            have hacc : Acc true byteE S (retM false byteE M (lebs (p :: entNs l))) (retX false M (lebs (p :: entNs l))) (lebs (p :: entNs l)) := by
              obtain ⟨T, hT⟩ := hx.ext
              rw [retX_ne hne, retM_ne hne]
              refine ⟨T ++ [.cells ((lebs (p :: entNs l)).flatMap byteE.enc) 0 (some byteE.sz) true], by rw [← hT, List.append_assoc], .inr (.inr ⟨hne, T.length, 0, by rw [← hT, List.length_append], by simp⟩)⟩
            exact hacc.ret2 byteE_flat Flat_i
        · rename_i ho
          cases h
          have hd : decide (Bk.ok ⟨p, l⟩) = false := decide_eq_false ho
          simp (maxSteps := 1000000) (disch := omega) only [c17, orc_cons, b1, hd, go_sem, Option.map_none, Option.map_some, ↓reduceIte, Nat.reduceBEq, Nat.reduceAdd, Nat.reduceSub, Nat.reduceEqDiff, Nat.reduceLeDiff, Nat.reduceMul, Nat.reduceLT, Int.reduceLT, Int.reduceLE, Int.reduceAdd, Int.reduceSub, Int.reduceMul, Int.reduceNeg, Int.reduceEq, Int.reduceNe, Int.reduceToNat, decide_true, decide_false, iaddr_i, iaddr_sl_i, not_true_eq_false, not_false_eq_true, reduceCtorEq, ne_eq, forall_const, false_imp_iff, true_imp_iff, implies_true, Int.cast_ofNat_Int, Int.natCast_zero, Int.natCast_one, Int.add_zero, Int.zero_add]
          exact wkv_drop rfl
      · cases h
    · cases h
  · cases h
end Go.Proofs.Ytapgkaecamljbaa

namespace Go.Proofs.Ytapgkaecamljbaa
open Go.RowKit
set_option linter.unusedVariables false
set_option maxRecDepth 100000

section
variable {H : Type} {enc : TypeId × Value → H} {W : World}

theorem wf_u8 {n : Int} (h : (Lit.int .u8 n).wf = true) : u8 n := by
  simp only [Lit.wf, IntKind.min, IntKind.max, IntKind.signed, IntKind.bits, Bool.and_eq_true] at h
  unfold u8
  simpa using h
theorem wf_u64 {n : Int} (h : (Lit.int .u64 n).wf = true) : u64 n := by
  simp only [Lit.wf, IntKind.min, IntKind.max, IntKind.signed, IntKind.bits, Bool.and_eq_true] at h
  unfold u64
  simpa using h
theorem wf_i64 {n : Int} (h : (Lit.int .i64 n).wf = true) : i64 n := by
  simp only [Lit.wf, IntKind.min, IntKind.max, IntKind.signed, IntKind.bits, Bool.and_eq_true] at h
  unfold i64
  simpa using h

abbrev polSh : List CS := [.int .i64, .int .u8, .int .u8, .int .u8, .int .u8, .int .i64, .int .u64, .int .u64, .int .u64, .int .u64, .int .u64, .int .u64, .int .u64]
theorem rowPol {cs : List Value} (h : RowIs enc Try.prog W polSh cs) : ∃ a : Pol, cs.map (absV W) = a.enc ∧ a.good := by
  obtain ⟨h1, h2⟩ := h
  match cs, h1 with
  | [x0, x1, x2, x3, x4, x5, x6, x7, x8, x9, x10, x11, x12], _ =>
    obtain ⟨a0, rfl, w0⟩ := h2 0 (by simp) (by simp)
    obtain ⟨a1, rfl, w1⟩ := h2 1 (by simp) (by simp)
    obtain ⟨a2, rfl, w2⟩ := h2 2 (by simp) (by simp)
    obtain ⟨a3, rfl, w3⟩ := h2 3 (by simp) (by simp)
    obtain ⟨a4, rfl, w4⟩ := h2 4 (by simp) (by simp)
    obtain ⟨a5, rfl, w5⟩ := h2 5 (by simp) (by simp)
    obtain ⟨a6, rfl, w6⟩ := h2 6 (by simp) (by simp)
    obtain ⟨a7, rfl, w7⟩ := h2 7 (by simp) (by simp)
    obtain ⟨a8, rfl, w8⟩ := h2 8 (by simp) (by simp)
    obtain ⟨a9, rfl, w9⟩ := h2 9 (by simp) (by simp)
    obtain ⟨a10, rfl, w10⟩ := h2 10 (by simp) (by simp)
    obtain ⟨a11, rfl, w11⟩ := h2 11 (by simp) (by simp)
    obtain ⟨a12, rfl, w12⟩ := h2 12 (by simp) (by simp)
    exact ⟨⟨a0, a1, a2, a3, a4, a5, a6, a7, a8, a9, a10, a11, a12⟩, rfl, wf_i64 w0, ⟨wf_u8 w1, wf_u8 w2, wf_u8 w3, wf_u8 w4⟩, wf_i64 w5, wf_u64 w6, wf_u64 w7, wf_u64 w8, wf_u64 w9, wf_u64 w10, wf_u64 w11, wf_u64 w12⟩
abbrev entSh : List CS := [.int .i64, .int .u8, .int .u8, .int .u8, .int .u8, .int .i64, .int .u64, .int .u64, .int .u64, .int .u64, .int .u64, .int .u64, .int .u64, .int .u64]
theorem rowEnt {cs : List Value} (h : RowIs enc Try.prog W entSh cs) : ∃ a : Ent, cs.map (absV W) = a.enc ∧ a.good := by
  obtain ⟨h1, h2⟩ := h
  match cs, h1 with
  | [x0, x1, x2, x3, x4, x5, x6, x7, x8, x9, x10, x11, x12, x13], _ =>
    obtain ⟨a0, rfl, w0⟩ := h2 0 (by simp) (by simp)
    obtain ⟨a1, rfl, w1⟩ := h2 1 (by simp) (by simp)
    obtain ⟨a2, rfl, w2⟩ := h2 2 (by simp) (by simp)
    obtain ⟨a3, rfl, w3⟩ := h2 3 (by simp) (by simp)
    obtain ⟨a4, rfl, w4⟩ := h2 4 (by simp) (by simp)
    obtain ⟨a5, rfl, w5⟩ := h2 5 (by simp) (by simp)
    obtain ⟨a6, rfl, w6⟩ := h2 6 (by simp) (by simp)
    obtain ⟨a7, rfl, w7⟩ := h2 7 (by simp) (by simp)
    obtain ⟨a8, rfl, w8⟩ := h2 8 (by simp) (by simp)
    obtain ⟨a9, rfl, w9⟩ := h2 9 (by simp) (by simp)
    obtain ⟨a10, rfl, w10⟩ := h2 10 (by simp) (by simp)
    obtain ⟨a11, rfl, w11⟩ := h2 11 (by simp) (by simp)
    obtain ⟨a12, rfl, w12⟩ := h2 12 (by simp) (by simp)
    obtain ⟨a13, rfl, w13⟩ := h2 13 (by simp) (by simp)
    exact ⟨⟨⟨a0, a1, a2, a3, a4, a5, a6, a7, a8, a9, a10, a11, a12⟩, a13⟩, rfl, ⟨wf_i64 w0, ⟨wf_u8 w1, wf_u8 w2, wf_u8 w3, wf_u8 w4⟩, wf_i64 w5, wf_u64 w6, wf_u64 w7, wf_u64 w8, wf_u64 w9, wf_u64 w10, wf_u64 w11, wf_u64 w12⟩, wf_u64 w13⟩
theorem enc_inj {α : Type} {E : Enc α} {a b : α} (h : E.enc a = E.enc b) : a = b := by
  have h1 := E.de a
  rw [h, E.de] at h1
  injection h1 with h1; exact h1.symm

/-- A slice's cell, as a list. -/
theorem cellEnts {v : Value} (h : CellIs enc Try.prog W (.slice 46) v) : ∃ l : List Ent, lstV entE (absS W) (absV W v) = some l ∧ ∀ x ∈ l, x.good := by
  have s2 : shapes Try.prog 20 46 = some entSh := by kernel_rfl
  have c2 : Try.prog.cellsOf 46 = 14 := by kernel_rfl
  obtain ⟨l, hl, hf, _⟩ := lst_of (e := Ent.enc) (sz := 14) c2 (by omega) h (fun cs fuel x ht => let ⟨a, h1, h2⟩ := rowEnt (shapes_ok 20 fuel 46 cs x _ ht s2); ⟨a, h1, rfl⟩)
    (good := Ent.good) (fun cs fuel x a ht he => let ⟨a', h1, h2⟩ := rowEnt (shapes_ok 20 fuel 46 cs x _ ht s2); enc_inj (E := entE) (h1.symm.trans he) ▸ h2)
  exact ⟨l, lst_lstV (E := entE) hl, hf⟩
theorem cellPols {v : Value} (h : CellIs enc Try.prog W (.slice 44) v) : ∃ l : List Pol, lstV polE (absS W) (absV W v) = some l ∧ ∀ x ∈ l, x.good := by
  have s2 : shapes Try.prog 20 44 = some polSh := by kernel_rfl
  have c2 : Try.prog.cellsOf 44 = 13 := by kernel_rfl
  obtain ⟨l, hl, hf, _⟩ := lst_of (e := Pol.enc) (sz := 13) c2 (by omega) h (fun cs fuel x ht => let ⟨a, h1, h2⟩ := rowPol (shapes_ok 20 fuel 44 cs x _ ht s2); ⟨a, h1, rfl⟩)
    (good := Pol.good) (fun cs fuel x a ht he => let ⟨a', h1, h2⟩ := rowPol (shapes_ok 20 fuel 44 cs x _ ht s2); enc_inj (E := polE) (h1.symm.trans he) ▸ h2)
  exact ⟨l, lst_lstV (E := polE) hl, hf⟩
theorem cellInts {v : Value} (h : CellIs enc Try.prog W (.slice 3) v) : ∃ l : List Int, lstV (intE .i64) (absS W) (absV W v) = some l ∧ ∀ x ∈ l, i64 x := by
  have s2 : shapes Try.prog 20 3 = some [.int .i64] := by kernel_rfl
  have c2 : Try.prog.cellsOf 3 = 1 := by kernel_rfl
  have row : ∀ cs : List Value, RowIs enc Try.prog W [.int .i64] cs → ∃ a : Int, cs.map (absV W) = [AV.i .i64 a] ∧ i64 a := fun cs h => by
    obtain ⟨h1, h2⟩ := h
    match cs, h1 with
    | [x], _ =>
      obtain ⟨a, rfl, w⟩ := h2 0 (by simp) (by simp)
      exact ⟨a, rfl, wf_i64 w⟩
  obtain ⟨l, hl, hf, _⟩ := lst_of (e := fun n => [AV.i .i64 n]) (sz := 1) c2 (by omega) h (fun cs fuel x ht => let ⟨a, h1, h2⟩ := row _ (shapes_ok 20 fuel 3 cs x _ ht s2); ⟨a, h1, rfl⟩)
    (good := i64) (fun cs fuel x a ht he => let ⟨a', h1, h2⟩ := row _ (shapes_ok 20 fuel 3 cs x _ ht s2); enc_inj (E := intE .i64) (h1.symm.trans he) ▸ h2)
  exact ⟨l, lst_lstV (E := intE .i64) hl, hf⟩

theorem argBook {v : Value} {base : Nat} {d : DataW H} {ps : List MemPlace} (o : Value.okWide Try.prog W .any base 25 v) (h : DataW.Trod enc Try.prog W 0 (fun _ => true) true 25 v d ps) :
    ∃ p s l, absA W v = .ag [.i .u64 p, s] ∧ lstV entE (absS W) s = some l ∧ (∀ x ∈ l, x.good) ∧ u64 p := by
  have s0 : shapes Try.prog 20 25 = some [.int .u64, .slice 46] := by kernel_rfl
  obtain ⟨cs, rfl⟩ : ∃ cs, v = .agg cs := by
    unfold Value.okWide at o
    rw [Try.underlying25] at o
    obtain ⟨cs, h, _⟩ := o
    exact ⟨cs, h⟩
  obtain ⟨h1, h2⟩ := arg_row h s0
  have h1 : cs.toList.length = 2 := h1
  have h2 : ∀ (i : Nat) (h : i < 2) (h' : i < cs.toList.length), CellIs enc Try.prog W ([CS.int .u64, CS.slice 46][i]) cs.toList[i] := fun i h h' => h2 i h h'
  generalize hcs : cs.toList = cl at h1 h2
  match cl, h1 with
  | [x, y], _ =>
    obtain ⟨p, rfl, wp⟩ := h2 0 (by omega) (by simp)
    obtain ⟨l, hl, hf⟩ := cellEnts (h2 1 (by omega) (by simp))
    refine ⟨p, absV W y, l, ?_, hl, hf, wf_u64 wp⟩
    show AV.ag (cs.toList.map (absV W)) = _
    rw [hcs]; rfl
theorem argEvt {v : Value} {base : Nat} {d : DataW H} {ps : List MemPlace} (o : Value.okWide Try.prog W .any base 29 v) (h : DataW.Trod enc Try.prog W 0 (fun _ => true) true 29 v d ps) :
    ∃ cs e, absA W v = .ag cs ∧ evtOf (absS W) cs = some e ∧ i64 e.kind ∧ i64 e.sub ∧ (∀ x ∈ e.puts, x.good) ∧ (∀ x ∈ e.drops, i64 x) ∧ u64 e.granted ∧ u64 e.period := by
  have s0 : shapes Try.prog 20 29 = some [.int .i64, .int .i64, .slice 44, .slice 3, .int .u64, .int .u64] := by kernel_rfl
  obtain ⟨cs, rfl⟩ : ∃ cs, v = .agg cs := by
    unfold Value.okWide at o
    rw [Try.underlying29] at o
    obtain ⟨cs, h, _⟩ := o
    exact ⟨cs, h⟩
  obtain ⟨h1, h2⟩ := arg_row h s0
  have h1 : cs.toList.length = 6 := h1
  have h2 : ∀ (i : Nat) (h : i < 6) (h' : i < cs.toList.length), CellIs enc Try.prog W ([CS.int .i64, CS.int .i64, CS.slice 44, CS.slice 3, CS.int .u64, CS.int .u64][i]) cs.toList[i] := fun i h h' => h2 i h h'
  generalize hcs : cs.toList = cl at h1 h2
  match cl, h1 with
  | [x0, x1, x2, x3, x4, x5], _ =>
    obtain ⟨a0, rfl, w0⟩ := h2 0 (by omega) (by simp)
    obtain ⟨a1, rfl, w1⟩ := h2 1 (by omega) (by simp)
    obtain ⟨l2, hl2, hf2⟩ := cellPols (h2 2 (by omega) (by simp))
    obtain ⟨l3, hl3, hf3⟩ := cellInts (h2 3 (by omega) (by simp))
    obtain ⟨a4, rfl, w4⟩ := h2 4 (by omega) (by simp)
    obtain ⟨a5, rfl, w5⟩ := h2 5 (by omega) (by simp)
    refine ⟨[.i .i64 a0, .i .i64 a1, absV W x2, absV W x3, .i .u64 a4, .i .u64 a5], ⟨a0, a1, l2, l3, a4, a5⟩, ?_, evtOf_mk hl2 hl3, wf_i64 w0, wf_i64 w1, hf2, hf3, wf_u64 w4, wf_u64 w5⟩
    show AV.ag (cs.toList.map (absV W)) = _
    rw [hcs]; rfl
end
end Go.Proofs.Ytapgkaecamljbaa

namespace Go.Proofs.Ytapgkaecamljbaa
open Go.RowKit
set_option linter.unusedVariables false
set_option maxRecDepth 100000
section
variable {H : Type} {enc : TypeId × Value → H}
theorem walkBookRolls (W : World) (v0 v1 v2 : Value) {base : Nat} (o0 : Value.okWide Try.prog W .any base 25 v0) (o1 : Value.okWide Try.prog W .any base 3 v1) (o2 : Value.okWide Try.prog W .any base 22 v2) {d0 d1 d2 : DataW H} {p0 p1 p2 : List MemPlace}
    (h0 : DataW.Trod enc Try.prog W 0 (fun _ => true) true 25 v0 d0 p0) (h1 : DataW.Trod enc Try.prog W 0 (fun _ => true) true 3 v1 d1 p1) (h2 : DataW.Trod enc Try.prog W 0 (fun _ => true) true 22 v2 d2 p2) :
    Calls Try.prog 4 #[v0, v1, v2] W fun e w' => e = .returned (.bool true) ∧ Below W.heap.size W w' := by
  obtain ⟨p, s, l, e0, hl, hf, _⟩ := argBook o0 h0
  obtain ⟨n, rfl, _, _, hn⟩ := Go.ChangeShapes.open_int Try.underlying3 o1 h1
  obtain ⟨g, rfl, _, _, hg⟩ := Go.ChangeShapes.open_int Try.underlying22 o2 h2
  refine calls_of_fnOK (S' := absS W) ?_
  show FnOK Try.prog _ [absA W v0, AV.i .i64 n, AV.i .u64 g] _ _ _
  rw [e0]
  exact rolls_ok _ p n g s l hl fun x hx => (hf x hx).1.fits
end
end Go.Proofs.Ytapgkaecamljbaa

