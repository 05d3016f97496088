/- Proved here: what the document's ledger computes; how a ledger is made and changed. No condition. -/
import Derived.Test.YtbggleijjoleiaaSb
namespace Go.Proofs.Ytbggleijjoleiaa
open Go.RowKit
set_option linter.unusedSimpArgs false
set_option linter.unusedVariables false
set_option maxRecDepth 10000

theorem wkv_de {S0 L : Mem} {x y : AV} (h : x = y) (hf : AV.flat S0.length y) : WkV S0 x S0 y (S0 ++ L) := by subst h; exact wkv_drop hf

theorem led_u64 {L : Led} (h : L.ok) : u64 L.q ∧ u64 L.l ∧ u64 L.g ∧ u64 L.u := by unfold Led.ok at h; unfold u64; omega

theorem o22_ok : OK Try.prog (lamOf Try.prog) (orcOf [(26, s26)]) := orc_ok (by simpa using s26_ok)
theorem s22_ok : SpecOK Try.prog 22 (rSpec fun L n => .b (decide (L.covers n))) := rSpec_ok fun S L n hL hn => by
  obtain ⟨u1, u2, u3, u4⟩ := led_u64 hL
  refine fn_of_wp f22 rfl (W_sound o22_ok mixed _ _ _ _ _ ?_)
  simp (maxSteps := 1000000) (disch := omega) only [c22, Led.enc, orc_cons, s26_eq u4 hn u3, go_sem, ↓reduceIte, Nat.reduceBEq, Nat.reduceAdd, Nat.reduceSub, Nat.reduceEqDiff, Nat.reduceLeDiff, Nat.reduceMul, Nat.reduceLT, Int.reduceLT, Int.reduceLE, Int.reduceAdd, Int.reduceSub, Int.reduceMul, Int.reduceNeg, Int.reduceEq, Int.reduceNe, Int.reduceToNat, decide_true, decide_false, iaddr_i, iaddr_sl_i, not_true_eq_false, not_false_eq_true, reduceCtorEq, ne_eq, forall_const, false_imp_iff, true_imp_iff, implies_true, Int.cast_ofNat_Int, Int.natCast_zero, Int.natCast_one, Int.add_zero, Int.zero_add]
  exact wkv_drop rfl
theorem s24_ok : SpecOK Try.prog 24 (rSpec fun L n => .b (decide (L.may n))) := rSpec_ok fun S L n hL hn => by
  obtain ⟨u1, u2, u3, u4⟩ := led_u64 hL
  refine fn_of_wp f24 rfl (W_sound o22_ok mixed _ _ _ _ _ ?_)
  simp (maxSteps := 1000000) (disch := omega) only [c24, Led.enc, orc_cons, s26_eq u4 hn u1, go_sem, ↓reduceIte, Nat.reduceBEq, Nat.reduceAdd, Nat.reduceSub, Nat.reduceEqDiff, Nat.reduceLeDiff, Nat.reduceMul, Nat.reduceLT, Int.reduceLT, Int.reduceLE, Int.reduceAdd, Int.reduceSub, Int.reduceMul, Int.reduceNeg, Int.reduceEq, Int.reduceNe, Int.reduceToNat, decide_true, decide_false, iaddr_i, iaddr_sl_i, not_true_eq_false, not_false_eq_true, reduceCtorEq, ne_eq, forall_const, false_imp_iff, true_imp_iff, implies_true, Int.cast_ofNat_Int, Int.natCast_zero, Int.natCast_one, Int.add_zero, Int.zero_add]
  exact wkv_drop rfl
theorem o21_ok : OK Try.prog (lamOf Try.prog) (orcOf [(22, rSpec fun L n => .b (decide (L.covers n))), (24, rSpec fun L n => .b (decide (L.may n)))]) := orc_ok (by simpa using ⟨s22_ok, s24_ok⟩)
theorem s21_ok : SpecOK Try.prog 21 (rSpec fun L n => .i .u64 (L.want n)) := rSpec_ok fun S L n hL hn => by
  have hL' := hL; have hn' := hn
  unfold Led.ok at hL'; unfold u64 at hn'
  refine fn_of_wp f21 rfl (W_sound o21_ok mixed _ _ _ _ _ ?_)
  simp (maxSteps := 1000000) (disch := omega) only [c21, Led.enc, orc_cons, rSpec_app, led_eta, hL, hn, and_self, go_sem, ↓reduceIte, Nat.reduceBEq, Nat.reduceAdd, Nat.reduceSub, Nat.reduceEqDiff, Nat.reduceLeDiff, Nat.reduceMul, Nat.reduceLT, Int.reduceLT, Int.reduceLE, Int.reduceAdd, Int.reduceSub, Int.reduceMul, Int.reduceNeg, Int.reduceEq, Int.reduceNe, Int.reduceToNat, decide_true, decide_false, iaddr_i, iaddr_sl_i, not_true_eq_false, not_false_eq_true, reduceCtorEq, ne_eq, forall_const, false_imp_iff, true_imp_iff, implies_true, Int.cast_ofNat_Int, Int.natCast_zero, Int.natCast_one, Int.add_zero, Int.zero_add]
  unfold Led.want
  refine ⟨fun h1 => ?_, fun h1 => ⟨fun h2 => ?_, fun h2 => ?_⟩⟩
  · refine wkv_de ?_ rfl; rw [if_pos h1]
  · refine wkv_de ?_ rfl; rw [if_neg h1, if_neg h2]
  · have h2 : L.may n := Classical.not_not.1 h2
    have h3 := h2
    unfold Led.may at h3
    simp (maxSteps := 1000000) (disch := omega) only [go_sem, ↓reduceIte, Nat.reduceBEq, Nat.reduceAdd, Nat.reduceSub, Nat.reduceEqDiff, Nat.reduceLeDiff, Nat.reduceMul, Nat.reduceLT, Int.reduceLT, Int.reduceLE, Int.reduceAdd, Int.reduceSub, Int.reduceMul, Int.reduceNeg, Int.reduceEq, Int.reduceNe, Int.reduceToNat, decide_true, decide_false, iaddr_i, iaddr_sl_i, not_true_eq_false, not_false_eq_true, reduceCtorEq, ne_eq, forall_const, false_imp_iff, true_imp_iff, implies_true, Int.cast_ofNat_Int, Int.natCast_zero, Int.natCast_one, Int.add_zero, Int.zero_add]
    refine ⟨fun h4 => ⟨fun h5 => ?_, fun h5 => ?_⟩, fun h4 => ⟨fun h5 => ?_, fun h5 => ?_⟩⟩ <;> refine wkv_de ?_ rfl <;> rw [if_neg h1, if_pos h2] <;> congr 1 <;> omega

def duo (L : Led) (v : AV) : AV := .tu [.ag L.enc, v]
theorem s17_ok : SpecOK Try.prog 17 (rSpec fun L n => duo (L.grant n) (.i .i64 (L.grantE n))) := rSpec_ok fun S L n hL hn => by
  refine fn_of_wp f17 rfl (W_sound none_ok mixed _ _ _ _ _ ?_)
  simp (maxSteps := 1000000) (disch := omega) only [c17, Led.enc, go_sem, ↓reduceIte, Nat.reduceBEq, Nat.reduceAdd, Nat.reduceSub, Nat.reduceEqDiff, Nat.reduceLeDiff, Nat.reduceMul, Nat.reduceLT, Int.reduceLT, Int.reduceLE, Int.reduceAdd, Int.reduceSub, Int.reduceMul, Int.reduceNeg, Int.reduceEq, Int.reduceNe, Int.reduceToNat, decide_true, decide_false, iaddr_i, iaddr_sl_i, not_true_eq_false, not_false_eq_true, reduceCtorEq, ne_eq, forall_const, false_imp_iff, true_imp_iff, implies_true, Int.cast_ofNat_Int, Int.natCast_zero, Int.natCast_one, Int.add_zero, Int.zero_add]
  refine ⟨fun h1 => ⟨fun h2 => ?_, fun h2 => ?_⟩, fun h1 => ?_⟩
  · have hg : ¬ L.grants n := by unfold Led.grants; omega
    simp only [duo, Led.grant, Led.grantE, if_neg hg, Led.enc]; exact wkv_drop rfl
  rotate_left
  · have hg : ¬ L.grants n := by unfold Led.grants; omega
    simp only [duo, Led.grant, Led.grantE, if_neg hg, Led.enc]; exact wkv_drop rfl
  · have hg : L.grants n := by unfold Led.grants; omega
    simp only [duo, Led.grant, Led.grantE, if_pos hg, Led.enc]; exact wkv_drop rfl
theorem o18_ok : OK Try.prog (lamOf Try.prog) (orcOf [(22, rSpec fun L n => .b (decide (L.covers n)))]) := orc_ok (by simpa using s22_ok)
theorem s18_ok : SpecOK Try.prog 18 (rSpec fun L n => duo (L.spend n) (.b (decide (L.covers n)))) := rSpec_ok fun S L n hL hn => by
  have hL' := hL; have hn' := hn
  unfold Led.ok at hL'; unfold u64 at hn'
  refine fn_of_wp f18 rfl (W_sound o18_ok mixed _ _ _ _ _ ?_)
  simp (maxSteps := 1000000) (disch := omega) only [c18, Led.enc, orc_cons, rSpec_app, led_eta, hL, hn, and_self, go_sem, ↓reduceIte, Nat.reduceBEq, Nat.reduceAdd, Nat.reduceSub, Nat.reduceEqDiff, Nat.reduceLeDiff, Nat.reduceMul, Nat.reduceLT, Int.reduceLT, Int.reduceLE, Int.reduceAdd, Int.reduceSub, Int.reduceMul, Int.reduceNeg, Int.reduceEq, Int.reduceNe, Int.reduceToNat, decide_true, decide_false, iaddr_i, iaddr_sl_i, not_true_eq_false, not_false_eq_true, reduceCtorEq, ne_eq, forall_const, false_imp_iff, true_imp_iff, implies_true, Int.cast_ofNat_Int, Int.natCast_zero, Int.natCast_one, Int.add_zero, Int.zero_add]
  refine ⟨fun h1 => ?_, fun h1 => ?_⟩
  · simp only [duo, Led.spend, if_neg h1, Led.enc, decide_eq_false h1]; exact wkv_drop rfl
  · have h1 : L.covers n := Classical.not_not.1 h1
    have h2 := h1; unfold Led.covers at h2
    simp (maxSteps := 1000000) (disch := omega) only [go_sem, ↓reduceIte, Nat.reduceBEq, Nat.reduceAdd, Nat.reduceSub, Nat.reduceEqDiff, Nat.reduceLeDiff, Nat.reduceMul, Nat.reduceLT, Int.reduceLT, Int.reduceLE, Int.reduceAdd, Int.reduceSub, Int.reduceMul, Int.reduceNeg, Int.reduceEq, Int.reduceNe, Int.reduceToNat, decide_true, decide_false, iaddr_i, iaddr_sl_i, not_true_eq_false, not_false_eq_true, reduceCtorEq, ne_eq, forall_const, false_imp_iff, true_imp_iff, implies_true, Int.cast_ofNat_Int, Int.natCast_zero, Int.natCast_one, Int.add_zero, Int.zero_add]
    simp only [duo, Led.spend, if_pos h1, Led.enc, decide_eq_true h1]; exact wkv_drop rfl

/-! ### With duo numbers -/
def r2Spec : Spec := fun args S => match args with
  | [.ag [.i .u64 q, .i .u64 l, .i .u64 g, .i .u64 u], .i .u64 a, .i .u64 b] => some (duo ((⟨q, l, g, u⟩ : Led).change a b) (.i .i64 (changeE a b)), S)
  | _ => none
theorem r2Spec_app {q l g u a b : Int} {S : Mem} : r2Spec [.ag [.i .u64 q, .i .u64 l, .i .u64 g, .i .u64 u], .i .u64 a, .i .u64 b] S = some (duo ((⟨q, l, g, u⟩ : Led).change a b) (.i .i64 (changeE a b)), S) := rfl
theorem s20_ok : SpecOK Try.prog 20 r2Spec := by
  intro args S x S' h
  unfold r2Spec at h
  split at h
  · rename_i q l g u a b
    cases h
    refine fn_of_wp f20 rfl (W_sound none_ok mixed _ _ _ _ _ ?_)
    simp (maxSteps := 1000000) (disch := omega) only [c20, go_sem, ↓reduceIte, Nat.reduceBEq, Nat.reduceAdd, Nat.reduceSub, Nat.reduceEqDiff, Nat.reduceLeDiff, Nat.reduceMul, Nat.reduceLT, Int.reduceLT, Int.reduceLE, Int.reduceAdd, Int.reduceSub, Int.reduceMul, Int.reduceNeg, Int.reduceEq, Int.reduceNe, Int.reduceToNat, decide_true, decide_false, iaddr_i, iaddr_sl_i, not_true_eq_false, not_false_eq_true, reduceCtorEq, ne_eq, forall_const, false_imp_iff, true_imp_iff, implies_true, Int.cast_ofNat_Int, Int.natCast_zero, Int.natCast_one, Int.add_zero, Int.zero_add]
    refine ⟨fun h1 => ⟨fun h2 => ?_, fun h2 => ?_⟩, fun h1 => ?_⟩
    · have hg : ¬ fine a b := by unfold fine; omega
      simp only [duo, Led.change, changeE, if_neg hg, Led.enc]; exact wkv_drop rfl
    rotate_left
    · have hg : ¬ fine a b := by unfold fine; omega
      simp only [duo, Led.change, changeE, if_neg hg, Led.enc]; exact wkv_drop rfl
    · have hg : fine a b := by unfold fine; omega
      simp only [duo, Led.change, changeE, if_pos hg, Led.enc]; exact wkv_drop rfl
  · cases h

def fine3 (a b c : Int) : Prop := a ≤ 281474976710656 ∧ b ≤ 281474976710656 ∧ c ≤ 281474976710656
instance (a b c : Int) : Decidable (fine3 a b c) := by unfold fine3; infer_instance
def newE (a b c : Int) : Int := if fine3 a b c then 0 else 181
def newL (a b c : Int) : Led := if fine3 a b c then ⟨a, b, c, c⟩ else ⟨0, 0, 0, 0⟩
def rnSpec : Spec := fun args S => match args with
  | [.i .u64 a, .i .u64 b, .i .u64 c] => some (duo (newL a b c) (.i .i64 (newE a b c)), S)
  | _ => none
theorem s16_ok : SpecOK Try.prog 16 rnSpec := by
  intro args S x S' h
  unfold rnSpec at h
  split at h
  · rename_i a b c
    cases h
    refine fn_of_wp f16 rfl (W_sound none_ok mixed _ _ _ _ _ ?_)
    simp (maxSteps := 1000000) (disch := omega) only [c16, go_sem, ↓reduceIte, Nat.reduceBEq, Nat.reduceAdd, Nat.reduceSub, Nat.reduceEqDiff, Nat.reduceLeDiff, Nat.reduceMul, Nat.reduceLT, Int.reduceLT, Int.reduceLE, Int.reduceAdd, Int.reduceSub, Int.reduceMul, Int.reduceNeg, Int.reduceEq, Int.reduceNe, Int.reduceToNat, decide_true, decide_false, iaddr_i, iaddr_sl_i, not_true_eq_false, not_false_eq_true, reduceCtorEq, ne_eq, forall_const, false_imp_iff, true_imp_iff, implies_true, Int.cast_ofNat_Int, Int.natCast_zero, Int.natCast_one, Int.add_zero, Int.zero_add]
    by_cases hg : fine3 a b c
    · simp only [duo, newL, newE, if_pos hg, Led.enc]
      unfold fine3 at hg
      have e1 : ¬ 281474976710656 < a := by omega
      have e2 : ¬ 281474976710656 < b := by omega
      have e3 : ¬ 281474976710656 < c := by omega
      simp (maxSteps := 1000000) (disch := omega) only [e1, e2, e3, go_sem, ↓reduceIte, Nat.reduceBEq, Nat.reduceAdd, Nat.reduceSub, Nat.reduceEqDiff, Nat.reduceLeDiff, Nat.reduceMul, Nat.reduceLT, Int.reduceLT, Int.reduceLE, Int.reduceAdd, Int.reduceSub, Int.reduceMul, Int.reduceNeg, Int.reduceEq, Int.reduceNe, Int.reduceToNat, decide_true, decide_false, iaddr_i, iaddr_sl_i, not_true_eq_false, not_false_eq_true, reduceCtorEq, ne_eq, forall_const, false_imp_iff, true_imp_iff, implies_true, Int.cast_ofNat_Int, Int.natCast_zero, Int.natCast_one, Int.add_zero, Int.zero_add]
      exact wkv_drop rfl
    · simp only [duo, newL, newE, if_neg hg, Led.enc]
      unfold fine3 at hg
      have z : ∀ L : Mem, WkV S (.tu [.ag [.i .u64 0, .i .u64 0, .i .u64 0, .i .u64 0], .i .i64 181]) S (.tu [.ag [.i .u64 0, .i .u64 0, .i .u64 0, .i .u64 0], .i .i64 181]) (S ++ L) := fun L => wkv_drop rfl
      refine ⟨fun h1 => ⟨fun h2 => ⟨fun h3 => ?_, fun h3 => ?_⟩, fun h2 => ?_⟩, fun h1 => ?_⟩ <;> first | (exact z _) | (exfalso; omega)
  · cases h

/-- May the numbers be? -/
def s25 : Spec := fun args S => match args with
  | [.sl i 0 0 3 3 true] => match S[i]? with
    | some (.cells [.i .u64 a, .i .u64 b, .i .u64 c] 0 none true) => some (.i .i64 (newE a b c), S)
    | _ => none
  | [.sl i 0 0 2 2 true] => match S[i]? with
    | some (.cells [.i .u64 a, .i .u64 b] 0 none true) => some (.i .i64 (changeE a b), S)
    | _ => none
  | _ => none
theorem s25_ok : SpecOK Try.prog 25 s25 := by
  intro args S x S' h
  unfold s25 at h
  split at h
  · split at h
    · rename_i i _ a b c hS
      cases h
      refine fn_of_wp f25 rfl (W_sound none_ok mixed _ _ _ _ _ ?_)
      simp (maxSteps := 1000000) (disch := omega) only [c25, go_sem, ↓reduceIte, Nat.reduceBEq, Nat.reduceAdd, Nat.reduceSub, Nat.reduceEqDiff, Nat.reduceLeDiff, Nat.reduceMul, Nat.reduceLT, Int.reduceLT, Int.reduceLE, Int.reduceAdd, Int.reduceSub, Int.reduceMul, Int.reduceNeg, Int.reduceEq, Int.reduceNe, Int.reduceToNat, decide_true, decide_false, iaddr_i, iaddr_sl_i, not_true_eq_false, not_false_eq_true, reduceCtorEq, ne_eq, forall_const, false_imp_iff, true_imp_iff, implies_true, Int.cast_ofNat_Int, Int.natCast_zero, Int.natCast_one, Int.add_zero, Int.zero_add]
      refine wp_unroll none_ok mixed 5 ?_
      simp (maxSteps := 1000000) (disch := omega) only [c25l0, hS, go_sem, ↓reduceIte, Nat.reduceBEq, Nat.reduceAdd, Nat.reduceSub, Nat.reduceEqDiff, Nat.reduceLeDiff, Nat.reduceMul, Nat.reduceLT, Int.reduceLT, Int.reduceLE, Int.reduceAdd, Int.reduceSub, Int.reduceMul, Int.reduceNeg, Int.reduceEq, Int.reduceNe, Int.reduceToNat, decide_true, decide_false, iaddr_i, iaddr_sl_i, not_true_eq_false, not_false_eq_true, reduceCtorEq, ne_eq, forall_const, false_imp_iff, true_imp_iff, implies_true, Int.cast_ofNat_Int, Int.natCast_zero, Int.natCast_one, Int.add_zero, Int.zero_add]
      by_cases hg : fine3 a b c
      · simp only [newE, if_pos hg]
        unfold fine3 at hg
        refine ⟨fun h1 => by omega, fun h1 => ⟨fun h2 => by omega, fun h2 => ⟨fun h3 => by omega, fun h3 => ?_⟩⟩⟩
        exact wkv_same
      · simp only [newE, if_neg hg]
        unfold fine3 at hg
        refine ⟨fun h1 => wkv_same, fun h1 => ⟨fun h2 => wkv_same, fun h2 => ⟨fun h3 => wkv_same, fun h3 => by omega⟩⟩⟩
    · cases h
  · split at h
    · rename_i i _ a b hS
      cases h
      refine fn_of_wp f25 rfl (W_sound none_ok mixed _ _ _ _ _ ?_)
      simp (maxSteps := 1000000) (disch := omega) only [c25, go_sem, ↓reduceIte, Nat.reduceBEq, Nat.reduceAdd, Nat.reduceSub, Nat.reduceEqDiff, Nat.reduceLeDiff, Nat.reduceMul, Nat.reduceLT, Int.reduceLT, Int.reduceLE, Int.reduceAdd, Int.reduceSub, Int.reduceMul, Int.reduceNeg, Int.reduceEq, Int.reduceNe, Int.reduceToNat, decide_true, decide_false, iaddr_i, iaddr_sl_i, not_true_eq_false, not_false_eq_true, reduceCtorEq, ne_eq, forall_const, false_imp_iff, true_imp_iff, implies_true, Int.cast_ofNat_Int, Int.natCast_zero, Int.natCast_one, Int.add_zero, Int.zero_add]
      refine wp_unroll none_ok mixed 5 ?_
      simp (maxSteps := 1000000) (disch := omega) only [c25l0, hS, go_sem, ↓reduceIte, Nat.reduceBEq, Nat.reduceAdd, Nat.reduceSub, Nat.reduceEqDiff, Nat.reduceLeDiff, Nat.reduceMul, Nat.reduceLT, Int.reduceLT, Int.reduceLE, Int.reduceAdd, Int.reduceSub, Int.reduceMul, Int.reduceNeg, Int.reduceEq, Int.reduceNe, Int.reduceToNat, decide_true, decide_false, iaddr_i, iaddr_sl_i, not_true_eq_false, not_false_eq_true, reduceCtorEq, ne_eq, forall_const, false_imp_iff, true_imp_iff, implies_true, Int.cast_ofNat_Int, Int.natCast_zero, Int.natCast_one, Int.add_zero, Int.zero_add]
      by_cases hg : fine a b
      · simp only [changeE, if_pos hg]
        unfold fine at hg
        refine ⟨fun h1 => by omega, fun h1 => ⟨fun h2 => by omega, fun h2 => ?_⟩⟩
        exact wkv_same
      · simp only [changeE, if_neg hg]
        unfold fine at hg
        refine ⟨fun h1 => wkv_same, fun h1 => ⟨fun h2 => wkv_same, fun h2 => by omega⟩⟩
    · cases h
  · cases h

theorem o8_ok : OK Try.prog (lamOf Try.prog) (orcOf [(25, s25)]) := orc_ok (by simpa using s25_ok)
def nwSpec : Spec := fun args S => match args with
  | [.i .u64 a, .i .u64 b, .i .u64 c] => if fine3 a b c then some (.tu [.p S.length 0 0, .i .i64 0], S ++ [(newL a b c).blk]) else some (.tu [.pn, .i .i64 181], S)
  | _ => none
theorem s8_ok : SpecOK Try.prog 8 nwSpec := by
  intro args S x S' h
  unfold nwSpec at h
  split at h
  · rename_i a b c
    by_cases hg : fine3 a b c
    · rw [if_pos hg] at h
      cases h
      refine fn_of_wp f8 rfl (W_sound o8_ok mixed _ _ _ _ _ ?_)
      simp (maxSteps := 1000000) (disch := omega) only [c8, orc_cons, s25, newE, if_pos hg, List.replicate_succ, List.replicate_zero, go_sem, ↓reduceIte, Nat.reduceBEq, Nat.reduceAdd, Nat.reduceSub, Nat.reduceEqDiff, Nat.reduceLeDiff, Nat.reduceMul, Nat.reduceLT, Int.reduceLT, Int.reduceLE, Int.reduceAdd, Int.reduceSub, Int.reduceMul, Int.reduceNeg, Int.reduceEq, Int.reduceNe, Int.reduceToNat, decide_true, decide_false, iaddr_i, iaddr_sl_i, not_true_eq_false, not_false_eq_true, reduceCtorEq, ne_eq, forall_const, false_imp_iff, true_imp_iff, implies_true, Int.cast_ofNat_Int, Int.natCast_zero, Int.natCast_one, Int.add_zero, Int.zero_add]
      have := wkv_keep (S0 := S) (L := [.cells [.i .u64 a, .i .u64 b, .i .u64 c] 0 none true, .cells [.i .u64 a, .i .u64 b, .i .u64 c, .i .u64 c] 0 none true]) (y := .tu [.p (S.length + 1) 0 0, .i .i64 0]) [1] (by rfl) (by simp)
      simp (maxSteps := 1000000) (disch := omega) only [List.findIdx?_cons, List.getD_cons_succ, List.getD_cons_zero, beq_self_eq_true, go_sem, ↓reduceIte, Nat.reduceBEq, Nat.reduceAdd, Nat.reduceSub, Nat.reduceEqDiff, Nat.reduceLeDiff, Nat.reduceMul, Nat.reduceLT, Int.reduceLT, Int.reduceLE, Int.reduceAdd, Int.reduceSub, Int.reduceMul, Int.reduceNeg, Int.reduceEq, Int.reduceNe, Int.reduceToNat, decide_true, decide_false, iaddr_i, iaddr_sl_i, not_true_eq_false, not_false_eq_true, reduceCtorEq, ne_eq, forall_const, false_imp_iff, true_imp_iff, implies_true, Int.cast_ofNat_Int, Int.natCast_zero, Int.natCast_one, Int.add_zero, Int.zero_add] at this
      simp only [Led.blk, Led.enc, newL, if_pos hg]
      exact this
    · rw [if_neg hg] at h
      cases h
      refine fn_of_wp f8 rfl (W_sound o8_ok mixed _ _ _ _ _ ?_)
      simp (maxSteps := 1000000) (disch := omega) only [c8, orc_cons, s25, newE, if_neg hg, List.replicate_succ, List.replicate_zero, go_sem, ↓reduceIte, Nat.reduceBEq, Nat.reduceAdd, Nat.reduceSub, Nat.reduceEqDiff, Nat.reduceLeDiff, Nat.reduceMul, Nat.reduceLT, Int.reduceLT, Int.reduceLE, Int.reduceAdd, Int.reduceSub, Int.reduceMul, Int.reduceNeg, Int.reduceEq, Int.reduceNe, Int.reduceToNat, decide_true, decide_false, iaddr_i, iaddr_sl_i, not_true_eq_false, not_false_eq_true, reduceCtorEq, ne_eq, forall_const, false_imp_iff, true_imp_iff, implies_true, Int.cast_ofNat_Int, Int.natCast_zero, Int.natCast_one, Int.add_zero, Int.zero_add]
      exact wkv_drop rfl
  · cases h

def chSpec : Spec := fun args S => match args with
  | [.p i 0 0, .i .u64 a, .i .u64 b] => match ledB (S[i]?) with
    | some L => some (.i .i64 (changeE a b), S.set i (L.change a b).blk)
    | none => none
  | _ => none
theorem s15_ok : SpecOK Try.prog 15 chSpec := by
  intro args S x S' h
  unfold chSpec at h
  split at h
  · split at h
    · rename_i i a b _ L hL
      cases h
      have hS := ledB_some hL
      have hi := (List.getElem?_eq_some_iff.1 hS).1
      obtain ⟨q1, q2, q3, q4, q5, q6⟩ := old_at hS
      refine fn_of_wp f15 rfl (W_sound o8_ok mixed _ _ _ _ _ ?_)
      by_cases hg : fine a b
      · simp (maxSteps := 1000000) (disch := omega) only [c15, orc_cons, s25, changeE, if_pos hg, List.replicate_succ, List.replicate_zero, q1, q2, q3, q4, q5, q6, Led.blk, Led.enc, go_sem, ↓reduceIte, Nat.reduceBEq, Nat.reduceAdd, Nat.reduceSub, Nat.reduceEqDiff, Nat.reduceLeDiff, Nat.reduceMul, Nat.reduceLT, Int.reduceLT, Int.reduceLE, Int.reduceAdd, Int.reduceSub, Int.reduceMul, Int.reduceNeg, Int.reduceEq, Int.reduceNe, Int.reduceToNat, decide_true, decide_false, iaddr_i, iaddr_sl_i, not_true_eq_false, not_false_eq_true, reduceCtorEq, ne_eq, forall_const, false_imp_iff, true_imp_iff, implies_true, Int.cast_ofNat_Int, Int.natCast_zero, Int.natCast_one, Int.add_zero, Int.zero_add]
        have := fun M => wkv_drop' (S0 := S) (S1 := S.set i (L.change a b).blk) (L := M) (x := .i .i64 0) (by simp) (set_closed (Led.flat _ _)) (fun g => rfl)
        simp only [Led.change, if_pos hg, Led.blk, Led.enc] at this ⊢
        exact this _
      · simp (maxSteps := 1000000) (disch := omega) only [c15, orc_cons, s25, changeE, if_neg hg, List.replicate_succ, List.replicate_zero, q1, q2, q3, q4, q5, q6, go_sem, ↓reduceIte, Nat.reduceBEq, Nat.reduceAdd, Nat.reduceSub, Nat.reduceEqDiff, Nat.reduceLeDiff, Nat.reduceMul, Nat.reduceLT, Int.reduceLT, Int.reduceLE, Int.reduceAdd, Int.reduceSub, Int.reduceMul, Int.reduceNeg, Int.reduceEq, Int.reduceNe, Int.reduceToNat, decide_true, decide_false, iaddr_i, iaddr_sl_i, not_true_eq_false, not_false_eq_true, reduceCtorEq, ne_eq, forall_const, false_imp_iff, true_imp_iff, implies_true, Int.cast_ofNat_Int, Int.natCast_zero, Int.natCast_one, Int.add_zero, Int.zero_add]
        simp only [Led.change, if_neg hg]
        rw [set_same hS]
        exact wkv_drop rfl
    · cases h
  · cases h
end Go.Proofs.Ytbggleijjoleiaa
