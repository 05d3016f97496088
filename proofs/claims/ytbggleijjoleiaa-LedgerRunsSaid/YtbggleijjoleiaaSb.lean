/- Proved here: what the functions of a ledger, and of the document's ledger, compute. No condition. -/
import Derived.Test.YtbggleijjoleiaaS
namespace Go.Proofs.Ytbggleijjoleiaa
open Go.RowKit
set_option linter.unusedSimpArgs false
set_option linter.unusedVariables false
set_option maxRecDepth 10000

def ledB (o : Option Blk) : Option Led := match o with
  | some (.cells [.i .u64 q, .i .u64 l, .i .u64 g, .i .u64 u] 0 none true) => some ⟨q, l, g, u⟩
  | _ => none
theorem ledB_blk (x : Led) : ledB (some x.blk) = some x := rfl
theorem ledB_some {o : Option Blk} {x : Led} (h : ledB o = some x) : o = some x.blk := by
  unfold ledB at h
  split at h
  · cases h; rfl
  · cases h
theorem led_eta (x : Led) : (⟨x.q, x.l, x.g, x.u⟩ : Led) = x := rfl
theorem set_same {S : Mem} {i : Nat} {B : Blk} (h : S[i]? = some B) : S.set i B = S := by
  obtain ⟨hi, e⟩ := List.getElem?_eq_some_iff.1 h
  rw [← e]; simp

/-- A method that tells. -/
def qSpec (f : Led → Int → AV) : Spec := fun args S => match args with
  | [.p i 0 0, .i .u64 n] => match ledB (S[i]?) with
    | some L => if L.ok ∧ u64 n then some (f L n, S) else none
    | none => none
  | _ => none
/-- A method that does. -/
def mSpec (f : Led → Int → AV) (g : Led → Int → Led) : Spec := fun args S => match args with
  | [.p i 0 0, .i .u64 n] => match ledB (S[i]?) with
    | some L => if L.ok ∧ u64 n then some (f L n, S.set i (g L n).blk) else none
    | none => none
  | _ => none
def rSpec (f : Led → Int → AV) : Spec := fun args S => match args with
  | [.ag [.i .u64 q, .i .u64 l, .i .u64 g, .i .u64 u], .i .u64 n] => if (⟨q, l, g, u⟩ : Led).ok ∧ u64 n then some (f ⟨q, l, g, u⟩ n, S) else none
  | _ => none

theorem qSpec_ok {k : Nat} {f : Led → Int → AV} (h : ∀ (S : Mem) (i : Nat) (L : Led) (n : Int), S[i]? = some L.blk → L.ok → u64 n → FnOK Try.prog k [.p i 0 0, .i .u64 n] S (f L n) S) : SpecOK Try.prog k (qSpec f) := by
  intro args S x S' hv
  unfold qSpec at hv
  split at hv
  · split at hv
    · rename_i L hL
      split at hv
      · rename_i hc; cases hv; exact h _ _ _ _ (ledB_some hL) hc.1 hc.2
      · cases hv
    · cases hv
  · cases hv
theorem mSpec_ok {k : Nat} {f : Led → Int → AV} {g : Led → Int → Led} (h : ∀ (S : Mem) (i : Nat) (L : Led) (n : Int), S[i]? = some L.blk → L.ok → u64 n → FnOK Try.prog k [.p i 0 0, .i .u64 n] S (f L n) (S.set i (g L n).blk)) : SpecOK Try.prog k (mSpec f g) := by
  intro args S x S' hv
  unfold mSpec at hv
  split at hv
  · split at hv
    · rename_i L hL
      split at hv
      · rename_i hc; cases hv; exact h _ _ _ _ (ledB_some hL) hc.1 hc.2
      · cases hv
    · cases hv
  · cases hv
theorem rSpec_ok {k : Nat} {f : Led → Int → AV} (h : ∀ (S : Mem) (L : Led) (n : Int), L.ok → u64 n → FnOK Try.prog k [.ag L.enc, .i .u64 n] S (f L n) S) : SpecOK Try.prog k (rSpec f) := by
  intro args S x S' hv
  unfold rSpec at hv
  split at hv
  · split at hv
    · rename_i hc; cases hv; exact h _ ⟨_, _, _, _⟩ _ hc.1 hc.2
    · cases hv
  · cases hv

theorem s10_ok : SpecOK Try.prog 10 (qSpec fun L n => .b (decide (L.covers n))) := qSpec_ok fun S i L n hS hL hn => by
  refine fn_of_wp f10 rfl (W_sound none_ok mixed _ _ _ _ _ ?_)
  have hL' := hL; have hn' := hn
  unfold Led.ok at hL'; unfold u64 at hn'
  simp (maxSteps := 1000000) (disch := omega) only [c10, hS, Led.blk, Led.enc, go_sem, ↓reduceIte, Nat.reduceBEq, Nat.reduceAdd, Nat.reduceSub, Nat.reduceEqDiff, Nat.reduceLeDiff, Nat.reduceMul, Nat.reduceLT, Int.reduceLT, Int.reduceLE, Int.reduceAdd, Int.reduceSub, Int.reduceMul, Int.reduceNeg, Int.reduceEq, Int.reduceNe, Int.reduceToNat, decide_true, decide_false, iaddr_i, iaddr_sl_i, not_true_eq_false, not_false_eq_true, reduceCtorEq, ne_eq, forall_const, false_imp_iff, true_imp_iff, implies_true, Int.cast_ofNat_Int, Int.natCast_zero, Int.natCast_one, Int.add_zero, Int.zero_add]
  refine wkv_eq wkv_same ?_ rfl
  congr 1; rw [decide_eq_decide]; unfold Led.covers; omega

/-- Methods without an argument. -/
def nL (f : Led → AV) (g : Led → Option Led) (o : Option Led) (i : Nat) (S : Mem) : Option (AV × Mem) := match o with
  | some L => match g L with
    | some L' => some (f L, S.set i L'.blk)
    | none => some (f L, S)
  | none => none
def nSpec (f : Led → AV) (g : Led → Option Led) : Spec := fun args S => match args with
  | [.p i 0 0] => nL f g (ledB (S[i]?)) i S
  | _ => none
theorem nSpec_app {f : Led → AV} {g : Led → Option Led} {i : Nat} {S : Mem} : nSpec f g [.p i 0 0] S = nL f g (ledB (S[i]?)) i S := rfl
theorem nSpec_tell {k : Nat} {f : Led → AV} (h : ∀ (S : Mem) (i : Nat) (L : Led), S[i]? = some L.blk → FnOK Try.prog k [.p i 0 0] S (f L) S) : SpecOK Try.prog k (nSpec f fun _ => none) := by
  intro args S x S' hv
  unfold nSpec at hv
  split at hv
  · unfold nL at hv
    split at hv
    · rename_i L hL; cases hv; exact h _ _ _ (ledB_some hL)
    · cases hv
  · cases hv
theorem nSpec_do {k : Nat} {f : Led → AV} {g : Led → Led} (h : ∀ (S : Mem) (i : Nat) (L : Led), S[i]? = some L.blk → FnOK Try.prog k [.p i 0 0] S (f L) (S.set i (g L).blk)) : SpecOK Try.prog k (nSpec f fun L => some (g L)) := by
  intro args S x S' hv
  unfold nSpec at hv
  split at hv
  · unfold nL at hv
    split at hv
    · rename_i L hL; cases hv; exact h _ _ _ (ledB_some hL)
    · cases hv
  · cases hv

theorem s14_ok : SpecOK Try.prog 14 (nSpec (fun L => .i .u64 L.u) fun _ => none) := nSpec_tell fun S i L hS => by
  refine fn_of_wp f14 rfl (W_sound none_ok mixed _ _ _ _ _ ?_)
  simp (maxSteps := 1000000) (disch := omega) only [c14, hS, Led.blk, Led.enc, go_sem, ↓reduceIte, Nat.reduceBEq, Nat.reduceAdd, Nat.reduceSub, Nat.reduceEqDiff, Nat.reduceLeDiff, Nat.reduceMul, Nat.reduceLT, Int.reduceLT, Int.reduceLE, Int.reduceAdd, Int.reduceSub, Int.reduceMul, Int.reduceNeg, Int.reduceEq, Int.reduceNe, Int.reduceToNat, decide_true, decide_false, iaddr_i, iaddr_sl_i, not_true_eq_false, not_false_eq_true, reduceCtorEq, ne_eq, forall_const, false_imp_iff, true_imp_iff, implies_true, Int.cast_ofNat_Int, Int.natCast_zero, Int.natCast_one, Int.add_zero, Int.zero_add]
  exact wkv_same
theorem s12_ok : SpecOK Try.prog 12 (nSpec (fun L => .i .u64 L.g) fun _ => none) := nSpec_tell fun S i L hS => by
  refine fn_of_wp f12 rfl (W_sound none_ok mixed _ _ _ _ _ ?_)
  simp (maxSteps := 1000000) (disch := omega) only [c12, hS, Led.blk, Led.enc, go_sem, ↓reduceIte, Nat.reduceBEq, Nat.reduceAdd, Nat.reduceSub, Nat.reduceEqDiff, Nat.reduceLeDiff, Nat.reduceMul, Nat.reduceLT, Int.reduceLT, Int.reduceLE, Int.reduceAdd, Int.reduceSub, Int.reduceMul, Int.reduceNeg, Int.reduceEq, Int.reduceNe, Int.reduceToNat, decide_true, decide_false, iaddr_i, iaddr_sl_i, not_true_eq_false, not_false_eq_true, reduceCtorEq, ne_eq, forall_const, false_imp_iff, true_imp_iff, implies_true, Int.cast_ofNat_Int, Int.natCast_zero, Int.natCast_one, Int.add_zero, Int.zero_add]
  exact wkv_same

def s27 : Spec := fun args S => match args with
  | [.i .u64 a, .i .u64 b] => some (.i .u64 (wrapV .u64 (a - min a b)), S)
  | _ => none
theorem s27_ok : SpecOK Try.prog 27 s27 := by
  intro args S x S' h
  simp only [s27] at h
  split at h
  · cases h
    refine fn_of_wp f27 rfl (W_sound none_ok mixed _ _ _ _ _ ?_)
    simp (maxSteps := 1000000) (disch := omega) only [c27, go_sem, ↓reduceIte, Nat.reduceBEq, Nat.reduceAdd, Nat.reduceSub, Nat.reduceEqDiff, Nat.reduceLeDiff, Nat.reduceMul, Nat.reduceLT, Int.reduceLT, Int.reduceLE, Int.reduceAdd, Int.reduceSub, Int.reduceMul, Int.reduceNeg, Int.reduceEq, Int.reduceNe, Int.reduceToNat, decide_true, decide_false, iaddr_i, iaddr_sl_i, not_true_eq_false, not_false_eq_true, reduceCtorEq, ne_eq, forall_const, false_imp_iff, true_imp_iff, implies_true, Int.cast_ofNat_Int, Int.natCast_zero, Int.natCast_one, Int.add_zero, Int.zero_add]
    exact wkv_same
  · cases h

theorem o23_ok : OK Try.prog (lamOf Try.prog) (orcOf [(27, s27)]) := orc_ok (by simpa using s27_ok)
theorem s23_ok : SpecOK Try.prog 23 (qSpec fun L n => .b (decide (L.may n))) := qSpec_ok fun S i L n hS hL hn => by
  refine fn_of_wp f23 rfl (W_sound o23_ok mixed _ _ _ _ _ ?_)
  have hL' := hL; have hn' := hn
  unfold Led.ok at hL'; unfold u64 at hn'
  simp (maxSteps := 1000000) (disch := omega) only [c23, hS, Led.blk, Led.enc, orc_cons, s27, go_sem, ↓reduceIte, Nat.reduceBEq, Nat.reduceAdd, Nat.reduceSub, Nat.reduceEqDiff, Nat.reduceLeDiff, Nat.reduceMul, Nat.reduceLT, Int.reduceLT, Int.reduceLE, Int.reduceAdd, Int.reduceSub, Int.reduceMul, Int.reduceNeg, Int.reduceEq, Int.reduceNe, Int.reduceToNat, decide_true, decide_false, iaddr_i, iaddr_sl_i, not_true_eq_false, not_false_eq_true, reduceCtorEq, ne_eq, forall_const, false_imp_iff, true_imp_iff, implies_true, Int.cast_ofNat_Int, Int.natCast_zero, Int.natCast_one, Int.add_zero, Int.zero_add]
  refine ⟨fun h1 => ?_, fun h1 => ?_⟩ <;> refine wkv_eq wkv_same ?_ rfl
  · congr 1; rw [decide_eq_decide]; unfold Led.may; omega
  · congr 1; exact decide_eq_false (by unfold Led.may; omega)

def qL (f : Led → Int → AV) (o : Option Led) (n : Int) (S : Mem) : Option (AV × Mem) := match o with
  | some L => if L.ok ∧ u64 n then some (f L n, S) else none
  | none => none
theorem qSpec_app {f : Led → Int → AV} {i : Nat} {n : Int} {S : Mem} : qSpec f [.p i 0 0, .i .u64 n] S = qL f (ledB (S[i]?)) n S := by
  unfold qSpec qL; rfl
theorem qL_some {f : Led → Int → AV} {L : Led} {n : Int} {S : Mem} : qL f (some L) n S = if L.ok ∧ u64 n then some (f L n, S) else none := rfl
def mL (f : Led → Int → AV) (g : Led → Int → Led) (o : Option Led) (i : Nat) (n : Int) (S : Mem) : Option (AV × Mem) := match o with
  | some L => if L.ok ∧ u64 n then some (f L n, S.set i (g L n).blk) else none
  | none => none
theorem mSpec_app {f : Led → Int → AV} {g : Led → Int → Led} {i : Nat} {n : Int} {S : Mem} : mSpec f g [.p i 0 0, .i .u64 n] S = mL f g (ledB (S[i]?)) i n S := by
  unfold mSpec mL; rfl
theorem mL_some {f : Led → Int → AV} {g : Led → Int → Led} {L : Led} {i : Nat} {n : Int} {S : Mem} : mL f g (some L) i n S = if L.ok ∧ u64 n then some (f L n, S.set i (g L n).blk) else none := rfl
theorem rSpec_app {f : Led → Int → AV} {q l g u n : Int} {S : Mem} : rSpec f [.ag [.i .u64 q, .i .u64 l, .i .u64 g, .i .u64 u], .i .u64 n] S = if (⟨q, l, g, u⟩ : Led).ok ∧ u64 n then some (f ⟨q, l, g, u⟩ n, S) else none := rfl

theorem o9_ok : OK Try.prog (lamOf Try.prog) (orcOf [(10, qSpec fun L n => .b (decide (L.covers n))), (23, qSpec fun L n => .b (decide (L.may n)))]) := orc_ok (by simpa using ⟨s10_ok, s23_ok⟩)
theorem s9_ok : SpecOK Try.prog 9 (qSpec fun L n => .i .u64 (L.want n)) := qSpec_ok fun S i L n hS hL hn => by
  refine fn_of_wp f9 rfl (W_sound o9_ok mixed _ _ _ _ _ ?_)
  have hL' := hL; have hn' := hn
  unfold Led.ok at hL'; unfold u64 at hn'
  simp (maxSteps := 1000000) (disch := omega) only [c9, orc_cons, qSpec_app, hS, ledB_blk, qL_some, hL, hn, and_self, go_sem, ↓reduceIte, Nat.reduceBEq, Nat.reduceAdd, Nat.reduceSub, Nat.reduceEqDiff, Nat.reduceLeDiff, Nat.reduceMul, Nat.reduceLT, Int.reduceLT, Int.reduceLE, Int.reduceAdd, Int.reduceSub, Int.reduceMul, Int.reduceNeg, Int.reduceEq, Int.reduceNe, Int.reduceToNat, decide_true, decide_false, iaddr_i, iaddr_sl_i, not_true_eq_false, not_false_eq_true, reduceCtorEq, ne_eq, forall_const, false_imp_iff, true_imp_iff, implies_true, Int.cast_ofNat_Int, Int.natCast_zero, Int.natCast_one, Int.add_zero, Int.zero_add]
  unfold Led.want
  refine ⟨fun h1 => ?_, fun h1 => ⟨fun h2 => ?_, fun h2 => ?_⟩⟩
  · simp (maxSteps := 1000000) (disch := omega) only [hS, Led.blk, Led.enc, go_sem, ↓reduceIte, Nat.reduceBEq, Nat.reduceAdd, Nat.reduceSub, Nat.reduceEqDiff, Nat.reduceLeDiff, Nat.reduceMul, Nat.reduceLT, Int.reduceLT, Int.reduceLE, Int.reduceAdd, Int.reduceSub, Int.reduceMul, Int.reduceNeg, Int.reduceEq, Int.reduceNe, Int.reduceToNat, decide_true, decide_false, iaddr_i, iaddr_sl_i, not_true_eq_false, not_false_eq_true, reduceCtorEq, ne_eq, forall_const, false_imp_iff, true_imp_iff, implies_true, Int.cast_ofNat_Int, Int.natCast_zero, Int.natCast_one, Int.add_zero, Int.zero_add]
    refine wkv_eq wkv_same ?_ rfl; rw [if_pos h1]
  · refine wkv_eq wkv_same ?_ rfl; rw [if_neg h1, if_neg h2]
  · have h2 : L.may n := Classical.not_not.1 h2
    have h3 := h2
    unfold Led.may at h3
    simp (maxSteps := 1000000) (disch := omega) only [hS, Led.blk, Led.enc, go_sem, ↓reduceIte, Nat.reduceBEq, Nat.reduceAdd, Nat.reduceSub, Nat.reduceEqDiff, Nat.reduceLeDiff, Nat.reduceMul, Nat.reduceLT, Int.reduceLT, Int.reduceLE, Int.reduceAdd, Int.reduceSub, Int.reduceMul, Int.reduceNeg, Int.reduceEq, Int.reduceNe, Int.reduceToNat, decide_true, decide_false, iaddr_i, iaddr_sl_i, not_true_eq_false, not_false_eq_true, reduceCtorEq, ne_eq, forall_const, false_imp_iff, true_imp_iff, implies_true, Int.cast_ofNat_Int, Int.natCast_zero, Int.natCast_one, Int.add_zero, Int.zero_add]
    refine wkv_eq wkv_same ?_ rfl; rw [if_neg h1, if_pos h2]

theorem s11_ok : SpecOK Try.prog 11 (mSpec (fun L n => .i .i64 (L.grantE n)) Led.grant) := mSpec_ok fun S i L n hS hL hn => by
  refine fn_of_wp f11 rfl (W_sound none_ok mixed _ _ _ _ _ ?_)
  simp (maxSteps := 1000000) (disch := omega) only [c11, hS, Led.blk, Led.enc, go_sem, ↓reduceIte, Nat.reduceBEq, Nat.reduceAdd, Nat.reduceSub, Nat.reduceEqDiff, Nat.reduceLeDiff, Nat.reduceMul, Nat.reduceLT, Int.reduceLT, Int.reduceLE, Int.reduceAdd, Int.reduceSub, Int.reduceMul, Int.reduceNeg, Int.reduceEq, Int.reduceNe, Int.reduceToNat, decide_true, decide_false, iaddr_i, iaddr_sl_i, not_true_eq_false, not_false_eq_true, reduceCtorEq, ne_eq, forall_const, false_imp_iff, true_imp_iff, implies_true, Int.cast_ofNat_Int, Int.natCast_zero, Int.natCast_one, Int.add_zero, Int.zero_add]
  have neg : ¬ L.grants n → WkV S (.i .i64 (L.grantE n)) (S.set i (L.grant n).blk) (.i .i64 181) S := fun h => by
    refine wkv_eq ?_ (show AV.i .i64 (L.grantE n) = .i .i64 181 by simp only [Led.grantE, if_neg h]) rfl
    simp only [Led.grant, if_neg h]; rw [set_same hS]; exact wkv_same
  refine ⟨fun h1 => ⟨fun h2 => ?_, fun h2 => ?_⟩, fun h1 => ?_⟩
  · exact neg (by unfold Led.grants; omega)
  rotate_left
  · exact neg (by unfold Led.grants; omega)
  · have hg : L.grants n := by unfold Led.grants; omega
    refine wkv_eq ?_ (show AV.i .i64 (L.grantE n) = .i .i64 0 by simp only [Led.grantE, if_pos hg]) rfl
    simp only [Led.grant, if_pos hg, Led.blk, Led.enc]
    exact wkv_same

theorem o13_ok : OK Try.prog (lamOf Try.prog) (orcOf [(10, qSpec fun L n => .b (decide (L.covers n)))]) := orc_ok (by simpa using s10_ok)
theorem s13_ok : SpecOK Try.prog 13 (mSpec (fun L n => .b (decide (L.covers n))) Led.spend) := mSpec_ok fun S i L n hS hL hn => by
  refine fn_of_wp f13 rfl (W_sound o13_ok mixed _ _ _ _ _ ?_)
  have hL' := hL; have hn' := hn
  unfold Led.ok at hL'; unfold u64 at hn'
  simp (maxSteps := 1000000) (disch := omega) only [c13, orc_cons, qSpec_app, hS, ledB_blk, qL_some, hL, hn, and_self, go_sem, ↓reduceIte, Nat.reduceBEq, Nat.reduceAdd, Nat.reduceSub, Nat.reduceEqDiff, Nat.reduceLeDiff, Nat.reduceMul, Nat.reduceLT, Int.reduceLT, Int.reduceLE, Int.reduceAdd, Int.reduceSub, Int.reduceMul, Int.reduceNeg, Int.reduceEq, Int.reduceNe, Int.reduceToNat, decide_true, decide_false, iaddr_i, iaddr_sl_i, not_true_eq_false, not_false_eq_true, reduceCtorEq, ne_eq, forall_const, false_imp_iff, true_imp_iff, implies_true, Int.cast_ofNat_Int, Int.natCast_zero, Int.natCast_one, Int.add_zero, Int.zero_add]
  refine ⟨fun h1 => ?_, fun h1 => ?_⟩
  · have h2 := h1; unfold Led.covers at h2
    simp (maxSteps := 1000000) (disch := omega) only [hS, Led.blk, Led.enc, go_sem, ↓reduceIte, Nat.reduceBEq, Nat.reduceAdd, Nat.reduceSub, Nat.reduceEqDiff, Nat.reduceLeDiff, Nat.reduceMul, Nat.reduceLT, Int.reduceLT, Int.reduceLE, Int.reduceAdd, Int.reduceSub, Int.reduceMul, Int.reduceNeg, Int.reduceEq, Int.reduceNe, Int.reduceToNat, decide_true, decide_false, iaddr_i, iaddr_sl_i, not_true_eq_false, not_false_eq_true, reduceCtorEq, ne_eq, forall_const, false_imp_iff, true_imp_iff, implies_true, Int.cast_ofNat_Int, Int.natCast_zero, Int.natCast_one, Int.add_zero, Int.zero_add]
    simp only [Led.spend, if_pos h1]
    exact wkv_same
  · simp only [Led.spend, if_neg h1]; rw [set_same hS]; exact wkv_same

theorem s19_ok : SpecOK Try.prog 19 (nSpec (fun _ => .tu []) fun L => some L.roll) := nSpec_do fun S i L hS => by
  obtain ⟨q1, q2, q3, q4, q5, q6⟩ := old_at hS
  refine fn_of_wp f19 rfl (W_sound none_ok mixed _ _ _ _ _ ?_)
  simp (maxSteps := 1000000) (disch := omega) only [c19, hS, Led.blk, Led.enc, q3, q6, go_sem, ↓reduceIte, Nat.reduceBEq, Nat.reduceAdd, Nat.reduceSub, Nat.reduceEqDiff, Nat.reduceLeDiff, Nat.reduceMul, Nat.reduceLT, Int.reduceLT, Int.reduceLE, Int.reduceAdd, Int.reduceSub, Int.reduceMul, Int.reduceNeg, Int.reduceEq, Int.reduceNe, Int.reduceToNat, decide_true, decide_false, iaddr_i, iaddr_sl_i, not_true_eq_false, not_false_eq_true, reduceCtorEq, ne_eq, forall_const, false_imp_iff, true_imp_iff, implies_true, Int.cast_ofNat_Int, Int.natCast_zero, Int.natCast_one, Int.add_zero, Int.zero_add]
  exact wkv_same
end Go.Proofs.Ytbggleijjoleiaa
