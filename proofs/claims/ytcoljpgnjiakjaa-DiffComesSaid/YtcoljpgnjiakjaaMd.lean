/- Proved here: what the law of this claim leans on (an evaluator of the model's code, contracts of functions). No condition. -/
import Derived.Test.YtcoljpgnjiakjaaQCode
import Derived.Test.YtcoljpgnjiakjaaMc
namespace Go.Proofs.Ytcoljpgnjiakjaa
open Go.RowKit
set_option linter.unusedSimpArgs false
set_option linter.unusedVariables false
set_option maxRecDepth 10000

theorem none_ok : OK Try.prog (lamOf Try.prog) (orcOf []) := orc_ok (l := []) (fun p hp => by cases hp)
theorem wrapS {t : Nat} (h : t < 1000000) : wrapV .i64 ((t : Int) + 1) = ((t + 1 : Nat) : Int) := by rw [wrap_i64 (by omega) (by omega)]; omega
structure Pol where
  sub : Int
  a : Int
  b : Int
  c : Int
  d : Int
  bits : Int
  rate : Int
  burst : Int
  srate : Int
  sburst : Int
  quota : Int
  lease : Int
  quantum : Int
  deriving DecidableEq
def Pol.enc (p : Pol) : List AV := [.i .i64 p.sub, .i .u8 p.a, .i .u8 p.b, .i .u8 p.c, .i .u8 p.d, .i .i64 p.bits, .i .u64 p.rate, .i .u64 p.burst, .i .u64 p.srate, .i .u64 p.sburst, .i .u64 p.quota, .i .u64 p.lease, .i .u64 p.quantum]
def polE : Enc Pol where
  enc := Pol.enc
  dec r := match r with
    | [.i .i64 sub, .i .u8 a, .i .u8 b, .i .u8 c, .i .u8 d, .i .i64 bits, .i .u64 rate, .i .u64 burst, .i .u64 srate, .i .u64 sburst, .i .u64 quota, .i .u64 lease, .i .u64 quantum] => some ⟨sub, a, b, c, d, bits, rate, burst, srate, sburst, quota, lease, quantum⟩
    | _ => none
  sz := 13
  pos := by decide
  len _ := rfl
  de _ := rfl
  ed r a h := by
    split at h
    · injection h with h; subst h; rfl
    · cases h
theorem polE_one (a : Pol) : (polE.enc a).all AV.one = true := rfl
theorem polE_flat : ∀ (n : Nat) (a : Pol), ∀ c ∈ polE.enc a, AV.Flat n c := by
  intro n a
  simp only [polE, Pol.enc, List.forall_mem_cons, List.not_mem_nil, false_imp_iff, implies_true, and_true, Flat_i, and_self]
theorem ne_pol {a b : Pol} : eqAgV true [.int, .int, .int, .int, .int, .int, .int, .int, .int, .int, .int, .int, .int] (.ag (polE.enc a)) (.ag (polE.enc b)) = some (.b (decide (¬ a = b))) := by
  obtain ⟨a1, a2, a3, a4, a5, a6, a7, a8, a9, a10, a11, a12, a13⟩ := a
  obtain ⟨b1, b2, b3, b4, b5, b6, b7, b8, b9, b10, b11, b12, b13⟩ := b
  simp [eqAgV, eqCells, eqCell, polE, Pol.enc, Bool.beq_eq_decide_eq, and_assoc]
theorem eq_pol {a b : Pol} : eqAgV false [.int, .int, .int, .int, .int, .int, .int, .int, .int, .int, .int, .int, .int] (.ag (polE.enc a)) (.ag (polE.enc b)) = some (.b (decide (a = b))) := by
  obtain ⟨a1, a2, a3, a4, a5, a6, a7, a8, a9, a10, a11, a12, a13⟩ := a
  obtain ⟨b1, b2, b3, b4, b5, b6, b7, b8, b9, b10, b11, b12, b13⟩ := b
  simp [eqAgV, eqCells, eqCell, polE, Pol.enc, Bool.beq_eq_decide_eq, and_assoc]

/-! ### Rising -/
def risF : Int → List Pol → Bool
  | _, [] => true
  | n, p :: l => decide (n < p.sub) && risF p.sub l
def risS : Spec := fun args S => match args with
  | [x] => match lstV polE S x with
    | some l => if l.length ≤ 900000 then some (.b (risF 0 l), S) else none
    | none => none
  | _ => none
theorem ris_ok : SpecOK Try.prog 26 risS := by
  intro args S x S' h
  simp only [risS] at h
  split at h
  · rename_i s
    split at h
    · rename_i l hl
      split at h
      · rename_i hlim
        cases h
        refine fn_of_wp f26 rfl (W_sound none_ok mixed _ _ _ _ _ ?_)
        simp (maxSteps := 1000000) (disch := omega) only [c26, lst_len hl, go_sem, Option.map_none, Option.map_some, ↓reduceIte, Nat.reduceBEq, Nat.reduceAdd, Nat.reduceSub, Nat.reduceEqDiff, Nat.reduceLeDiff, Nat.reduceMul, Nat.reduceLT, Int.reduceLT, Int.reduceLE, Int.reduceAdd, Int.reduceSub, Int.reduceMul, Int.reduceNeg, Int.reduceEq, Int.reduceNe, Int.reduceToNat, decide_true, decide_false, iaddr_i, iaddr_sl_i, not_true_eq_false, not_false_eq_true, reduceCtorEq, ne_eq, forall_const, false_imp_iff, true_imp_iff, implies_true, Int.cast_ofNat_Int, Int.natCast_zero, Int.natCast_one, Int.add_zero, Int.zero_add]
        refine wp_loop (fun j e M dl => dl = [] ∧ ∃ (k : Nat) (n : Int), j = l.length - k ∧ k ≤ l.length ∧ S <+: M ∧ risF 0 l = risF n (l.drop k) ∧
          e.get 6 = s ∧ e.get 7 = .i .i64 l.length ∧ e.get 8 = .i .i64 k ∧ e.get 3 = .i .i64 n) (j := l.length) ⟨rfl, 0, 0, rfl, Nat.zero_le _, ext_refl, rfl, rfl, rfl, rfl, rfl⟩ ?_
        rintro j e M d' ⟨rfl, k, n, rfl, hk, hSM, hr, h6, h7, h8, h3⟩
        refine W_sound none_ok mixed _ _ _ _ _ ?_
        by_cases hkl : k < l.length
        · obtain ⟨bi, o, v, cap, ex, rfl⟩ := lst_sl hl hkl
          have hro := lstV_row (lst_ext hl hSM) hkl []
          rw [List.append_nil] at hro
          have hkI : (k : Int) < l.length := by omega
          have hk6 : k < 1000000 := by omega
          have hdr : l.drop k = l[k] :: l.drop (k + 1) := List.drop_eq_getElem_cons hkl
          rw [hdr] at hr
          have hro : rowB (M[bi]?) (o + k * 13) v 13 = some (l[k]).enc := hro
          generalize l[k] = p at hro hr
          simp only [Pol.enc] at hro
          simp only [risF] at hr
          by_cases hlt : n < p.sub
          · have hlt' : ¬ p.sub ≤ n := by omega
            rw [decide_eq_true hlt, Bool.true_and] at hr
            simp (maxSteps := 1000000) (disch := omega) only [c26l0, h6, h7, h8, h3, hkI, Int.toNat_natCast, hro, List.replicate, hlt', wrapS hk6, go_sem, Option.map_none, Option.map_some, ↓reduceIte, Nat.reduceBEq, Nat.reduceAdd, Nat.reduceSub, Nat.reduceEqDiff, Nat.reduceLeDiff, Nat.reduceMul, Nat.reduceLT, Int.reduceLT, Int.reduceLE, Int.reduceAdd, Int.reduceSub, Int.reduceMul, Int.reduceNeg, Int.reduceEq, Int.reduceNe, Int.reduceToNat, decide_true, decide_false, iaddr_i, iaddr_sl_i, not_true_eq_false, not_false_eq_true, reduceCtorEq, ne_eq, forall_const, false_imp_iff, true_imp_iff, implies_true, Int.cast_ofNat_Int, Int.natCast_zero, Int.natCast_one, Int.add_zero, Int.zero_add]
            exact ⟨l.length - (k + 1), by omega, k + 1, p.sub, rfl, hkl, ext_more hSM _, hr, rfl, rfl⟩
          · have hlt' : p.sub ≤ n := by omega
            rw [decide_eq_false hlt, Bool.false_and] at hr
            rw [hr]
            simp (maxSteps := 1000000) (disch := omega) only [c26l0, h6, h7, h8, h3, hkI, Int.toNat_natCast, hro, List.replicate, hlt', go_sem, Option.map_none, Option.map_some, ↓reduceIte, Nat.reduceBEq, Nat.reduceAdd, Nat.reduceSub, Nat.reduceEqDiff, Nat.reduceLeDiff, Nat.reduceMul, Nat.reduceLT, Int.reduceLT, Int.reduceLE, Int.reduceAdd, Int.reduceSub, Int.reduceMul, Int.reduceNeg, Int.reduceEq, Int.reduceNe, Int.reduceToNat, decide_true, decide_false, iaddr_i, iaddr_sl_i, not_true_eq_false, not_false_eq_true, reduceCtorEq, ne_eq, forall_const, false_imp_iff, true_imp_iff, implies_true, Int.cast_ofNat_Int, Int.natCast_zero, Int.natCast_one, Int.add_zero, Int.zero_add]
            exact wkv_dropP (ext_more hSM _) rfl
        · have hkI : ¬ (k : Int) < l.length := by omega
          rw [List.drop_of_length_le (by omega)] at hr
          rw [hr]
          simp (maxSteps := 1000000) (disch := omega) only [c26l0, h6, h7, h8, h3, hkI, go_sem, Option.map_none, Option.map_some, ↓reduceIte, Nat.reduceBEq, Nat.reduceAdd, Nat.reduceSub, Nat.reduceEqDiff, Nat.reduceLeDiff, Nat.reduceMul, Nat.reduceLT, Int.reduceLT, Int.reduceLE, Int.reduceAdd, Int.reduceSub, Int.reduceMul, Int.reduceNeg, Int.reduceEq, Int.reduceNe, Int.reduceToNat, decide_true, decide_false, iaddr_i, iaddr_sl_i, not_true_eq_false, not_false_eq_true, reduceCtorEq, ne_eq, forall_const, false_imp_iff, true_imp_iff, implies_true, Int.cast_ofNat_Int, Int.natCast_zero, Int.natCast_one, Int.add_zero, Int.zero_add]
          exact wkv_dropP hSM rfl
      · cases h
    · cases h
  · cases h

/-! ### SamePolicies -/
def samePS : Spec := fun args S => match args with
  | [x, y] => match lstV polE S x, lstV polE S y with
    | some l, some m => if l.length ≤ 900000 then some (.b (decide (l = m)), S) else none
    | _, _ => none
  | _ => none
theorem sameP_ok : SpecOK Try.prog 15 samePS := by
  intro args S x S' h
  simp only [samePS] at h
  split at h
  · rename_i s t
    split at h
    · rename_i l m hl hm
      split at h
      · rename_i hlim
        cases h
        refine fn_of_wp f15 rfl (W_sound none_ok mixed _ _ _ _ _ ?_)
        simp (maxSteps := 1000000) (disch := omega) only [c15, lst_len hl, lst_len hm, go_sem, Option.map_none, Option.map_some, ↓reduceIte, Nat.reduceBEq, Nat.reduceAdd, Nat.reduceSub, Nat.reduceEqDiff, Nat.reduceLeDiff, Nat.reduceMul, Nat.reduceLT, Int.reduceLT, Int.reduceLE, Int.reduceAdd, Int.reduceSub, Int.reduceMul, Int.reduceNeg, Int.reduceEq, Int.reduceNe, Int.reduceToNat, decide_true, decide_false, iaddr_i, iaddr_sl_i, not_true_eq_false, not_false_eq_true, reduceCtorEq, ne_eq, forall_const, false_imp_iff, true_imp_iff, implies_true, Int.cast_ofNat_Int, Int.natCast_zero, Int.natCast_one, Int.add_zero, Int.zero_add]
        refine ⟨fun hne => wkv_fP ext_refl fun q => hne (by rw [q]), fun he => ?_⟩
        have he : l.length = m.length := by omega
        refine wp_loop (fun j e M dl => dl = [] ∧ ∃ k : Nat, j = l.length - k ∧ k ≤ l.length ∧ M = S ∧ (∀ i (hi : i < k) (h1 : i < l.length) (h2 : i < m.length), l[i] = m[i]) ∧
          e.get 0 = s ∧ e.get 1 = t ∧ e.get 12 = .i .i64 l.length ∧ e.get 13 = .i .i64 k) (j := l.length) ⟨rfl, 0, rfl, Nat.zero_le _, rfl, fun i hi => absurd hi (Nat.not_lt_zero _), rfl, rfl, rfl, rfl⟩ ?_
        rintro j e M d' ⟨rfl, k, rfl, hk, rfl, hn, h0, h1, h12, h13⟩
        refine W_sound none_ok mixed _ _ _ _ _ ?_
        by_cases hkl : k < l.length
        · obtain ⟨bi, o, v, cap, ex, rfl⟩ := lst_sl hl hkl
          obtain ⟨bj, o2, v2, cap2, ex2, rfl⟩ := lst_sl hm (show k < m.length by omega)
          have hkI : (k : Int) < l.length := by omega
          have hk6 : k < 1000000 := by omega
          have ha := lstV_row hl hkl []
          have hb := lstV_row hm (show k < m.length by omega) []
          rw [List.append_nil] at ha hb
          have ha : rowB (M[bi]?) (o + k * 13) v 13 = some (polE.enc l[k]) := ha
          have hb : rowB (M[bj]?) (o2 + k * 13) v2 13 = some (polE.enc (m[k]'(by omega))) := hb
          simp (maxSteps := 1000000) (disch := omega) only [c15l1, h0, h1, h12, h13, hkI, Int.toNat_natCast, ha, hb, ne_pol, wrapS hk6, go_sem, Option.map_none, Option.map_some, ↓reduceIte, Nat.reduceBEq, Nat.reduceAdd, Nat.reduceSub, Nat.reduceEqDiff, Nat.reduceLeDiff, Nat.reduceMul, Nat.reduceLT, Int.reduceLT, Int.reduceLE, Int.reduceAdd, Int.reduceSub, Int.reduceMul, Int.reduceNeg, Int.reduceEq, Int.reduceNe, Int.reduceToNat, decide_true, decide_false, iaddr_i, iaddr_sl_i, not_true_eq_false, not_false_eq_true, reduceCtorEq, ne_eq, forall_const, false_imp_iff, true_imp_iff, implies_true, Int.cast_ofNat_Int, Int.natCast_zero, Int.natCast_one, Int.add_zero, Int.zero_add]
          refine ⟨fun hd => wkv_fP ext_refl fun q => hd (by subst q; rfl), fun hd => ⟨l.length - (k + 1), by omega, k + 1, rfl, hkl, fun i hi h1 h2 => ?_, rfl⟩⟩
          by_cases hik : i = k
          · subst hik; exact Decidable.not_not.1 hd
          · exact hn i (by omega) h1 h2
        · have hkI : ¬ (k : Int) < l.length := by omega
          simp (maxSteps := 1000000) (disch := omega) only [c15l1, h0, h1, h12, h13, hkI, go_sem, Option.map_none, Option.map_some, ↓reduceIte, Nat.reduceBEq, Nat.reduceAdd, Nat.reduceSub, Nat.reduceEqDiff, Nat.reduceLeDiff, Nat.reduceMul, Nat.reduceLT, Int.reduceLT, Int.reduceLE, Int.reduceAdd, Int.reduceSub, Int.reduceMul, Int.reduceNeg, Int.reduceEq, Int.reduceNe, Int.reduceToNat, decide_true, decide_false, iaddr_i, iaddr_sl_i, not_true_eq_false, not_false_eq_true, reduceCtorEq, ne_eq, forall_const, false_imp_iff, true_imp_iff, implies_true, Int.cast_ofNat_Int, Int.natCast_zero, Int.natCast_one, Int.add_zero, Int.zero_add]
          exact wkv_tP ext_refl (List.ext_getElem he fun i h1 h2 => hn i (by omega) h1 h2)
      · cases h
    · cases h
  · cases h

/-! ### great -/
def greatF (a b : List Pol) : Bool := decide (30 < a.length) || (decide (30 < b.length) || (!risF 0 a || !risF 0 b))
def greatS : Spec := fun args S => match args with
  | [x, y] => match lstV polE S x, lstV polE S y with
    | some l, some m => some (.b (greatF l m), S)
    | _, _ => none
  | _ => none
theorem oGr_ok : OK Try.prog (lamOf Try.prog) (orcOf [(26, risS)]) := orc_ok (by simpa using ris_ok)
theorem great_ok : SpecOK Try.prog 12 greatS := by
  intro args S x S' h
  simp only [greatS] at h
  split at h
  · rename_i s t
    split at h
    · rename_i l m hl hm
      cases h
      refine fn_of_wp f12 rfl (W_sound oGr_ok mixed _ _ _ _ _ ?_)
      unfold greatF
      by_cases h1 : 30 < l.length
      · have h1I : (30 : Int) < l.length := by omega
        simp (maxSteps := 1000000) (disch := omega) only [c12, lst_len hl, lst_len hm, h1, h1I, Bool.true_or, go_sem, Option.map_none, Option.map_some, ↓reduceIte, Nat.reduceBEq, Nat.reduceAdd, Nat.reduceSub, Nat.reduceEqDiff, Nat.reduceLeDiff, Nat.reduceMul, Nat.reduceLT, Int.reduceLT, Int.reduceLE, Int.reduceAdd, Int.reduceSub, Int.reduceMul, Int.reduceNeg, Int.reduceEq, Int.reduceNe, Int.reduceToNat, decide_true, decide_false, iaddr_i, iaddr_sl_i, not_true_eq_false, not_false_eq_true, reduceCtorEq, ne_eq, forall_const, false_imp_iff, true_imp_iff, implies_true, Int.cast_ofNat_Int, Int.natCast_zero, Int.natCast_one, Int.add_zero, Int.zero_add]
        exact wkv_same
      have h1I : ¬ (30 : Int) < l.length := by omega
      by_cases h2 : 30 < m.length
      · have h2I : (30 : Int) < m.length := by omega
        simp (maxSteps := 1000000) (disch := omega) only [c12, lst_len hl, lst_len hm, h1, h1I, h2, h2I, Bool.true_or, Bool.false_or, go_sem, Option.map_none, Option.map_some, ↓reduceIte, Nat.reduceBEq, Nat.reduceAdd, Nat.reduceSub, Nat.reduceEqDiff, Nat.reduceLeDiff, Nat.reduceMul, Nat.reduceLT, Int.reduceLT, Int.reduceLE, Int.reduceAdd, Int.reduceSub, Int.reduceMul, Int.reduceNeg, Int.reduceEq, Int.reduceNe, Int.reduceToNat, decide_true, decide_false, iaddr_i, iaddr_sl_i, not_true_eq_false, not_false_eq_true, reduceCtorEq, ne_eq, forall_const, false_imp_iff, true_imp_iff, implies_true, Int.cast_ofNat_Int, Int.natCast_zero, Int.natCast_one, Int.add_zero, Int.zero_add]
        exact wkv_same
      have h2I : ¬ (30 : Int) < m.length := by omega
      have r1 : risS [s] S = some (.b (risF 0 l), S) := by simp only [risS, hl]; rw [if_pos (by omega)]
      have r2 : risS [t] S = some (.b (risF 0 m), S) := by simp only [risS, hm]; rw [if_pos (by omega)]
      cases hr1 : risF 0 l with
      | false =>
        rw [hr1] at r1
        simp (maxSteps := 1000000) (disch := omega) only [c12, lst_len hl, lst_len hm, h1, h1I, h2, h2I, Bool.true_or, Bool.false_or, orc_cons, r1, Bool.not_false, go_sem, Option.map_none, Option.map_some, ↓reduceIte, Nat.reduceBEq, Nat.reduceAdd, Nat.reduceSub, Nat.reduceEqDiff, Nat.reduceLeDiff, Nat.reduceMul, Nat.reduceLT, Int.reduceLT, Int.reduceLE, Int.reduceAdd, Int.reduceSub, Int.reduceMul, Int.reduceNeg, Int.reduceEq, Int.reduceNe, Int.reduceToNat, decide_true, decide_false, iaddr_i, iaddr_sl_i, not_true_eq_false, not_false_eq_true, reduceCtorEq, ne_eq, forall_const, false_imp_iff, true_imp_iff, implies_true, Int.cast_ofNat_Int, Int.natCast_zero, Int.natCast_one, Int.add_zero, Int.zero_add]
        exact wkv_same
      | true =>
        rw [hr1] at r1
        cases hr2 : risF 0 m with
        | false =>
          rw [hr2] at r2
          simp (maxSteps := 1000000) (disch := omega) only [c12, lst_len hl, lst_len hm, h1, h1I, h2, h2I, Bool.true_or, Bool.false_or, orc_cons, r1, r2, Bool.not_false, Bool.not_true, go_sem, Option.map_none, Option.map_some, ↓reduceIte, Nat.reduceBEq, Nat.reduceAdd, Nat.reduceSub, Nat.reduceEqDiff, Nat.reduceLeDiff, Nat.reduceMul, Nat.reduceLT, Int.reduceLT, Int.reduceLE, Int.reduceAdd, Int.reduceSub, Int.reduceMul, Int.reduceNeg, Int.reduceEq, Int.reduceNe, Int.reduceToNat, decide_true, decide_false, iaddr_i, iaddr_sl_i, not_true_eq_false, not_false_eq_true, reduceCtorEq, ne_eq, forall_const, false_imp_iff, true_imp_iff, implies_true, Int.cast_ofNat_Int, Int.natCast_zero, Int.natCast_one, Int.add_zero, Int.zero_add]
          exact wkv_same
        | true =>
          rw [hr2] at r2
          simp (maxSteps := 1000000) (disch := omega) only [c12, lst_len hl, lst_len hm, h1, h1I, h2, h2I, Bool.true_or, Bool.false_or, orc_cons, r1, r2, Bool.not_false, Bool.not_true, go_sem, Option.map_none, Option.map_some, ↓reduceIte, Nat.reduceBEq, Nat.reduceAdd, Nat.reduceSub, Nat.reduceEqDiff, Nat.reduceLeDiff, Nat.reduceMul, Nat.reduceLT, Int.reduceLT, Int.reduceLE, Int.reduceAdd, Int.reduceSub, Int.reduceMul, Int.reduceNeg, Int.reduceEq, Int.reduceNe, Int.reduceToNat, decide_true, decide_false, iaddr_i, iaddr_sl_i, not_true_eq_false, not_false_eq_true, reduceCtorEq, ne_eq, forall_const, false_imp_iff, true_imp_iff, implies_true, Int.cast_ofNat_Int, Int.natCast_zero, Int.natCast_one, Int.add_zero, Int.zero_add]
          exact wkv_same
    · cases h
  · cases h
end Go.Proofs.Ytcoljpgnjiakjaa

namespace Go.Proofs.Ytcoljpgnjiakjaa
open Go.RowKit
set_option linter.unusedSimpArgs false
set_option linter.unusedVariables false
set_option maxRecDepth 10000

inductive Ch where
  | drop (sub : Int)
  | put (p : Pol)
  deriving DecidableEq
def noPol : Pol := ⟨0, 0, 0, 0, 0, 0, 0, 0, 0, 0, 0, 0, 0⟩
/-- An op's cells. -/
def opC (kind sub : Int) (p : Pol) : List AV := [.i .i64 kind, .i .i64 sub, .i .i64 0, .i .u64 0, .sn, .i .i64 p.sub, .i .u8 p.a, .i .u8 p.b, .i .u8 p.c, .i .u8 p.d, .i .i64 p.bits, .i .u64 p.rate, .i .u64 p.burst, .i .u64 p.srate, .i .u64 p.sburst, .i .u64 p.quota, .i .u64 p.lease, .i .u64 p.quantum, .sn]
def Ch.enc : Ch → List AV
  | .drop s => opC 5 s noPol
  | .put p => opC 4 0 p
def chg : List Pol → List Pol → List Ch
  | [], [] => []
  | [], q :: b => .put q :: chg [] b
  | p :: a, [] => .drop p.sub :: chg a []
  | p :: a, q :: b => if p.sub < q.sub then .drop p.sub :: chg a (q :: b) else if q.sub < p.sub then .put q :: chg (p :: a) b else if p = q then chg a b else .put q :: chg a b
termination_by a b => a.length + b.length
theorem chg_drop {p : Pol} {a b : List Pol} (h : b = [] ∨ ∃ q b', b = q :: b' ∧ p.sub < q.sub) : chg (p :: a) b = .drop p.sub :: chg a b := by
  rcases h with rfl | ⟨q, b', rfl, h⟩
  · rw [chg]
  · rw [chg, if_pos h]
theorem chg_put {q : Pol} {a b : List Pol} (h : a = [] ∨ ∃ p a', a = p :: a' ∧ q.sub < p.sub) : chg a (q :: b) = .put q :: chg a b := by
  rcases h with rfl | ⟨p, a', rfl, h⟩
  · rw [chg]
  · rw [chg, if_neg (by omega), if_pos h]
theorem chg_same {p q : Pol} {a b : List Pol} (h : p.sub = q.sub) : chg (p :: a) (q :: b) = if p = q then chg a b else .put q :: chg a b := by
  rw [chg, if_neg (by omega), if_neg (by omega)]
theorem chg_nil : chg [] [] = [] := by rw [chg]

theorem iter_ok {i i1 i2 : Nat} {xa xb : AV} {a b : List Pol} {J : Nat → Mem → Prop} (hJg : ∀ k M L, J k M → J k (M ++ L))
    (hJ1 : ∀ k M, J k M → M[i1]? = some (.cells [xa] 0 none true) ∧ M[i2]? = some (.cells [xb] 0 none true) ∧ lstV polE M xa = some a ∧ lstV polE M xb = some b)
    (hround : ∀ k (hk : k < (chg a b).length) M, J k M → ∃ M', RdOK Try.prog i [.ag ((chg a b)[k]).enc] M (.b true) M' ∧ J (k + 1) M') (ha : a.length ≤ 900000) (hb : b.length ≤ 900000) {M0 : Mem} (h0 : J 0 M0) :
    FnR Try.prog 30 [.y i, .p i1 0 0, .p i2 0 0] M0 (fun v M' => J (chg a b).length M') := by
  refine fnR_of_wp f30 rfl (W_sound none_ok mixed _ _ _ _ _ ?_)
  simp (maxSteps := 1000000) (disch := omega) only [c30, go_sem, Option.map_none, Option.map_some, ↓reduceIte, Nat.reduceBEq, Nat.reduceAdd, Nat.reduceSub, Nat.reduceEqDiff, Nat.reduceLeDiff, Nat.reduceMul, Nat.reduceLT, Int.reduceLT, Int.reduceLE, Int.reduceAdd, Int.reduceSub, Int.reduceMul, Int.reduceNeg, Int.reduceEq, Int.reduceNe, Int.reduceToNat, decide_true, decide_false, iaddr_i, iaddr_sl_i, not_true_eq_false, not_false_eq_true, reduceCtorEq, ne_eq, forall_const, false_imp_iff, true_imp_iff, implies_true, Int.cast_ofNat_Int, Int.natCast_zero, Int.natCast_one, Int.add_zero, Int.zero_add]
  refine wp_loop (fun j e M dl => dl = [] ∧ ∃ (k ia ib : Nat), j = (a.length - ia) + (b.length - ib) ∧ ia ≤ a.length ∧ ib ≤ b.length ∧ J k M ∧ k ≤ (chg a b).length ∧ (chg a b).drop k = chg (a.drop ia) (b.drop ib) ∧
    e.get 0 = .y i ∧ e.get 1 = .p i1 0 0 ∧ e.get 5 = .i .i64 ib ∧ e.get 2 = .p i2 0 0 ∧ e.get 4 = .i .i64 ia) (j := a.length + b.length) ?_ ?_
  · exact ⟨rfl, 0, 0, 0, by omega, Nat.zero_le _, Nat.zero_le _, h0, Nat.zero_le _, rfl, rfl, rfl, rfl, rfl, rfl⟩
  rintro j e M d' ⟨rfl, k, ia, ib, rfl, hia, hib, hJ, hk, hd, e0, e1, e5, e2, e4⟩
  obtain ⟨m1, m2, hla, hlb⟩ := hJ1 _ _ hJ
  have hlA := lst_len hla
  have hlB := lst_len hlb
  have m1o := fun L => at_old (L := L) m1
  have m2o := fun L => at_old (L := L) m2
  have hia6 : ia < 1000000 := by omega
  have hib6 : ib < 1000000 := by omega
  have step : ∀ {c : Ch} {r : List Ch}, (chg a b).drop k = c :: r → ∃ hk : k < (chg a b).length, (chg a b)[k] = c ∧ (chg a b).drop (k + 1) = r := fun {c r} h => by
    have hlt : k < (chg a b).length := by
      have := congrArg List.length h
      rw [List.length_drop, List.length_cons] at this; omega
    rw [List.drop_eq_getElem_cons hlt] at h
    injection h with h1 h2
    exact ⟨hlt, h1, h2⟩
  by_cases hA : ia < a.length
  · have hAI : (ia : Int) < a.length := by omega
    obtain ⟨bi, o, v, cap, ex, rfl⟩ := lst_sl hla hA
    have hra := fun L => lstV_row hla hA L
    have hra : ∀ L, rowB ((M ++ L)[bi]?) (o + ia * 13) v 13 = some (a[ia]).enc := hra
    have hfa := fun L => lstV_field hla hA (f := 0) (x := .i .i64 a[ia].sub) rfl L
    have hfa : ∀ L, cellB ((M ++ L)[bi]?) (o + ia * 13) v = some (.i .i64 a[ia].sub) := hfa
    have hda : a.drop ia = a[ia] :: a.drop (ia + 1) := List.drop_eq_getElem_cons hA
    rw [hda] at hd
    generalize a[ia] = p at hra hfa hd hda
    by_cases hB : ib < b.length
    · have hBI : (ib : Int) < b.length := by omega
      have hBn : ¬ (ib : Int) ≥ b.length := by omega
      have hAn : ¬ (ia : Int) ≥ a.length := by omega
      obtain ⟨bj, o2, v2, cap2, ex2, rfl⟩ := lst_sl hlb hB
      have hrb := fun L => lstV_row hlb hB L
      have hrb : ∀ L, rowB ((M ++ L)[bj]?) (o2 + ib * 13) v2 13 = some (b[ib]).enc := hrb
      have hfb := fun L => lstV_field hlb hB (f := 0) (x := .i .i64 b[ib].sub) rfl L
      have hfb : ∀ L, cellB ((M ++ L)[bj]?) (o2 + ib * 13) v2 = some (.i .i64 b[ib].sub) := hfb
      have hdb : b.drop ib = b[ib] :: b.drop (ib + 1) := List.drop_eq_getElem_cons hB
      rw [hdb] at hd
      generalize b[ib] = q at hrb hfb hd hdb
      by_cases h1 : p.sub < q.sub
      · rw [chg_drop (.inr ⟨_, _, rfl, h1⟩), ← hdb] at hd
        obtain ⟨hlt, hc, hd2⟩ := step hd
        obtain ⟨M', hrd, hJ'⟩ := hround k hlt (M ++ [.cells (Ch.drop p.sub).enc 0 none true]) (hJg _ _ _ hJ)
        rw [hc] at hrd
        simp only [Ch.enc, opC, noPol] at hrd
        refine W_sound (orcY_ok (l := []) (by simp) hrd) mixed _ _ _ _ _ ?_
        simp (maxSteps := 1000000) (disch := omega) only [c30l3, e0, e1, e5, e2, e4, m1, m2, m1o, m2o, hlA, hlB, hAI, hBI, hBn, hAn, Int.toNat_natCast, hfa, hfb, Nat.add_zero, h1, List.replicate, wrapS hia6, orcY_y, go_sem, Option.map_none, Option.map_some, ↓reduceIte, Nat.reduceBEq, Nat.reduceAdd, Nat.reduceSub, Nat.reduceEqDiff, Nat.reduceLeDiff, Nat.reduceMul, Nat.reduceLT, Int.reduceLT, Int.reduceLE, Int.reduceAdd, Int.reduceSub, Int.reduceMul, Int.reduceNeg, Int.reduceEq, Int.reduceNe, Int.reduceToNat, decide_true, decide_false, iaddr_i, iaddr_sl_i, not_true_eq_false, not_false_eq_true, reduceCtorEq, ne_eq, forall_const, false_imp_iff, true_imp_iff, implies_true, Int.cast_ofNat_Int, Int.natCast_zero, Int.natCast_one, Int.add_zero, Int.zero_add]
        exact ⟨(a.length - (ia + 1)) + (b.length - ib), by omega, k + 1, ia + 1, ib, rfl, hA, hib, hJ', hlt, hd2, rfl, rfl⟩
      · by_cases h2 : q.sub < p.sub
        · rw [chg_put (.inr ⟨_, _, rfl, h2⟩), ← hda] at hd
          obtain ⟨hlt, hc, hd2⟩ := step hd
          obtain ⟨M', hrd, hJ'⟩ := hround k hlt (M ++ [.cells (Ch.put q).enc 0 none true]) (hJg _ _ _ hJ)
          rw [hc] at hrd
          simp only [Ch.enc, opC] at hrd
          simp only [Pol.enc] at hrb
          refine W_sound (orcY_ok (l := []) (by simp) hrd) mixed _ _ _ _ _ ?_
          simp (maxSteps := 1000000) (disch := omega) only [c30l3, e0, e1, e5, e2, e4, m1, m2, m1o, m2o, hlA, hlB, hAI, hBI, hBn, hAn, Int.toNat_natCast, Nat.add_zero, List.replicate, wrapS hia6, wrapS hib6, hfa, hfb, hrb, h1, h2, orcY_y, go_sem, Option.map_none, Option.map_some, ↓reduceIte, Nat.reduceBEq, Nat.reduceAdd, Nat.reduceSub, Nat.reduceEqDiff, Nat.reduceLeDiff, Nat.reduceMul, Nat.reduceLT, Int.reduceLT, Int.reduceLE, Int.reduceAdd, Int.reduceSub, Int.reduceMul, Int.reduceNeg, Int.reduceEq, Int.reduceNe, Int.reduceToNat, decide_true, decide_false, iaddr_i, iaddr_sl_i, not_true_eq_false, not_false_eq_true, reduceCtorEq, ne_eq, forall_const, false_imp_iff, true_imp_iff, implies_true, Int.cast_ofNat_Int, Int.natCast_zero, Int.natCast_one, Int.add_zero, Int.zero_add]
          exact ⟨(a.length - ia) + (b.length - (ib + 1)), by omega, k + 1, ia, ib + 1, rfl, hia, hB, hJ', hlt, hd2, rfl, rfl⟩
        · have heq : p.sub = q.sub := by omega
          rw [chg_same heq] at hd
          by_cases hpq : p = q
          · rw [if_pos hpq] at hd
            have hqq : eqAgV false [.int, .int, .int, .int, .int, .int, .int, .int, .int, .int, .int, .int, .int] (.ag p.enc) (.ag q.enc) = some (.b true) := by
              have := eq_pol (a := p) (b := q)
              rw [decide_eq_true hpq] at this; exact this
            refine W_sound none_ok mixed _ _ _ _ _ ?_
            simp (maxSteps := 1000000) (disch := omega) only [c30l3, e0, e1, e5, e2, e4, m1, m2, m1o, m2o, hlA, hlB, hAI, hBI, hBn, hAn, Int.toNat_natCast, Nat.add_zero, List.replicate, wrapS hia6, wrapS hib6, hfa, hfb, hra, hrb, h1, h2, hqq, go_sem, Option.map_none, Option.map_some, ↓reduceIte, Nat.reduceBEq, Nat.reduceAdd, Nat.reduceSub, Nat.reduceEqDiff, Nat.reduceLeDiff, Nat.reduceMul, Nat.reduceLT, Int.reduceLT, Int.reduceLE, Int.reduceAdd, Int.reduceSub, Int.reduceMul, Int.reduceNeg, Int.reduceEq, Int.reduceNe, Int.reduceToNat, decide_true, decide_false, iaddr_i, iaddr_sl_i, not_true_eq_false, not_false_eq_true, reduceCtorEq, ne_eq, forall_const, false_imp_iff, true_imp_iff, implies_true, Int.cast_ofNat_Int, Int.natCast_zero, Int.natCast_one, Int.add_zero, Int.zero_add]
            exact ⟨(a.length - (ia + 1)) + (b.length - (ib + 1)), by omega, k, ia + 1, ib + 1, rfl, hA, hB, hJg _ _ _ hJ, hk, hd, rfl, rfl⟩
          · rw [if_neg hpq] at hd
            have hqq : eqAgV false [.int, .int, .int, .int, .int, .int, .int, .int, .int, .int, .int, .int, .int] (.ag p.enc) (.ag q.enc) = some (.b false) := by
              have := eq_pol (a := p) (b := q)
              rw [decide_eq_false hpq] at this; exact this
            obtain ⟨hlt, hc, hd2⟩ := step hd
            obtain ⟨M', hrd, hJ'⟩ := hround k hlt (M ++ [.cells (Ch.put q).enc 0 none true]) (hJg _ _ _ hJ)
            rw [hc] at hrd
            simp only [Ch.enc, opC] at hrd
            refine W_sound (orcY_ok (l := []) (by simp) hrd) mixed _ _ _ _ _ ?_
            simp (maxSteps := 1000000) (disch := omega) only [c30l3, e0, e1, e5, e2, e4, m1, m2, m1o, m2o, hlA, hlB, hAI, hBI, hBn, hAn, Int.toNat_natCast, Nat.add_zero, List.replicate, wrapS hia6, wrapS hib6, hfa, hfb, hra, hrb, h1, h2, hqq, orcY_y, go_sem, Option.map_none, Option.map_some, ↓reduceIte, Nat.reduceBEq, Nat.reduceAdd, Nat.reduceSub, Nat.reduceEqDiff, Nat.reduceLeDiff, Nat.reduceMul, Nat.reduceLT, Int.reduceLT, Int.reduceLE, Int.reduceAdd, Int.reduceSub, Int.reduceMul, Int.reduceNeg, Int.reduceEq, Int.reduceNe, Int.reduceToNat, decide_true, decide_false, iaddr_i, iaddr_sl_i, not_true_eq_false, not_false_eq_true, reduceCtorEq, ne_eq, forall_const, false_imp_iff, true_imp_iff, implies_true, Int.cast_ofNat_Int, Int.natCast_zero, Int.natCast_one, Int.add_zero, Int.zero_add]
            simp only [Pol.enc]
            simp (maxSteps := 1000000) (disch := omega) only [orcY_y, wrapS hia6, wrapS hib6, go_sem, Option.map_none, Option.map_some, ↓reduceIte, Nat.reduceBEq, Nat.reduceAdd, Nat.reduceSub, Nat.reduceEqDiff, Nat.reduceLeDiff, Nat.reduceMul, Nat.reduceLT, Int.reduceLT, Int.reduceLE, Int.reduceAdd, Int.reduceSub, Int.reduceMul, Int.reduceNeg, Int.reduceEq, Int.reduceNe, Int.reduceToNat, decide_true, decide_false, iaddr_i, iaddr_sl_i, not_true_eq_false, not_false_eq_true, reduceCtorEq, ne_eq, forall_const, false_imp_iff, true_imp_iff, implies_true, Int.cast_ofNat_Int, Int.natCast_zero, Int.natCast_one, Int.add_zero, Int.zero_add]
            exact ⟨(a.length - (ia + 1)) + (b.length - (ib + 1)), by omega, k + 1, ia + 1, ib + 1, rfl, hA, hB, hJ', hlt, hd2, rfl, rfl⟩
    · have hBn : (ib : Int) ≥ b.length := by omega
      have hBI : ¬ (ib : Int) < b.length := by omega
      have hAn : ¬ (ia : Int) ≥ a.length := by omega
      have hbe : b.drop ib = [] := List.drop_of_length_le (by omega)
      rw [hbe, chg_drop (.inl rfl), ← hbe] at hd
      obtain ⟨hlt, hc, hd2⟩ := step hd
      obtain ⟨M', hrd, hJ'⟩ := hround k hlt (M ++ [.cells (Ch.drop p.sub).enc 0 none true]) (hJg _ _ _ hJ)
      rw [hc] at hrd
      simp only [Ch.enc, opC, noPol] at hrd
      refine W_sound (orcY_ok (l := []) (by simp) hrd) mixed _ _ _ _ _ ?_
      simp (maxSteps := 1000000) (disch := omega) only [c30l3, e0, e1, e5, e2, e4, m1, m2, m1o, m2o, hlA, hlB, hAI, hBI, hBn, hAn, Int.toNat_natCast, Nat.add_zero, List.replicate, wrapS hia6, hfa, orcY_y, go_sem, Option.map_none, Option.map_some, ↓reduceIte, Nat.reduceBEq, Nat.reduceAdd, Nat.reduceSub, Nat.reduceEqDiff, Nat.reduceLeDiff, Nat.reduceMul, Nat.reduceLT, Int.reduceLT, Int.reduceLE, Int.reduceAdd, Int.reduceSub, Int.reduceMul, Int.reduceNeg, Int.reduceEq, Int.reduceNe, Int.reduceToNat, decide_true, decide_false, iaddr_i, iaddr_sl_i, not_true_eq_false, not_false_eq_true, reduceCtorEq, ne_eq, forall_const, false_imp_iff, true_imp_iff, implies_true, Int.cast_ofNat_Int, Int.natCast_zero, Int.natCast_one, Int.add_zero, Int.zero_add]
      exact ⟨(a.length - (ia + 1)) + (b.length - ib), by omega, k + 1, ia + 1, ib, rfl, hA, hib, hJ', hlt, hd2, rfl, rfl⟩
  · have hAn : (ia : Int) ≥ a.length := by omega
    have hAI : ¬ (ia : Int) < a.length := by omega
    have hae : a.drop ia = [] := List.drop_of_length_le (by omega)
    by_cases hB : ib < b.length
    · have hBI : (ib : Int) < b.length := by omega
      have hBn : ¬ (ib : Int) ≥ b.length := by omega
      obtain ⟨bj, o2, v2, cap2, ex2, rfl⟩ := lst_sl hlb hB
      have hrb := fun L => lstV_row hlb hB L
      have hrb : ∀ L, rowB ((M ++ L)[bj]?) (o2 + ib * 13) v2 13 = some (b[ib]).enc := hrb
      have hdb : b.drop ib = b[ib] :: b.drop (ib + 1) := List.drop_eq_getElem_cons hB
      rw [hdb] at hd
      generalize b[ib] = q at hrb hd hdb
      rw [hae, chg_put (.inl rfl), ← hae] at hd
      obtain ⟨hlt, hc, hd2⟩ := step hd
      obtain ⟨M', hrd, hJ'⟩ := hround k hlt (M ++ [.cells (Ch.put q).enc 0 none true]) (hJg _ _ _ hJ)
      rw [hc] at hrd
      simp only [Ch.enc, opC] at hrd
      simp only [Pol.enc] at hrb
      refine W_sound (orcY_ok (l := []) (by simp) hrd) mixed _ _ _ _ _ ?_
      simp (maxSteps := 1000000) (disch := omega) only [c30l3, e0, e1, e5, e2, e4, m1, m2, m1o, m2o, hlA, hlB, hAI, hBI, hBn, hAn, Int.toNat_natCast, Nat.add_zero, List.replicate, wrapS hib6, hrb, orcY_y, go_sem, Option.map_none, Option.map_some, ↓reduceIte, Nat.reduceBEq, Nat.reduceAdd, Nat.reduceSub, Nat.reduceEqDiff, Nat.reduceLeDiff, Nat.reduceMul, Nat.reduceLT, Int.reduceLT, Int.reduceLE, Int.reduceAdd, Int.reduceSub, Int.reduceMul, Int.reduceNeg, Int.reduceEq, Int.reduceNe, Int.reduceToNat, decide_true, decide_false, iaddr_i, iaddr_sl_i, not_true_eq_false, not_false_eq_true, reduceCtorEq, ne_eq, forall_const, false_imp_iff, true_imp_iff, implies_true, Int.cast_ofNat_Int, Int.natCast_zero, Int.natCast_one, Int.add_zero, Int.zero_add]
      exact ⟨(a.length - ia) + (b.length - (ib + 1)), by omega, k + 1, ia, ib + 1, rfl, hia, hB, hJ', hlt, hd2, rfl, rfl⟩
    · have hBn : (ib : Int) ≥ b.length := by omega
      have hBI : ¬ (ib : Int) < b.length := by omega
      rw [hae, List.drop_of_length_le (by omega : b.length ≤ ib), chg_nil] at hd
      have hkl : k = (chg a b).length := by
        have := congrArg List.length hd
        rw [List.length_drop, List.length_nil] at this; omega
      refine W_sound none_ok mixed _ _ _ _ _ ?_
      simp (maxSteps := 1000000) (disch := omega) only [c30l3, e0, e1, e5, e2, e4, m1, m2, m1o, m2o, hlA, hlB, hAI, hBI, hBn, hAn, go_sem, Option.map_none, Option.map_some, ↓reduceIte, Nat.reduceBEq, Nat.reduceAdd, Nat.reduceSub, Nat.reduceEqDiff, Nat.reduceLeDiff, Nat.reduceMul, Nat.reduceLT, Int.reduceLT, Int.reduceLE, Int.reduceAdd, Int.reduceSub, Int.reduceMul, Int.reduceNeg, Int.reduceEq, Int.reduceNe, Int.reduceToNat, decide_true, decide_false, iaddr_i, iaddr_sl_i, not_true_eq_false, not_false_eq_true, reduceCtorEq, ne_eq, forall_const, false_imp_iff, true_imp_iff, implies_true, Int.cast_ofNat_Int, Int.natCast_zero, Int.natCast_one, Int.add_zero, Int.zero_add]
      rw [← hkl]; exact hJ
end Go.Proofs.Ytcoljpgnjiakjaa

namespace Go.Proofs.Ytcoljpgnjiakjaa
open Go.RowKit
set_option linter.unusedSimpArgs false
set_option linter.unusedVariables false
set_option maxRecDepth 10000

def changesS : Spec := fun args S => match args with
  | [x, y] => match lstV polE S x, lstV polE S y with
    | some _, some _ => some (.f (.func 30) [] [.p S.length 0 0, .p (S.length + 1) 0 0], S ++ [.cells [x] 0 none true, .cells [y] 0 none true])
    | _, _ => none
  | _ => none
theorem changes_ok : SpecOK Try.prog 17 changesS := by
  intro args S x S' h
  simp only [changesS] at h
  split at h
  · rename_i s t
    split at h
    · rename_i l m hl hm
      cases h
      refine fn_of_wp f17 rfl (W_sound none_ok mixed _ _ _ _ _ ?_)
      simp (maxSteps := 1000000) (disch := omega) only [c17, lst_cells hl, lst_cells hm, go_sem, Option.map_none, Option.map_some, ↓reduceIte, Nat.reduceBEq, Nat.reduceAdd, Nat.reduceSub, Nat.reduceEqDiff, Nat.reduceLeDiff, Nat.reduceMul, Nat.reduceLT, Int.reduceLT, Int.reduceLE, Int.reduceAdd, Int.reduceSub, Int.reduceMul, Int.reduceNeg, Int.reduceEq, Int.reduceNe, Int.reduceToNat, decide_true, decide_false, iaddr_i, iaddr_sl_i, not_true_eq_false, not_false_eq_true, reduceCtorEq, ne_eq, forall_const, false_imp_iff, true_imp_iff, implies_true, Int.cast_ofNat_Int, Int.natCast_zero, Int.natCast_one, Int.add_zero, Int.zero_add]
      exact wkv_same
    · cases h
  · cases h
theorem changes_eq {S : Mem} {x y : AV} {a b : List Pol} (ha : lstV polE S x = some a) (hb : lstV polE S y = some b) : changesS [x, y] S = some (.f (.func 30) [] [.p S.length 0 0, .p (S.length + 1) 0 0], S ++ [.cells [x] 0 none true, .cells [y] 0 none true]) := by
  simp only [changesS, ha, hb]

/-! ### Cost -/
def costPath : List Bool := [true, true, false, true, false]
structure Jc (S : Mem) (x y : AV) (env : Env) (k : Nat) (M : Mem) : Prop where
  hS : S <+: M
  hc : M[S.length]? = some (.cells [.i .i64 k] 0 none true)
  h1 : M[S.length + 1]? = some (.cells [x] 0 none true)
  h2 : M[S.length + 2]? = some (.cells [y] 0 none true)
  hd : M[S.length + 3]? = some (.dfr true)
  hl : M[S.length + 4]? = some (.loop 10 costPath env .ready none)
theorem Jc.grow {S : Mem} {x y : AV} {env : Env} {k : Nat} {M : Mem} (J : Jc S x y env k M) (L : Mem) : Jc S x y env k (M ++ L) :=
  ⟨ext_more J.hS L, at_old J.hc, at_old J.h1, at_old J.h2, at_old J.hd, at_old J.hl⟩
theorem cost_round {S : Mem} {x y : AV} {env : Env} {k : Nat} {M : Mem} (J : Jc S x y env k M) (e5 : env.get 5 = .p S.length 0 0) (hk : k < 1000000) (c : AV) : ∃ M', RdOK Try.prog (S.length + 4) [c] M (.b true) M' ∧ Jc S x y env (k + 1) M' := by
  obtain ⟨hS, hc, h1, h2, hd, hl⟩ := J
  obtain ⟨Mb, hMb⟩ : ∃ Mb, Mb = M.set (S.length + 4) (.loop 10 costPath env .busy none) := ⟨_, rfl⟩
  have st : ∀ {i : Nat} {B : Blk}, i ≠ S.length + 4 → M[i]? = some B → Mb[i]? = some B := fun hi hB => by rw [hMb, List.getElem?_set_ne (Ne.symm hi)]; exact hB
  have bc := st (by omega) hc
  have hlb : Mb[S.length + 4]? = some (.loop 10 costPath env .busy none) := by rw [hMb]; exact at_set hl
  refine ⟨(Mb.set S.length (.cells [.i .i64 ((k + 1 : Nat) : Int)] 0 none true)).set (S.length + 4) (.loop 10 costPath env .ready none), ?_, ?_⟩
  · refine round_of_wp hl f10 (List.mem_cons_self ..) rfl (W_sound none_ok mixed _ _ _ _ _ ?_)
    simp (maxSteps := 1000000) (disch := omega) only [c10ra0, bindE, go_sem, Option.map_none, Option.map_some, ↓reduceIte, Nat.reduceBEq, Nat.reduceAdd, Nat.reduceSub, Nat.reduceEqDiff, Nat.reduceLeDiff, Nat.reduceMul, Nat.reduceLT, Int.reduceLT, Int.reduceLE, Int.reduceAdd, Int.reduceSub, Int.reduceMul, Int.reduceNeg, Int.reduceEq, Int.reduceNe, Int.reduceToNat, decide_true, decide_false, iaddr_i, iaddr_sl_i, not_true_eq_false, not_false_eq_true, reduceCtorEq, ne_eq, forall_const, false_imp_iff, true_imp_iff, implies_true, Int.cast_ofNat_Int, Int.natCast_zero, Int.natCast_one, Int.add_zero, Int.zero_add]
    refine ⟨rfl, rfl, 10, costPath, env, none, hl, ?_⟩
    refine W_sound none_ok mixed _ _ _ _ _ ?_
    rw [← hMb]
    simp (maxSteps := 1000000) (disch := omega) only [c10rb0, e5, bc, wrapS hk, go_sem, Option.map_none, Option.map_some, ↓reduceIte, Nat.reduceBEq, Nat.reduceAdd, Nat.reduceSub, Nat.reduceEqDiff, Nat.reduceLeDiff, Nat.reduceMul, Nat.reduceLT, Int.reduceLT, Int.reduceLE, Int.reduceAdd, Int.reduceSub, Int.reduceMul, Int.reduceNeg, Int.reduceEq, Int.reduceNe, Int.reduceToNat, decide_true, decide_false, iaddr_i, iaddr_sl_i, not_true_eq_false, not_false_eq_true, reduceCtorEq, ne_eq, forall_const, false_imp_iff, true_imp_iff, implies_true, Int.cast_ofNat_Int, Int.natCast_zero, Int.natCast_one, Int.add_zero, Int.zero_add]
    exact ⟨10, costPath, env, .busy, none, by rw [List.getElem?_set_ne (by omega)]; exact hlb, wkv_same⟩
  · have st2 : ∀ {i : Nat} {B : Blk}, i ≠ S.length → i ≠ S.length + 4 → M[i]? = some B → ((Mb.set S.length (.cells [.i .i64 ((k + 1 : Nat) : Int)] 0 none true)).set (S.length + 4) (.loop 10 costPath env .ready none))[i]? = some B := fun h3 h4 hB => by
      rw [List.getElem?_set_ne (Ne.symm h4), List.getElem?_set_ne (Ne.symm h3)]; exact st h4 hB
    have hSb : S <+: Mb := by rw [hMb]; exact ext_set hS (by omega) _
    exact ⟨ext_set (ext_set hSb (Nat.le_refl _) _) (by omega) _, by rw [List.getElem?_set_ne (by omega)]; exact at_set bc, st2 (by omega) (by omega) h1, st2 (by omega) (by omega) h2, st2 (by omega) (by omega) hd,
      at_set (by rw [List.getElem?_set_ne (by omega)]; exact hlb)⟩
def costF (a b : List Pol) : Int := (chg a b).length
def costS : Spec := fun args S => match args with
  | [x, y] => match lstV polE S x, lstV polE S y with
    | some a, some b => if a.length ≤ 400000 ∧ b.length ≤ 400000 then some (.i .i64 (costF a b), S) else none
    | _, _ => none
  | _ => none
theorem chg_len : ∀ (a b : List Pol), (chg a b).length ≤ a.length + b.length
  | [], [] => by rw [chg]; simp
  | [], q :: b => by rw [chg]; have := chg_len [] b; simp only [List.length_cons, List.length_nil] at this ⊢; omega
  | p :: a, [] => by rw [chg]; have := chg_len a []; simp only [List.length_cons, List.length_nil] at this ⊢; omega
  | p :: a, q :: b => by
    rw [chg]
    have h1 := chg_len a (q :: b)
    have h2 := chg_len (p :: a) b
    have h3 := chg_len a b
    simp only [List.length_cons] at h1 h2 ⊢
    split
    · simp only [List.length_cons]; omega
    · split
      · simp only [List.length_cons]; omega
      · split
        · omega
        · simp only [List.length_cons]; omega
termination_by a b => a.length + b.length
theorem oCo_ok : OK Try.prog (lamOf Try.prog) (orcOf [(17, changesS)]) := orc_ok (by simpa using changes_ok)
theorem cost_ok : SpecOK Try.prog 10 costS := by
  intro args S x S' h
  simp only [costS] at h
  split at h
  · rename_i s t
    split at h
    · rename_i a b ha hb
      split at h
      · rename_i hlim
        cases h
        have hcl := chg_len a b
        refine fn_of_wp f10 rfl (W_sound oCo_ok mixed _ _ _ _ _ ?_)
        have hch := changes_eq (lstV_grow ha [.cells [.i .i64 0] 0 none true]) (lstV_grow hb [.cells [.i .i64 0] 0 none true])
        rw [List.length_append, List.append_assoc] at hch
        have hch : changesS [s, t] (S ++ [.cells [.i .i64 0] 0 none true]) = some (.f (.func 30) [] [.p (S.length + 1) 0 0, .p (S.length + 2) 0 0], S ++ [.cells [.i .i64 0] 0 none true, .cells [s] 0 none true, .cells [t] 0 none true]) := hch
        simp (maxSteps := 1000000) (disch := omega) only [c10, List.replicate, orc_cons, hch, go_sem, Option.map_none, Option.map_some, ↓reduceIte, Nat.reduceBEq, Nat.reduceAdd, Nat.reduceSub, Nat.reduceEqDiff, Nat.reduceLeDiff, Nat.reduceMul, Nat.reduceLT, Int.reduceLT, Int.reduceLE, Int.reduceAdd, Int.reduceSub, Int.reduceMul, Int.reduceNeg, Int.reduceEq, Int.reduceNe, Int.reduceToNat, decide_true, decide_false, iaddr_i, iaddr_sl_i, not_true_eq_false, not_false_eq_true, reduceCtorEq, ne_eq, forall_const, false_imp_iff, true_imp_iff, implies_true, Int.cast_ofNat_Int, Int.natCast_zero, Int.natCast_one, Int.add_zero, Int.zero_add]
        have hl3 : (S ++ [Blk.cells [.i .i64 0] 0 none true, .cells [s] 0 none true, .cells [t] 0 none true]).length = S.length + 3 := by simp
        have hrf : ∀ (e : Env) (keep : List Nat), (keepE e keep).get 5 = .p S.length 0 0 →
            FnR Try.prog 30 ([] ++ [.y ((S ++ [Blk.cells [.i .i64 0] 0 none true, .cells [s] 0 none true, .cells [t] 0 none true]).length + 1)] ++ [.p (S.length + 1) 0 0, .p (S.length + 2) 0 0])
              (S ++ [Blk.cells [.i .i64 0] 0 none true, .cells [s] 0 none true, .cells [t] 0 none true] ++ [.dfr true, .loop 10 costPath (keepE e keep) .ready none]) (fun v M' => Jc S s t (keepE e keep) (chg a b).length M') := by
          intro e keep g5
          rw [hl3, List.append_assoc S]
          refine iter_ok (J := fun k M => Jc S s t (keepE e keep) k M) (fun k M L J => J.grow L) (fun k M J => ⟨J.h1, J.h2, lst_ext ha J.hS, lst_ext hb J.hS⟩) (fun k hk M J => cost_round J g5 (by omega) _) (by omega) (by omega) ?_
          exact ⟨ext_app _, by rw [at_app0]; rfl, by rw [at_app]; rfl, by rw [at_app]; rfl, by rw [at_app]; rfl, by rw [at_app]; rfl⟩
        apply wp_rf rfl (hrf _ _ (by rfl))
        rw [hl3]
        intro y0 S2 J
        refine ⟨_, _, _, _, _, J.hl, by simp, ?_⟩
        obtain ⟨hS, hc, h1, h2, hd, hl⟩ := J
        obtain ⟨M3, hM3⟩ : ∃ M3, M3 = S2.set (S.length + 4) (.loop 10 costPath (keepE [(5, AV.p (List.length S) 0 0), (10, AV.u), (11, AV.u), (8, AV.f (Fn.func 30) [] [AV.p (List.length S + 1) 0 0, AV.p (List.length S + 2) 0 0])] [5, 10, 5, 11]) .exhausted none) := ⟨_, rfl⟩
        have f1 : M3[S.length]? = some (.cells [.i .i64 (chg a b).length] 0 none true) := by rw [hM3, List.getElem?_set_ne (by omega)]; exact hc
        have fd : M3[S.length + 3]? = some (.dfr true) := by rw [hM3, List.getElem?_set_ne (by omega)]; exact hd
        have fS : S <+: M3 := by rw [hM3]; exact ext_set hS (by omega) _
        rw [show S.length + 3 + 1 = S.length + 4 from rfl, ← hM3]
        simp (maxSteps := 1000000) (disch := omega) only [f1, ret_d fd, go_sem, Option.map_none, Option.map_some, ↓reduceIte, Nat.reduceBEq, Nat.reduceAdd, Nat.reduceSub, Nat.reduceEqDiff, Nat.reduceLeDiff, Nat.reduceMul, Nat.reduceLT, Int.reduceLT, Int.reduceLE, Int.reduceAdd, Int.reduceSub, Int.reduceMul, Int.reduceNeg, Int.reduceEq, Int.reduceNe, Int.reduceToNat, decide_true, decide_false, iaddr_i, iaddr_sl_i, not_true_eq_false, not_false_eq_true, reduceCtorEq, ne_eq, forall_const, false_imp_iff, true_imp_iff, implies_true, Int.cast_ofNat_Int, Int.natCast_zero, Int.natCast_one, Int.add_zero, Int.zero_add]
        exact wkv_dropP (ext_set fS (by omega) _) rfl
      · cases h
    · cases h
  · cases h
end Go.Proofs.Ytcoljpgnjiakjaa

namespace Go.Proofs.Ytcoljpgnjiakjaa
open Go.RowKit
set_option linter.unusedSimpArgs false
set_option linter.unusedVariables false

def pfind (l : List Pol) (id : Int) : Option Pol := l.find? (fun p => decide (p.sub = id))
theorem pfind_same (p : Pol) (l : List Pol) : pfind (p :: l) p.sub = some p := by simp [pfind]
theorem pfind_ne {p : Pol} {l : List Pol} {id : Int} (h : id ≠ p.sub) : pfind (p :: l) id = pfind l id := by
  have : decide (p.sub = id) = false := decide_eq_false fun q => h q.symm
  simp only [pfind, List.find?_cons, this]
theorem ris_cons {n : Int} {p : Pol} {l : List Pol} (h : risF n (p :: l) = true) : n < p.sub ∧ risF p.sub l = true := by
  simpa [risF] using h
theorem ris_gt {n : Int} : ∀ {l : List Pol}, risF n l = true → ∀ p ∈ l, n < p.sub
  | [], _, p, hp => by cases hp
  | a :: l, h, p, hp => by
    obtain ⟨h1, h2⟩ := ris_cons h
    rcases List.mem_cons.1 hp with rfl | hp
    · exact h1
    · have := ris_gt h2 p hp; omega
theorem pfind_none {n : Int} {l : List Pol} (h : risF n l = true) {id : Int} (hid : id ≤ n) : pfind l id = none := by
  unfold pfind
  rw [List.find?_eq_none]
  intro p hp
  have := ris_gt h p hp
  simp only [decide_eq_true_eq]; omega
def unlike (a b : List Pol) (id : Int) : Bool := decide (pfind a id ≠ pfind b id)
theorem count_step {f g : Int → Bool} {K : List Int} {x : Int} (hn : K.Nodup) (hx : x ∈ K) (h : ∀ y, y ≠ x → f y = g y) : K.countP f = (if f x then 1 else 0) + (K.erase x).countP g := by
  have hp := List.perm_cons_erase hx
  rw [hp.countP_eq, List.countP_cons]
  have : (K.erase x).countP f = (K.erase x).countP g := by
    refine List.countP_congr fun y hy => ?_
    have hne : y ≠ x := fun e => by
      rw [e] at hy
      exact (hn.mem_erase_iff.1 hy).1 rfl
    rw [h y hne]
  rw [this]; omega
theorem mem_er {K : List Int} (hn : K.Nodup) {x : Int} {l : List Pol} (h : ∀ p ∈ l, p.sub ∈ K) (hg : ∀ p ∈ l, p.sub ≠ x) : ∀ p ∈ l, p.sub ∈ K.erase x := fun p hp => hn.mem_erase_iff.2 ⟨hg p hp, h p hp⟩
theorem chg_count : ∀ (a b : List Pol) (n : Int) (K : List Int), risF n a = true → risF n b = true → K.Nodup → (∀ p ∈ a, p.sub ∈ K) → (∀ p ∈ b, p.sub ∈ K) → (chg a b).length = K.countP (unlike a b)
  | [], [], n, K, _, _, _, _, _ => by
    rw [chg]
    symm
    rw [List.length_nil, List.countP_eq_zero]
    intro id _
    simp [unlike, pfind]
  | [], q :: b, n, K, ha, hb, hn, h1, h2 => by
    obtain ⟨g1, g2⟩ := ris_cons hb
    rw [chg, List.length_cons]
    have hq := h2 q (by simp)
    have hr := ris_gt g2
    rw [count_step (g := unlike [] b) hn hq fun y hy => by unfold unlike; rw [pfind_ne hy],
      chg_count [] b q.sub (K.erase q.sub) rfl g2 (hn.erase _) (by simp) (mem_er hn (fun p hp => h2 p (by simp [hp])) fun p hp => by have := hr p hp; omega)]
    have : unlike [] (q :: b) q.sub = true := by unfold unlike; rw [pfind_same]; simp [pfind]
    rw [this, if_pos rfl]; omega
  | p :: a, [], n, K, ha, hb, hn, h1, h2 => by
    obtain ⟨g1, g2⟩ := ris_cons ha
    rw [chg, List.length_cons]
    have hq := h1 p (by simp)
    have hr := ris_gt g2
    rw [count_step (g := unlike a []) hn hq fun y hy => by unfold unlike; rw [pfind_ne hy],
      chg_count a [] p.sub (K.erase p.sub) g2 rfl (hn.erase _) (mem_er hn (fun p hp => h1 p (by simp [hp])) fun p hp => by have := hr p hp; omega) (by simp)]
    have : unlike (p :: a) [] p.sub = true := by unfold unlike; rw [pfind_same]; simp [pfind]
    rw [this, if_pos rfl]; omega
  | p :: a, q :: b, n, K, ha, hb, hn, h1, h2 => by
    obtain ⟨g1, g2⟩ := ris_cons ha
    obtain ⟨k1, k2⟩ := ris_cons hb
    have hp := h1 p (by simp)
    have hq := h2 q (by simp)
    have hra := ris_gt g2
    have hrb := ris_gt k2
    by_cases c1 : p.sub < q.sub
    · have hb2 : risF p.sub (q :: b) = true := by simp only [risF, k2, Bool.and_true, decide_eq_true_eq]; exact c1
      rw [chg_drop (.inr ⟨_, _, rfl, c1⟩), List.length_cons]
      rw [count_step (g := unlike a (q :: b)) hn hp fun y hy => by unfold unlike; rw [pfind_ne hy],
        chg_count a (q :: b) p.sub (K.erase p.sub) g2 hb2 (hn.erase _) (mem_er hn (fun p hp => h1 p (by simp [hp])) fun p hp => by have := hra p hp; omega) (mem_er hn h2 fun r hr => by have := ris_gt hb2 r hr; omega)]
      have : unlike (p :: a) (q :: b) p.sub = true := by unfold unlike; rw [pfind_same, pfind_none hb2 (Int.le_refl _)]; simp
      rw [this, if_pos rfl]; omega
    · by_cases c2 : q.sub < p.sub
      · have ha2 : risF q.sub (p :: a) = true := by simp only [risF, g2, Bool.and_true, decide_eq_true_eq]; exact c2
        rw [chg_put (.inr ⟨_, _, rfl, c2⟩), List.length_cons]
        rw [count_step (g := unlike (p :: a) b) hn hq fun y hy => by unfold unlike; rw [pfind_ne (p := q) hy],
          chg_count (p :: a) b q.sub (K.erase q.sub) ha2 k2 (hn.erase _) (mem_er hn h1 fun r hr => by have := ris_gt ha2 r hr; omega) (mem_er hn (fun p hp => h2 p (by simp [hp])) fun p hp => by have := hrb p hp; omega)]
        have : unlike (p :: a) (q :: b) q.sub = true := by unfold unlike; rw [pfind_same, pfind_none ha2 (Int.le_refl _)]; simp
        rw [this, if_pos rfl]; omega
      · have hs : p.sub = q.sub := by omega
        rw [chg_same hs]
        have hb3 : risF p.sub b = true := by rw [hs]; exact k2
        have step := count_step (f := unlike (p :: a) (q :: b)) (g := unlike a b) hn hp fun y hy => by unfold unlike; rw [pfind_ne hy, pfind_ne (by rw [← hs]; exact hy)]
        have ih := chg_count a b p.sub (K.erase p.sub) g2 hb3 (hn.erase _) (mem_er hn (fun p hp => h1 p (by simp [hp])) fun p hp => by have := hra p hp; omega) (mem_er hn (fun p hp => h2 p (by simp [hp])) fun p hp => by have := hrb p hp; omega)
        have hf : unlike (p :: a) (q :: b) p.sub = decide (p ≠ q) := by
          unfold unlike
          rw [pfind_same]
          have : pfind (q :: b) p.sub = some q := by rw [hs]; exact pfind_same q b
          rw [this]; simp
        rw [step, hf, ← ih]
        by_cases e : p = q
        · rw [if_pos e]; simp [e]
        · rw [if_neg e, List.length_cons]; simp [e]; omega
termination_by a b => a.length + b.length
theorem ex_nodup : ∀ (l : List Int), ∃ K : List Int, K.Nodup ∧ ∀ x ∈ l, x ∈ K
  | [] => ⟨[], List.nodup_nil, by simp⟩
  | a :: l => by
    obtain ⟨K, h1, h2⟩ := ex_nodup l
    by_cases ha : a ∈ K
    · exact ⟨K, h1, fun x hx => by rcases List.mem_cons.1 hx with rfl | hx; exact ha; exact h2 x hx⟩
    · exact ⟨a :: K, List.nodup_cons.2 ⟨ha, h1⟩, fun x hx => by rcases List.mem_cons.1 hx with rfl | hx; simp; simp [h2 x hx]⟩
theorem count_tri {f g h : Int → Bool} (hh : ∀ y, f y = true → g y = true ∨ h y = true) : ∀ K : List Int, K.countP f ≤ K.countP g + K.countP h
  | [] => by simp
  | y :: K => by
    have ih := count_tri hh K
    rw [List.countP_cons, List.countP_cons, List.countP_cons]
    cases hf : f y with
    | false => simp only [Bool.false_eq_true, if_false]; split <;> split <;> omega
    | true =>
      rcases hh y hf with h1 | h1
      · rw [h1]; simp only [if_true]; split <;> omega
      · rw [h1]; simp only [if_true]; split <;> omega
theorem cost_tri {a b c : List Pol} (ha : risF 0 a = true) (hb : risF 0 b = true) (hc : risF 0 c = true) : costF a c ≤ costF a b + costF b c := by
  obtain ⟨K, h1, h2⟩ := ex_nodup ((a ++ (b ++ c)).map (·.sub))
  have ka : ∀ p ∈ a, p.sub ∈ K := fun p hp => h2 _ (List.mem_map.2 ⟨p, by simp [hp], rfl⟩)
  have kb : ∀ p ∈ b, p.sub ∈ K := fun p hp => h2 _ (List.mem_map.2 ⟨p, by simp [hp], rfl⟩)
  have kc : ∀ p ∈ c, p.sub ∈ K := fun p hp => h2 _ (List.mem_map.2 ⟨p, by simp [hp], rfl⟩)
  unfold costF
  rw [chg_count a b 0 K ha hb h1 ka kb, chg_count b c 0 K hb hc h1 kb kc, chg_count a c 0 K ha hc h1 ka kc]
  have := count_tri (f := unlike a c) (g := unlike a b) (h := unlike b c) (fun y hy => by
    unfold unlike at hy ⊢
    simp only [ne_eq, decide_eq_true_eq] at hy ⊢
    by_cases e : pfind a y = pfind b y
    · exact .inr fun q => hy (e.trans q)
    · exact .inl e) K
  omega
theorem chg_self : ∀ a : List Pol, chg a a = []
  | [] => by rw [chg]
  | p :: a => by rw [chg_same rfl, if_pos rfl]; exact chg_self a
end Go.Proofs.Ytcoljpgnjiakjaa

namespace Go.Proofs.Ytcoljpgnjiakjaa
open Go.RowKit
set_option linter.unusedSimpArgs false
set_option linter.unusedVariables false
set_option maxRecDepth 10000

def nanS : Spec := fun args S => match args with
  | [.i .i64 n] => some (.b false, S)
  | _ => none
theorem nan_ok : SpecOK Try.prog 31 nanS := by
  intro args S x S' h
  simp only [nanS] at h
  split at h
  · cases h
    refine fn_of_wp f31 rfl (W_sound none_ok mixed _ _ _ _ _ ?_)
    simp (maxSteps := 1000000) (disch := omega) only [c31, go_sem, Option.map_none, Option.map_some, ↓reduceIte, Nat.reduceBEq, Nat.reduceAdd, Nat.reduceSub, Nat.reduceEqDiff, Nat.reduceLeDiff, Nat.reduceMul, Nat.reduceLT, Int.reduceLT, Int.reduceLE, Int.reduceAdd, Int.reduceSub, Int.reduceMul, Int.reduceNeg, Int.reduceEq, Int.reduceNe, Int.reduceToNat, decide_true, decide_false, iaddr_i, iaddr_sl_i, not_true_eq_false, not_false_eq_true, reduceCtorEq, ne_eq, forall_const, false_imp_iff, true_imp_iff, implies_true, Int.cast_ofNat_Int, Int.natCast_zero, Int.natCast_one, Int.add_zero, Int.zero_add]
    first | exact wkv_same | simpa using wkv_same
  · cases h
def cmpI (a b : Int) : Int := if a < b then -1 else if b < a then 1 else 0
def cmpS : Spec := fun args S => match args with
  | [.i .i64 a, .i .i64 b] => some (.i .i64 (cmpI a b), S)
  | _ => none
theorem oCmp_ok : OK Try.prog (lamOf Try.prog) (orcOf [(31, nanS)]) := orc_ok (by simpa using nan_ok)
theorem cmp_ok : SpecOK Try.prog 21 cmpS := by
  intro args S x S' h
  simp only [cmpS] at h
  split at h
  · rename_i a b
    cases h
    refine fn_of_wp f21 rfl (W_sound oCmp_ok mixed _ _ _ _ _ ?_)
    unfold cmpI
    by_cases h1 : a < b
    · simp (maxSteps := 1000000) (disch := omega) only [c21, orc_cons, nanS, h1, go_sem, Option.map_none, Option.map_some, ↓reduceIte, Nat.reduceBEq, Nat.reduceAdd, Nat.reduceSub, Nat.reduceEqDiff, Nat.reduceLeDiff, Nat.reduceMul, Nat.reduceLT, Int.reduceLT, Int.reduceLE, Int.reduceAdd, Int.reduceSub, Int.reduceMul, Int.reduceNeg, Int.reduceEq, Int.reduceNe, Int.reduceToNat, decide_true, decide_false, iaddr_i, iaddr_sl_i, not_true_eq_false, not_false_eq_true, reduceCtorEq, ne_eq, forall_const, false_imp_iff, true_imp_iff, implies_true, Int.cast_ofNat_Int, Int.natCast_zero, Int.natCast_one, Int.add_zero, Int.zero_add]
      exact wkv_same
    · by_cases h2 : b < a
      · simp (maxSteps := 1000000) (disch := omega) only [c21, orc_cons, nanS, h1, h2, go_sem, Option.map_none, Option.map_some, ↓reduceIte, Nat.reduceBEq, Nat.reduceAdd, Nat.reduceSub, Nat.reduceEqDiff, Nat.reduceLeDiff, Nat.reduceMul, Nat.reduceLT, Int.reduceLT, Int.reduceLE, Int.reduceAdd, Int.reduceSub, Int.reduceMul, Int.reduceNeg, Int.reduceEq, Int.reduceNe, Int.reduceToNat, decide_true, decide_false, iaddr_i, iaddr_sl_i, not_true_eq_false, not_false_eq_true, reduceCtorEq, ne_eq, forall_const, false_imp_iff, true_imp_iff, implies_true, Int.cast_ofNat_Int, Int.natCast_zero, Int.natCast_one, Int.add_zero, Int.zero_add]
        exact wkv_same
      · simp (maxSteps := 1000000) (disch := omega) only [c21, orc_cons, nanS, h1, h2, go_sem, Option.map_none, Option.map_some, ↓reduceIte, Nat.reduceBEq, Nat.reduceAdd, Nat.reduceSub, Nat.reduceEqDiff, Nat.reduceLeDiff, Nat.reduceMul, Nat.reduceLT, Int.reduceLT, Int.reduceLE, Int.reduceAdd, Int.reduceSub, Int.reduceMul, Int.reduceNeg, Int.reduceEq, Int.reduceNe, Int.reduceToNat, decide_true, decide_false, iaddr_i, iaddr_sl_i, not_true_eq_false, not_false_eq_true, reduceCtorEq, ne_eq, forall_const, false_imp_iff, true_imp_iff, implies_true, Int.cast_ofNat_Int, Int.natCast_zero, Int.natCast_one, Int.add_zero, Int.zero_add]
        exact wkv_same
  · cases h
def cmpPS : Spec := fun args S => match args with
  | [.ag ca, .i .i64 n] => match polE.dec ca with
    | some a => some (.i .i64 (cmpI a.sub n), S)
    | none => none
  | _ => none
def bySubS : Spec := fun args S => match args with
  | [.ag ca, .ag cb] => match polE.dec ca, polE.dec cb with
    | some a, some b => some (.i .i64 (cmpI a.sub b.sub), S)
    | _, _ => none
  | _ => none
theorem oCmE_ok : OK Try.prog (lamOf Try.prog) (orcOf [(21, cmpS)]) := orc_ok (by simpa using cmp_ok)
theorem cmpP_ok : SpecOK Try.prog 20 cmpPS := by
  intro args S x S' h
  simp only [cmpPS] at h
  split at h
  · rename_i ca n
    split at h
    · rename_i a ha
      obtain rfl := polE.ed _ _ ha
      cases h
      refine fn_of_wp f20 rfl (W_sound oCmE_ok mixed _ _ _ _ _ ?_)
      simp (maxSteps := 1000000) (disch := omega) only [c20, polE, Pol.enc, orc_cons, cmpS, go_sem, Option.map_none, Option.map_some, ↓reduceIte, Nat.reduceBEq, Nat.reduceAdd, Nat.reduceSub, Nat.reduceEqDiff, Nat.reduceLeDiff, Nat.reduceMul, Nat.reduceLT, Int.reduceLT, Int.reduceLE, Int.reduceAdd, Int.reduceSub, Int.reduceMul, Int.reduceNeg, Int.reduceEq, Int.reduceNe, Int.reduceToNat, decide_true, decide_false, iaddr_i, iaddr_sl_i, not_true_eq_false, not_false_eq_true, reduceCtorEq, ne_eq, forall_const, false_imp_iff, true_imp_iff, implies_true, Int.cast_ofNat_Int, Int.natCast_zero, Int.natCast_one, Int.add_zero, Int.zero_add]
      exact wkv_drop rfl
    · cases h
  · cases h
theorem bySub_ok : SpecOK Try.prog 25 bySubS := by
  intro args S x S' h
  simp only [bySubS] at h
  split at h
  · rename_i ca cb
    split at h
    · rename_i a b ha hb
      obtain rfl := polE.ed _ _ ha
      obtain rfl := polE.ed _ _ hb
      cases h
      refine fn_of_wp f25 rfl (W_sound oCmE_ok mixed _ _ _ _ _ ?_)
      simp (maxSteps := 1000000) (disch := omega) only [c25, polE, Pol.enc, orc_cons, cmpS, go_sem, Option.map_none, Option.map_some, ↓reduceIte, Nat.reduceBEq, Nat.reduceAdd, Nat.reduceSub, Nat.reduceEqDiff, Nat.reduceLeDiff, Nat.reduceMul, Nat.reduceLT, Int.reduceLT, Int.reduceLE, Int.reduceAdd, Int.reduceSub, Int.reduceMul, Int.reduceNeg, Int.reduceEq, Int.reduceNe, Int.reduceToNat, decide_true, decide_false, iaddr_i, iaddr_sl_i, not_true_eq_false, not_false_eq_true, reduceCtorEq, ne_eq, forall_const, false_imp_iff, true_imp_iff, implies_true, Int.cast_ofNat_Int, Int.natCast_zero, Int.natCast_one, Int.add_zero, Int.zero_add]
      exact wkv_drop rfl
    · cases h
  · cases h
theorem cmpP_eq {S : Mem} (a : Pol) (n : Int) : cmpPS [.ag (polE.enc a), .i .i64 n] S = some (.i .i64 (cmpI a.sub n), S) := by simp only [cmpPS, polE.de]
theorem bySub_eq {S : Mem} (a b : Pol) : bySubS [.ag (polE.enc a), .ag (polE.enc b)] S = some (.i .i64 (cmpI a.sub b.sub), S) := by simp only [bySubS, polE.de]
theorem cmpI_neg {a b : Int} : (cmpI a b < 0) ↔ a < b := by
  unfold cmpI
  split
  · rename_i h; exact ⟨fun _ => h, fun _ => by omega⟩
  · rename_i h
    split
    · exact ⟨fun z => by omega, fun z => absurd z h⟩
    · exact ⟨fun z => by omega, fun z => absurd z h⟩
theorem cmpI_zero {a b : Int} : cmpI a b = 0 ↔ a = b := by
  unfold cmpI
  split
  · rename_i h; exact ⟨fun q => by omega, fun q => by omega⟩
  · rename_i h
    split
    · rename_i h2; exact ⟨fun q => by omega, fun q => by omega⟩
    · rename_i h2; exact ⟨fun q => by omega, fun q => rfl⟩
theorem shr_1 {n : Int} : shiftV .shr .u64 n 1 = some (.i .u64 (n / 2)) := by
  simp only [shiftV, IntKind.bits]
  rw [if_neg (by omega), Int.fdiv_eq_ediv_of_nonneg _ (Int.natCast_nonneg _)]; rfl
/-- No subscriber twice, in order. -/
def Ris (l : List Pol) : Prop := l.Pairwise fun p q => p.sub < q.sub
/-- How many stand before. -/
def bidx (l : List Pol) (n : Int) : Nat := (l.takeWhile fun p => decide (p.sub < n)).length
theorem bidx_spec {l : List Pol} {n : Int} {k : Nat} (hk : k ≤ l.length) (h1 : ∀ i (hi : i < k) (hl : i < l.length), l[i].sub < n) (h2 : ∀ i (hi : k ≤ i) (hl : i < l.length), n ≤ l[i].sub) : bidx l n = k := by
  unfold bidx
  induction l generalizing k with
  | nil => simp only [List.length_nil] at hk; simp; omega
  | cons a l ih =>
    cases k with
    | zero =>
      have := h2 0 (by omega) (by simp)
      simp only [List.getElem_cons_zero] at this
      rw [List.takeWhile_cons_of_neg (by simp; omega)]; rfl
    | succ k =>
      have := h1 0 (by omega) (by simp)
      simp only [List.getElem_cons_zero] at this
      rw [List.takeWhile_cons_of_pos (by simpa using this), List.length_cons]
      congr 1
      exact ih (by simpa using hk) (fun i hi hl => by have := h1 (i + 1) (by omega) (by simp; omega); simpa using this) (fun i hi hl => by have := h2 (i + 1) (by omega) (by simp; omega); simpa using this)
def bfound (l : List Pol) (n : Int) : Bool := l.any fun p => decide (p.sub = n)
noncomputable def bsS : Spec := fun args S => match args with
  | [x, .i .i64 n, .f (.func f) [] []] => match lstV polE S x with
    | some l => open Classical in if f = 20 ∧ l.length ≤ 900000 ∧ Ris l then some (.tu [.i .i64 (bidx l n), .b (bfound l n)], S) else none
    | none => none
  | _ => none
theorem oBs_ok : OK Try.prog (lamOf Try.prog) (orcOf [(20, cmpPS)]) := orc_ok (by simpa using cmpP_ok)
theorem bs_ok : SpecOK Try.prog 19 bsS := by
  intro args S x S' h
  simp only [bsS] at h
  split at h
  · rename_i s n f
    split at h
    · rename_i l hl
      split at h
      · rename_i hc
        obtain ⟨rfl, hlim, hris⟩ := hc
        cases h
        have hsort := List.pairwise_iff_getElem.1 hris
        refine fn_of_wp f19 rfl (W_sound oBs_ok mixed _ _ _ _ _ ?_)
        simp (maxSteps := 1000000) (disch := omega) only [c19, lst_len hl, go_sem, Option.map_none, Option.map_some, ↓reduceIte, Nat.reduceBEq, Nat.reduceAdd, Nat.reduceSub, Nat.reduceEqDiff, Nat.reduceLeDiff, Nat.reduceMul, Nat.reduceLT, Int.reduceLT, Int.reduceLE, Int.reduceAdd, Int.reduceSub, Int.reduceMul, Int.reduceNeg, Int.reduceEq, Int.reduceNe, Int.reduceToNat, decide_true, decide_false, iaddr_i, iaddr_sl_i, not_true_eq_false, not_false_eq_true, reduceCtorEq, ne_eq, forall_const, false_imp_iff, true_imp_iff, implies_true, Int.cast_ofNat_Int, Int.natCast_zero, Int.natCast_one, Int.add_zero, Int.zero_add]
        refine wp_loop (fun j e M dl => dl = [] ∧ M = S ∧ ∃ (a b : Nat), j = b - a ∧ a ≤ b ∧ b ≤ l.length ∧ (∀ i (hi : i < a) (hl : i < l.length), l[i].sub < n) ∧ (∀ i (hi : b ≤ i) (hl : i < l.length), n ≤ l[i].sub) ∧
          e.get 1 = .i .i64 n ∧ e.get 0 = s ∧ e.get 2 = .f (.func 20) [] [] ∧ e.get 10 = .i .i64 b ∧ e.get 8 = .i .i64 l.length ∧ e.get 9 = .i .i64 a) (j := l.length) ?_ ?_
        · exact ⟨rfl, rfl, 0, l.length, rfl, Nat.zero_le _, Nat.le_refl _, fun i hi => absurd hi (Nat.not_lt_zero _), fun i hi hl => absurd hl (by omega), rfl, rfl, rfl, rfl, rfl, rfl⟩
        rintro j e M d' ⟨rfl, rfl, a, b, rfl, hab, hbl, h1, h2, e1, e0, e2, e10, e8, e9⟩
        refine W_sound oBs_ok mixed _ _ _ _ _ ?_
        by_cases hlt : a < b
        · have hI : (a : Int) < b := by omega
          have hm : ((a : Int) + b) / 2 = (((a + b) / 2 : Nat) : Int) := by omega
          obtain ⟨m, hmm⟩ : ∃ m, m = (a + b) / 2 := ⟨_, rfl⟩
          rw [← hmm] at hm
          have hml : m < l.length := by omega
          obtain ⟨bi, o, v, cap, ex, rfl⟩ := lst_sl hl hml
          have hr := lstV_row hl hml []
          rw [List.append_nil] at hr
          have hr : rowB (M[bi]?) (o + m * 13) v 13 = some (polE.enc l[m]) := hr
          have hcm := cmpP_eq (S := M) l[m] n
          have hw1 : wrapV .i64 ((a : Int) + b) = (a : Int) + b := wrap_i64 (by omega) (by omega)
          have hw2 : wrapV .u64 ((a : Int) + b) = (a : Int) + b := wrap_u64 (by omega) (by omega)
          have hw3 : wrapV .i64 (m : Int) = m := wrap_i64 (by omega) (by omega)
          have hm6 : m < 1000000 := by omega
          by_cases hlt2 : l[m].sub < n
          · have hneg : cmpI l[m].sub n < 0 := cmpI_neg.2 hlt2
            generalize hcv : cmpI l[m].sub n = cv at hcm hneg
            clear hcv
            simp (maxSteps := 1000000) (disch := omega) only [c19l0, e1, e0, e2, e10, e8, e9, hI, hw1, hw2, shr_1, hm, hw3, Int.toNat_natCast, hr, orc_cons, hcm, hneg, wrapS hm6, go_sem, Option.map_none, Option.map_some, ↓reduceIte, Nat.reduceBEq, Nat.reduceAdd, Nat.reduceSub, Nat.reduceEqDiff, Nat.reduceLeDiff, Nat.reduceMul, Nat.reduceLT, Int.reduceLT, Int.reduceLE, Int.reduceAdd, Int.reduceSub, Int.reduceMul, Int.reduceNeg, Int.reduceEq, Int.reduceNe, Int.reduceToNat, decide_true, decide_false, iaddr_i, iaddr_sl_i, not_true_eq_false, not_false_eq_true, reduceCtorEq, ne_eq, forall_const, false_imp_iff, true_imp_iff, implies_true, Int.cast_ofNat_Int, Int.natCast_zero, Int.natCast_one, Int.add_zero, Int.zero_add]
            refine ⟨b - (m + 1), by omega, m + 1, b, rfl, by omega, hbl, fun i hi hl' => ?_, h2, rfl, rfl⟩
            by_cases him : i = m
            · subst him; exact hlt2
            · have := hsort i m hl' hml (by omega); omega
          · have hneg : ¬ cmpI l[m].sub n < 0 := fun q => hlt2 (cmpI_neg.1 q)
            generalize hcv : cmpI l[m].sub n = cv at hcm hneg
            clear hcv
            simp (maxSteps := 1000000) (disch := omega) only [c19l0, e1, e0, e2, e10, e8, e9, hI, hw1, hw2, shr_1, hm, hw3, Int.toNat_natCast, hr, orc_cons, hcm, hneg, wrapS hm6, go_sem, Option.map_none, Option.map_some, ↓reduceIte, Nat.reduceBEq, Nat.reduceAdd, Nat.reduceSub, Nat.reduceEqDiff, Nat.reduceLeDiff, Nat.reduceMul, Nat.reduceLT, Int.reduceLT, Int.reduceLE, Int.reduceAdd, Int.reduceSub, Int.reduceMul, Int.reduceNeg, Int.reduceEq, Int.reduceNe, Int.reduceToNat, decide_true, decide_false, iaddr_i, iaddr_sl_i, not_true_eq_false, not_false_eq_true, reduceCtorEq, ne_eq, forall_const, false_imp_iff, true_imp_iff, implies_true, Int.cast_ofNat_Int, Int.natCast_zero, Int.natCast_one, Int.add_zero, Int.zero_add]
            refine ⟨m - a, by omega, a, m, rfl, by omega, by omega, h1, fun i hi hl' => ?_, rfl, rfl⟩
            by_cases him : i = m
            · subst him; omega
            · have := hsort m i hml hl' (by omega); omega
        · have hI : ¬ (a : Int) < b := by omega
          obtain rfl : a = b := by omega
          have hbi := bidx_spec hbl h1 h2
          by_cases hal : a < l.length
          · obtain ⟨bi, o, v, cap, ex, rfl⟩ := lst_sl hl hal
            have hr := lstV_row hl hal []
            rw [List.append_nil] at hr
            have hr : rowB (M[bi]?) (o + a * 13) v 13 = some (polE.enc l[a]) := hr
            have hcm := cmpP_eq (S := M) l[a] n
            have halI : (a : Int) < l.length := by omega
            by_cases hz : l[a].sub = n
            · have hz0 : cmpI l[a].sub n = 0 := cmpI_zero.2 hz
              have hbf : bfound l n = true := by
                unfold bfound
                rw [List.any_eq_true]; exact ⟨l[a], List.getElem_mem hal, by simpa using hz⟩
              rw [hbi, hbf]
              generalize hcv : cmpI l[a].sub n = cv at hcm hz0
              simp (maxSteps := 1000000) (disch := omega) only [c19l0, e1, e0, e2, e10, e8, e9, hI, halI, Int.toNat_natCast, hr, orc_cons, hcm, hz0, go_sem, Option.map_none, Option.map_some, ↓reduceIte, Nat.reduceBEq, Nat.reduceAdd, Nat.reduceSub, Nat.reduceEqDiff, Nat.reduceLeDiff, Nat.reduceMul, Nat.reduceLT, Int.reduceLT, Int.reduceLE, Int.reduceAdd, Int.reduceSub, Int.reduceMul, Int.reduceNeg, Int.reduceEq, Int.reduceNe, Int.reduceToNat, decide_true, decide_false, iaddr_i, iaddr_sl_i, not_true_eq_false, not_false_eq_true, reduceCtorEq, ne_eq, forall_const, false_imp_iff, true_imp_iff, implies_true, Int.cast_ofNat_Int, Int.natCast_zero, Int.natCast_one, Int.add_zero, Int.zero_add]
              exact wkv_same
            · have hz0 : ¬ cmpI l[a].sub n = 0 := fun q => hz (cmpI_zero.1 q)
              have hbf : bfound l n = false := by
                unfold bfound
                rw [List.any_eq_false]
                intro p hp
                obtain ⟨i, hi, rfl⟩ := List.getElem_of_mem hp
                simp only [decide_eq_true_eq]
                intro q
                by_cases hia : i < a
                · have := h1 i hia hi; omega
                · by_cases hie : i = a
                  · subst hie; exact hz q
                  · have := hsort a i hal hi (by omega)
                    have := h2 a (Nat.le_refl _) hal
                    omega
              rw [hbi, hbf]
              generalize hcv : cmpI l[a].sub n = cv at hcm hz0
              simp (maxSteps := 1000000) (disch := omega) only [c19l0, e1, e0, e2, e10, e8, e9, hI, halI, Int.toNat_natCast, hr, orc_cons, hcm, hz0, go_sem, Option.map_none, Option.map_some, ↓reduceIte, Nat.reduceBEq, Nat.reduceAdd, Nat.reduceSub, Nat.reduceEqDiff, Nat.reduceLeDiff, Nat.reduceMul, Nat.reduceLT, Int.reduceLT, Int.reduceLE, Int.reduceAdd, Int.reduceSub, Int.reduceMul, Int.reduceNeg, Int.reduceEq, Int.reduceNe, Int.reduceToNat, decide_true, decide_false, iaddr_i, iaddr_sl_i, not_true_eq_false, not_false_eq_true, reduceCtorEq, ne_eq, forall_const, false_imp_iff, true_imp_iff, implies_true, Int.cast_ofNat_Int, Int.natCast_zero, Int.natCast_one, Int.add_zero, Int.zero_add]
              exact wkv_same
          · have halI : ¬ (a : Int) < l.length := by omega
            have hbf : bfound l n = false := by
              unfold bfound
              rw [List.any_eq_false]
              intro p hp
              obtain ⟨i, hi, rfl⟩ := List.getElem_of_mem hp
              simp only [decide_eq_true_eq]
              have := h1 i (by omega) hi
              omega
            rw [hbi, hbf]
            simp (maxSteps := 1000000) (disch := omega) only [c19l0, e1, e0, e2, e10, e8, e9, hI, halI, go_sem, Option.map_none, Option.map_some, ↓reduceIte, Nat.reduceBEq, Nat.reduceAdd, Nat.reduceSub, Nat.reduceEqDiff, Nat.reduceLeDiff, Nat.reduceMul, Nat.reduceLT, Int.reduceLT, Int.reduceLE, Int.reduceAdd, Int.reduceSub, Int.reduceMul, Int.reduceNeg, Int.reduceEq, Int.reduceNe, Int.reduceToNat, decide_true, decide_false, iaddr_i, iaddr_sl_i, not_true_eq_false, not_false_eq_true, reduceCtorEq, ne_eq, forall_const, false_imp_iff, true_imp_iff, implies_true, Int.cast_ofNat_Int, Int.natCast_zero, Int.natCast_one, Int.add_zero, Int.zero_add]
            exact wkv_same
      · cases h
    · cases h
  · cases h
end Go.Proofs.Ytcoljpgnjiakjaa

namespace Go.Proofs.Ytcoljpgnjiakjaa
open Go.RowKit
set_option linter.unusedSimpArgs false
set_option linter.unusedVariables false
set_option maxRecDepth 10000

theorem ris_not {l : List Pol} (h : Ris l) {x y : Nat} (hx : x < l.length) (hy : y < l.length) (hxy : y ≤ x) : ¬ cmpI l[x].sub l[y].sub < 0 := by
  rw [cmpI_neg]
  by_cases e : x = y
  · subst e; omega
  · have := List.pairwise_iff_getElem.1 h y x hy hx (by omega)
    omega
theorem oSt_ok : OK Try.prog (lamOf Try.prog) (orcOf [(25, bySubS)]) := orc_ok (by simpa using bySub_ok)
noncomputable def insnS : Spec := fun args S => match args with
  | [x, .i .i64 a, .i .i64 b, .f (.func f) [] []] => match lstV polE S x with
    | some l => open Classical in if f = 25 ∧ l.length ≤ 900000 ∧ Ris l ∧ 0 ≤ a ∧ a ≤ b ∧ b ≤ l.length then some (.tu [], S) else none
    | none => none
  | _ => none
theorem insn_ok : SpecOK Try.prog 36 insnS := by
  intro args S x S' h
  simp only [insnS] at h
  split at h
  · rename_i s a b f
    split at h
    · rename_i l hl
      split at h
      · rename_i hc
        obtain ⟨rfl, hlim, hris, ha0, hab, hbl⟩ := hc
        cases h
        obtain ⟨a, rfl⟩ := Int.eq_ofNat_of_zero_le ha0
        obtain ⟨b, rfl⟩ := Int.eq_ofNat_of_zero_le (show 0 ≤ b by omega)
        have hab : a ≤ b := by omega
        have hbl : b ≤ l.length := by omega
        have ha6 : a < 1000000 := by omega
        refine fn_of_wp f36 rfl (W_sound oSt_ok mixed _ _ _ _ _ ?_)
        simp (maxSteps := 1000000) (disch := omega) only [c36, wrapS ha6, go_sem, Option.map_none, Option.map_some, ↓reduceIte, Nat.reduceBEq, Nat.reduceAdd, Nat.reduceSub, Nat.reduceEqDiff, Nat.reduceLeDiff, Nat.reduceMul, Nat.reduceLT, Int.reduceLT, Int.reduceLE, Int.reduceAdd, Int.reduceSub, Int.reduceMul, Int.reduceNeg, Int.reduceEq, Int.reduceNe, Int.reduceToNat, decide_true, decide_false, iaddr_i, iaddr_sl_i, not_true_eq_false, not_false_eq_true, reduceCtorEq, ne_eq, forall_const, false_imp_iff, true_imp_iff, implies_true, Int.cast_ofNat_Int, Int.natCast_zero, Int.natCast_one, Int.add_zero, Int.zero_add]
        refine wp_loop (fun j e M dl => dl = [] ∧ M = S ∧ ∃ (i : Nat), j = l.length + 1 - i ∧ a < i ∧ (i ≤ b ∨ i = a + 1) ∧ e.get 0 = s ∧ e.get 1 = .i .i64 a ∧ e.get 3 = .f (.func 25) [] [] ∧ e.get 2 = .i .i64 b ∧ e.get 8 = .i .i64 i) (j := l.length + 1 - (a + 1)) ?_ ?_
        · exact ⟨rfl, rfl, a + 1, rfl, by omega, .inr rfl, rfl, rfl, rfl, rfl, rfl⟩
        rintro j e M d' ⟨rfl, rfl, i, rfl, hai, hib, e0, e1, e3, e2, e8⟩
        refine W_sound oSt_ok mixed _ _ _ _ _ ?_
        by_cases hlt : i < b
        · have hI : (i : Int) < b := by omega
          have hil : i < l.length := by omega
          obtain ⟨bi, o, v, cap, ex, rfl⟩ := lst_sl hl hil
          have hr1 := lstV_row hl hil []
          have hr2 := lstV_row hl (show i - 1 < l.length by omega) []
          rw [List.append_nil] at hr1 hr2
          have hr1 : rowB (M[bi]?) (o + i * 13) v 13 = some (polE.enc l[i]) := hr1
          have hr2 : rowB (M[bi]?) (o + (i - 1) * 13) v 13 = some (polE.enc (l[i - 1]'(by omega))) := hr2
          have hcm := bySub_eq (S := M) l[i] (l[i - 1]'(by omega))
          have hneg := ris_not hris hil (show i - 1 < l.length by omega) (by omega)
          have him : (i : Int) - 1 = ((i - 1 : Nat) : Int) := by omega
          have hgt : (i : Int) > a := by omega
          have hi6 : i < 1000000 := by omega
          have hw1 : wrapV .i64 ((i : Int) - 1) = ((i - 1 : Nat) : Int) := by rw [wrap_i64 (by omega) (by omega)]; omega
          generalize hcv : cmpI l[i].sub (l[i - 1]'(by omega)).sub = cv at hcm hneg
          clear hcv
          simp (maxSteps := 1000000) (disch := omega) only [c36l3, e0, e1, e3, e2, e8, hI, go_sem, Option.map_none, Option.map_some, ↓reduceIte, Nat.reduceBEq, Nat.reduceAdd, Nat.reduceSub, Nat.reduceEqDiff, Nat.reduceLeDiff, Nat.reduceMul, Nat.reduceLT, Int.reduceLT, Int.reduceLE, Int.reduceAdd, Int.reduceSub, Int.reduceMul, Int.reduceNeg, Int.reduceEq, Int.reduceNe, Int.reduceToNat, decide_true, decide_false, iaddr_i, iaddr_sl_i, not_true_eq_false, not_false_eq_true, reduceCtorEq, ne_eq, forall_const, false_imp_iff, true_imp_iff, implies_true, Int.cast_ofNat_Int, Int.natCast_zero, Int.natCast_one, Int.add_zero, Int.zero_add]
          refine wp_unroll oSt_ok mixed 1 ?_
          simp (maxSteps := 1000000) (disch := omega) only [c36l2, LW_succ, hgt, hw1, Int.toNat_natCast, hr1, hr2, orc_cons, hcm, hneg, wrapS hi6, go_sem, Option.map_none, Option.map_some, ↓reduceIte, Nat.reduceBEq, Nat.reduceAdd, Nat.reduceSub, Nat.reduceEqDiff, Nat.reduceLeDiff, Nat.reduceMul, Nat.reduceLT, Int.reduceLT, Int.reduceLE, Int.reduceAdd, Int.reduceSub, Int.reduceMul, Int.reduceNeg, Int.reduceEq, Int.reduceNe, Int.reduceToNat, decide_true, decide_false, iaddr_i, iaddr_sl_i, not_true_eq_false, not_false_eq_true, reduceCtorEq, ne_eq, forall_const, false_imp_iff, true_imp_iff, implies_true, Int.cast_ofNat_Int, Int.natCast_zero, Int.natCast_one, Int.add_zero, Int.zero_add]
          exact ⟨l.length + 1 - (i + 1), by omega, i + 1, rfl, by omega, .inl (by omega), rfl⟩
        · have hI : ¬ (i : Int) < b := by omega
          simp (maxSteps := 1000000) (disch := omega) only [c36l3, e0, e1, e3, e2, e8, hI, go_sem, Option.map_none, Option.map_some, ↓reduceIte, Nat.reduceBEq, Nat.reduceAdd, Nat.reduceSub, Nat.reduceEqDiff, Nat.reduceLeDiff, Nat.reduceMul, Nat.reduceLT, Int.reduceLT, Int.reduceLE, Int.reduceAdd, Int.reduceSub, Int.reduceMul, Int.reduceNeg, Int.reduceEq, Int.reduceNe, Int.reduceToNat, decide_true, decide_false, iaddr_i, iaddr_sl_i, not_true_eq_false, not_false_eq_true, reduceCtorEq, ne_eq, forall_const, false_imp_iff, true_imp_iff, implies_true, Int.cast_ofNat_Int, Int.natCast_zero, Int.natCast_one, Int.add_zero, Int.zero_add]
          exact wkv_same
      · cases h
    · cases h
  · cases h
end Go.Proofs.Ytcoljpgnjiakjaa

namespace Go.Proofs.Ytcoljpgnjiakjaa
open Go.RowKit
set_option linter.unusedSimpArgs false
set_option linter.unusedVariables false
set_option maxRecDepth 10000

noncomputable def symS (n : Nat) : Spec := fun args S => match args with
  | [x, .i .i64 a, .i .i64 m, .i .i64 b, .f (.func f) [] []] => match lstV polE S x with
    | some l => open Classical in if f = 25 ∧ l.length ≤ 900000 ∧ Ris l ∧ 0 ≤ a ∧ a < m ∧ m < b ∧ b ≤ l.length ∧ b - a ≤ n then some (.tu [], S) else none
    | none => none
  | _ => none
theorem sym_eq {n : Nat} {S : Mem} {x : AV} {l : List Pol} (hl : lstV polE S x = some l) (h1 : l.length ≤ 900000) (h2 : Ris l) {a m b : Nat} (h3 : a < m) (h4 : m < b) (h5 : b ≤ l.length) (h6 : b - a ≤ n) :
    symS n [x, .i .i64 (a : Int), .i .i64 (m : Int), .i .i64 (b : Int), .f (.func 25) [] []] S = some (.tu [], S) := by
  simp only [symS, hl]
  rw [if_pos ⟨rfl, h1, h2, by omega, by omega, by omega, by omega, by omega⟩]
theorem sym_ok : ∀ n : Nat, SpecOK Try.prog 37 (symS n)
  | 0 => by
    intro args S x S' h
    simp only [symS] at h
    split at h
    · split at h
      · split at h
        · rename_i hc; omega
        · cases h
      · cases h
    · cases h
  | n + 1 => by
    have ih := sym_ok n
    have hO : OK Try.prog (lamOf Try.prog) (orcOf [(25, bySubS), (37, symS n)]) := orc_ok (by simpa using ⟨bySub_ok, ih⟩)
    intro args S x S' h
    simp only [symS] at h
    split at h
    · rename_i s a m b f
      split at h
      · rename_i l hl
        split at h
        · rename_i hc
          obtain ⟨rfl, hlim, hris, ha0, ham, hmb, hbl, hsz⟩ := hc
          cases h
          obtain ⟨a, rfl⟩ := Int.eq_ofNat_of_zero_le ha0
          obtain ⟨m, rfl⟩ := Int.eq_ofNat_of_zero_le (show 0 ≤ m by omega)
          obtain ⟨b, rfl⟩ := Int.eq_ofNat_of_zero_le (show 0 ≤ b by omega)
          have ham : a < m := by omega
          have hmb : m < b := by omega
          have hbl : b ≤ l.length := by omega
          have hsz : b - a ≤ n + 1 := by omega
          obtain ⟨bi, o, v, cap, ex, rfl⟩ := lst_sl hl (show 0 < l.length by omega)
          have row : ∀ k (hk : k < l.length), rowB (S[bi]?) (o + k * 13) v 13 = some (polE.enc l[k]) := fun k hk => by
            have hr := lstV_row hl hk []
            rw [List.append_nil] at hr; exact hr
          refine fn_of_wp f37 rfl (W_sound hO mixed _ _ _ _ _ ?_)
          by_cases c1 : m = a + 1
          · have hI : (m : Int) - a = 1 := by omega
            simp (maxSteps := 1000000) (disch := omega) only [c37, hI, go_sem, Option.map_none, Option.map_some, ↓reduceIte, Nat.reduceBEq, Nat.reduceAdd, Nat.reduceSub, Nat.reduceEqDiff, Nat.reduceLeDiff, Nat.reduceMul, Nat.reduceLT, Int.reduceLT, Int.reduceLE, Int.reduceAdd, Int.reduceSub, Int.reduceMul, Int.reduceNeg, Int.reduceEq, Int.reduceNe, Int.reduceToNat, decide_true, decide_false, iaddr_i, iaddr_sl_i, not_true_eq_false, not_false_eq_true, reduceCtorEq, ne_eq, forall_const, false_imp_iff, true_imp_iff, implies_true, Int.cast_ofNat_Int, Int.natCast_zero, Int.natCast_one, Int.add_zero, Int.zero_add]
            refine wp_loop (fun j e M dl => dl = [] ∧ M = S ∧ ∃ (q : Nat), j = q - m ∧ m ≤ q ∧ q ≤ b ∧ e.get 4 = .f (.func 25) [] [] ∧ e.get 0 = .sl bi o v l.length cap ex ∧ e.get 1 = .i .i64 a ∧ e.get 11 = .i .i64 q ∧ e.get 10 = .i .i64 m) (j := b - m) ?_ ?_
            · exact ⟨rfl, rfl, b, rfl, by omega, Nat.le_refl _, rfl, rfl, rfl, rfl, rfl⟩
            rintro j e M d' ⟨rfl, rfl, q, rfl, hmq, hqb, e4, e0, e1, e11, e10⟩
            refine W_sound hO mixed _ _ _ _ _ ?_
            by_cases hlt : m < q
            · have hqI : (m : Int) < q := by omega
              obtain ⟨g, hg⟩ : ∃ g, g = (m + q) / 2 := ⟨_, rfl⟩
              have hm2 : ((m : Int) + q) / 2 = (g : Int) := by omega
              have hgl : g < l.length := by omega
              have hr1 := row g hgl
              have hr2 := row a (by omega)
              have hcm := bySub_eq (S := M) l[g] (l[a]'(by omega))
              have hneg := ris_not hris hgl (show a < l.length by omega) (by omega)
              generalize hcv : cmpI l[g].sub (l[a]'(by omega)).sub = cv at hcm hneg
              clear hcv row
              have hgI : (g : Int) ≤ 900000 := by omega
              simp (maxSteps := 1000000) (disch := omega) only [c37l1, e4, e0, e1, e11, e10, hqI, shr_1, hm2, Int.toNat_natCast, hr1, hr2, orc_cons, hcm, hneg, go_sem, Option.map_none, Option.map_some, ↓reduceIte, Nat.reduceBEq, Nat.reduceAdd, Nat.reduceSub, Nat.reduceEqDiff, Nat.reduceLeDiff, Nat.reduceMul, Nat.reduceLT, Int.reduceLT, Int.reduceLE, Int.reduceAdd, Int.reduceSub, Int.reduceMul, Int.reduceNeg, Int.reduceEq, Int.reduceNe, Int.reduceToNat, decide_true, decide_false, iaddr_i, iaddr_sl_i, not_true_eq_false, not_false_eq_true, reduceCtorEq, ne_eq, forall_const, false_imp_iff, true_imp_iff, implies_true, Int.cast_ofNat_Int, Int.natCast_zero, Int.natCast_one, Int.add_zero, Int.zero_add]
              exact ⟨g - m, by omega, g, rfl, by omega, by omega, rfl⟩
            · have hqI : ¬ (m : Int) < q := by omega
              simp (maxSteps := 1000000) (disch := omega) only [c37l1, e4, e0, e1, e11, e10, hqI, go_sem, Option.map_none, Option.map_some, ↓reduceIte, Nat.reduceBEq, Nat.reduceAdd, Nat.reduceSub, Nat.reduceEqDiff, Nat.reduceLeDiff, Nat.reduceMul, Nat.reduceLT, Int.reduceLT, Int.reduceLE, Int.reduceAdd, Int.reduceSub, Int.reduceMul, Int.reduceNeg, Int.reduceEq, Int.reduceNe, Int.reduceToNat, decide_true, decide_false, iaddr_i, iaddr_sl_i, not_true_eq_false, not_false_eq_true, reduceCtorEq, ne_eq, forall_const, false_imp_iff, true_imp_iff, implies_true, Int.cast_ofNat_Int, Int.natCast_zero, Int.natCast_one, Int.add_zero, Int.zero_add]
              refine wp_unroll hO mixed 1 ?_
              have hz : ¬ (a : Int) < m - 1 := by omega
              simp (maxSteps := 1000000) (disch := omega) only [c37l3, LW_succ, hz, go_sem, Option.map_none, Option.map_some, ↓reduceIte, Nat.reduceBEq, Nat.reduceAdd, Nat.reduceSub, Nat.reduceEqDiff, Nat.reduceLeDiff, Nat.reduceMul, Nat.reduceLT, Int.reduceLT, Int.reduceLE, Int.reduceAdd, Int.reduceSub, Int.reduceMul, Int.reduceNeg, Int.reduceEq, Int.reduceNe, Int.reduceToNat, decide_true, decide_false, iaddr_i, iaddr_sl_i, not_true_eq_false, not_false_eq_true, reduceCtorEq, ne_eq, forall_const, false_imp_iff, true_imp_iff, implies_true, Int.cast_ofNat_Int, Int.natCast_zero, Int.natCast_one, Int.add_zero, Int.zero_add]
              exact wkv_same
          · have hI : ¬ (m : Int) - a = 1 := by omega
            by_cases c2 : b = m + 1
            · have hI2 : (b : Int) - m = 1 := by omega
              simp (maxSteps := 1000000) (disch := omega) only [c37, hI, hI2, go_sem, Option.map_none, Option.map_some, ↓reduceIte, Nat.reduceBEq, Nat.reduceAdd, Nat.reduceSub, Nat.reduceEqDiff, Nat.reduceLeDiff, Nat.reduceMul, Nat.reduceLT, Int.reduceLT, Int.reduceLE, Int.reduceAdd, Int.reduceSub, Int.reduceMul, Int.reduceNeg, Int.reduceEq, Int.reduceNe, Int.reduceToNat, decide_true, decide_false, iaddr_i, iaddr_sl_i, not_true_eq_false, not_false_eq_true, reduceCtorEq, ne_eq, forall_const, false_imp_iff, true_imp_iff, implies_true, Int.cast_ofNat_Int, Int.natCast_zero, Int.natCast_one, Int.add_zero, Int.zero_add]
              refine wp_loop (fun j e M dl => dl = [] ∧ M = S ∧ ∃ (q : Nat), j = m - q ∧ a ≤ q ∧ q ≤ m ∧ e.get 4 = .f (.func 25) [] [] ∧ e.get 0 = .sl bi o v l.length cap ex ∧ e.get 2 = .i .i64 m ∧ e.get 15 = .i .i64 m ∧ e.get 14 = .i .i64 q) (j := m - a) ?_ ?_
              · exact ⟨rfl, rfl, a, rfl, Nat.le_refl _, by omega, rfl, rfl, rfl, rfl, rfl⟩
              rintro j e M d' ⟨rfl, rfl, q, rfl, haq, hqm, e4, e0, e2, e15, e14⟩
              refine W_sound hO mixed _ _ _ _ _ ?_
              by_cases hlt : q < m
              · have hqI : (q : Int) < m := by omega
                obtain ⟨g, hg⟩ : ∃ g, g = (q + m) / 2 := ⟨_, rfl⟩
                have hm2 : ((q : Int) + m) / 2 = (g : Int) := by omega
                have hgl : g < l.length := by omega
                have hr1 := row g hgl
                have hr2 := row m (by omega)
                have hcm := bySub_eq (S := M) (l[m]'(by omega)) l[g]
                have hneg := ris_not hris (show m < l.length by omega) hgl (by omega)
                generalize hcv : cmpI (l[m]'(by omega)).sub l[g].sub = cv at hcm hneg
                clear hcv row
                have hg6 : g < 1000000 := by omega
                simp (maxSteps := 1000000) (disch := omega) only [c37l5, e4, e0, e2, e15, e14, hqI, shr_1, hm2, Int.toNat_natCast, hr1, hr2, orc_cons, hcm, hneg, wrapS hg6, go_sem, Option.map_none, Option.map_some, ↓reduceIte, Nat.reduceBEq, Nat.reduceAdd, Nat.reduceSub, Nat.reduceEqDiff, Nat.reduceLeDiff, Nat.reduceMul, Nat.reduceLT, Int.reduceLT, Int.reduceLE, Int.reduceAdd, Int.reduceSub, Int.reduceMul, Int.reduceNeg, Int.reduceEq, Int.reduceNe, Int.reduceToNat, decide_true, decide_false, iaddr_i, iaddr_sl_i, not_true_eq_false, not_false_eq_true, reduceCtorEq, ne_eq, forall_const, false_imp_iff, true_imp_iff, implies_true, Int.cast_ofNat_Int, Int.natCast_zero, Int.natCast_one, Int.add_zero, Int.zero_add]
                exact ⟨m - (g + 1), by omega, g + 1, rfl, by omega, by omega, rfl⟩
              · have hqI : ¬ (q : Int) < m := by omega
                obtain rfl : q = m := by omega
                simp (maxSteps := 1000000) (disch := omega) only [c37l5, e4, e0, e2, e15, e14, hqI, go_sem, Option.map_none, Option.map_some, ↓reduceIte, Nat.reduceBEq, Nat.reduceAdd, Nat.reduceSub, Nat.reduceEqDiff, Nat.reduceLeDiff, Nat.reduceMul, Nat.reduceLT, Int.reduceLT, Int.reduceLE, Int.reduceAdd, Int.reduceSub, Int.reduceMul, Int.reduceNeg, Int.reduceEq, Int.reduceNe, Int.reduceToNat, decide_true, decide_false, iaddr_i, iaddr_sl_i, not_true_eq_false, not_false_eq_true, reduceCtorEq, ne_eq, forall_const, false_imp_iff, true_imp_iff, implies_true, Int.cast_ofNat_Int, Int.natCast_zero, Int.natCast_one, Int.add_zero, Int.zero_add]
                refine wp_unroll hO mixed 1 ?_
                simp (maxSteps := 1000000) (disch := omega) only [c37l7, LW_succ, Int.lt_irrefl, gt_iff_lt, go_sem, Option.map_none, Option.map_some, ↓reduceIte, Nat.reduceBEq, Nat.reduceAdd, Nat.reduceSub, Nat.reduceEqDiff, Nat.reduceLeDiff, Nat.reduceMul, Nat.reduceLT, Int.reduceLT, Int.reduceLE, Int.reduceAdd, Int.reduceSub, Int.reduceMul, Int.reduceNeg, Int.reduceEq, Int.reduceNe, Int.reduceToNat, decide_true, decide_false, iaddr_i, iaddr_sl_i, not_true_eq_false, not_false_eq_true, reduceCtorEq, ne_eq, forall_const, false_imp_iff, true_imp_iff, implies_true, Int.cast_ofNat_Int, Int.natCast_zero, Int.natCast_one, Int.add_zero, Int.zero_add]
                exact wkv_same
            · have hI2 : ¬ (b : Int) - m = 1 := by omega
              obtain ⟨mid, hmid⟩ : ∃ mid, mid = (a + b) / 2 := ⟨_, rfl⟩
              have hm2 : ((a : Int) + b) / 2 = (mid : Int) := by omega
              by_cases c3 : mid < m
              · have c3I : (m : Int) > mid := by omega
                obtain ⟨st, hst⟩ : ∃ st, st = mid + m - b := ⟨_, rfl⟩
                have hst2 : (mid : Int) + m - b = (st : Int) := by omega
                simp (maxSteps := 1000000) (disch := omega) only [c37, hI, hI2, shr_1, hm2, c3I, hst2, go_sem, Option.map_none, Option.map_some, ↓reduceIte, Nat.reduceBEq, Nat.reduceAdd, Nat.reduceSub, Nat.reduceEqDiff, Nat.reduceLeDiff, Nat.reduceMul, Nat.reduceLT, Int.reduceLT, Int.reduceLE, Int.reduceAdd, Int.reduceSub, Int.reduceMul, Int.reduceNeg, Int.reduceEq, Int.reduceNe, Int.reduceToNat, decide_true, decide_false, iaddr_i, iaddr_sl_i, not_true_eq_false, not_false_eq_true, reduceCtorEq, ne_eq, forall_const, false_imp_iff, true_imp_iff, implies_true, Int.cast_ofNat_Int, Int.natCast_zero, Int.natCast_one, Int.add_zero, Int.zero_add]
                refine wp_loop (fun j e M dl => dl = [] ∧ M = S ∧ ∃ (q : Nat), j = mid - q ∧ st ≤ q ∧ q ≤ mid ∧ e.get 4 = .f (.func 25) [] [] ∧ e.get 22 = .i .i64 ((mid : Int) + m - 1) ∧ e.get 0 = .sl bi o v l.length cap ex ∧ e.get 21 = .i .i64 mid ∧ e.get 3 = .i .i64 b ∧ e.get 18 = .i .i64 mid ∧ e.get 1 = .i .i64 a ∧ e.get 2 = .i .i64 m ∧ e.get 19 = .i .i64 ((mid : Int) + m) ∧ e.get 20 = .i .i64 q) (j := mid - st) ?_ ?_
                · exact ⟨rfl, rfl, st, rfl, Nat.le_refl _, by omega, rfl, rfl, rfl, rfl, rfl, rfl, rfl, rfl, rfl, rfl⟩
                rintro j e M d' ⟨rfl, rfl, q, rfl, hq1, hq2, e4, e22, e0, e21, e3, e18, e1, e2, e19, e20⟩
                refine W_sound hO mixed _ _ _ _ _ ?_
                by_cases hlt : q < mid
                · have hqI : (q : Int) < mid := by omega
                  obtain ⟨g, hg⟩ : ∃ g, g = (q + mid) / 2 := ⟨_, rfl⟩
                  have hg2 : ((q : Int) + mid) / 2 = (g : Int) := by omega
                  obtain ⟨w, hw⟩ : ∃ w, w = mid + m - 1 - g := ⟨_, rfl⟩
                  have hw2 : (mid : Int) + m - 1 - g = (w : Int) := by omega
                  have hgl : g < l.length := by omega
                  have hwl : w < l.length := by omega
                  have hr1 := row g hgl
                  have hr2 := row w hwl
                  have hcm := bySub_eq (S := M) l[w] l[g]
                  have hneg := ris_not hris hwl hgl (by omega)
                  generalize hcv : cmpI l[w].sub l[g].sub = cv at hcm hneg
                  clear hcv row
                  have hg6 : g < 1000000 := by omega
                  simp (maxSteps := 1000000) (disch := omega) only [c37l9, e4, e22, e0, e21, e3, e18, e1, e2, e19, e20, hqI, shr_1, hg2, hw2, Int.toNat_natCast, hr1, hr2, orc_cons, hcm, hneg, wrapS hg6, go_sem, Option.map_none, Option.map_some, ↓reduceIte, Nat.reduceBEq, Nat.reduceAdd, Nat.reduceSub, Nat.reduceEqDiff, Nat.reduceLeDiff, Nat.reduceMul, Nat.reduceLT, Int.reduceLT, Int.reduceLE, Int.reduceAdd, Int.reduceSub, Int.reduceMul, Int.reduceNeg, Int.reduceEq, Int.reduceNe, Int.reduceToNat, decide_true, decide_false, iaddr_i, iaddr_sl_i, not_true_eq_false, not_false_eq_true, reduceCtorEq, ne_eq, forall_const, false_imp_iff, true_imp_iff, implies_true, Int.cast_ofNat_Int, Int.natCast_zero, Int.natCast_one, Int.add_zero, Int.zero_add]
                  exact ⟨mid - (g + 1), by omega, g + 1, rfl, by omega, by omega, rfl⟩
                · have hqI : ¬ (q : Int) < mid := by omega
                  obtain rfl : q = mid := by omega
                  have hend : (q : Int) + m - q = m := by omega
                  have k1 : (q : Int) < m := by omega
                  have k2 : (a : Int) < q := by omega
                  have k3 : (m : Int) < b := by omega
                  have hsy := sym_eq (n := n) (x := .sl bi o v l.length cap ex) hl hlim hris (a := q) (m := m) (b := b) (by omega) hmb hbl (by omega)
                  simp (maxSteps := 1000000) (disch := omega) only [c37l9, e4, e22, e0, e21, e3, e18, e1, e2, e19, e20, hqI, hend, k1, k2, k3, Int.lt_irrefl, orc_cons, hsy, go_sem, Option.map_none, Option.map_some, ↓reduceIte, Nat.reduceBEq, Nat.reduceAdd, Nat.reduceSub, Nat.reduceEqDiff, Nat.reduceLeDiff, Nat.reduceMul, Nat.reduceLT, Int.reduceLT, Int.reduceLE, Int.reduceAdd, Int.reduceSub, Int.reduceMul, Int.reduceNeg, Int.reduceEq, Int.reduceNe, Int.reduceToNat, decide_true, decide_false, iaddr_i, iaddr_sl_i, not_true_eq_false, not_false_eq_true, reduceCtorEq, ne_eq, forall_const, false_imp_iff, true_imp_iff, implies_true, Int.cast_ofNat_Int, Int.natCast_zero, Int.natCast_one, Int.add_zero, Int.zero_add]
                  exact wkv_same
              · have c3I : ¬ (m : Int) > mid := by omega
                simp (maxSteps := 1000000) (disch := omega) only [c37, hI, hI2, shr_1, hm2, c3I, go_sem, Option.map_none, Option.map_some, ↓reduceIte, Nat.reduceBEq, Nat.reduceAdd, Nat.reduceSub, Nat.reduceEqDiff, Nat.reduceLeDiff, Nat.reduceMul, Nat.reduceLT, Int.reduceLT, Int.reduceLE, Int.reduceAdd, Int.reduceSub, Int.reduceMul, Int.reduceNeg, Int.reduceEq, Int.reduceNe, Int.reduceToNat, decide_true, decide_false, iaddr_i, iaddr_sl_i, not_true_eq_false, not_false_eq_true, reduceCtorEq, ne_eq, forall_const, false_imp_iff, true_imp_iff, implies_true, Int.cast_ofNat_Int, Int.natCast_zero, Int.natCast_one, Int.add_zero, Int.zero_add]
                refine wp_loop (fun j e M dl => dl = [] ∧ M = S ∧ ∃ (q : Nat), j = m - q ∧ a ≤ q ∧ q ≤ m ∧ e.get 4 = .f (.func 25) [] [] ∧ e.get 22 = .i .i64 ((mid : Int) + m - 1) ∧ e.get 0 = .sl bi o v l.length cap ex ∧ e.get 21 = .i .i64 m ∧ e.get 3 = .i .i64 b ∧ e.get 18 = .i .i64 mid ∧ e.get 1 = .i .i64 a ∧ e.get 2 = .i .i64 m ∧ e.get 19 = .i .i64 ((mid : Int) + m) ∧ e.get 20 = .i .i64 q) (j := m - a) ?_ ?_
                · exact ⟨rfl, rfl, a, rfl, Nat.le_refl _, by omega, rfl, rfl, rfl, rfl, rfl, rfl, rfl, rfl, rfl, rfl⟩
                rintro j e M d' ⟨rfl, rfl, q, rfl, hq1, hq2, e4, e22, e0, e21, e3, e18, e1, e2, e19, e20⟩
                refine W_sound hO mixed _ _ _ _ _ ?_
                by_cases hlt : q < m
                · have hqI : (q : Int) < m := by omega
                  obtain ⟨g, hg⟩ : ∃ g, g = (q + m) / 2 := ⟨_, rfl⟩
                  have hg2 : ((q : Int) + m) / 2 = (g : Int) := by omega
                  obtain ⟨w, hw⟩ : ∃ w, w = mid + m - 1 - g := ⟨_, rfl⟩
                  have hw2 : (mid : Int) + m - 1 - g = (w : Int) := by omega
                  have hgl : g < l.length := by omega
                  have hwl : w < l.length := by omega
                  have hr1 := row g hgl
                  have hr2 := row w hwl
                  have hcm := bySub_eq (S := M) l[w] l[g]
                  have hneg := ris_not hris hwl hgl (by omega)
                  generalize hcv : cmpI l[w].sub l[g].sub = cv at hcm hneg
                  clear hcv row
                  have hg6 : g < 1000000 := by omega
                  simp (maxSteps := 1000000) (disch := omega) only [c37l9, e4, e22, e0, e21, e3, e18, e1, e2, e19, e20, hqI, shr_1, hg2, hw2, Int.toNat_natCast, hr1, hr2, orc_cons, hcm, hneg, wrapS hg6, go_sem, Option.map_none, Option.map_some, ↓reduceIte, Nat.reduceBEq, Nat.reduceAdd, Nat.reduceSub, Nat.reduceEqDiff, Nat.reduceLeDiff, Nat.reduceMul, Nat.reduceLT, Int.reduceLT, Int.reduceLE, Int.reduceAdd, Int.reduceSub, Int.reduceMul, Int.reduceNeg, Int.reduceEq, Int.reduceNe, Int.reduceToNat, decide_true, decide_false, iaddr_i, iaddr_sl_i, not_true_eq_false, not_false_eq_true, reduceCtorEq, ne_eq, forall_const, false_imp_iff, true_imp_iff, implies_true, Int.cast_ofNat_Int, Int.natCast_zero, Int.natCast_one, Int.add_zero, Int.zero_add]
                  exact ⟨m - (g + 1), by omega, g + 1, rfl, by omega, by omega, rfl⟩
                · have hqI : ¬ (q : Int) < m := by omega
                  obtain rfl : q = m := by omega
                  have hend : (mid : Int) + q - q = mid := by omega
                  have k2 : (a : Int) < q := by omega
                  by_cases hmm : q < mid
                  · have k1 : (q : Int) < mid := by omega
                    have hsy := sym_eq (n := n) (x := .sl bi o v l.length cap ex) hl hlim hris (a := a) (m := q) (b := mid) (by omega) hmm (by omega) (by omega)
                    simp (maxSteps := 1000000) (disch := omega) only [c37l9, e4, e22, e0, e21, e3, e18, e1, e2, e19, e20, hqI, hend, k1, k2, Int.lt_irrefl, orc_cons, hsy, go_sem, Option.map_none, Option.map_some, ↓reduceIte, Nat.reduceBEq, Nat.reduceAdd, Nat.reduceSub, Nat.reduceEqDiff, Nat.reduceLeDiff, Nat.reduceMul, Nat.reduceLT, Int.reduceLT, Int.reduceLE, Int.reduceAdd, Int.reduceSub, Int.reduceMul, Int.reduceNeg, Int.reduceEq, Int.reduceNe, Int.reduceToNat, decide_true, decide_false, iaddr_i, iaddr_sl_i, not_true_eq_false, not_false_eq_true, reduceCtorEq, ne_eq, forall_const, false_imp_iff, true_imp_iff, implies_true, Int.cast_ofNat_Int, Int.natCast_zero, Int.natCast_one, Int.add_zero, Int.zero_add]
                    exact wkv_same
                  · have k1 : ¬ (q : Int) < mid := by omega
                    simp (maxSteps := 1000000) (disch := omega) only [c37l9, e4, e22, e0, e21, e3, e18, e1, e2, e19, e20, hqI, hend, k1, k2, Int.lt_irrefl, go_sem, Option.map_none, Option.map_some, ↓reduceIte, Nat.reduceBEq, Nat.reduceAdd, Nat.reduceSub, Nat.reduceEqDiff, Nat.reduceLeDiff, Nat.reduceMul, Nat.reduceLT, Int.reduceLT, Int.reduceLE, Int.reduceAdd, Int.reduceSub, Int.reduceMul, Int.reduceNeg, Int.reduceEq, Int.reduceNe, Int.reduceToNat, decide_true, decide_false, iaddr_i, iaddr_sl_i, not_true_eq_false, not_false_eq_true, reduceCtorEq, ne_eq, forall_const, false_imp_iff, true_imp_iff, implies_true, Int.cast_ofNat_Int, Int.natCast_zero, Int.natCast_one, Int.add_zero, Int.zero_add]
                    exact wkv_same
        · cases h
      · cases h
    · cases h
end Go.Proofs.Ytcoljpgnjiakjaa

namespace Go.Proofs.Ytcoljpgnjiakjaa
open Go.RowKit
set_option linter.unusedSimpArgs false
set_option linter.unusedVariables false
set_option maxRecDepth 10000

theorem insn_eq {S : Mem} {x : AV} {l : List Pol} (hl : lstV polE S x = some l) (h1 : l.length ≤ 900000) (h2 : Ris l) {a b : Nat} (h3 : a ≤ b) (h5 : b ≤ l.length) :
    insnS [x, .i .i64 (a : Int), .i .i64 (b : Int), .f (.func 25) [] []] S = some (.tu [], S) := by
  simp only [insnS, hl]
  rw [if_pos ⟨rfl, h1, h2, by omega, by omega, by omega⟩]
noncomputable def stS : Spec := fun args S => match args with
  | [x, .i .i64 n, .f (.func f) [] []] => match lstV polE S x with
    | some l => open Classical in if f = 25 ∧ l.length ≤ 900000 ∧ Ris l ∧ n = l.length then some (.tu [], S) else none
    | none => none
  | _ => none
theorem oSs_ok : OK Try.prog (lamOf Try.prog) (orcOf [(36, insnS), (37, symS 900000)]) := orc_ok (by simpa using ⟨insn_ok, sym_ok 900000⟩)
theorem st_ok : SpecOK Try.prog 34 stS := by
  intro args S x S' h
  simp only [stS] at h
  split at h
  · rename_i s n f
    split at h
    · rename_i l hl
      split at h
      · rename_i hc
        obtain ⟨rfl, hlim, hris, rfl⟩ := hc
        cases h
        obtain ⟨n, hn⟩ : ∃ n, n = l.length := ⟨_, rfl⟩
        rw [← hn]
        have hnl : n ≤ 900000 := by omega
        refine fn_of_wp f34 rfl (W_sound oSs_ok mixed _ _ _ _ _ ?_)
        simp (maxSteps := 1000000) (disch := omega) only [c34, go_sem, Option.map_none, Option.map_some, ↓reduceIte, Nat.reduceBEq, Nat.reduceAdd, Nat.reduceSub, Nat.reduceEqDiff, Nat.reduceLeDiff, Nat.reduceMul, Nat.reduceLT, Int.reduceLT, Int.reduceLE, Int.reduceAdd, Int.reduceSub, Int.reduceMul, Int.reduceNeg, Int.reduceEq, Int.reduceNe, Int.reduceToNat, decide_true, decide_false, iaddr_i, iaddr_sl_i, not_true_eq_false, not_false_eq_true, reduceCtorEq, ne_eq, forall_const, false_imp_iff, true_imp_iff, implies_true, Int.cast_ofNat_Int, Int.natCast_zero, Int.natCast_one, Int.add_zero, Int.zero_add]
        refine wp_loop (fun j e M dl => dl = [] ∧ M = S ∧ ∃ (a : Nat), j = n - a ∧ a ≤ n ∧ e.get 6 = .i .i64 20 ∧ e.get 2 = .f (.func 25) [] [] ∧ e.get 0 = s ∧ e.get 1 = .i .i64 n ∧ e.get 8 = .i .i64 ((a : Int) + 20) ∧ e.get 7 = .i .i64 a) (j := n) ?_ ?_
        · exact ⟨rfl, rfl, 0, rfl, Nat.zero_le _, rfl, rfl, rfl, rfl, rfl, rfl⟩
        rintro j e M d' ⟨rfl, rfl, a, rfl, ha, e6, e2, e0, e1, e8, e7⟩
        refine W_sound oSs_ok mixed _ _ _ _ _ ?_
        by_cases hlt : a + 20 ≤ n
        · have hI : (a : Int) + 20 ≤ n := by omega
          have hi := insn_eq hl hlim hris (a := a) (b := a + 20) (by omega) (by omega)
          rw [show ((a + 20 : Nat) : Int) = (a : Int) + 20 by omega] at hi
          simp (maxSteps := 1000000) (disch := omega) only [c34l0, e6, e2, e0, e1, e8, e7, hI, orc_cons, hi, go_sem, Option.map_none, Option.map_some, ↓reduceIte, Nat.reduceBEq, Nat.reduceAdd, Nat.reduceSub, Nat.reduceEqDiff, Nat.reduceLeDiff, Nat.reduceMul, Nat.reduceLT, Int.reduceLT, Int.reduceLE, Int.reduceAdd, Int.reduceSub, Int.reduceMul, Int.reduceNeg, Int.reduceEq, Int.reduceNe, Int.reduceToNat, decide_true, decide_false, iaddr_i, iaddr_sl_i, not_true_eq_false, not_false_eq_true, reduceCtorEq, ne_eq, forall_const, false_imp_iff, true_imp_iff, implies_true, Int.cast_ofNat_Int, Int.natCast_zero, Int.natCast_one, Int.add_zero, Int.zero_add]
          refine ⟨n - (a + 20), by omega, a + 20, rfl, hlt, ?_, ?_⟩
          · rw [show ((a + 20 : Nat) : Int) = (a : Int) + 20 by omega]
          · rw [show ((a + 20 : Nat) : Int) = (a : Int) + 20 by omega]
        · have hI : ¬ (a : Int) + 20 ≤ n := by omega
          have hi := insn_eq hl hlim hris (a := a) (b := n) ha (by omega)
          simp (maxSteps := 1000000) (disch := omega) only [c34l0, e6, e2, e0, e1, e8, e7, hI, orc_cons, hi, go_sem, Option.map_none, Option.map_some, ↓reduceIte, Nat.reduceBEq, Nat.reduceAdd, Nat.reduceSub, Nat.reduceEqDiff, Nat.reduceLeDiff, Nat.reduceMul, Nat.reduceLT, Int.reduceLT, Int.reduceLE, Int.reduceAdd, Int.reduceSub, Int.reduceMul, Int.reduceNeg, Int.reduceEq, Int.reduceNe, Int.reduceToNat, decide_true, decide_false, iaddr_i, iaddr_sl_i, not_true_eq_false, not_false_eq_true, reduceCtorEq, ne_eq, forall_const, false_imp_iff, true_imp_iff, implies_true, Int.cast_ofNat_Int, Int.natCast_zero, Int.natCast_one, Int.add_zero, Int.zero_add]
          refine wp_loop (fun j e M' dl => dl = [] ∧ M' = M ∧ ∃ (bs : Nat), j = n - bs ∧ 20 ≤ bs ∧ bs ≤ 1800000 ∧ e.get 6 = .i .i64 bs ∧ e.get 2 = .f (.func 25) [] [] ∧ e.get 0 = s ∧ e.get 1 = .i .i64 n) (j := n - 20) ?_ ?_
          · exact ⟨rfl, rfl, 20, rfl, Nat.le_refl _, by omega, rfl, rfl, rfl, rfl⟩
          clear e6 e2 e0 e1 e8 e7 hI hlt ha hi
          rintro j e M' d' ⟨rfl, rfl, bs, rfl, hb20, hbb, e6, e2, e0, e1⟩
          refine W_sound oSs_ok mixed _ _ _ _ _ ?_
          by_cases hbs : bs < n
          · have hI : (bs : Int) < n := by omega
            simp (maxSteps := 1000000) (disch := omega) only [c34l2, e6, e2, e0, e1, hI, go_sem, Option.map_none, Option.map_some, ↓reduceIte, Nat.reduceBEq, Nat.reduceAdd, Nat.reduceSub, Nat.reduceEqDiff, Nat.reduceLeDiff, Nat.reduceMul, Nat.reduceLT, Int.reduceLT, Int.reduceLE, Int.reduceAdd, Int.reduceSub, Int.reduceMul, Int.reduceNeg, Int.reduceEq, Int.reduceNe, Int.reduceToNat, decide_true, decide_false, iaddr_i, iaddr_sl_i, not_true_eq_false, not_false_eq_true, reduceCtorEq, ne_eq, forall_const, false_imp_iff, true_imp_iff, implies_true, Int.cast_ofNat_Int, Int.natCast_zero, Int.natCast_one, Int.add_zero, Int.zero_add]
            refine wp_loop (fun j e M'' dl => dl = [] ∧ M'' = M' ∧ ∃ (a : Nat), j = n - a ∧ a ≤ n ∧ e.get 6 = .i .i64 bs ∧ e.get 2 = .f (.func 25) [] [] ∧ e.get 0 = s ∧ e.get 1 = .i .i64 n ∧ e.get 8 = .i .i64 ((a : Int) + 2 * bs) ∧ e.get 7 = .i .i64 a) (j := n) ?_ ?_
            · exact ⟨rfl, rfl, 0, rfl, Nat.zero_le _, rfl, rfl, rfl, rfl, (show AV.i IntKind.i64 (2 * (bs : Int)) = AV.i .i64 (((0 : Nat) : Int) + 2 * bs) by congr 1; omega), rfl⟩
            clear e6 e2 e0 e1
            rintro j e M'' d' ⟨rfl, rfl, a, rfl, ha, e6, e2, e0, e1, e8, e7⟩
            refine W_sound oSs_ok mixed _ _ _ _ _ ?_
            by_cases hlt : a + 2 * bs ≤ n
            · have hI2 : (a : Int) + 2 * bs ≤ n := by omega
              have hs := sym_eq (n := 900000) hl hlim hris (a := a) (m := a + bs) (b := a + 2 * bs) (by omega) (by omega) (by omega) (by omega)
              rw [show ((a + 2 * bs : Nat) : Int) = (a : Int) + 2 * bs by omega, show ((a + bs : Nat) : Int) = (a : Int) + bs by omega] at hs
              simp (maxSteps := 1000000) (disch := omega) only [c34l1, e6, e2, e0, e1, e8, e7, hI2, orc_cons, hs, go_sem, Option.map_none, Option.map_some, ↓reduceIte, Nat.reduceBEq, Nat.reduceAdd, Nat.reduceSub, Nat.reduceEqDiff, Nat.reduceLeDiff, Nat.reduceMul, Nat.reduceLT, Int.reduceLT, Int.reduceLE, Int.reduceAdd, Int.reduceSub, Int.reduceMul, Int.reduceNeg, Int.reduceEq, Int.reduceNe, Int.reduceToNat, decide_true, decide_false, iaddr_i, iaddr_sl_i, not_true_eq_false, not_false_eq_true, reduceCtorEq, ne_eq, forall_const, false_imp_iff, true_imp_iff, implies_true, Int.cast_ofNat_Int, Int.natCast_zero, Int.natCast_one, Int.add_zero, Int.zero_add]
              refine ⟨n - (a + 2 * bs), by omega, a + 2 * bs, rfl, hlt, ?_, ?_⟩
              · rw [show ((a + 2 * bs : Nat) : Int) = (a : Int) + 2 * bs by omega]
              · rw [show ((a + 2 * bs : Nat) : Int) = (a : Int) + 2 * bs by omega]
            · have hI2 : ¬ (a : Int) + 2 * bs ≤ n := by omega
              by_cases hm : a + bs < n
              · have hmI : (a : Int) + bs < n := by omega
                have hs := sym_eq (n := 900000) hl hlim hris (a := a) (m := a + bs) (b := n) (by omega) hm (by omega) (by omega)
                rw [show ((a + bs : Nat) : Int) = (a : Int) + bs by omega] at hs
                simp (maxSteps := 1000000) (disch := omega) only [c34l1, e6, e2, e0, e1, e8, e7, hI2, hmI, orc_cons, hs, go_sem, Option.map_none, Option.map_some, ↓reduceIte, Nat.reduceBEq, Nat.reduceAdd, Nat.reduceSub, Nat.reduceEqDiff, Nat.reduceLeDiff, Nat.reduceMul, Nat.reduceLT, Int.reduceLT, Int.reduceLE, Int.reduceAdd, Int.reduceSub, Int.reduceMul, Int.reduceNeg, Int.reduceEq, Int.reduceNe, Int.reduceToNat, decide_true, decide_false, iaddr_i, iaddr_sl_i, not_true_eq_false, not_false_eq_true, reduceCtorEq, ne_eq, forall_const, false_imp_iff, true_imp_iff, implies_true, Int.cast_ofNat_Int, Int.natCast_zero, Int.natCast_one, Int.add_zero, Int.zero_add]
                exact ⟨n - 2 * bs, by omega, 2 * bs, rfl, by omega, by omega, by rw [show ((2 * bs : Nat) : Int) = (bs : Int) * 2 by omega]⟩
              · have hmI : ¬ (a : Int) + bs < n := by omega
                simp (maxSteps := 1000000) (disch := omega) only [c34l1, e6, e2, e0, e1, e8, e7, hI2, hmI, go_sem, Option.map_none, Option.map_some, ↓reduceIte, Nat.reduceBEq, Nat.reduceAdd, Nat.reduceSub, Nat.reduceEqDiff, Nat.reduceLeDiff, Nat.reduceMul, Nat.reduceLT, Int.reduceLT, Int.reduceLE, Int.reduceAdd, Int.reduceSub, Int.reduceMul, Int.reduceNeg, Int.reduceEq, Int.reduceNe, Int.reduceToNat, decide_true, decide_false, iaddr_i, iaddr_sl_i, not_true_eq_false, not_false_eq_true, reduceCtorEq, ne_eq, forall_const, false_imp_iff, true_imp_iff, implies_true, Int.cast_ofNat_Int, Int.natCast_zero, Int.natCast_one, Int.add_zero, Int.zero_add]
                exact ⟨n - 2 * bs, by omega, 2 * bs, rfl, by omega, by omega, by rw [show ((2 * bs : Nat) : Int) = (bs : Int) * 2 by omega]⟩
          · have hI : ¬ (bs : Int) < n := by omega
            simp (maxSteps := 1000000) (disch := omega) only [c34l2, e6, e2, e0, e1, hI, go_sem, Option.map_none, Option.map_some, ↓reduceIte, Nat.reduceBEq, Nat.reduceAdd, Nat.reduceSub, Nat.reduceEqDiff, Nat.reduceLeDiff, Nat.reduceMul, Nat.reduceLT, Int.reduceLT, Int.reduceLE, Int.reduceAdd, Int.reduceSub, Int.reduceMul, Int.reduceNeg, Int.reduceEq, Int.reduceNe, Int.reduceToNat, decide_true, decide_false, iaddr_i, iaddr_sl_i, not_true_eq_false, not_false_eq_true, reduceCtorEq, ne_eq, forall_const, false_imp_iff, true_imp_iff, implies_true, Int.cast_ofNat_Int, Int.natCast_zero, Int.natCast_one, Int.add_zero, Int.zero_add]
            exact wkv_same
      · cases h
    · cases h
  · cases h
noncomputable def sstS : Spec := fun args S => match args with
  | [x, .f (.func f) [] []] => match lstV polE S x with
    | some l => open Classical in if f = 25 ∧ l.length ≤ 900000 ∧ Ris l then some (.tu [], S) else none
    | none => none
  | _ => none
theorem oSt2_ok : OK Try.prog (lamOf Try.prog) (orcOf [(34, stS)]) := orc_ok (by simpa using st_ok)
theorem sst_ok : SpecOK Try.prog 24 sstS := by
  intro args S x S' h
  simp only [sstS] at h
  split at h
  · rename_i s f
    split at h
    · rename_i l hl
      split at h
      · rename_i hc
        obtain ⟨rfl, hlim, hris⟩ := hc
        cases h
        have hs : stS [s, .i .i64 (l.length : Int), .f (.func 25) [] []] S = some (.tu [], S) := by
          simp only [stS, hl]
          rw [if_pos ⟨rfl, hlim, hris, rfl⟩]
        refine fn_of_wp f24 rfl (W_sound oSt2_ok mixed _ _ _ _ _ ?_)
        simp (maxSteps := 1000000) (disch := omega) only [c24, lst_len hl, orc_cons, hs, go_sem, Option.map_none, Option.map_some, ↓reduceIte, Nat.reduceBEq, Nat.reduceAdd, Nat.reduceSub, Nat.reduceEqDiff, Nat.reduceLeDiff, Nat.reduceMul, Nat.reduceLT, Int.reduceLT, Int.reduceLE, Int.reduceAdd, Int.reduceSub, Int.reduceMul, Int.reduceNeg, Int.reduceEq, Int.reduceNe, Int.reduceToNat, decide_true, decide_false, iaddr_i, iaddr_sl_i, not_true_eq_false, not_false_eq_true, reduceCtorEq, ne_eq, forall_const, false_imp_iff, true_imp_iff, implies_true, Int.cast_ofNat_Int, Int.natCast_zero, Int.natCast_one, Int.add_zero, Int.zero_add]
        first | exact wkv_same | skip
      · cases h
    · cases h
  · cases h
end Go.Proofs.Ytcoljpgnjiakjaa

namespace Go.Proofs.Ytcoljpgnjiakjaa
open Go.RowKit
set_option linter.unusedSimpArgs false
set_option linter.unusedVariables false
set_option maxRecDepth 10000

theorem bnds_hi {q : IntKind} {len cap b : Nat} (h : b ≤ cap) : bnds len cap none (some (.i q (b : Int))) none = some (0, b, cap) := by
  simp [bnds, bndV, natV, h]
theorem bnds_lo {q : IntKind} {len cap a : Nat} (h : a ≤ len) (h2 : len ≤ cap) : bnds len cap (some (.i q (a : Int))) none none = some (a, len, cap) := by
  simp [bnds, bndV, natV, h, h2]
theorem bnds_both {q q' : IntKind} {len cap a b : Nat} (h : a ≤ b) (h2 : b ≤ cap) : bnds len cap (some (.i q (a : Int))) (some (.i q' (b : Int))) none = some (a, b, cap) := by
  simp [bnds, bndV, natV, h, h2]
/-- A list that is empty and has no block of its own to grow in. -/
def noX (S : Mem) : AV → Bool
  | .sn => true
  | .sl i 0 0 0 0 true => match S[i]? with
    | some (.cells [] 0 none true) => true
    | _ => false
  | _ => false
theorem noX_cases {S : Mem} {x : AV} (h : noX S x = true) : x = .sn ∨ ∃ i, x = .sl i 0 0 0 0 true ∧ S[i]? = some (.cells [] 0 none true) := by
  unfold noX at h
  split at h
  · exact .inl rfl
  · rename_i i
    split at h
    · rename_i hB; exact .inr ⟨i, rfl, hB⟩
    · cases h
  · cases h
def insS : Spec := fun args S => match args with
  | [x, .i .i64 k, .sl j 0 0 1 1 true] => match S[j]? with
    | some (.cells cp 0 none true) => match polE.dec cp with
      | some p => if noX S x = true then (if k = 0 then some (.sl S.length 0 0 1 1 false, S ++ [.cells p.enc 0 (some 13) true]) else none) else match x with
        | .sl i 0 v n c true => match S[i]? with
          | some (.cells cs ver (some 13) true) => match decL polE n (cs.take (n * 13)) with
            | some l => if ver = v ∧ cs.length = c * 13 ∧ n ≤ c ∧ i ≠ j ∧ 0 ≤ k ∧ k ≤ n ∧ n ≤ 900000 then
                (if n + 1 ≤ c then some (.sl i 0 v (n + 1) c true, S.set i (.cells ((l.take k.toNat ++ p :: l.drop k.toNat).flatMap polE.enc ++ cs.drop ((n + 1) * 13)) v (some 13) true))
                else some (.sl S.length 0 0 (n + 1) (n + 1) false, S ++ [.cells ((l.take k.toNat ++ p :: l.drop k.toNat).flatMap polE.enc) 0 (some 13) true])) else none
            | none => none
          | _ => none
        | _ => none
      | none => none
    | _ => none
  | _ => none
theorem flat13 (l : List Pol) : (l.flatMap polE.enc).length = l.length * 13 := enc_length (E := polE) l
theorem cut_true {S : Mem} {i v len cap a b sz : Nat} {lo hi : Option AV} (h : bnds len cap lo hi none = some (a, b, cap)) (ha : a < cap) : sliceV S sz (.sl i 0 v len cap true) lo hi none = some (.sl i (a * sz) v (b - a) (cap - a) true) := by
  simp only [sliceV, h, Bool.true_or, if_true]
  unfold cutAt
  rw [if_neg (by omega), Nat.zero_add]
theorem splice2 {cs D P : List AV} {a : Nat} (h : a + 13 ≤ cs.length) (hP : P.length = 13) : splice (splice cs (a + 13) D) a P = cs.take a ++ (P ++ (D ++ cs.drop (a + 13 + D.length))) := by
  unfold splice
  have l1 : (cs.take (a + 13)).length = a + 13 := by rw [List.length_take]; omega
  rw [hP, List.take_append_of_le_length (by omega), List.take_take, Nat.min_eq_left (by omega), List.drop_append_of_le_length (by omega), List.drop_of_length_le (by omega : (cs.take (a + 13)).length ≤ a + 13), List.nil_append]
theorem splice3 {cs D P : List AV} {a : Nat} (h : a + 13 ≤ cs.length) (hP : P.length = 13) : splice (splice cs a P) (a + 13) D = cs.take a ++ (P ++ (D ++ cs.drop (a + 13 + D.length))) := by
  unfold splice
  have l1 : (cs.take a).length = a := by rw [List.length_take]; omega
  rw [hP]
  have e1 : (cs.take a ++ (P ++ cs.drop (a + 13))).take (a + 13) = cs.take a ++ P := by
    rw [← List.append_assoc, List.take_append_of_le_length (by rw [List.length_append]; omega), List.take_of_length_le (by rw [List.length_append]; omega)]
  have e2 : (cs.take a ++ (P ++ cs.drop (a + 13))).drop (a + 13 + D.length) = cs.drop (a + 13 + D.length) := by
    rw [← List.append_assoc, List.drop_append, List.drop_of_length_le (by rw [List.length_append]; omega), List.nil_append, List.length_append, List.drop_drop]
    congr 1; omega
  rw [e1, e2, List.append_assoc]
def appzQ (S : Mem) (z : List AV) (bytes : Nat) (x n : AV) : Option (AV × Mem) := match natV n with
  | some n => if n ≤ lim ∧ n * bytes ≤ lim then appV S z.length bytes x (zerosV z n) n else none
  | none => none
theorem oi_appz {e : Env} {S : Mem} {k : AV → Mem → Prop} {z : List AV} {b : Nat} {x n : X} : optK (evIO e S (.appz z b x n)) k = optK (appzQ S z b (x.ev e) (n.ev e)) k := (rfl)
theorem zeros_len (z : List AV) : ∀ n, (zerosV z n).length = n * z.length := by
  intro n
  unfold zerosV
  simp
theorem ins_ok : SpecOK Try.prog 22 insS := by
  intro args S x S' h
  simp only [insS] at h
  split at h
  · rename_i s k j
    split at h
    · rename_i cp hJ
      split at h
      · rename_i p hp
        obtain rfl := polE.ed _ _ hp
        have hrow : rowB (S[j]?) 0 0 (1 * 13) = some p.enc := by rw [hJ]; rfl
        have hsy : srcV S 13 (.sl j 0 0 1 1 true) = some (p.enc, 1) := by rw [src_sl, hrow]; rfl
        have hp13 : p.enc.length = 13 := rfl
        have hpone : p.enc.all AV.one = true := rfl
        refine fn_of_wp f22 rfl (W_sound none_ok mixed _ _ _ _ _ ?_)
        split at h
        · rename_i hno
          split at h
          · rename_i hk
            subst hk
            cases h
            rcases noX_cases hno with rfl | ⟨i, rfl, hI⟩
            · have s1 : sliceV S 13 .sn (some (.i .i64 0)) none none = some .sn := by rfl
              have ha : appV S 13 80 .sn p.enc 1 = some (.sl S.length 0 0 1 1 false, S ++ [.cells p.enc 0 (some 13) true]) := by
                simp only [appV]; rw [if_neg (by omega), if_pos ⟨by decide, by decide⟩]
              simp (maxSteps := 1000000) (disch := omega) only [c22, s1, hsy, ha, go_sem, Option.map_none, Option.map_some, ↓reduceIte, Nat.reduceBEq, Nat.reduceAdd, Nat.reduceSub, Nat.reduceEqDiff, Nat.reduceLeDiff, Nat.reduceMul, Nat.reduceLT, Int.reduceLT, Int.reduceLE, Int.reduceAdd, Int.reduceSub, Int.reduceMul, Int.reduceNeg, Int.reduceEq, Int.reduceNe, Int.reduceToNat, decide_true, decide_false, iaddr_i, iaddr_sl_i, not_true_eq_false, not_false_eq_true, reduceCtorEq, ne_eq, forall_const, false_imp_iff, true_imp_iff, implies_true, Int.cast_ofNat_Int, Int.natCast_zero, Int.natCast_one, Int.add_zero, Int.zero_add]
              exact wkv_same
            · have s1 : sliceV S 13 (.sl i 0 0 0 0 true) (some (.i .i64 0)) none none = some (.sl i 0 0 0 0 true) := by rfl
              have hc : rowAt S i 0 0 (0 * 13) = some [] := by rw [rowAt_B, hI]; rfl
              have ha : appV S 13 80 (.sl i 0 0 0 0 true) p.enc 1 = some (.sl S.length 0 0 1 1 false, S ++ [.cells p.enc 0 (some 13) true]) := by
                simp only [appV, hc]
                rw [if_neg (by omega), if_neg (by omega), if_pos ⟨by decide, by decide⟩, if_pos trivial]; rfl
              simp (maxSteps := 1000000) (disch := omega) only [c22, s1, hsy, ha, go_sem, Option.map_none, Option.map_some, ↓reduceIte, Nat.reduceBEq, Nat.reduceAdd, Nat.reduceSub, Nat.reduceEqDiff, Nat.reduceLeDiff, Nat.reduceMul, Nat.reduceLT, Int.reduceLT, Int.reduceLE, Int.reduceAdd, Int.reduceSub, Int.reduceMul, Int.reduceNeg, Int.reduceEq, Int.reduceNe, Int.reduceToNat, decide_true, decide_false, iaddr_i, iaddr_sl_i, not_true_eq_false, not_false_eq_true, reduceCtorEq, ne_eq, forall_const, false_imp_iff, true_imp_iff, implies_true, Int.cast_ofNat_Int, Int.natCast_zero, Int.natCast_one, Int.add_zero, Int.zero_add]
              exact wkv_same
          · cases h
        · split at h
          · rename_i i v n c hno
            split at h
            · rename_i cs ver hB
              split at h
              · rename_i l hl
                split at h
                · rename_i hcond
                  obtain ⟨hver, hcl, hnc, hij, hk0, hkn, hlim⟩ := hcond
                  have hver := hver.symm
                  subst hver
                  obtain ⟨k, rfl⟩ := Int.eq_ofNat_of_zero_le hk0
                  have hkn : k ≤ n := by omega
                  rw [Int.toNat_natCast] at h
                  obtain ⟨hln, htk⟩ := decL_ok _ _ _ hl (by rw [List.length_take]; show min (n * 13) cs.length = n * 13; omega)
                  have hA : cs.take (k * 13) = (l.take k).flatMap polE.enc := by
                    have h1 : (cs.take (n * 13)).take (k * 13) = cs.take (k * 13) := by rw [List.take_take, Nat.min_eq_left (by omega)]
                    rw [← h1, htk]; exact flat_take (E := polE) l k
                  have hD : (cs.drop (k * 13)).take ((n - k) * 13) = (l.drop k).flatMap polE.enc := by
                    have h1 : (cs.take (n * 13)).drop (k * 13) = (cs.drop (k * 13)).take ((n - k) * 13) := by rw [List.drop_take]; congr 1; omega
                    rw [← h1, htk]; exact flat_drop (E := polE) l k
                  have hDl : ((l.drop k).flatMap polE.enc).length = (n - k) * 13 := by rw [flat13, List.length_drop, hln]
                  have hDone := all_one (E := polE) polE_one (l.drop k)
                  have hfl : (l.take k ++ p :: l.drop k).flatMap polE.enc = (l.take k).flatMap polE.enc ++ (p.enc ++ (l.drop k).flatMap polE.enc) := by
                    rw [List.flatMap_append, List.flatMap_cons]; rfl
                  rw [hfl] at h
                  have hcap : capQ (.sl i 0 v n c true) = some (.i .i64 c) := rfl
                  have hlim1 : (n + 1) * 80 ≤ lim := by show _ ≤ 70368744177664; omega
                  have hlim2 : n + 1 ≤ lim := by show _ ≤ 70368744177664; omega
                  have s1 : ∃ y, sliceV S 13 (.sl i 0 v n c true) (some (.i .i64 (k : Int))) none none = some y := ⟨_, by simp only [sliceV, bnds_lo (q := .i64) hkn hnc, Bool.true_or, if_true]; rfl⟩
                  obtain ⟨y1, s1⟩ := s1
                  by_cases hkn2 : k = n
                  · subst hkn2
                    have hD0 : (l.drop k).flatMap polE.enc = [] := by rw [List.drop_of_length_le (by omega)]; rfl
                    rw [hD0, List.append_nil] at h
                    by_cases hroom : k + 1 ≤ c
                    · rw [if_pos hroom] at h
                      cases h
                      have ha : appV S 13 80 (.sl i 0 v k c true) p.enc 1 = some (.sl i 0 v (k + 1) c true, S.set i (.cells (splice cs (0 + k * 13) p.enc) v (some 13) true)) := by
                        simp only [appV, hB]
                        rw [if_neg (by omega), if_pos hroom, if_pos ⟨trivial, by omega, hpone⟩]
                      have hsp : splice cs (0 + k * 13) p.enc = (l.take k).flatMap polE.enc ++ p.enc ++ cs.drop ((k + 1) * 13) := by
                        unfold splice
                        rw [Nat.zero_add, hA, hp13, show k * 13 + 13 = (k + 1) * 13 by omega, List.append_assoc]
                      rw [hsp] at ha
                      simp (maxSteps := 1000000) (disch := omega) only [c22, s1, hsy, ha, go_sem, Option.map_none, Option.map_some, ↓reduceIte, Nat.reduceBEq, Nat.reduceAdd, Nat.reduceSub, Nat.reduceEqDiff, Nat.reduceLeDiff, Nat.reduceMul, Nat.reduceLT, Int.reduceLT, Int.reduceLE, Int.reduceAdd, Int.reduceSub, Int.reduceMul, Int.reduceNeg, Int.reduceEq, Int.reduceNe, Int.reduceToNat, decide_true, decide_false, iaddr_i, iaddr_sl_i, not_true_eq_false, not_false_eq_true, reduceCtorEq, ne_eq, forall_const, false_imp_iff, true_imp_iff, implies_true, Int.cast_ofNat_Int, Int.natCast_zero, Int.natCast_one, Int.add_zero, Int.zero_add]
                      exact wkv_same
                    · rw [if_neg hroom] at h
                      cases h
                      have hrw : rowAt S i 0 v (k * 13) = some ((l.take k).flatMap polE.enc) := by rw [rowAt_B, hB, rowB_some, if_pos (by omega), List.drop_zero, hA]
                      have ha : appV S 13 80 (.sl i 0 v k c true) p.enc 1 = some (.sl S.length 0 0 (k + 1) (k + 1) false, S ++ [.cells ((l.take k).flatMap polE.enc ++ p.enc) 0 (some 13) true]) := by
                        simp only [appV, hrw]
                        rw [if_neg (by omega), if_neg hroom, if_pos ⟨hlim1, hlim2⟩, if_pos trivial]
                      simp (maxSteps := 1000000) (disch := omega) only [c22, s1, hsy, ha, go_sem, Option.map_none, Option.map_some, ↓reduceIte, Nat.reduceBEq, Nat.reduceAdd, Nat.reduceSub, Nat.reduceEqDiff, Nat.reduceLeDiff, Nat.reduceMul, Nat.reduceLT, Int.reduceLT, Int.reduceLE, Int.reduceAdd, Int.reduceSub, Int.reduceMul, Int.reduceNeg, Int.reduceEq, Int.reduceNe, Int.reduceToNat, decide_true, decide_false, iaddr_i, iaddr_sl_i, not_true_eq_false, not_false_eq_true, reduceCtorEq, ne_eq, forall_const, false_imp_iff, true_imp_iff, implies_true, Int.cast_ofNat_Int, Int.natCast_zero, Int.natCast_one, Int.add_zero, Int.zero_add]
                      exact wkv_same
                  · have hkI : ¬ (k : Int) = n := by omega
                    by_cases hroom : n + 1 ≤ c
                    · rw [if_pos hroom] at h
                      cases h
                      have hrI : ¬ (n : Int) + 1 > c := by omega
                      have s2 : sliceV S 13 (.sl i 0 v n c true) none (some (.i .i64 ((n : Int) + 1))) none = some (.sl i 0 v (n + 1) c true) := by
                        have := cut_true (S := S) (i := i) (v := v) (sz := 13) (bnds_hi (q := .i64) (len := n) (cap := c) (b := n + 1) hroom) (by omega)
                        rw [Nat.zero_mul] at this; exact this
                      have s3 : ∀ S' : Mem, sliceV S' 13 (.sl i 0 v (n + 1) c true) (some (.i .i64 ((k : Int) + 1))) none none = some (.sl i ((k + 1) * 13) v (n - k) (c - (k + 1)) true) := fun S' => by
                        have := cut_true (S := S') (i := i) (v := v) (sz := 13) (bnds_lo (q := .i64) (len := n + 1) (cap := c) (a := k + 1) (by omega) hroom) (by omega)
                        rw [show n + 1 - (k + 1) = n - k by omega] at this; exact this
                      have s4 : ∀ S' : Mem, sliceV S' 13 (.sl i 0 v (n + 1) c true) (some (.i .i64 (k : Int))) none none = some (.sl i (k * 13) v (n + 1 - k) (c - k) true) := fun S' =>
                        cut_true (bnds_lo (q := .i64) (by omega) hroom) (by omega)
                      have hov : ovlV S (.sl j 0 0 1 1 true) (.sl i ((k + 1) * 13) v (n - k) (c - (k + 1)) true) = some (.b false) := by
                        have hap : apartB (some (.cells p.enc 0 none true)) (some (.cells cs v (some 13) true)) 0 0 v = true := by
                          simp only [apartB, decide_eq_true_eq]
                          exact ⟨trivial, trivial, by simp, Nat.zero_le _, by omega⟩
                        rw [ovlV_sl, hJ, hB, if_pos ⟨Ne.symm hij, hap⟩]
                      have hs76 : srcV S 13 (.sl i (k * 13) v (n + 1 - k) (c - k) true) = some ((cs.drop (k * 13)).take ((n + 1 - k) * 13), n + 1 - k) := by
                        rw [src_sl, hB, rowB_some, if_pos (by omega)]; rfl
                      obtain ⟨M2, hM2⟩ : ∃ M2, M2 = S.set i (.cells (splice cs (k * 13 + 13) ((l.drop k).flatMap polE.enc)) v (some 13) true) := ⟨_, rfl⟩
                      have hcp : copyV S 13 (.sl i ((k + 1) * 13) v (n - k) (c - (k + 1)) true) (.sl i (k * 13) v (n + 1 - k) (c - k) true) = some (n - k, M2) := by
                        simp only [copyV, hs76, hB]
                        have hmin : Nat.min (n + 1 - k) (n - k) = n - k := Nat.min_eq_right (by omega)
                        rw [hmin, List.take_take, Nat.min_eq_left (by omega), hD, if_pos ⟨trivial, by omega, hDone⟩, hM2, show (k + 1) * 13 = k * 13 + 13 by omega]
                      have hB2 : M2[i]? = some (.cells (splice cs (k * 13 + 13) ((l.drop k).flatMap polE.enc)) v (some 13) true) := by rw [hM2]; exact at_set hB
                      have hsy2 : srcV M2 13 (.sl j 0 0 1 1 true) = some (p.enc, 1) := by
                        rw [src_sl, hM2, at_set_ne hij, hrow]; rfl
                      have hspl : (splice cs (k * 13 + 13) ((l.drop k).flatMap polE.enc)).length = c * 13 := by
                        unfold splice
                        rw [List.length_append, List.length_append, List.length_take, List.length_drop, hDl]; omega
                      have hcp2 : copyV M2 13 (.sl i (k * 13) v (n + 1 - k) (c - k) true) (.sl j 0 0 1 1 true) = some (1, S.set i (.cells ((l.take k).flatMap polE.enc ++ (p.enc ++ (l.drop k).flatMap polE.enc) ++ cs.drop ((n + 1) * 13)) v (some 13) true)) := by
                        simp only [copyV, hsy2, hB2]
                        have hmin : Nat.min 1 (n + 1 - k) = 1 := Nat.min_eq_left (by omega)
                        rw [hmin, List.take_of_length_le (by omega : p.enc.length ≤ 1 * 13), if_pos ⟨trivial, by rw [hspl]; omega, hpone⟩, splice2 (by omega) hp13, hM2, List.set_set, hA, hDl, show k * 13 + 13 + (n - k) * 13 = (n + 1) * 13 by omega]
                        simp only [List.append_assoc]
                      simp (maxSteps := 1000000) (disch := omega) only [c22, s1, hsy, hkI, hcap, hrI, s2, s3, s4, hov, hcp, hcp2, go_sem, Option.map_none, Option.map_some, ↓reduceIte, Nat.reduceBEq, Nat.reduceAdd, Nat.reduceSub, Nat.reduceEqDiff, Nat.reduceLeDiff, Nat.reduceMul, Nat.reduceLT, Int.reduceLT, Int.reduceLE, Int.reduceAdd, Int.reduceSub, Int.reduceMul, Int.reduceNeg, Int.reduceEq, Int.reduceNe, Int.reduceToNat, decide_true, decide_false, iaddr_i, iaddr_sl_i, not_true_eq_false, not_false_eq_true, reduceCtorEq, ne_eq, forall_const, false_imp_iff, true_imp_iff, implies_true, Int.cast_ofNat_Int, Int.natCast_zero, Int.natCast_one, Int.add_zero, Int.zero_add]
                      exact wkv_same
                    · rw [if_neg hroom] at h
                      cases h
                      have hrI : (n : Int) + 1 > c := by omega
                      obtain rfl : n = c := by omega
                      have s2 : sliceV S 13 (.sl i 0 v n n true) none (some (.i .i64 (k : Int))) none = some (.sl i 0 v k n true) := by
                        have := cut_true (S := S) (i := i) (v := v) (sz := 13) (bnds_hi (q := .i64) (len := n) (cap := n) (b := k) hkn) (by omega)
                        rw [Nat.zero_mul, Nat.sub_zero, Nat.sub_zero] at this; exact this
                      obtain ⟨Z, hZ⟩ : ∃ Z, Z = zerosV noPol.enc (n + 1 - k) := ⟨_, rfl⟩
                      have hZl : Z.length = (n + 1 - k) * 13 := by rw [hZ, zeros_len]; rfl
                      have hrw : rowAt S i 0 v (k * 13) = some ((l.take k).flatMap polE.enc) := by rw [rowAt_B, hB, rowB_some, if_pos (by omega), List.drop_zero, hA]
                      have hAl : ((l.take k).flatMap polE.enc).length = k * 13 := by rw [flat13, List.length_take]; congr 1; omega
                      obtain ⟨M1, hM1⟩ : ∃ M1, M1 = S ++ [Blk.cells ((l.take k).flatMap polE.enc ++ Z) 0 (some 13) true] := ⟨_, rfl⟩
                      have hz : appzQ S noPol.enc 80 (.sl i 0 v k n true) (.i .i64 ((n : Int) + 1 - k)) = some (.sl S.length 0 0 (n + 1) (n + 1) false, M1) := by
                        have hn : natV (.i .i64 ((n : Int) + 1 - k)) = some (n + 1 - k) := by
                          rw [show (n : Int) + 1 - k = ((n + 1 - k : Nat) : Int) by omega]; exact natV_nat
                        have h13 : noPol.enc.length = 13 := rfl
                        simp only [appzQ, hn, h13]
                        rw [if_pos ⟨by show _ ≤ 70368744177664; omega, by show _ ≤ 70368744177664; omega⟩]
                        simp only [appV, hrw]
                        rw [if_neg (by omega), if_neg (by omega), show k + (n + 1 - k) = n + 1 by omega, if_pos ⟨hlim1, hlim2⟩, if_pos trivial, hM1, hZ]
                      have hN1 : M1[S.length]? = some (.cells ((l.take k).flatMap polE.enc ++ Z) 0 (some 13) true) := by rw [hM1, at_app0]; rfl
                      have s5 : sliceV M1 13 (.sl S.length 0 0 (n + 1) (n + 1) false) (some (.i .i64 (k : Int))) none none = some (.sl S.length (k * 13) 0 (n + 1 - k) (n + 1 - k) false) := by
                        simp only [sliceV, bnds_lo (q := .i64) (show k ≤ n + 1 by omega) (Nat.le_refl (n + 1)), Option.isSome_none, Bool.or_false, Bool.false_eq_true, if_false]
                        rw [if_neg (by omega)]
                        simp only [hN1, Blk.opn, if_true, Nat.zero_add]
                      have hsy1 : srcV M1 13 (.sl j 0 0 1 1 true) = some (p.enc, 1) := by
                        rw [src_sl, hM1, at_old hJ]; rfl
                      obtain ⟨M2, hM2⟩ : ∃ M2, M2 = S ++ [Blk.cells (splice ((l.take k).flatMap polE.enc ++ Z) (k * 13) p.enc) 0 (some 13) true] := ⟨_, rfl⟩
                      have hcp1 : copyV M1 13 (.sl S.length (k * 13) 0 (n + 1 - k) (n + 1 - k) false) (.sl j 0 0 1 1 true) = some (1, M2) := by
                        simp only [copyV, hsy1, hN1]
                        have hmin : Nat.min 1 (n + 1 - k) = 1 := Nat.min_eq_left (by omega)
                        rw [hmin, List.take_of_length_le (by omega : p.enc.length ≤ 1 * 13), if_pos ⟨trivial, by rw [List.length_append, hAl, hZl]; omega, hpone⟩, hM1, set_app0, hM2]
                        rfl
                      have hN2 : M2[S.length]? = some (.cells (splice ((l.take k).flatMap polE.enc ++ Z) (k * 13) p.enc) 0 (some 13) true) := by rw [hM2, at_app0]; rfl
                      have s6 : sliceV M2 13 (.sl S.length 0 0 (n + 1) (n + 1) false) (some (.i .i64 ((k : Int) + 1))) none none = some (.sl S.length ((k + 1) * 13) 0 (n - k) (n - k) false) := by
                        rw [show (k : Int) + 1 = ((k + 1 : Nat) : Int) by omega]
                        simp only [sliceV, bnds_lo (q := .i64) (show k + 1 ≤ n + 1 by omega) (Nat.le_refl (n + 1)), Option.isSome_none, Bool.or_false, Bool.false_eq_true, if_false]
                        rw [if_neg (by omega)]
                        simp only [hN2, Blk.opn, if_true, Nat.zero_add]
                        rw [show n + 1 - (k + 1) = n - k by omega]
                      have s7 : sliceV M2 13 (.sl i 0 v n n true) (some (.i .i64 (k : Int))) none none = some (.sl i (k * 13) v (n - k) (n - k) true) := cut_true (bnds_lo (q := .i64) hkn (Nat.le_refl _)) (by omega)
                      have hs7 : srcV M2 13 (.sl i (k * 13) v (n - k) (n - k) true) = some ((l.drop k).flatMap polE.enc, n - k) := by
                        rw [src_sl, hM2, at_old hB, rowB_some, if_pos (by omega), hD]; rfl
                      have hspl : (splice ((l.take k).flatMap polE.enc ++ Z) (k * 13) p.enc).length = (n + 1) * 13 := by
                        unfold splice
                        rw [List.length_append, List.length_append, List.length_take, List.length_drop, List.length_append, hAl, hZl, hp13]; omega
                      have hcp3 : copyV M2 13 (.sl S.length ((k + 1) * 13) 0 (n - k) (n - k) false) (.sl i (k * 13) v (n - k) (n - k) true) = some (n - k, S ++ [.cells ((l.take k).flatMap polE.enc ++ (p.enc ++ (l.drop k).flatMap polE.enc)) 0 (some 13) true]) := by
                        simp only [copyV, hs7, hN2]
                        have hmin : Nat.min (n - k) (n - k) = n - k := Nat.min_self _
                        rw [hmin, List.take_of_length_le (show ((l.drop k).flatMap polE.enc).length ≤ (n - k) * 13 by omega), if_pos ⟨trivial, by rw [hspl]; omega, hDone⟩, show (k + 1) * 13 = k * 13 + 13 by omega, splice3 (by rw [List.length_append, hAl, hZl]; omega) hp13, hM2, set_app0]
                        have e1 : ((l.take k).flatMap polE.enc ++ Z).take (k * 13) = (l.take k).flatMap polE.enc := by rw [← hAl, List.take_left]
                        have e2 : ((l.take k).flatMap polE.enc ++ Z).drop (k * 13 + 13 + ((l.drop k).flatMap polE.enc).length) = [] := List.drop_of_length_le (by rw [List.length_append, hAl, hZl, hDl]; omega)
                        rw [e1, e2, List.append_nil]; rfl
                      simp only [noPol, Pol.enc] at hz
                      simp (maxSteps := 1000000) (disch := omega) only [c22, s1, hsy, hkI, hcap, hrI, s2, oi_appz, hz, s5, hcp1, s6, s7, hcp3, go_sem, Option.map_none, Option.map_some, ↓reduceIte, Nat.reduceBEq, Nat.reduceAdd, Nat.reduceSub, Nat.reduceEqDiff, Nat.reduceLeDiff, Nat.reduceMul, Nat.reduceLT, Int.reduceLT, Int.reduceLE, Int.reduceAdd, Int.reduceSub, Int.reduceMul, Int.reduceNeg, Int.reduceEq, Int.reduceNe, Int.reduceToNat, decide_true, decide_false, iaddr_i, iaddr_sl_i, not_true_eq_false, not_false_eq_true, reduceCtorEq, ne_eq, forall_const, false_imp_iff, true_imp_iff, implies_true, Int.cast_ofNat_Int, Int.natCast_zero, Int.natCast_one, Int.add_zero, Int.zero_add]
                      exact wkv_same
                · cases h
              · cases h
            · cases h
          · cases h
      · cases h
    · cases h
  · cases h
end Go.Proofs.Ytcoljpgnjiakjaa

namespace Go.Proofs.Ytcoljpgnjiakjaa
open Go.RowKit
set_option linter.unusedSimpArgs false
set_option linter.unusedVariables false
set_option maxRecDepth 10000

def zero13 : List AV := noPol.enc
def delS : Spec := fun args S => match args with
  | [.sl i 0 v n c true, .i .i64 a, .i .i64 b] => match S[i]? with
    | some (.cells cs ver (some 13) true) => match decL polE n (cs.take (n * 13)) with
      | some l => if ver = v ∧ cs.length = c * 13 ∧ n ≤ c ∧ 0 ≤ a ∧ a < (n : Int) ∧ b = a + 1 ∧ n ≤ 900000 then
          some (.sl i 0 v (n - 1) c true, S.set i (.cells ((l.eraseIdx a.toNat).flatMap polE.enc ++ zero13 ++ cs.drop (n * 13)) v (some 13) true)) else none
      | none => none
    | _ => none
  | _ => none
theorem splice_cut {cs mid : List AV} {k n : Nat} (hk : k < n) (hn : n * 13 ≤ cs.length) (hml : mid.length = (n - (k + 1)) * 13) : splice (splice cs (k * 13) mid) ((n - 1) * 13) zero13 = cs.take (k * 13) ++ mid ++ zero13 ++ cs.drop (n * 13) := by
  have hkl : (cs.take (k * 13)).length = k * 13 := by rw [List.length_take]; omega
  have hz : zero13.length = 13 := rfl
  unfold splice
  rw [hml, hz]
  have e1 : k * 13 + (n - (k + 1)) * 13 = (n - 1) * 13 := by omega
  rw [e1]
  have h1 : (cs.take (k * 13) ++ (mid ++ cs.drop ((n - 1) * 13))).take ((n - 1) * 13) = cs.take (k * 13) ++ mid := by
    rw [← List.append_assoc, List.take_append_of_le_length (by rw [List.length_append, hkl, hml]; omega), List.take_of_length_le (by rw [List.length_append, hkl, hml]; omega)]
  have h2 : (cs.take (k * 13) ++ (mid ++ cs.drop ((n - 1) * 13))).drop ((n - 1) * 13 + 13) = cs.drop (n * 13) := by
    rw [← List.append_assoc, List.drop_append, List.drop_of_length_le (by rw [List.length_append, hkl, hml]; omega), List.nil_append, List.length_append, hkl, hml, List.drop_drop]
    congr 1; omega
  rw [h1, h2]
  simp only [List.append_assoc]
theorem cut_true' {S : Mem} {i v len cap a b m sz : Nat} {lo hi mx : Option AV} (h : bnds len cap lo hi mx = some (a, b, m)) : sliceV S sz (.sl i 0 v len cap true) lo hi mx = some (.sl i (cutAt 0 a m sz) v (b - a) (m - a) true) := by
  simp only [sliceV, h, Bool.true_or, if_true]
theorem set_id {S : Mem} {i : Nat} {B : Blk} (h : S[i]? = some B) : S.set i B = S := by
  apply List.ext_getElem?
  intro j
  by_cases hij : i = j
  · subst hij; rw [at_set h, h]
  · rw [at_set_ne hij]
theorem del_ok : SpecOK Try.prog 23 delS := by
  intro args S x S' h
  simp only [delS] at h
  split at h
  · rename_i i v n cap a b
    split at h
    · rename_i cs ver hB
      split at h
      · rename_i l hl
        split at h
        · rename_i hc
          obtain ⟨rfl, hcl, hnc, ha0, han, rfl, hlim⟩ := hc
          cases h
          obtain ⟨k, rfl⟩ := Int.eq_ofNat_of_zero_le ha0
          rw [Int.toNat_natCast]
          have hkn : k < n := by omega
          have hk1 : ((k : Nat) : Int) + 1 = ((k + 1 : Nat) : Int) := by omega
          rw [hk1]
          obtain ⟨hln, htk⟩ := decL_ok _ _ _ hl (by rw [List.length_take]; show min (n * 13) cs.length = n * 13; omega)
          have hA : cs.take (k * 13) = (l.take k).flatMap polE.enc := by
            have h1 : (cs.take (n * 13)).take (k * 13) = cs.take (k * 13) := by rw [List.take_take, Nat.min_eq_left (by omega)]
            rw [← h1, htk]; exact flat_take (E := polE) l k
          have hD : (cs.drop ((k + 1) * 13)).take ((n - (k + 1)) * 13) = (l.drop (k + 1)).flatMap polE.enc := by
            have h1 : (cs.take (n * 13)).drop ((k + 1) * 13) = (cs.drop ((k + 1) * 13)).take ((n - (k + 1)) * 13) := by rw [List.drop_take]; congr 1; omega
            rw [← h1, htk]; exact flat_drop (E := polE) l (k + 1)
          have hDl : ((l.drop (k + 1)).flatMap polE.enc).length = (n - (k + 1)) * 13 := by rw [flat13, List.length_drop, hln]
          have hDone := all_one (E := polE) polE_one (l.drop (k + 1))
          have hfl : (l.eraseIdx k).flatMap polE.enc = (l.take k).flatMap polE.enc ++ (l.drop (k + 1)).flatMap polE.enc := by
            rw [List.eraseIdx_eq_take_drop_succ, List.flatMap_append]
          rw [hfl]
          have s1 : ∃ y, sliceV S 13 (.sl i 0 ver n cap true) (some (.i .i64 (k : Int))) (some (.i .i64 ((k + 1 : Nat) : Int))) (some (.i .i64 (n : Int))) = some y := by
            refine ⟨.sl i (cutAt 0 k n 13) ver (k + 1 - k) (n - k) true, cut_true' ?_⟩
            simp only [bnds, bndV, natV_nat]
            simp [show n ≤ cap from hnc, show k + 1 ≤ n from hkn, show k ≤ n by omega, natV]
          obtain ⟨y1, s1⟩ := s1
          have s2 : sliceV S 13 (.sl i 0 ver n cap true) none (some (.i .i64 (k : Int))) none = some (.sl i 0 ver k cap true) := by
            have := cut_true (S := S) (i := i) (v := ver) (sz := 13) (bnds_hi (q := .i64) (len := n) (cap := cap) (b := k) (by omega)) (by omega)
            rw [Nat.zero_mul, Nat.sub_zero, Nat.sub_zero] at this; exact this
          have hne : ¬ ((k : Nat) : Int) = ((k + 1 : Nat) : Int) := by omega
          obtain ⟨o3, ho3, hr3⟩ : ∃ o3, cutAt 0 (k + 1) cap 13 = o3 ∧ rowB (S[i]?) o3 ver ((n - (k + 1)) * 13) = some ((l.drop (k + 1)).flatMap polE.enc) := by
            refine ⟨_, rfl, ?_⟩
            rw [hB, rowB_some]
            unfold cutAt
            by_cases hcc : cap = k + 1
            · rw [if_pos hcc, if_pos (by omega)]
              rw [show n - (k + 1) = 0 by omega, List.drop_of_length_le (by omega : l.length ≤ k + 1)]; simp
            · rw [if_neg hcc, Nat.zero_add, if_pos (by omega), hD]
          have s3 : sliceV S 13 (.sl i 0 ver n cap true) (some (.i .i64 ((k + 1 : Nat) : Int))) none none = some (.sl i o3 ver (n - (k + 1)) (cap - (k + 1)) true) := by
            rw [cut_true' (bnds_lo (q := .i64) (show k + 1 ≤ n by omega) hnc), ho3]
          have hs3 : srcV S 13 (.sl i o3 ver (n - (k + 1)) (cap - (k + 1)) true) = some ((l.drop (k + 1)).flatMap polE.enc, n - (k + 1)) := by
            rw [src_sl, hr3]; rfl
          obtain ⟨S2, hS2⟩ : ∃ S2, S2 = S.set i (.cells (splice cs (k * 13) ((l.drop (k + 1)).flatMap polE.enc)) ver (some 13) true) := ⟨_, rfl⟩
          have ha : appV S 13 80 (.sl i 0 ver k cap true) ((l.drop (k + 1)).flatMap polE.enc) (n - (k + 1)) = some (.sl i 0 ver (n - 1) cap true, S2) := by
            by_cases h0 : n - (k + 1) = 0
            · have hSS : S2 = S := by
                rw [hS2]
                have e0 : (l.drop (k + 1)).flatMap polE.enc = [] := by rw [List.drop_of_length_le (by omega)]; rfl
                rw [e0]
                have : splice cs (k * 13) [] = cs := by unfold splice; simp
                rw [this]
                exact set_id hB
              rw [hSS, h0, show n - 1 = k by omega]
              simp [appV]
            · simp only [appV, hB]
              rw [if_neg h0, if_pos (by omega), if_pos ⟨trivial, by omega, hDone⟩, hS2, show k + (n - (k + 1)) = n - 1 by omega, Nat.zero_add]
          have hB2 : S2[i]? = some (.cells (splice cs (k * 13) ((l.drop (k + 1)).flatMap polE.enc)) ver (some 13) true) := by rw [hS2]; exact at_set hB
          have s4 : sliceV S2 13 (.sl i 0 ver (n - 1) cap true) (some (.i .i64 ((n - 1 : Nat) : Int))) (some (.i .i64 (n : Int))) none = some (.sl i ((n - 1) * 13) ver 1 (cap - (n - 1)) true) := by
            rw [cut_true (bnds_both (q := .i64) (q' := .i64) (show n - 1 ≤ n by omega) hnc) (by omega), show n - (n - 1) = 1 by omega]
          have hsl : (splice cs (k * 13) ((l.drop (k + 1)).flatMap polE.enc)).length = cap * 13 := by
            unfold splice
            rw [List.length_append, List.length_append, List.length_take, List.length_drop, hDl]; omega
          have hz : zerosV noPol.enc 1 = noPol.enc := by rfl
          have hclr : clearV S2 noPol.enc (.sl i ((n - 1) * 13) ver 1 (cap - (n - 1)) true) = some (.tu [], S.set i (.cells ((l.take k).flatMap polE.enc ++ (l.drop (k + 1)).flatMap polE.enc ++ zero13 ++ cs.drop (n * 13)) ver (some 13) true)) := by
            simp only [clearV, hB2]
            rw [if_neg (by omega), if_pos ⟨trivial, by rw [hsl]; show (n - 1) * 13 + 1 * 13 ≤ cap * 13; omega, by rw [hz]; rfl⟩, hz]
            show some (AV.tu [], S2.set i (.cells (splice _ ((n - 1) * 13) zero13) ver (some 13) true)) = _
            rw [splice_cut hkn (by omega) hDl, hA, hS2, List.set_set]
          simp only [noPol, Pol.enc] at hclr
          refine fn_of_wp f23 rfl (W_sound none_ok mixed _ _ _ _ _ ?_)
          simp (maxSteps := 1000000) (disch := omega) only [c23, s1, s2, s3, hne, hs3, ha, s4, hclr, go_sem, Option.map_none, Option.map_some, ↓reduceIte, Nat.reduceBEq, Nat.reduceAdd, Nat.reduceSub, Nat.reduceEqDiff, Nat.reduceLeDiff, Nat.reduceMul, Nat.reduceLT, Int.reduceLT, Int.reduceLE, Int.reduceAdd, Int.reduceSub, Int.reduceMul, Int.reduceNeg, Int.reduceEq, Int.reduceNe, Int.reduceToNat, decide_true, decide_false, iaddr_i, iaddr_sl_i, not_true_eq_false, not_false_eq_true, reduceCtorEq, ne_eq, forall_const, false_imp_iff, true_imp_iff, implies_true, Int.cast_ofNat_Int, Int.natCast_zero, Int.natCast_one, Int.add_zero, Int.zero_add]
          exact wkv_same
        · cases h
      · cases h
    · cases h
  · cases h
end Go.Proofs.Ytcoljpgnjiakjaa

namespace Go.Proofs.Ytcoljpgnjiakjaa
open Go.RowKit
set_option linter.unusedSimpArgs false
set_option linter.unusedVariables false
set_option maxRecDepth 10000

structure Opv where
  kind : Int
  sub : Int
  pol : Pol
  deriving DecidableEq
def opE : Enc Opv where
  enc o := opC o.kind o.sub o.pol
  dec r := match r with
    | [.i .i64 k, .i .i64 s, .i .i64 0, .i .u64 0, .sn, .i .i64 sub, .i .u8 a, .i .u8 b, .i .u8 c, .i .u8 d, .i .i64 bits, .i .u64 rate, .i .u64 burst, .i .u64 srate, .i .u64 sburst, .i .u64 quota, .i .u64 lease, .i .u64 quantum, .sn] => some ⟨k, s, ⟨sub, a, b, c, d, bits, rate, burst, srate, sburst, quota, lease, quantum⟩⟩
    | _ => none
  sz := 19
  pos := by decide
  len _ := rfl
  de _ := rfl
  ed r a h := by
    split at h
    · injection h with h; subst h; rfl
    · cases h
theorem opE_one (a : Opv) : (opE.enc a).all AV.one = true := rfl
theorem opE_flat : ∀ (n : Nat) (a : Opv), ∀ c ∈ opE.enc a, AV.Flat n c := by
  intro n a
  have hsn : AV.Flat n .sn := fun g => rfl
  simp only [opE, opC, List.forall_mem_cons, List.not_mem_nil, false_imp_iff, implies_true, and_true, Flat_i, and_self, hsn]
def Ch.op : Ch → Opv
  | .drop s => ⟨5, s, noPol⟩
  | .put p => ⟨4, 0, p⟩
theorem Ch.enc_op (c : Ch) : c.enc = opE.enc c.op := by cases c <;> rfl
def opOf (k : Int) : Opv := ⟨k, 0, noPol⟩
def opsPath : List Bool := [true, true, false, true, false]
/-- The list that is built: a literal first, then a block of its own. -/
def Lb (S M : Mem) (y : AV) (l : List Opv) : Prop := (l = [opOf 3] ∧ y = .sl S.length 0 0 1 1 true ∧ M[S.length]? = some (.cells (opE.enc (opOf 3)) 0 none true) ∧ S <+: M) ∨ Acc false opE S M y l
theorem Lb.grow {S M : Mem} {y : AV} {l : List Opv} (h : Lb S M y l) (U : Mem) : Lb S (M ++ U) y l := by
  rcases h with ⟨h1, h2, h3, h4⟩ | h
  · exact .inl ⟨h1, h2, at_old h3, ext_more h4 U⟩
  · exact .inr (h.grow U)
theorem Lb.lst {S M : Mem} {y : AV} {l : List Opv} (h : Lb S M y l) : lstV opE M y = some l := by
  rcases h with ⟨rfl, rfl, h3, h4⟩ | h
  · refine lst_lstV (.inr (.inr ⟨_, _, _, _, _, _, rfl, rfl, ?_⟩))
    rw [rowAt_B, h3]; rfl
  · exact h.lst
theorem Lb.app {S M : Mem} {y : AV} {l : List Opv} (h : Lb S M y l) (a : Opv) (hn : l.length ≤ 1000000) :
    ∃ y' M', appV M 19 160 y (opE.enc a) 1 = some (y', M') ∧ Acc false opE S M' y' (l ++ [a]) ∧ ∀ (ib : Nat) (B : Blk), M[ib]? = some B → B.opn = none → M'[ib]? = some B := by
  rcases h with ⟨rfl, rfl, h3, ⟨T, rfl⟩⟩ | h
  · have hc : rowAt (S ++ T) S.length 0 0 (1 * 19) = some (opE.enc (opOf 3)) := by rw [rowAt_B, h3]; rfl
    refine ⟨.sl (S ++ T).length 0 0 2 2 false, (S ++ T) ++ [.cells (opE.enc (opOf 3) ++ opE.enc a) 0 (some 19) true], ?_, ⟨T ++ [.cells (opE.enc (opOf 3) ++ opE.enc a) 0 (some 19) true], by rw [List.append_assoc], .inr (.inr ⟨by simp, T.length, 0, by rw [List.length_append]; rfl, ?_⟩)⟩, fun ib B hB _ => at_old hB⟩
    · simp only [appV, hc]
      rw [if_neg (by omega), if_neg (by omega), if_pos ⟨by decide, by decide⟩, if_pos trivial]
    · rw [List.getElem?_append_right (by omega), Nat.sub_self]; rfl
  · obtain ⟨y', M', h1, h2, h3⟩ := h.app' (bytes := 160) opE_one a (by omega) (by omega)
    exact ⟨y', M', h1, h2, h3⟩
structure Jo (S : Mem) (x y : AV) (env : Env) (l : List Opv) (M : Mem) : Prop where
  hS : S <+: M
  h1 : M[S.length + 2]? = some (.cells [x] 0 none true)
  h2 : M[S.length + 3]? = some (.cells [y] 0 none true)
  hd : M[S.length + 4]? = some (.dfr true)
  hl : M[S.length + 5]? = some (.loop 9 opsPath env .ready none)
  hb : ∃ z, M[S.length + 1]? = some (.cells [z] 0 none true) ∧ Lb S M z l
theorem Jo.grow {S : Mem} {x y : AV} {env : Env} {l : List Opv} {M : Mem} (J : Jo S x y env l M) (L : Mem) : Jo S x y env l (M ++ L) := by
  obtain ⟨z, hz, hL⟩ := J.hb
  exact ⟨ext_more J.hS L, at_old J.h1, at_old J.h2, at_old J.hd, at_old J.hl, z, at_old hz, hL.grow L⟩
theorem Lb.set {S M : Mem} {y : AV} {l : List Opv} (h : Lb S M y l) {ib : Nat} (hi : S.length < ib) {B : Blk} (hB : M[ib]? = some B) (hn : B.opn = none) (B' : Blk) : Lb S (M.set ib B') y l := by
  rcases h with ⟨h1, h2, h3, h4⟩ | h
  · exact .inl ⟨h1, h2, by rw [List.getElem?_set_ne (by omega)]; exact h3, ext_set h4 (by omega) _⟩
  · exact .inr (h.setB (by omega) hB hn B')
theorem ops_round {S : Mem} {x y : AV} {env : Env} {l : List Opv} {M : Mem} (J : Jo S x y env l M) (e5 : env.get 5 = .p (S.length + 1) 0 0) (hn : l.length ≤ 1000000) (a : Opv) : ∃ M', RdOK Try.prog (S.length + 5) [.ag (opE.enc a)] M (.b true) M' ∧ Jo S x y env (l ++ [a]) M' := by
  obtain ⟨hS, h1, h2, hd, hl, z, hz, hL⟩ := J
  obtain ⟨Ma, hMa⟩ : ∃ Ma, Ma = M ++ [Blk.cells (opE.enc a) 0 none true] := ⟨_, rfl⟩
  have hla : Ma[S.length + 5]? = some (.loop 9 opsPath env .ready none) := by rw [hMa]; exact at_old hl
  obtain ⟨Mb, hMb⟩ : ∃ Mb, Mb = Ma.set (S.length + 5) (.loop 9 opsPath env .busy none) := ⟨_, rfl⟩
  have st : ∀ {i : Nat} {B : Blk}, i ≠ S.length + 5 → M[i]? = some B → Mb[i]? = some B := fun hi hB => by rw [hMb, List.getElem?_set_ne (Ne.symm hi), hMa]; exact at_old hB
  have bz := st (by omega) hz
  have hlb : Mb[S.length + 5]? = some (.loop 9 opsPath env .busy none) := by rw [hMb]; exact at_set hla
  have hM5 : S.length + 5 < M.length := (List.getElem?_eq_some_iff.1 hl).1
  have bop : Mb[M.length]? = some (.cells (opE.enc a) 0 none true) := by rw [hMb, List.getElem?_set_ne (by omega), hMa, at_app0]; rfl
  have hLb : Lb S Mb z l := by rw [hMb]; exact Lb.set (by rw [hMa]; exact hL.grow _) (by omega) hla rfl _
  obtain ⟨z', M', ha, hA, hkeep⟩ := (hLb.grow [.cells (opE.enc a) 0 none true]).app a hn
  have kz := hkeep _ _ (at_old bz) rfl
  have kl := hkeep _ _ (at_old hlb) rfl
  refine ⟨(M'.set (S.length + 1) (.cells [z'] 0 none true)).set (S.length + 5) (.loop 9 opsPath env .ready none), ?_, ?_⟩
  · refine round_of_wp hl f9 (List.mem_cons_self ..) rfl (W_sound none_ok mixed _ _ _ _ _ ?_)
    simp only [opE, opC] at hMa bop ha
    simp only [opE, opC]
    simp (maxSteps := 1000000) (disch := omega) only [c9ra0, bindE, List.replicate, go_sem, Option.map_none, Option.map_some, ↓reduceIte, Nat.reduceBEq, Nat.reduceAdd, Nat.reduceSub, Nat.reduceEqDiff, Nat.reduceLeDiff, Nat.reduceMul, Nat.reduceLT, Int.reduceLT, Int.reduceLE, Int.reduceAdd, Int.reduceSub, Int.reduceMul, Int.reduceNeg, Int.reduceEq, Int.reduceNe, Int.reduceToNat, decide_true, decide_false, iaddr_i, iaddr_sl_i, not_true_eq_false, not_false_eq_true, reduceCtorEq, ne_eq, forall_const, false_imp_iff, true_imp_iff, implies_true, Int.cast_ofNat_Int, Int.natCast_zero, Int.natCast_one, Int.add_zero, Int.zero_add]
    rw [← hMa]
    refine ⟨rfl, rfl, 9, opsPath, _, none, hla, ?_⟩
    refine W_sound none_ok mixed _ _ _ _ _ ?_
    rw [← hMb]
    simp (maxSteps := 1000000) (disch := omega) only [c9rb0, e5, bz, bop, ha, kz, lst_cells hA.lst, lst_one hA.lst, go_sem, Option.map_none, Option.map_some, ↓reduceIte, Nat.reduceBEq, Nat.reduceAdd, Nat.reduceSub, Nat.reduceEqDiff, Nat.reduceLeDiff, Nat.reduceMul, Nat.reduceLT, Int.reduceLT, Int.reduceLE, Int.reduceAdd, Int.reduceSub, Int.reduceMul, Int.reduceNeg, Int.reduceEq, Int.reduceNe, Int.reduceToNat, decide_true, decide_false, iaddr_i, iaddr_sl_i, not_true_eq_false, not_false_eq_true, reduceCtorEq, ne_eq, forall_const, false_imp_iff, true_imp_iff, implies_true, Int.cast_ofNat_Int, Int.natCast_zero, Int.natCast_one, Int.add_zero, Int.zero_add]
    exact ⟨9, opsPath, env, .busy, none, by rw [List.getElem?_set_ne (by omega)]; exact kl, wkv_same⟩
  · have n1 : ∀ {i : Nat} {B : Blk}, i ≠ S.length + 1 → i ≠ S.length + 5 → B.opn = none → M[i]? = some B → ((M'.set (S.length + 1) (.cells [z'] 0 none true)).set (S.length + 5) (.loop 9 opsPath env .ready none))[i]? = some B := fun h3 h4 ho hB => by
      rw [List.getElem?_set_ne (Ne.symm h4), List.getElem?_set_ne (Ne.symm h3)]
      exact hkeep _ _ (at_old (st h4 hB)) ho
    have hl2 : (M'.set (S.length + 1) (.cells [z'] 0 none true))[S.length + 5]? = some (.loop 9 opsPath env .busy none) := by rw [List.getElem?_set_ne (by omega)]; exact kl
    have hA2 := (hA.setB (by omega) kz rfl (.cells [z'] 0 none true)).setB (ib := S.length + 5) (by omega) hl2 rfl (.loop 9 opsPath env .ready none)
    exact ⟨hA2.ext, n1 (by omega) (by omega) rfl h1, n1 (by omega) (by omega) rfl h2, n1 (by omega) (by omega) rfl hd, at_set hl2, z', by rw [List.getElem?_set_ne (by omega)]; exact at_set kz, .inr hA2⟩
end Go.Proofs.Ytcoljpgnjiakjaa

namespace Go.Proofs.Ytcoljpgnjiakjaa
open Go.RowKit
set_option linter.unusedSimpArgs false
set_option linter.unusedVariables false
set_option maxRecDepth 10000

def wrapL (l : List Opv) : List Opv := if l = [] then [] else opOf 3 :: l ++ [opOf 6]
def opsL (a b : List Pol) : List Opv := wrapL ((chg a b).map Ch.op)
def opsS : Spec := fun args S => match args with
  | [x, y] => match lstV polE S x, lstV polE S y with
    | some a, some b => if a.length ≤ 400000 ∧ b.length ≤ 400000 then some (retX false S (opsL a b), retM false opE S (opsL a b)) else none
    | _, _ => none
  | _ => none
theorem ops_ok : SpecOK Try.prog 9 opsS := by
  intro args S x S' h
  simp only [opsS] at h
  split at h
  · rename_i s t
    split at h
    · rename_i a b ha hb
      split at h
      · rename_i hlim
        cases h
        have hcl := chg_len a b
        refine fn_of_wp f9 rfl (W_sound oCo_ok mixed _ _ _ _ _ ?_)
        obtain ⟨S2, hS2⟩ : ∃ S2, S2 = S ++ [Blk.cells (opE.enc (opOf 3)) 0 none true, .cells [.sl S.length 0 0 1 1 true] 0 none true] := ⟨_, rfl⟩
        have hS2l : S2.length = S.length + 2 := by rw [hS2]; simp
        have hS2e : S <+: S2 := by rw [hS2]; exact ext_app _
        have hch := changes_eq (lst_ext ha hS2e) (lst_ext hb hS2e)
        rw [hS2l, hS2, List.append_assoc] at hch
        simp only [opE, opC, opOf, noPol] at hch
        simp (maxSteps := 1000000) (disch := omega) only [c9, List.replicate, orc_cons, hch, go_sem, Option.map_none, Option.map_some, ↓reduceIte, Nat.reduceBEq, Nat.reduceAdd, Nat.reduceSub, Nat.reduceEqDiff, Nat.reduceLeDiff, Nat.reduceMul, Nat.reduceLT, Int.reduceLT, Int.reduceLE, Int.reduceAdd, Int.reduceSub, Int.reduceMul, Int.reduceNeg, Int.reduceEq, Int.reduceNe, Int.reduceToNat, decide_true, decide_false, iaddr_i, iaddr_sl_i, not_true_eq_false, not_false_eq_true, reduceCtorEq, ne_eq, forall_const, false_imp_iff, true_imp_iff, implies_true, Int.cast_ofNat_Int, Int.natCast_zero, Int.natCast_one, Int.add_zero, Int.zero_add]
        obtain ⟨S4, hS4⟩ : ∃ S4, S4 = S ++ [Blk.cells (opE.enc (opOf 3)) 0 none true, .cells [.sl S.length 0 0 1 1 true] 0 none true, .cells [s] 0 none true, .cells [t] 0 none true] := ⟨_, rfl⟩
        have hl4 : S4.length = S.length + 4 := by rw [hS4]; simp
        have hrf : ∀ (e : Env) (keep : List Nat), (keepE e keep).get 5 = .p (S.length + 1) 0 0 →
            FnR Try.prog 30 ([] ++ [.y (S4.length + 1)] ++ [.p (S.length + 2) 0 0, .p (S.length + 3) 0 0])
              (S4 ++ [.dfr true, .loop 9 opsPath (keepE e keep) .ready none]) (fun v M' => Jo S s t (keepE e keep) (opOf 3 :: (chg a b).map Ch.op) M') := by
          intro e keep g5
          rw [hl4, hS4, List.append_assoc S]
          have h0 := iter_ok (i := S.length + 5) (i1 := S.length + 2) (i2 := S.length + 3) (xa := s) (xb := t) (a := a) (b := b) (J := fun k M => Jo S s t (keepE e keep) (opOf 3 :: ((chg a b).take k).map Ch.op) M) (fun k M L J => J.grow L) (fun k M J => ⟨J.h1, J.h2, lst_ext ha J.hS, lst_ext hb J.hS⟩) (fun k hk M J => by
              obtain ⟨M', h1, h2⟩ := ops_round J g5 (by rw [List.length_cons, List.length_map, List.length_take]; omega) (chg a b)[k].op
              refine ⟨M', by rw [Ch.enc_op]; exact h1, ?_⟩
              rw [List.take_succ_eq_append_getElem hk, List.map_append]
              exact h2) (by omega) (by omega) (M0 := S ++ ([Blk.cells (opE.enc (opOf 3)) 0 none true, .cells [.sl S.length 0 0 1 1 true] 0 none true, .cells [s] 0 none true, .cells [t] 0 none true] ++ [.dfr true, .loop 9 opsPath (keepE e keep) .ready none]))
              ⟨ext_app _, by rw [at_app]; rfl, by rw [at_app]; rfl, by rw [at_app]; rfl, by rw [at_app]; rfl, .sl S.length 0 0 1 1 true, by rw [at_app]; rfl, .inl ⟨rfl, rfl, by rw [at_app0]; rfl, ext_app _⟩⟩
          rw [List.take_length] at h0
          exact h0
        simp only [opE, opC, opOf, noPol] at hS4
        rw [← hS4]
        apply wp_rf rfl (hrf _ _ (by rfl))
        rw [hl4]
        intro y0 S5 J
        refine ⟨_, _, _, _, _, J.hl, by simp, ?_⟩
        rw [show S.length + 4 + 1 = S.length + 5 from rfl]
        obtain ⟨hS, h1, h2, hd, hl, z, hz, hL⟩ := J
        generalize hMe : S5.set (S.length + 5) _ = M3
        have f1 : M3[S.length + 1]? = some (.cells [z] 0 none true) := by rw [← hMe, List.getElem?_set_ne (by omega)]; exact hz
        have fd : M3[S.length + 4]? = some (.dfr true) := by rw [← hMe, List.getElem?_set_ne (by omega)]; exact hd
        have fL : Lb S M3 z (opOf 3 :: (chg a b).map Ch.op) := by rw [← hMe]; exact hL.set (by omega) hl rfl _
        have fS : S <+: M3 := by rw [← hMe]; exact ext_set hS (by omega) _
        have hlz := lst_len fL.lst
        simp only [List.length_cons, List.length_map] at hlz
        by_cases hc0 : chg a b = []
        · have hn : opsL a b = [] := by unfold opsL wrapL; rw [hc0]; rfl
          rw [hn]
          rw [hc0] at hlz
          simp only [List.length_nil] at hlz
          simp (maxSteps := 1000000) (disch := omega) only [f1, hlz, ret_d fd, go_sem, Option.map_none, Option.map_some, ↓reduceIte, Nat.reduceBEq, Nat.reduceAdd, Nat.reduceSub, Nat.reduceEqDiff, Nat.reduceLeDiff, Nat.reduceMul, Nat.reduceLT, Int.reduceLT, Int.reduceLE, Int.reduceAdd, Int.reduceSub, Int.reduceMul, Int.reduceNeg, Int.reduceEq, Int.reduceNe, Int.reduceToNat, decide_true, decide_false, iaddr_i, iaddr_sl_i, not_true_eq_false, not_false_eq_true, reduceCtorEq, ne_eq, forall_const, false_imp_iff, true_imp_iff, implies_true, Int.cast_ofNat_Int, Int.natCast_zero, Int.natCast_one, Int.add_zero, Int.zero_add]
          exact wkv_dropP (ext_set fS (by omega) _) rfl
        · have hn1 : ¬ (((chg a b).length + 1 : Nat) : Int) = 1 := by
            have := List.length_pos_iff.2 hc0; omega
          obtain ⟨z', M', hap, hA, hkeep⟩ := (fL.grow [.cells (opE.enc (opOf 6)) 0 none true]).app (opOf 6) (by rw [List.length_cons, List.length_map]; omega)
          have kd := hkeep _ _ (at_old fd) rfl
          simp only [opE, opC, opOf, noPol] at hap
          simp (maxSteps := 1000000) (disch := omega) only [f1, hlz, hn1, hap, ret_d kd, go_sem, Option.map_none, Option.map_some, ↓reduceIte, Nat.reduceBEq, Nat.reduceAdd, Nat.reduceSub, Nat.reduceEqDiff, Nat.reduceLeDiff, Nat.reduceMul, Nat.reduceLT, Int.reduceLT, Int.reduceLE, Int.reduceAdd, Int.reduceSub, Int.reduceMul, Int.reduceNeg, Int.reduceEq, Int.reduceNe, Int.reduceToNat, decide_true, decide_false, iaddr_i, iaddr_sl_i, not_true_eq_false, not_false_eq_true, reduceCtorEq, ne_eq, forall_const, false_imp_iff, true_imp_iff, implies_true, Int.cast_ofNat_Int, Int.natCast_zero, Int.natCast_one, Int.add_zero, Int.zero_add]
          have hn : opsL a b = opOf 3 :: (chg a b).map Ch.op ++ [opOf 6] := by
            unfold opsL wrapL; rw [if_neg (by simpa using hc0)]
          rw [hn]
          exact (hA.setB (by omega) kd rfl _).ret opE_flat
      · cases h
    · cases h
  · cases h
end Go.Proofs.Ytcoljpgnjiakjaa

namespace Go.Proofs.Ytcoljpgnjiakjaa
open Go.RowKit
set_option linter.unusedSimpArgs false
set_option linter.unusedVariables false
set_option maxRecDepth 10000

end Go.Proofs.Ytcoljpgnjiakjaa

namespace Go.Proofs.Ytcoljpgnjiakjaa
open Go.RowKit
set_option linter.unusedSimpArgs false
set_option linter.unusedVariables false
set_option maxRecDepth 10000

/-! ### Plain -/
def uni : List Pol → List Pol → List Int
  | [], [] => []
  | [], q :: b => q.sub :: uni [] b
  | p :: a, [] => p.sub :: uni a []
  | p :: a, q :: b => if p.sub < q.sub then p.sub :: uni a (q :: b) else if q.sub < p.sub then q.sub :: uni (p :: a) b else p.sub :: uni a b
termination_by a b => a.length + b.length
def opAt (a b : List Pol) (id : Int) : Option Ch := match pfind b id with
  | none => some (.drop id)
  | some q => if pfind a id = some q then none else some (.put q)
theorem uni_mem : ∀ (a b : List Pol) (id : Int), id ∈ uni a b ↔ (∃ p ∈ a, p.sub = id) ∨ ∃ q ∈ b, q.sub = id
  | [], [], id => by rw [uni]; simp
  | [], q :: b, id => by rw [uni, List.mem_cons, uni_mem [] b]; simp [eq_comm]
  | p :: a, [], id => by rw [uni, List.mem_cons, uni_mem a []]; simp [eq_comm]
  | p :: a, q :: b, id => by
    rw [uni]
    split
    · rw [List.mem_cons, uni_mem a (q :: b)]; simp [eq_comm, or_assoc]
    · split
      · rw [List.mem_cons, uni_mem (p :: a) b]; simp [eq_comm, or_assoc, or_left_comm]
      · rename_i h1 h2
        have hs : p.sub = q.sub := by omega
        rw [List.mem_cons, uni_mem a b]
        simp only [List.mem_cons, exists_eq_or_imp]
        constructor
        · rintro (h | h | h)
          · exact .inl (.inl h.symm)
          · exact .inl (.inr h)
          · exact .inr (.inr h)
        · rintro ((h | h) | (h | h))
          · exact .inl h.symm
          · exact .inr (.inl h)
          · exact .inl (by rw [← h, hs])
          · exact .inr (.inr h)
termination_by a b => a.length + b.length
theorem uni_gt {n : Int} {a b : List Pol} (ha : risF n a = true) (hb : risF n b = true) : ∀ x ∈ uni a b, n < x := by
  intro x hx
  rcases (uni_mem a b x).1 hx with ⟨p, hp, rfl⟩ | ⟨p, hp, rfl⟩
  · exact ris_gt ha p hp
  · exact ris_gt hb p hp
theorem fm_congr {α β : Type} {f g : α → Option β} : ∀ (l : List α), (∀ a ∈ l, f a = g a) → l.filterMap f = l.filterMap g
  | [], _ => rfl
  | a :: l, h => by
    rw [List.filterMap_cons, List.filterMap_cons, h a (by simp), fm_congr l fun x hx => h x (by simp [hx])]
theorem opAt_ne {p : Pol} {a b : List Pol} {id : Int} (h : id ≠ p.sub) : opAt (p :: a) b id = opAt a b id := by unfold opAt; rw [pfind_ne h]
theorem opAt_ne2 {q : Pol} {a b : List Pol} {id : Int} (h : id ≠ q.sub) : opAt a (q :: b) id = opAt a b id := by unfold opAt; rw [pfind_ne h]
/-- The changes, subscriber by subscriber. -/
theorem chg_uni : ∀ (a b : List Pol) (n : Int), risF n a = true → risF n b = true → chg a b = (uni a b).filterMap (opAt a b)
  | [], [], n, _, _ => by rw [chg, uni]; rfl
  | [], q :: b, n, ha, hb => by
    obtain ⟨h1, h2⟩ := ris_cons hb
    rw [chg, uni, List.filterMap_cons]
    have e : opAt [] (q :: b) q.sub = some (.put q) := by unfold opAt; rw [pfind_same]; simp [pfind]
    rw [e]
    simp only
    rw [chg_uni [] b q.sub rfl h2]
    congr 1
    refine fm_congr _ fun x hx => (opAt_ne2 ?_).symm
    have := uni_gt (n := q.sub) rfl h2 x hx; omega
  | p :: a, [], n, ha, hb => by
    obtain ⟨h1, h2⟩ := ris_cons ha
    rw [chg, uni, List.filterMap_cons]
    have e : opAt (p :: a) [] p.sub = some (.drop p.sub) := by unfold opAt; simp [pfind]
    rw [e]
    simp only
    rw [chg_uni a [] p.sub h2 rfl]
    exact congrArg _ (fm_congr _ fun x hx => (opAt_ne (by have := uni_gt (n := p.sub) h2 rfl x hx; omega)).symm)
  | p :: a, q :: b, n, ha, hb => by
    obtain ⟨h1, h2⟩ := ris_cons ha
    obtain ⟨k1, k2⟩ := ris_cons hb
    by_cases c1 : p.sub < q.sub
    · have hb2 : risF p.sub (q :: b) = true := by simp only [risF, k2, Bool.and_true, decide_eq_true_eq]; exact c1
      rw [chg, uni, if_pos c1, if_pos c1, List.filterMap_cons]
      have e : opAt (p :: a) (q :: b) p.sub = some (.drop p.sub) := by unfold opAt; rw [pfind_none hb2 (Int.le_refl _)]
      rw [e]
      simp only
      rw [chg_uni a (q :: b) p.sub h2 hb2]
      congr 1
      refine fm_congr _ fun x hx => (opAt_ne ?_).symm
      have := uni_gt h2 hb2 x hx; omega
    · by_cases c2 : q.sub < p.sub
      · have ha2 : risF q.sub (p :: a) = true := by simp only [risF, h2, Bool.and_true, decide_eq_true_eq]; exact c2
        rw [chg, uni, if_neg c1, if_neg c1, if_pos c2, if_pos c2, List.filterMap_cons]
        have e : opAt (p :: a) (q :: b) q.sub = some (.put q) := by unfold opAt; rw [pfind_same, pfind_none ha2 (Int.le_refl _)]; simp
        rw [e]
        simp only
        rw [chg_uni (p :: a) b q.sub ha2 k2]
        congr 1
        refine fm_congr _ fun x hx => (opAt_ne2 ?_).symm
        have := uni_gt ha2 k2 x hx; omega
      · have hs : p.sub = q.sub := by omega
        have hb3 : risF p.sub b = true := by rw [hs]; exact k2
        have ih := chg_uni a b p.sub h2 hb3
        have hrest : (uni a b).filterMap (opAt (p :: a) (q :: b)) = (uni a b).filterMap (opAt a b) := fm_congr _ fun x hx => by
          have := uni_gt h2 hb3 x hx
          rw [opAt_ne (by omega), opAt_ne2 (by omega)]
        rw [chg_same hs, uni, if_neg c1, if_neg c2, List.filterMap_cons, hrest, ← ih]
        have hf : pfind (q :: b) p.sub = some q := by rw [hs]; exact pfind_same q b
        have e : opAt (p :: a) (q :: b) p.sub = if p = q then none else some (.put q) := by
          unfold opAt; rw [hf, pfind_same]
          by_cases e : p = q
          · simp [e]
          · simp [e]
        rw [e]
        by_cases e : p = q
        · rw [if_pos e, if_pos e]
        · rw [if_neg e, if_neg e]
termination_by a b => a.length + b.length
end Go.Proofs.Ytcoljpgnjiakjaa

namespace Go.Proofs.Ytcoljpgnjiakjaa
open Go.RowKit
set_option linter.unusedSimpArgs false
set_option linter.unusedVariables false
set_option maxRecDepth 10000

theorem src_lst {α : Type} {E : Enc α} {S : Mem} {x : AV} {l : List α} (h : lstV E S x = some l) : srcV S E.sz x = some (l.flatMap E.enc, l.length) := by
  rcases lstV_lst h with ⟨rfl, rfl⟩ | ⟨rfl, rfl⟩ | ⟨i, o, v, len, cap, ex, rfl, rfl, hrow⟩
  · rfl
  · rfl
  · have hrow : rowB (S[i]?) o v (l.length * E.sz) = some (l.flatMap E.enc) := by rw [← rowAt_B]; exact hrow
    rw [src_sl, hrow, srcN_some]
end Go.Proofs.Ytcoljpgnjiakjaa

namespace Go.Proofs.Ytcoljpgnjiakjaa
open Go.RowKit
set_option linter.unusedSimpArgs false
set_option linter.unusedVariables false
set_option maxRecDepth 10000

/-- The list that is built: the empty literal, or a block of its own. -/
def Lm (i : Nat) (M1 M : Mem) (y : AV) (l : List Opv) : Prop := (l = [] ∧ y = .sl i 0 0 0 0 true ∧ M1 <+: M) ∨ Acc true opE M1 M y l
theorem Lm.ext {i : Nat} {M1 M : Mem} {y : AV} {l : List Opv} (h : Lm i M1 M y l) : M1 <+: M := by
  rcases h with ⟨_, _, h⟩ | h
  · exact h
  · exact h.ext
theorem Lm.grow {i : Nat} {M1 M : Mem} {y : AV} {l : List Opv} (h : Lm i M1 M y l) (U : Mem) : Lm i M1 (M ++ U) y l := by
  rcases h with ⟨h1, h2, h⟩ | h
  · exact .inl ⟨h1, h2, ext_more h U⟩
  · exact .inr (h.grow U)
theorem Lm.acc {S : Mem} {M1 M : Mem} {y : AV} {l : List Opv} (hS : S ++ [.cells [] 0 none true] <+: M1) (h : Lm S.length M1 M y l) : Acc true opE S M y l := by
  rcases h with ⟨rfl, rfl, h⟩ | h
  · exact (acc_lit ext_refl).extM (hS.trans h)
  · exact h.base ((ext_app _).trans hS)
theorem Lm.app {i : Nat} {M1 M : Mem} {y : AV} {l : List Opv} (hi : M1[i]? = some (.cells [] 0 none true)) (h : Lm i M1 M y l) (a : Opv) (hn : l.length ≤ 1000000) : ∃ y' M', appV M 19 160 y (opE.enc a) 1 = some (y', M') ∧ Lm i M1 M' y' (l ++ [a]) := by
  rcases h with ⟨rfl, rfl, h⟩ | h
  · have hc : rowAt M i 0 0 (0 * 19) = some [] := by rw [rowAt_B, at_pre h hi]; rfl
    obtain ⟨T, rfl⟩ := h
    refine ⟨.sl (M1 ++ T).length 0 0 1 1 false, (M1 ++ T) ++ [.cells (opE.enc a) 0 (some 19) true], ?_, .inr ⟨T ++ [.cells (opE.enc a) 0 (some 19) true], by rw [List.append_assoc], .inr (.inr ⟨by simp, T.length, 0, by rw [List.length_append]; rfl, ?_⟩)⟩⟩
    · simp only [appV, hc]
      rw [if_neg (by omega), if_neg (by omega), if_pos ⟨by decide, by decide⟩, if_pos trivial]
      rfl
    · rw [List.getElem?_append_right (by omega), Nat.sub_self]
      show some (Blk.cells (opE.enc a) 0 (some 19) true) = some (.cells ([a].flatMap opE.enc) 0 (some 19) true)
      simp
  · obtain ⟨y', M', h1, h2⟩ := h.app (bytes := 160) opE_one a (by omega) (by omega)
    exact ⟨y', M', h1, .inr h2⟩
end Go.Proofs.Ytcoljpgnjiakjaa

namespace Go.Proofs.Ytcoljpgnjiakjaa
open Go.RowKit
set_option linter.unusedSimpArgs false
set_option linter.unusedVariables false
set_option maxRecDepth 10000

/-- A value of one cell. -/
structure Sl where
  v : AV
  h : v.one = true
structure Oq where
  kind : Int
  sub : Int
  m : Int
  n : Int
  x : Sl
  pol : Pol
  y : Sl
def Oq.enc (o : Oq) : List AV := [.i .i64 o.kind, .i .i64 o.sub, .i .i64 o.m, .i .u64 o.n, o.x.v, .i .i64 o.pol.sub, .i .u8 o.pol.a, .i .u8 o.pol.b, .i .u8 o.pol.c, .i .u8 o.pol.d, .i .i64 o.pol.bits, .i .u64 o.pol.rate, .i .u64 o.pol.burst, .i .u64 o.pol.srate, .i .u64 o.pol.sburst, .i .u64 o.pol.quota, .i .u64 o.pol.lease, .i .u64 o.pol.quantum, o.y.v]
def oqE : Enc Oq where
  enc := Oq.enc
  dec r := match r with
    | [.i .i64 k, .i .i64 s, .i .i64 m, .i .u64 n, x, .i .i64 sub, .i .u8 a, .i .u8 b, .i .u8 c, .i .u8 d, .i .i64 bits, .i .u64 rate, .i .u64 burst, .i .u64 srate, .i .u64 sburst, .i .u64 quota, .i .u64 lease, .i .u64 quantum, y] =>
      if h : x.one = true ∧ y.one = true then some ⟨k, s, m, n, ⟨x, h.1⟩, ⟨sub, a, b, c, d, bits, rate, burst, srate, sburst, quota, lease, quantum⟩, ⟨y, h.2⟩⟩ else none
    | _ => none
  sz := 19
  pos := by decide
  len _ := rfl
  de a := by
    obtain ⟨k, s, m, n, ⟨x, hx⟩, p, ⟨y, hy⟩⟩ := a
    simp only [Oq.enc]
    rw [dif_pos ⟨hx, hy⟩]
  ed r a h := by
    split at h
    · split at h
      · injection h with h; subst h; rfl
      · cases h
    · cases h
def slN : Sl := ⟨.sn, rfl⟩
def Opv.oq (o : Opv) : Oq := ⟨o.kind, o.sub, 0, 0, slN, o.pol, slN⟩
theorem lst_oq {S : Mem} {x : AV} {l : List Opv} (h : lstV opE S x = some l) : lstV oqE S x = some (l.map Opv.oq) := by
  have hf : (l.map Opv.oq).flatMap oqE.enc = l.flatMap opE.enc := by rw [List.flatMap_map]; rfl
  rcases lstV_lst h with ⟨rfl, rfl⟩ | ⟨rfl, rfl⟩ | ⟨i, o, v, len, cap, ex, rfl, h1, h3⟩
  · rfl
  · rfl
  · refine lst_lstV (.inr (.inr ⟨i, o, v, len, cap, ex, rfl, by rw [List.length_map]; exact h1, ?_⟩))
    rw [hf]; exact h3

/-! ### Plain -/
def putF (p : Pol) : List Pol → List Pol
  | [] => [p]
  | q :: l => if q.sub < p.sub then q :: putF p l else if q.sub = p.sub then p :: l else p :: q :: l
def dropF (n : Int) (l : List Pol) : List Pol := l.filter fun p => decide (p.sub ≠ n)
def stepQ (l : List Pol) (o : Oq) : List Pol := if o.kind = 4 then putF o.pol l else if o.kind = 5 then dropF o.sub l else l
def applyF (l : List Pol) (ops : List Oq) : List Pol := ops.foldl stepQ l
theorem ris_tail {q : Pol} {l : List Pol} (h : Ris (q :: l)) : (∀ p ∈ l, q.sub < p.sub) ∧ Ris l := List.pairwise_cons.1 h
theorem mem_putF {p : Pol} : ∀ {l : List Pol} {r : Pol}, r ∈ putF p l → r = p ∨ r ∈ l := by
  intro l
  induction l with
  | nil => intro r h; left; simpa [putF] using h
  | cons q l ih =>
    intro r h
    simp only [putF] at h
    split at h
    · rcases List.mem_cons.1 h with rfl | h
      · right; exact List.mem_cons_self
      · rcases ih h with h | h
        · exact .inl h
        · exact .inr (List.mem_cons_of_mem _ h)
    · split at h
      · rcases List.mem_cons.1 h with rfl | h
        · exact .inl rfl
        · exact .inr (List.mem_cons_of_mem _ h)
      · rcases List.mem_cons.1 h with rfl | h
        · exact .inl rfl
        · exact .inr h
theorem ris_put {p : Pol} : ∀ {l : List Pol}, Ris l → Ris (putF p l) := by
  intro l
  induction l with
  | nil => intro _; exact List.pairwise_singleton _ _
  | cons q l ih =>
    intro h
    obtain ⟨h1, h2⟩ := ris_tail h
    simp only [putF]
    split
    · rename_i hlt
      refine List.pairwise_cons.2 ⟨fun r hr => ?_, ih h2⟩
      rcases mem_putF hr with rfl | hr
      · exact hlt
      · exact h1 r hr
    · split
      · rename_i hq
        exact List.pairwise_cons.2 ⟨fun r hr => by rw [← hq]; exact h1 r hr, h2⟩
      · rename_i hn hq
        refine List.pairwise_cons.2 ⟨fun r hr => ?_, h⟩
        rcases List.mem_cons.1 hr with rfl | hr
        · omega
        · have := h1 r hr; omega
theorem ris_drop {n : Int} {l : List Pol} (h : Ris l) : Ris (dropF n l) := List.Pairwise.filter _ h
theorem ris_step {o : Oq} {l : List Pol} (h : Ris l) : Ris (stepQ l o) := by
  unfold stepQ
  split
  · exact ris_put h
  · split
    · exact ris_drop h
    · exact h
theorem put_len (p : Pol) : ∀ l : List Pol, (putF p l).length ≤ l.length + 1 := by
  intro l
  induction l with
  | nil => simp [putF]
  | cons q l ih =>
    simp only [putF]
    split
    · simp only [List.length_cons]; omega
    · split <;> simp
theorem step_len {o : Oq} {l : List Pol} : (stepQ l o).length ≤ l.length + 1 := by
  unfold stepQ
  split
  · exact put_len _ _
  · split
    · have : (dropF o.sub l).length ≤ l.length := List.length_filter_le _ _
      omega
    · omega
theorem bidx_cons {q : Pol} {l : List Pol} {n : Int} : bidx (q :: l) n = if q.sub < n then bidx l n + 1 else 0 := by
  unfold bidx
  by_cases h : q.sub < n
  · rw [if_pos h, List.takeWhile_cons_of_pos (by simpa using h)]; rfl
  · rw [if_neg h, List.takeWhile_cons_of_neg (by simpa using h)]; rfl
theorem bfound_cons {q : Pol} {l : List Pol} {n : Int} : bfound (q :: l) n = (decide (q.sub = n) || bfound l n) := by
  unfold bfound; rw [List.any_cons]
theorem bfound_no {l : List Pol} {n : Int} (h : ∀ p ∈ l, n < p.sub) : bfound l n = false := by
  unfold bfound
  rw [List.any_eq_false]
  intro p hp
  have := h p hp
  simp; omega
theorem bidx_le {l : List Pol} {n : Int} : bidx l n ≤ l.length := (List.takeWhile_prefix _).length_le
theorem bidx_lt {n : Int} : ∀ {l : List Pol}, Ris l → bfound l n = true → bidx l n < l.length
  | [], _, h => by cases h
  | q :: l, hr, h => by
    obtain ⟨h1, h2⟩ := ris_tail hr
    rw [bidx_cons]
    split
    · rename_i hlt
      rw [bfound_cons, decide_eq_false (by omega), Bool.false_or] at h
      have := bidx_lt h2 h
      simp only [List.length_cons]; omega
    · simp
theorem put_found {p : Pol} : ∀ {l : List Pol}, Ris l → bfound l p.sub = true → l.set (bidx l p.sub) p = putF p l
  | [], _, h => by cases h
  | q :: l, hr, h => by
    obtain ⟨h1, h2⟩ := ris_tail hr
    rw [bidx_cons, putF]
    by_cases hlt : q.sub < p.sub
    · rw [bfound_cons, decide_eq_false (by omega), Bool.false_or] at h
      rw [if_pos hlt, if_pos hlt, List.set_cons_succ, put_found h2 h]
    · rw [if_neg hlt, if_neg hlt, List.set_cons_zero]
      by_cases he : q.sub = p.sub
      · rw [if_pos he]
      · rw [bfound_cons, decide_eq_false he, Bool.false_or, bfound_no (fun r hr => by have := h1 r hr; omega)] at h
        cases h
theorem put_not {p : Pol} : ∀ {l : List Pol}, Ris l → bfound l p.sub = false → l.take (bidx l p.sub) ++ p :: l.drop (bidx l p.sub) = putF p l
  | [], _, h => rfl
  | q :: l, hr, h => by
    obtain ⟨h1, h2⟩ := ris_tail hr
    rw [bfound_cons, Bool.or_eq_false_iff] at h
    have hne : q.sub ≠ p.sub := of_decide_eq_false h.1
    rw [bidx_cons, putF]
    by_cases hlt : q.sub < p.sub
    · rw [if_pos hlt, if_pos hlt, List.take_succ_cons, List.drop_succ_cons, List.cons_append, put_not h2 h.2]
    · rw [if_neg hlt, if_neg hlt, if_neg hne]; rfl
theorem drop_found {n : Int} : ∀ {l : List Pol}, Ris l → bfound l n = true → l.eraseIdx (bidx l n) = dropF n l
  | [], _, h => by cases h
  | q :: l, hr, h => by
    obtain ⟨h1, h2⟩ := ris_tail hr
    rw [bidx_cons]
    unfold dropF
    by_cases hlt : q.sub < n
    · rw [bfound_cons, decide_eq_false (by omega), Bool.false_or] at h
      rw [if_pos hlt, List.eraseIdx_cons_succ, drop_found h2 h, List.filter_cons_of_pos (by simp; omega)]; rfl
    · rw [if_neg hlt, List.eraseIdx_cons_zero]
      by_cases he : q.sub = n
      · rw [List.filter_cons_of_neg (by simpa using he)]
        symm
        rw [List.filter_eq_self]
        intro p hp
        have := h1 p hp
        simp; omega
      · rw [bfound_cons, decide_eq_false he, Bool.false_or, bfound_no (fun r hr => by have := h1 r hr; omega)] at h
        cases h
theorem drop_not {n : Int} {l : List Pol} (h : bfound l n = false) : dropF n l = l := by
  unfold dropF
  rw [List.filter_eq_self]
  intro p hp
  unfold bfound at h
  rw [List.any_eq_false] at h
  have := h p hp
  simpa using this
theorem ris_of {n : Int} : ∀ {l : List Pol}, risF n l = true → Ris l
  | [], _ => List.Pairwise.nil
  | p :: l, h => List.pairwise_cons.2 ⟨fun q hq => ris_gt (ris_cons h).2 q hq, ris_of (ris_cons h).2⟩

/-! ### States -/
theorem flat_set {l : List Pol} {k : Nat} (hk : k < l.length) (p : Pol) (junk : List AV) : (l.flatMap polE.enc ++ junk).take (k * 13) ++ (p.enc ++ (l.flatMap polE.enc ++ junk).drop (k * 13 + 13)) = (l.set k p).flatMap polE.enc ++ junk := by
  have h1 : (l.flatMap polE.enc).take (k * 13) = (l.take k).flatMap polE.enc := flat_take (E := polE) l k
  have h2 : (l.flatMap polE.enc).drop ((k + 1) * 13) = (l.drop (k + 1)).flatMap polE.enc := flat_drop (E := polE) l (k + 1)
  have hlen := flat13 l
  rw [List.take_append_of_le_length (by omega), List.drop_append_of_le_length (by omega), show k * 13 + 13 = (k + 1) * 13 by omega, h1, h2, List.set_eq_take_append_cons_drop, if_pos hk, List.flatMap_append, List.flatMap_cons]
  show _ = _ ++ (p.enc ++ _) ++ junk
  simp only [List.append_assoc]
/-- The list in a block of its own, with room behind. -/
def Own (M : Mem) (i v cap : Nat) (junk : List AV) (l : List Pol) : Prop := l.length ≤ cap ∧ junk.length = (cap - l.length) * 13 ∧ M[i]? = some (.cells (l.flatMap polE.enc ++ junk) v (some 13) true)
theorem Own.grow {M : Mem} {i v cap : Nat} {junk : List AV} {l : List Pol} (h : Own M i v cap junk l) (U : Mem) : Own (M ++ U) i v cap junk l := ⟨h.1, h.2.1, at_old h.2.2⟩
theorem Own.len {M : Mem} {i v cap : Nat} {junk : List AV} {l : List Pol} (h : Own M i v cap junk l) : (l.flatMap polE.enc ++ junk).length = cap * 13 := by
  obtain ⟨h1, h2, _⟩ := h
  rw [List.length_append, flat13, h2, ← Nat.add_mul]; congr 1; omega
theorem Own.lst {M : Mem} {i v cap : Nat} {junk : List AV} {l : List Pol} {ex : Bool} (h : Own M i v cap junk l) : lstV polE M (.sl i 0 v l.length cap ex) = some l := by
  refine lst_lstV (.inr (.inr ⟨_, _, _, _, _, _, rfl, rfl, ?_⟩))
  rw [rowAt_B, h.2.2, rowB_some, if_pos (by rw [List.length_append, enc_length]; omega), List.drop_zero, ← enc_length, List.take_left]
theorem Own.dec {M : Mem} {i v cap : Nat} {junk : List AV} {l : List Pol} (h : Own M i v cap junk l) : decL polE l.length ((l.flatMap polE.enc ++ junk).take (l.length * 13)) = some l := by
  rw [← flat13, List.take_left]; exact decL_enc l
theorem noX_own {M : Mem} {i v n cap : Nat} {ex : Bool} {cs : List AV} (hB : M[i]? = some (.cells cs v (some 13) true)) : noX M (.sl i 0 v n cap ex) = false := by
  rw [Bool.eq_false_iff]
  intro q
  rcases noX_cases q with h | ⟨i', h, hB'⟩
  · cases h
  · cases h
    rw [hB] at hB'
    cases hB'
/-- An insertion: in the same block, or in a new one. -/
def Moved (M : Mem) (i i' : Nat) (M' : Mem) : Prop := (i' = i ∧ ∃ B, M' = M.set i B) ∨ (M.length ≤ i' ∧ M <+: M')
theorem Own.ins {M : Mem} {i v cap j : Nat} {junk : List AV} {l : List Pol} (h : Own M i v cap junk l) {k : Nat} (hk : k ≤ l.length) (hl : l.length ≤ 900000) (p : Pol) (hJ : M[j]? = some (.cells p.enc 0 none true)) :
    ∃ M' i' v' cap' ex' junk', insS [.sl i 0 v l.length cap true, .i .i64 k, .sl j 0 0 1 1 true] M = some (.sl i' 0 v' (l.take k ++ p :: l.drop k).length cap' ex', M') ∧
      Own M' i' v' cap' junk' (l.take k ++ p :: l.drop k) ∧ Moved M i i' M' := by
  have hB := h.2.2
  have hlen := h.len
  have hd := h.dec
  have h1 := h.1
  have h2 := h.2.1
  have hll : (l.take k ++ p :: l.drop k).length = l.length + 1 := by rw [List.length_append, List.length_cons, List.length_take, List.length_drop]; omega
  have hij : i ≠ j := by
    rintro rfl
    have hq := congrArg (Option.map Blk.opn) (hB.symm.trans hJ)
    simp [Blk.opn] at hq
  have hp : polE.dec p.enc = some p := polE.de p
  have hno : ¬ noX M (.sl i 0 v l.length cap true) = true := by rw [noX_own hB]; simp
  by_cases hroom : l.length + 1 ≤ cap
  · refine ⟨_, i, v, cap, true, junk.drop 13, ?_, ⟨by rw [hll]; exact hroom, by rw [List.length_drop, h2, hll]; omega, at_set hB⟩, .inl ⟨rfl, _, rfl⟩⟩
    simp only [insS, hJ, hp]
    rw [if_neg hno]
    simp only [hB, hd]
    rw [if_pos ⟨trivial, hlen, h1, hij, by omega, by omega, hl⟩, if_pos hroom, Int.toNat_natCast, hll]
    have e1 : (l.flatMap polE.enc ++ junk).drop ((l.length + 1) * 13) = junk.drop 13 := by
      rw [List.drop_append, List.drop_of_length_le (by rw [flat13]; omega), List.nil_append, flat13]; congr 1; omega
    rw [e1]
  · refine ⟨M ++ [.cells ((l.take k ++ p :: l.drop k).flatMap polE.enc) 0 (some 13) true], M.length, 0, l.length + 1, false, [], ?_, ⟨by rw [hll]; exact Nat.le_refl _, by rw [hll]; simp, by rw [at_app0, List.append_nil]; rfl⟩, .inr ⟨Nat.le_refl _, ext_app _⟩⟩
    simp only [insS, hJ, hp]
    rw [if_neg hno]
    simp only [hB, hd]
    rw [if_pos ⟨trivial, hlen, h1, hij, by omega, by omega, hl⟩, if_neg hroom, Int.toNat_natCast, hll]
theorem ins_new {M : Mem} {x : AV} {j : Nat} (h : noX M x = true) (p : Pol) (hJ : M[j]? = some (.cells p.enc 0 none true)) :
    insS [x, .i .i64 0, .sl j 0 0 1 1 true] M = some (.sl M.length 0 0 1 1 false, M ++ [.cells p.enc 0 (some 13) true]) := by
  have hp : polE.dec p.enc = some p := polE.de p
  simp only [insS, hJ, hp]
  rw [if_pos h, if_pos trivial]
theorem Own.del {M : Mem} {i v cap : Nat} {junk : List AV} {l : List Pol} (h : Own M i v cap junk l) {k : Nat} (hk : k < l.length) (hl : l.length ≤ 900000) :
    ∃ M' junk', delS [.sl i 0 v l.length cap true, .i .i64 k, .i .i64 ((k : Int) + 1)] M = some (.sl i 0 v (l.eraseIdx k).length cap true, M') ∧ Own M' i v cap junk' (l.eraseIdx k) ∧ ∃ B, M' = M.set i B := by
  have hB := h.2.2
  have hlen := h.len
  have hd := h.dec
  have h1 := h.1
  have h2 := h.2.1
  have hll : (l.eraseIdx k).length = l.length - 1 := List.length_eraseIdx_of_lt hk
  refine ⟨_, zero13 ++ junk, ?_, ⟨by rw [hll]; omega, ?_, at_set hB⟩, _, rfl⟩
  · simp only [delS, hB, hd]
    rw [if_pos ⟨trivial, hlen, h1, by omega, by omega, trivial, hl⟩, Int.toNat_natCast, hll]
    have e1 : (l.flatMap polE.enc ++ junk).drop (l.length * 13) = junk := by rw [← flat13, List.drop_left]
    rw [e1, List.append_assoc]
  · rw [List.length_append, h2, hll]
    show 13 + _ = _
    omega
theorem Own.store {M : Mem} {i v cap : Nat} {junk : List AV} {l : List Pol} (h : Own M i v cap junk l) {k : Nat} (hk : k < l.length) (p : Pol) :
    Own (M.set i (.cells ((l.flatMap polE.enc ++ junk).take (k * 13) ++ (p.enc ++ (l.flatMap polE.enc ++ junk).drop (k * 13 + 13))) v (some 13) true)) i v cap junk (l.set k p) := by
  obtain ⟨h1, h2, hB⟩ := h
  rw [flat_set hk]
  exact ⟨by rw [List.length_set]; exact h1, by rw [List.length_set]; exact h2, at_set hB⟩
theorem Own.reveal {M : Mem} {i v cap : Nat} {junk : List AV} {l : List Pol} (h : Own M i v cap junk l) {c : Nat} (hc : cap ≤ c) :
    Own (M.set i (.cells (l.flatMap polE.enc ++ junk ++ List.replicate ((c - cap) * 13) .u) v (some 13) true)) i v c (junk ++ List.replicate ((c - cap) * 13) .u) l := by
  obtain ⟨h1, h2, hB⟩ := h
  refine ⟨by omega, ?_, by rw [at_set hB, List.append_assoc]⟩
  rw [List.length_append, List.length_replicate, h2, ← Nat.add_mul]; congr 1; omega
end Go.Proofs.Ytcoljpgnjiakjaa

namespace Go.Proofs.Ytcoljpgnjiakjaa
open Go.RowKit
set_option linter.unusedSimpArgs false
set_option linter.unusedVariables false
set_option maxRecDepth 10000

def cloneS : Spec := fun args S => match args with
  | [.sn] => some (.sn, S)
  | [x] => match lstV polE S x with
    | some l => if l.length ≤ 900000 then some (retX true S l, retM true polE S l) else none
    | none => none
  | _ => none
theorem clone_ok : SpecOK Try.prog 18 cloneS := by
  intro args S x S' h
  simp only [cloneS] at h
  split at h
  · cases h
    refine fn_of_wp f18 rfl (W_sound none_ok mixed _ _ _ _ _ ?_)
    simp (maxSteps := 1000000) (disch := omega) only [c18, go_sem, Option.map_none, Option.map_some, ↓reduceIte, Nat.reduceBEq, Nat.reduceAdd, Nat.reduceSub, Nat.reduceEqDiff, Nat.reduceLeDiff, Nat.reduceMul, Nat.reduceLT, Int.reduceLT, Int.reduceLE, Int.reduceAdd, Int.reduceSub, Int.reduceMul, Int.reduceNeg, Int.reduceEq, Int.reduceNe, Int.reduceToNat, decide_true, decide_false, iaddr_i, iaddr_sl_i, not_true_eq_false, not_false_eq_true, reduceCtorEq, ne_eq, forall_const, false_imp_iff, true_imp_iff, implies_true, Int.cast_ofNat_Int, Int.natCast_zero, Int.natCast_one, Int.add_zero, Int.zero_add]
    exact wkv_same
  · rename_i y hy
    split at h
    · rename_i l hl
      split at h
      · rename_i hlim
        cases h
        have hs : ∀ L, srcV (S ++ L) 13 y = some (l.flatMap polE.enc, l.length) := fun L => src_lst (lstV_grow hl L)
        obtain ⟨X1, M1, hap1, hX1⟩ := (acc_lit (E := polE) (S := S) (M := S) ext_refl).apps (bytes := 80) polE_one l (by simp only [List.length_nil]; omega) (by simp only [List.length_nil]; omega)
        rw [List.nil_append] at hX1
        have hap1 : appV (S ++ [.cells [] 0 none true]) 13 80 (.sl S.length 0 0 0 0 true) (l.flatMap polE.enc) l.length = some (X1, M1) := hap1
        refine fn_of_wp f18 rfl (W_sound none_ok mixed _ _ _ _ _ ?_)
        rcases lstV_lst hl with ⟨rfl, rfl⟩ | ⟨rfl, rfl⟩ | ⟨i, o, v, len, cap, ex, rfl, h1, h3⟩
        · exact absurd rfl hy
        · simp (maxSteps := 1000000) (disch := omega) only [c18, hs, hap1, go_sem, Option.map_none, Option.map_some, ↓reduceIte, Nat.reduceBEq, Nat.reduceAdd, Nat.reduceSub, Nat.reduceEqDiff, Nat.reduceLeDiff, Nat.reduceMul, Nat.reduceLT, Int.reduceLT, Int.reduceLE, Int.reduceAdd, Int.reduceSub, Int.reduceMul, Int.reduceNeg, Int.reduceEq, Int.reduceNe, Int.reduceToNat, decide_true, decide_false, iaddr_i, iaddr_sl_i, not_true_eq_false, not_false_eq_true, reduceCtorEq, ne_eq, forall_const, false_imp_iff, true_imp_iff, implies_true, Int.cast_ofNat_Int, Int.natCast_zero, Int.natCast_one, Int.add_zero, Int.zero_add]
          exact (acc_lit (E := polE) ext_refl).ret polE_flat
        · simp (maxSteps := 1000000) (disch := omega) only [c18, hs, hap1, go_sem, Option.map_none, Option.map_some, ↓reduceIte, Nat.reduceBEq, Nat.reduceAdd, Nat.reduceSub, Nat.reduceEqDiff, Nat.reduceLeDiff, Nat.reduceMul, Nat.reduceLT, Int.reduceLT, Int.reduceLE, Int.reduceAdd, Int.reduceSub, Int.reduceMul, Int.reduceNeg, Int.reduceEq, Int.reduceNe, Int.reduceToNat, decide_true, decide_false, iaddr_i, iaddr_sl_i, not_true_eq_false, not_false_eq_true, reduceCtorEq, ne_eq, forall_const, false_imp_iff, true_imp_iff, implies_true, Int.cast_ofNat_Int, Int.natCast_zero, Int.natCast_one, Int.add_zero, Int.zero_add]
          exact hX1.ret polE_flat
      · cases h
    · cases h
  · cases h
def tch (l : List Pol) (ops : List Oq) : Bool := !l.isEmpty || ops.any fun o => decide (o.kind = 4)
/-- The list: in no block yet, or in a block of its own. -/
def Px (S M : Mem) (x0 : AV) (t : Bool) (x : AV) (l : List Pol) : Prop := S <+: M ∧ ((t = false ∧ l = [] ∧ x = x0 ∧ noX M x0 = true) ∨ (t = true ∧ ∃ i v cap ex junk, S.length ≤ i ∧ x = .sl i 0 v l.length cap ex ∧ Own M i v cap junk l))
def apI (S : Mem) (xo x0 : AV) (ops : List Oq) (l0 : List Pol) : Nat → Env → Mem → List Nat → Prop := fun j e M dl => dl = [] ∧ ∃ (k : Nat) (l : List Pol) (x : AV), j = ops.length - k ∧ k ≤ ops.length ∧ l = applyF l0 (ops.take k) ∧ Px S M x0 (tch l0 (ops.take k)) x l ∧
  e.get 13 = xo ∧ e.get 14 = .i .i64 ops.length ∧ e.get 15 = .i .i64 k ∧ e.get 5 = x
theorem apply_succ {l0 : List Pol} {ops : List Oq} {k : Nat} (hk : k < ops.length) : applyF l0 (ops.take (k + 1)) = stepQ (applyF l0 (ops.take k)) ops[k] := by
  unfold applyF
  rw [List.take_succ_eq_append_getElem hk, List.foldl_append]; rfl
theorem tch_succ {l0 : List Pol} {ops : List Oq} {k : Nat} (hk : k < ops.length) : tch l0 (ops.take (k + 1)) = (tch l0 (ops.take k) || decide (ops[k].kind = 4)) := by
  unfold tch
  rw [List.take_succ_eq_append_getElem hk, List.any_append, Bool.or_assoc]; simp
theorem oAp_ok : OK Try.prog (lamOf Try.prog) (orcOf [(18, cloneS), (19, bsS), (22, insS), (23, delS), (24, sstS)]) := orc_ok (by simpa using ⟨clone_ok, bs_ok, ins_ok, del_ok, sst_ok⟩)
theorem bs_eq {S : Mem} {x : AV} {l : List Pol} (hl : lstV polE S x = some l) (h1 : l.length ≤ 900000) (h2 : Ris l) (n : Int) : bsS [x, .i .i64 n, .f (.func 20) [] []] S = some (.tu [.i .i64 (bidx l n), .b (bfound l n)], S) := by
  simp only [bsS, hl]
  rw [if_pos ⟨rfl, h1, h2⟩]
section
variable {S M : Mem} {xo x0 : AV} {ops : List Oq} {l0 : List Pol} {k : Nat} {E : Env} {Q : Kont}
set_option maxHeartbeats 1000000 in
theorem round_none (hops : lstV oqE S xo = some ops) (hk : k < ops.length) (hlim : ops.length ≤ 400000) (hl : applyF l0 (ops.take k) = []) (ht : tch l0 (ops.take k) = false) (hSM : S <+: M) (hno : noX M x0 = true)
    (g13 : E.get 13 = xo) (g14 : E.get 14 = .i .i64 ops.length) (g15 : E.get 15 = .i .i64 k) (g5 : E.get 5 = x0) : WP Try.prog S false c11l0 E M [] (loopK (ops.length - k) (apI S xo x0 ops l0) Q) := by
  obtain ⟨bi, o, v, cap, ex, rfl⟩ := lst_sl hops hk
  have hro := lstV_row (lst_ext hops hSM) hk []
  rw [List.append_nil] at hro
  have hkI : (k : Int) < ops.length := by omega
  have hk6 : k < 1000000 := by omega
  have hs1 := apply_succ (l0 := l0) hk
  have hs2 := tch_succ (l0 := l0) hk
  rw [hl] at hs1
  rw [ht, Bool.false_or] at hs2
  have hro : rowB (M[bi]?) (o + k * 19) v 19 = some (ops[k]).enc := hro
  generalize ops[k] = q at hro hs1 hs2
  obtain ⟨kind, sub, m, n, ⟨ox, hox⟩, pol, ⟨oy, hoy⟩⟩ := q
  simp only [Oq.enc] at hro
  have hlst : lstV polE M x0 = some [] := by
    rcases noX_cases hno with rfl | ⟨i, rfl, hB⟩
    · rfl
    · refine lst_lstV (.inr (.inr ⟨_, _, _, _, _, _, rfl, rfl, ?_⟩))
      rw [rowAt_B, hB]; rfl
  have hno' : ∀ L, noX (M ++ L) x0 = true := fun L => by
    rcases noX_cases hno with rfl | ⟨i, rfl, hB⟩
    · rfl
    · have hB' := at_old (L := L) hB
      simp only [noX, hB']
  have hbs : ∀ L id, bsS [x0, .i .i64 id, .f (.func 20) [] []] (M ++ L) = some (.tu [.i .i64 0, .b false], M ++ L) := fun L id => by
    have := bs_eq (lstV_grow hlst L) (by simp) List.Pairwise.nil id
    rw [this]; rfl
  refine W_sound oAp_ok mixed _ _ _ _ _ ?_
  by_cases hk4 : kind = 4
  · subst hk4
    have hin := ins_new (hno' [.cells [.i .i64 4, .i .i64 sub, .i .i64 m, .i .u64 n, ox, .i .i64 pol.sub, .i .u8 pol.a, .i .u8 pol.b, .i .u8 pol.c, .i .u8 pol.d, .i .i64 pol.bits, .i .u64 pol.rate, .i .u64 pol.burst, .i .u64 pol.srate, .i .u64 pol.sburst, .i .u64 pol.quota, .i .u64 pol.lease, .i .u64 pol.quantum, oy] 0 none true, .cells pol.enc 0 none true]) pol (j := M.length + 1) (by simp)
    simp only [Pol.enc] at hin
    simp (maxSteps := 1000000) (disch := omega) only [c11l0, g13, g14, g15, g5, hkI, Int.toNat_natCast, hro, List.replicate, hox, hoy, orc_cons, hbs, hin, wrapS hk6, go_sem, Option.map_none, Option.map_some, ↓reduceIte, Nat.reduceBEq, Nat.reduceAdd, Nat.reduceSub, Nat.reduceEqDiff, Nat.reduceLeDiff, Nat.reduceMul, Nat.reduceLT, Int.reduceLT, Int.reduceLE, Int.reduceAdd, Int.reduceSub, Int.reduceMul, Int.reduceNeg, Int.reduceEq, Int.reduceNe, Int.reduceToNat, decide_true, decide_false, iaddr_i, iaddr_sl_i, not_true_eq_false, not_false_eq_true, reduceCtorEq, ne_eq, forall_const, false_imp_iff, true_imp_iff, implies_true, Int.cast_ofNat_Int, Int.natCast_zero, Int.natCast_one, Int.add_zero, Int.zero_add]
    exact ⟨ops.length - (k + 1), by omega, rfl, k + 1, [pol], _, rfl, hk, by rw [hs1]; rfl, ⟨ext_more hSM _, .inr ⟨by rw [hs2]; rfl, M.length + 2, 0, 1, false, [], by have := hSM.length_le; omega, rfl, Nat.le_refl _, rfl, by simp [polE, Pol.enc]⟩⟩, rfl, rfl, rfl, rfl⟩
  · by_cases hk5 : kind = 5
    · subst hk5
      simp (maxSteps := 1000000) (disch := omega) only [c11l0, g13, g14, g15, g5, hkI, Int.toNat_natCast, hro, List.replicate, hox, hoy, orc_cons, hbs, wrapS hk6, go_sem, Option.map_none, Option.map_some, ↓reduceIte, Nat.reduceBEq, Nat.reduceAdd, Nat.reduceSub, Nat.reduceEqDiff, Nat.reduceLeDiff, Nat.reduceMul, Nat.reduceLT, Int.reduceLT, Int.reduceLE, Int.reduceAdd, Int.reduceSub, Int.reduceMul, Int.reduceNeg, Int.reduceEq, Int.reduceNe, Int.reduceToNat, decide_true, decide_false, iaddr_i, iaddr_sl_i, not_true_eq_false, not_false_eq_true, reduceCtorEq, ne_eq, forall_const, false_imp_iff, true_imp_iff, implies_true, Int.cast_ofNat_Int, Int.natCast_zero, Int.natCast_one, Int.add_zero, Int.zero_add]
      exact ⟨ops.length - (k + 1), by omega, rfl, k + 1, [], _, rfl, hk, by rw [hs1]; rfl, ⟨ext_more hSM _, .inl ⟨by rw [hs2]; rfl, rfl, rfl, hno' _⟩⟩, rfl, rfl, rfl, rfl⟩
    · simp (maxSteps := 1000000) (disch := omega) only [c11l0, g13, g14, g15, g5, hkI, Int.toNat_natCast, hro, List.replicate, hox, hoy, orc_cons, hbs, wrapS hk6, hk4, hk5, go_sem, Option.map_none, Option.map_some, ↓reduceIte, Nat.reduceBEq, Nat.reduceAdd, Nat.reduceSub, Nat.reduceEqDiff, Nat.reduceLeDiff, Nat.reduceMul, Nat.reduceLT, Int.reduceLT, Int.reduceLE, Int.reduceAdd, Int.reduceSub, Int.reduceMul, Int.reduceNeg, Int.reduceEq, Int.reduceNe, Int.reduceToNat, decide_true, decide_false, iaddr_i, iaddr_sl_i, not_true_eq_false, not_false_eq_true, reduceCtorEq, ne_eq, forall_const, false_imp_iff, true_imp_iff, implies_true, Int.cast_ofNat_Int, Int.natCast_zero, Int.natCast_one, Int.add_zero, Int.zero_add]
      exact ⟨ops.length - (k + 1), by omega, rfl, k + 1, [], _, rfl, hk, by rw [hs1]; simp only [stepQ]; rw [if_neg hk4, if_neg hk5], ⟨ext_more hSM _, .inl ⟨by rw [hs2]; exact decide_eq_false hk4, rfl, rfl, hno' _⟩⟩, rfl, rfl, rfl, rfl⟩
theorem moved_ext {i i' : Nat} {M' : Mem} (hS : S <+: M) (hi : S.length ≤ i) (h : Moved M i i' M') : S <+: M' ∧ S.length ≤ i' := by
  rcases h with ⟨rfl, B, rfl⟩ | ⟨h1, h2⟩
  · exact ⟨ext_set hS hi B, hi⟩
  · exact ⟨hS.trans h2, Nat.le_trans hS.length_le h1⟩
set_option maxHeartbeats 2000000 in
theorem round_own {l : List Pol} {i v cap : Nat} {junk : List AV} (hops : lstV oqE S xo = some ops) (hk : k < ops.length) (hlim : ops.length ≤ 400000) (hl : applyF l0 (ops.take k) = l) (hr : Ris l) (hll : l.length ≤ 900000) (ht : tch l0 (ops.take k) = true) (hSM : S <+: M) (hi : S.length ≤ i) (hO : Own M i v cap junk l)
    (g13 : E.get 13 = xo) (g14 : E.get 14 = .i .i64 ops.length) (g15 : E.get 15 = .i .i64 k) (g5 : E.get 5 = .sl i 0 v l.length cap true) : WP Try.prog S false c11l0 E M [] (loopK (ops.length - k) (apI S xo x0 ops l0) Q) := by
  obtain ⟨bi, o, v2, cap2, ex2, rfl⟩ := lst_sl hops hk
  have hro := lstV_row (lst_ext hops hSM) hk []
  rw [List.append_nil] at hro
  have hkI : (k : Int) < ops.length := by omega
  have hk6 : k < 1000000 := by omega
  have hs1 := apply_succ (l0 := l0) hk
  have hs2 := tch_succ (l0 := l0) hk
  rw [hl] at hs1
  rw [ht, Bool.true_or] at hs2
  have hro : rowB (M[bi]?) (o + k * 19) v2 19 = some (ops[k]).enc := hro
  generalize ops[k] = q at hro hs1 hs2
  obtain ⟨kind, sub, m, n, ⟨ox, hox⟩, pol, ⟨oy, hoy⟩⟩ := q
  simp only [Oq.enc] at hro
  have hbs : ∀ L id, bsS [.sl i 0 v l.length cap true, .i .i64 id, .f (.func 20) [] []] (M ++ L) = some (.tu [.i .i64 (bidx l id), .b (bfound l id)], M ++ L) := fun L id => bs_eq (hO.grow L).lst hll hr id
  refine W_sound oAp_ok mixed _ _ _ _ _ ?_
  obtain ⟨box, hbox⟩ : ∃ box : Blk, box = .cells [.i .i64 kind, .i .i64 sub, .i .i64 m, .i .u64 n, ox, .i .i64 pol.sub, .i .u8 pol.a, .i .u8 pol.b, .i .u8 pol.c, .i .u8 pol.d, .i .i64 pol.bits, .i .u64 pol.rate, .i .u64 pol.burst, .i .u64 pol.srate, .i .u64 pol.sburst, .i .u64 pol.quota, .i .u64 pol.lease, .i .u64 pol.quantum, oy] 0 none true := ⟨_, rfl⟩
  by_cases hk4 : kind = 4
  · subst hk4
    have hs1 : applyF l0 (ops.take (k + 1)) = putF pol l := hs1
    have hbs4 := fun L => hbs L pol.sub
    cases hf : bfound l pol.sub with
    | true =>
      have hbi := bidx_lt hr hf
      have hput := put_found hr hf
      rw [hput.symm] at hs1
      generalize bidx l pol.sub = ix at hbs4 hbi hs1
      rw [hf] at hbs4
      have hO1 := (hO.grow [box]).store hbi pol
      have hOl := hO.len
      have hB := (hO.grow [box]).2.2
      have hcs : ix * 13 + 13 ≤ (l.flatMap polE.enc ++ junk).length := by rw [hOl]; have := hO.1; omega
      rw [hbox] at hB hO1
      generalize l.flatMap polE.enc ++ junk = cs at hO1 hOl hB hcs
      have hixI : (ix : Int) < l.length := by omega
      simp only [Pol.enc] at hO1
      simp (maxSteps := 1000000) (disch := omega) only [c11l0, g13, g14, g15, g5, hkI, Int.toNat_natCast, hro, List.replicate, hox, hoy, orc_cons, hbs4, hixI, wrapS hk6, go_sem, Option.map_none, Option.map_some, ↓reduceIte, Nat.reduceBEq, Nat.reduceAdd, Nat.reduceSub, Nat.reduceEqDiff, Nat.reduceLeDiff, Nat.reduceMul, Nat.reduceLT, Int.reduceLT, Int.reduceLE, Int.reduceAdd, Int.reduceSub, Int.reduceMul, Int.reduceNeg, Int.reduceEq, Int.reduceNe, Int.reduceToNat, decide_true, decide_false, iaddr_i, iaddr_sl_i, not_true_eq_false, not_false_eq_true, reduceCtorEq, ne_eq, forall_const, false_imp_iff, true_imp_iff, implies_true, Int.cast_ofNat_Int, Int.natCast_zero, Int.natCast_one, Int.add_zero, Int.zero_add]
      rw [hB]
      simp only [stB]
      rw [if_pos ⟨trivial, rfl, hcs, rfl⟩]
      unfold splice
      simp only [List.length_cons, List.length_nil, Nat.zero_add]
      simp (maxSteps := 1000000) (disch := omega) only [go_sem, Option.map_none, Option.map_some, ↓reduceIte, Nat.reduceBEq, Nat.reduceAdd, Nat.reduceSub, Nat.reduceEqDiff, Nat.reduceLeDiff, Nat.reduceMul, Nat.reduceLT, Int.reduceLT, Int.reduceLE, Int.reduceAdd, Int.reduceSub, Int.reduceMul, Int.reduceNeg, Int.reduceEq, Int.reduceNe, Int.reduceToNat, decide_true, decide_false, iaddr_i, iaddr_sl_i, not_true_eq_false, not_false_eq_true, reduceCtorEq, ne_eq, forall_const, false_imp_iff, true_imp_iff, implies_true, Int.cast_ofNat_Int, Int.natCast_zero, Int.natCast_one, Int.add_zero, Int.zero_add]
      refine ⟨ops.length - (k + 1), by omega, rfl, k + 1, _, _, rfl, hk, hs1.symm, ⟨?_, .inr ⟨by rw [hs2], i, v, cap, true, junk, hi, rfl, ?_⟩⟩, rfl, rfl, rfl, ?_⟩
      · exact ext_set (ext_more hSM _) hi _
      · exact hO1
      · rw [List.length_set]; rfl
    | false =>
      have hput := put_not hr hf
      rw [hput.symm] at hs1
      have hbi := bidx_le (l := l) (n := pol.sub)
      generalize bidx l pol.sub = ix at hbs4 hbi hs1
      rw [hf] at hbs4
      obtain ⟨M', i', v', cap', ex', junk', hin, hO', hmv⟩ := (hO.grow [box, .cells pol.enc 0 none true]).ins hbi hll pol (j := M.length + 1) (by simp)
      obtain ⟨hSM', hi'⟩ := moved_ext (ext_more hSM _) hi hmv
      rw [hbox] at hin
      simp only [Pol.enc] at hin
      generalize l.take ix ++ pol :: l.drop ix = l2 at hin hO' hs1
      simp (maxSteps := 1000000) (disch := omega) only [c11l0, g13, g14, g15, g5, hkI, Int.toNat_natCast, hro, List.replicate, hox, hoy, orc_cons, hbs4, hin, wrapS hk6, go_sem, Option.map_none, Option.map_some, ↓reduceIte, Nat.reduceBEq, Nat.reduceAdd, Nat.reduceSub, Nat.reduceEqDiff, Nat.reduceLeDiff, Nat.reduceMul, Nat.reduceLT, Int.reduceLT, Int.reduceLE, Int.reduceAdd, Int.reduceSub, Int.reduceMul, Int.reduceNeg, Int.reduceEq, Int.reduceNe, Int.reduceToNat, decide_true, decide_false, iaddr_i, iaddr_sl_i, not_true_eq_false, not_false_eq_true, reduceCtorEq, ne_eq, forall_const, false_imp_iff, true_imp_iff, implies_true, Int.cast_ofNat_Int, Int.natCast_zero, Int.natCast_one, Int.add_zero, Int.zero_add]
      exact ⟨ops.length - (k + 1), by omega, rfl, k + 1, _, _, rfl, hk, hs1.symm, ⟨hSM', .inr ⟨by rw [hs2], i', v', cap', ex', junk', hi', rfl, hO'⟩⟩, rfl, rfl, rfl, rfl⟩
  · by_cases hk5 : kind = 5
    · subst hk5
      have hs1 : applyF l0 (ops.take (k + 1)) = dropF sub l := hs1
      have hbs4 := fun L => hbs L sub
      cases hf : bfound l sub with
      | true =>
        have hbi := bidx_lt hr hf
        have hput := drop_found hr hf
        rw [hput.symm] at hs1
        generalize bidx l sub = ix at hbs4 hbi hs1
        rw [hf] at hbs4
        obtain ⟨M', junk', hde, hO', B, hM'⟩ := (hO.grow [box]).del hbi hll
        have hSM' : S <+: M' := by rw [hM']; exact ext_set (ext_more hSM _) hi B
        have hwx : wrapV .i64 ((ix : Int) + 1) = (ix : Int) + 1 := by rw [wrap_i64 (by omega) (by omega)]
        rw [hbox] at hde
        simp (maxSteps := 1000000) (disch := omega) only [c11l0, g13, g14, g15, g5, hkI, Int.toNat_natCast, hro, List.replicate, hox, hoy, orc_cons, hbs4, hwx, hde, wrapS hk6, go_sem, Option.map_none, Option.map_some, ↓reduceIte, Nat.reduceBEq, Nat.reduceAdd, Nat.reduceSub, Nat.reduceEqDiff, Nat.reduceLeDiff, Nat.reduceMul, Nat.reduceLT, Int.reduceLT, Int.reduceLE, Int.reduceAdd, Int.reduceSub, Int.reduceMul, Int.reduceNeg, Int.reduceEq, Int.reduceNe, Int.reduceToNat, decide_true, decide_false, iaddr_i, iaddr_sl_i, not_true_eq_false, not_false_eq_true, reduceCtorEq, ne_eq, forall_const, false_imp_iff, true_imp_iff, implies_true, Int.cast_ofNat_Int, Int.natCast_zero, Int.natCast_one, Int.add_zero, Int.zero_add]
        exact ⟨ops.length - (k + 1), by omega, rfl, k + 1, _, _, rfl, hk, hs1.symm, ⟨hSM', .inr ⟨by rw [hs2], i, v, cap, true, junk', hi, rfl, hO'⟩⟩, rfl, rfl, rfl, rfl⟩
      | false =>
        rw [drop_not hf] at hs1
        rw [hf] at hbs4
        simp (maxSteps := 1000000) (disch := omega) only [c11l0, g13, g14, g15, g5, hkI, Int.toNat_natCast, hro, List.replicate, hox, hoy, orc_cons, hbs4, wrapS hk6, go_sem, Option.map_none, Option.map_some, ↓reduceIte, Nat.reduceBEq, Nat.reduceAdd, Nat.reduceSub, Nat.reduceEqDiff, Nat.reduceLeDiff, Nat.reduceMul, Nat.reduceLT, Int.reduceLT, Int.reduceLE, Int.reduceAdd, Int.reduceSub, Int.reduceMul, Int.reduceNeg, Int.reduceEq, Int.reduceNe, Int.reduceToNat, decide_true, decide_false, iaddr_i, iaddr_sl_i, not_true_eq_false, not_false_eq_true, reduceCtorEq, ne_eq, forall_const, false_imp_iff, true_imp_iff, implies_true, Int.cast_ofNat_Int, Int.natCast_zero, Int.natCast_one, Int.add_zero, Int.zero_add]
        exact ⟨ops.length - (k + 1), by omega, rfl, k + 1, _, _, rfl, hk, hs1.symm, ⟨ext_more hSM _, .inr ⟨by rw [hs2], i, v, cap, true, junk, hi, rfl, hO.grow _⟩⟩, rfl, rfl, rfl, rfl⟩
    · have hs1 : applyF l0 (ops.take (k + 1)) = l := by rw [hs1]; simp only [stepQ]; rw [if_neg hk4, if_neg hk5]
      simp (maxSteps := 1000000) (disch := omega) only [c11l0, g13, g14, g15, g5, hkI, Int.toNat_natCast, hro, List.replicate, hox, hoy, orc_cons, hbs, wrapS hk6, hk4, hk5, go_sem, Option.map_none, Option.map_some, ↓reduceIte, Nat.reduceBEq, Nat.reduceAdd, Nat.reduceSub, Nat.reduceEqDiff, Nat.reduceLeDiff, Nat.reduceMul, Nat.reduceLT, Int.reduceLT, Int.reduceLE, Int.reduceAdd, Int.reduceSub, Int.reduceMul, Int.reduceNeg, Int.reduceEq, Int.reduceNe, Int.reduceToNat, decide_true, decide_false, iaddr_i, iaddr_sl_i, not_true_eq_false, not_false_eq_true, reduceCtorEq, ne_eq, forall_const, false_imp_iff, true_imp_iff, implies_true, Int.cast_ofNat_Int, Int.natCast_zero, Int.natCast_one, Int.add_zero, Int.zero_add]
      exact ⟨ops.length - (k + 1), by omega, rfl, k + 1, _, _, rfl, hk, hs1.symm, ⟨ext_more hSM _, .inr ⟨by rw [hs2], i, v, cap, true, junk, hi, rfl, hO.grow _⟩⟩, rfl, rfl, rfl, rfl⟩
end
end Go.Proofs.Ytcoljpgnjiakjaa

namespace Go.Proofs.Ytcoljpgnjiakjaa
open Go.RowKit
set_option linter.unusedSimpArgs false
set_option linter.unusedVariables false
set_option maxRecDepth 10000

theorem ris_apply {l : List Pol} (h : Ris l) : ∀ ops : List Oq, Ris (applyF l ops) := by
  intro ops
  unfold applyF
  induction ops generalizing l with
  | nil => exact h
  | cons o ops ih => exact ih (ris_step h)
theorem apply_len (l : List Pol) : ∀ ops : List Oq, (applyF l ops).length ≤ l.length + ops.length := by
  intro ops
  unfold applyF
  induction ops generalizing l with
  | nil => simp
  | cons o ops ih =>
    have h1 := ih (stepQ l o)
    have h2 := step_len (o := o) (l := l)
    simp only [List.foldl_cons, List.length_cons]; omega
def isSl : AV → Bool
  | .sn => false
  | _ => true
def apX (z t : Bool) (S : Mem) (l : List Pol) : AV := if l = [] ∧ t = true then .se else retX z S l
def apM (z t : Bool) (S : Mem) (l : List Pol) : Mem := if l = [] ∧ t = true then S else retM z polE S l
theorem apM_ext {z t : Bool} {S : Mem} {l : List Pol} : S <+: apM z t S l := by
  unfold apM
  split
  · exact ext_refl
  · exact retM_ext
theorem apX_lst {z t : Bool} {S : Mem} {l : List Pol} : lstV polE (apM z t S l) (apX z t S l) = some l := by
  unfold apM apX
  split
  · rename_i h; rw [h.1]; rfl
  · exact retX_lst
noncomputable def applyS : Spec := fun args S => match args with
  | [x, xo] => match lstV polE S x, lstV oqE S xo with
    | some l, some ops => open Classical in if l.length ≤ 400000 ∧ ops.length ≤ 400000 ∧ Ris l then some (apX (isSl x) (tch l ops) S (applyF l ops), apM (isSl x) (tch l ops) S (applyF l ops)) else none
    | _, _ => none
  | _ => none
theorem apply_eq {S : Mem} {x xo : AV} {l : List Pol} {ops : List Oq} (hl : lstV polE S x = some l) (ho : lstV oqE S xo = some ops) (h1 : l.length ≤ 400000) (h2 : ops.length ≤ 400000) (h3 : Ris l) :
    applyS [x, xo] S = some (apX (isSl x) (tch l ops) S (applyF l ops), apM (isSl x) (tch l ops) S (applyF l ops)) := by
  simp only [applyS, hl, ho]
  rw [if_pos ⟨h1, h2, h3⟩]
theorem px_end {S M : Mem} {x0 x : AV} {z t : Bool} {l : List Pol} (h : Px S M x0 t x l) (hz : (z = false ∧ x0 = .sn) ∨ (z = true ∧ (t = false → x0 = .sl S.length 0 0 0 0 true))) : WkV S (apX z t S l) (apM z t S l) x M := by
  obtain ⟨hSM, ⟨rfl, rfl, rfl, hno⟩ | ⟨rfl, i, v, cap, ex, junk, hi, rfl, hO⟩⟩ := h
  · have e1 : apX z false S [] = retX z S ([] : List Pol) := by unfold apX; rw [if_neg (by simp)]
    have e2 : apM z false S [] = retM z polE S ([] : List Pol) := by unfold apM; rw [if_neg (by simp)]
    rw [e1, e2]
    rcases hz with ⟨rfl, rfl⟩ | ⟨rfl, hx⟩
    · exact wkv_dropP hSM rfl
    · have hx := hx rfl
      subst hx
      refine Acc.ret polE_flat ?_
      rcases noX_cases hno with h | ⟨i, h, hB⟩
      · cases h
      · cases h
        obtain ⟨T, rfl⟩ := hSM
        exact ⟨T, rfl, .inr (.inl ⟨rfl, rfl, 0, rfl, by rw [List.getElem?_append_right (Nat.le_refl _), Nat.sub_self] at hB; exact hB⟩)⟩
  · by_cases hl : l = []
    · subst hl
      have e1 : apX z true S [] = .se := by unfold apX; rw [if_pos ⟨rfl, rfl⟩]
      have e2 : apM z true S [] = S := by unfold apM; rw [if_pos ⟨rfl, rfl⟩]
      rw [e1, e2]
      exact wkv_se1 (wkv_dropP hSM rfl)
    · have e1 : apX z true S l = retX z S l := by unfold apX; rw [if_neg (fun q => hl q.1)]
      have e2 : apM z true S l = retM z polE S l := by unfold apM; rw [if_neg (fun q => hl q.1)]
      rw [e1, e2]
      refine wkv_own (E := polE) polE_flat hSM hi hO.2.2 hl ?_
      have := hO.len
      rw [List.length_append, flat13] at this
      show cap * 13 ≤ l.length * 13 + junk.length
      omega
theorem apply_ok : SpecOK Try.prog 11 applyS := by
  intro args S x S' h
  simp only [applyS] at h
  split at h
  · rename_i s xo
    split at h
    · rename_i l ops hl ho
      split at h
      · rename_i hc
        obtain ⟨h1, h2, h3⟩ := hc
        cases h
        have hclone : ∃ x1 M1, cloneS [s] S = some (x1, M1) ∧ Px S M1 x1 (tch l []) x1 l ∧ ((isSl s = false ∧ x1 = .sn) ∨ (isSl s = true ∧ (tch l [] = false → x1 = .sl S.length 0 0 0 0 true))) := by
          by_cases hs : s = .sn
          · subst hs
            injection hl with hl; subst hl
            exact ⟨_, _, rfl, ⟨ext_refl, .inl ⟨rfl, rfl, rfl, rfl⟩⟩, .inl ⟨rfl, rfl⟩⟩
          · have hss : isSl s = true := by cases s <;> first | rfl | exact absurd rfl hs
            refine ⟨retX true S l, retM true polE S l, ?_, ?_, .inr ⟨hss, ?_⟩⟩
            · have : cloneS [s] S = (match lstV polE S s with
                | some l => if l.length ≤ 900000 then some (retX true S l, retM true polE S l) else none
                | none => none) := by cases s <;> first | rfl | exact absurd rfl hs
              rw [this, hl]
              simp only []
              rw [if_pos (by omega)]
            · refine ⟨retM_ext, ?_⟩
              cases l with
              | nil =>
                refine .inl ⟨rfl, rfl, rfl, ?_⟩
                have : (S ++ [Blk.cells [] 0 none true])[S.length]? = some (.cells [] 0 none true) := by simp
                show noX (S ++ [Blk.cells [] 0 none true]) (.sl S.length 0 0 0 0 true) = true
                simp only [noX, this]
              | cons a l => exact .inr ⟨rfl, S.length, 0, (a :: l).length, false, [], Nat.le_refl _, rfl, Nat.le_refl _, by simp, by simp [retM, polE]⟩
            · intro ht
              cases l with
              | nil => rfl
              | cons a l => cases ht
        obtain ⟨x1, M1, hcl, hP1, hz⟩ := hclone
        refine fn_of_wp f11 rfl (W_sound oAp_ok mixed _ _ _ _ _ ?_)
        simp (maxSteps := 1000000) (disch := omega) only [c11, orc_cons, hcl, lst_len ho, go_sem, Option.map_none, Option.map_some, ↓reduceIte, Nat.reduceBEq, Nat.reduceAdd, Nat.reduceSub, Nat.reduceEqDiff, Nat.reduceLeDiff, Nat.reduceMul, Nat.reduceLT, Int.reduceLT, Int.reduceLE, Int.reduceAdd, Int.reduceSub, Int.reduceMul, Int.reduceNeg, Int.reduceEq, Int.reduceNe, Int.reduceToNat, decide_true, decide_false, iaddr_i, iaddr_sl_i, not_true_eq_false, not_false_eq_true, reduceCtorEq, ne_eq, forall_const, false_imp_iff, true_imp_iff, implies_true, Int.cast_ofNat_Int, Int.natCast_zero, Int.natCast_one, Int.add_zero, Int.zero_add]
        refine wp_loop (apI S xo x1 ops l) (j := ops.length) ⟨rfl, 0, l, x1, rfl, Nat.zero_le _, rfl, hP1, rfl, rfl, rfl, rfl⟩ ?_
        rintro j e M d' ⟨rfl, k, l2, x, rfl, hk, hl2, hP, e13, e14, e15, e5⟩
        have hr2 : Ris l2 := by rw [hl2]; exact ris_apply h3 _
        have hlen2 : l2.length ≤ 800000 := by
          rw [hl2]
          have := apply_len l (ops.take k)
          rw [List.length_take] at this; omega
        by_cases hkn : k < ops.length
        · have k13 : (keepE e [5, 13, 14, 15]).get 13 = xo := by rw [get_keepE, if_pos (by decide), e13]
          have k14 : (keepE e [5, 13, 14, 15]).get 14 = .i .i64 ops.length := by rw [get_keepE, if_pos (by decide), e14]
          have k15 : (keepE e [5, 13, 14, 15]).get 15 = .i .i64 k := by rw [get_keepE, if_pos (by decide), e15]
          have k5 : (keepE e [5, 13, 14, 15]).get 5 = x := by rw [get_keepE, if_pos (by decide), e5]
          obtain ⟨hSM, ⟨ht, rfl, rfl, hno⟩ | ⟨ht, i, v, cap, ex, junk, hi, rfl, hO⟩⟩ := hP
          · exact round_none ho hkn h2 hl2.symm ht hSM hno k13 k14 k15 k5
          · cases ex with
            | true => exact round_own ho hkn h2 hl2.symm hr2 (by omega) ht hSM hi hO k13 k14 k15 k5
            | false =>
              refine WP.reveal k5 hO.2.2 hO.len fun c hc => ?_
              refine round_own ho hkn h2 hl2.symm hr2 (by omega) ht (ext_set hSM hi _) hi (hO.reveal hc) ?_ ?_ ?_ ?_
              · rw [get_put_ne _ _ (by decide)]; exact k13
              · rw [get_put_ne _ _ (by decide)]; exact k14
              · rw [get_put_ne _ _ (by decide)]; exact k15
              · exact get_put_same _ _ _
        · obtain rfl : k = ops.length := by omega
          rw [List.take_length] at hl2 hP
          subst hl2
          have hkI : ¬ ((ops.length : Int) < ops.length) := by omega
          have hlst : lstV polE M x = some (applyF l ops) := by
            obtain ⟨hSM, ⟨ht, h0, rfl, hno⟩ | ⟨ht, i, v, cap, ex, junk, hi, rfl, hO⟩⟩ := hP
            · rw [h0]
              rcases noX_cases hno with rfl | ⟨i, rfl, hB⟩
              · rfl
              · refine lst_lstV (.inr (.inr ⟨_, _, _, _, _, _, rfl, rfl, ?_⟩))
                rw [rowAt_B, hB]; rfl
            · exact hO.lst
          have hss : sstS [x, .f (.func 25) [] []] M = some (.tu [], M) := by
            simp only [sstS, hlst]
            rw [if_pos ⟨rfl, by omega, hr2⟩]
          have hend : WkV S (apX (isSl s) (tch l ops) S (applyF l ops)) (apM (isSl s) (tch l ops) S (applyF l ops)) x M := by
            refine px_end hP ?_
            rcases hz with hz | ⟨hz1, hz2⟩
            · exact .inl hz
            · refine .inr ⟨hz1, fun ht => hz2 ?_⟩
              unfold tch at ht ⊢
              rw [Bool.or_eq_false_iff] at ht ⊢
              exact ⟨ht.1, rfl⟩
          refine W_sound oAp_ok mixed _ _ _ _ _ ?_
          simp (maxSteps := 1000000) (disch := omega) only [c11l0, e13, e14, e15, e5, hkI, orc_cons, hss, go_sem, Option.map_none, Option.map_some, ↓reduceIte, Nat.reduceBEq, Nat.reduceAdd, Nat.reduceSub, Nat.reduceEqDiff, Nat.reduceLeDiff, Nat.reduceMul, Nat.reduceLT, Int.reduceLT, Int.reduceLE, Int.reduceAdd, Int.reduceSub, Int.reduceMul, Int.reduceNeg, Int.reduceEq, Int.reduceNe, Int.reduceToNat, decide_true, decide_false, iaddr_i, iaddr_sl_i, not_true_eq_false, not_false_eq_true, reduceCtorEq, ne_eq, forall_const, false_imp_iff, true_imp_iff, implies_true, Int.cast_ofNat_Int, Int.natCast_zero, Int.natCast_one, Int.add_zero, Int.zero_add]
          exact hend
      · cases h
    · cases h
  · cases h
end Go.Proofs.Ytcoljpgnjiakjaa

namespace Go.Proofs.Ytcoljpgnjiakjaa
open Go.RowKit
set_option linter.unusedSimpArgs false
set_option linter.unusedVariables false
set_option maxRecDepth 10000

/-- The list that is built: the empty literal, or a block of its own. -/
def Lp (i : Nat) (M1 M : Mem) (y : AV) (l : List Pol) : Prop := (l = [] ∧ y = .sl i 0 0 0 0 true ∧ M1 <+: M) ∨ Acc true polE M1 M y l
section
variable {i : Nat} {M1 M : Mem} {y : AV} {l : List Pol}
theorem Lp.ext (h : Lp i M1 M y l) : M1 <+: M := by
  rcases h with ⟨_, _, h⟩ | h
  · exact h
  · exact h.ext
theorem Lp.grow (h : Lp i M1 M y l) (U : Mem) : Lp i M1 (M ++ U) y l := by
  rcases h with ⟨h1, h2, h⟩ | h
  · exact .inl ⟨h1, h2, ext_more h U⟩
  · exact .inr (h.grow U)
theorem Lp.acc {S : Mem} (hS : S ++ [.cells [] 0 none true] <+: M1) (h : Lp S.length M1 M y l) : Acc true polE S M y l := by
  rcases h with ⟨rfl, rfl, h⟩ | h
  · exact (acc_lit ext_refl).extM (hS.trans h)
  · exact h.base ((ext_app _).trans hS)
theorem Lp.app (hi : M1[i]? = some (.cells [] 0 none true)) (h : Lp i M1 M y l) (a : Pol) (hn : l.length ≤ 1000000) : ∃ y' M', appV M 13 80 y (polE.enc a) 1 = some (y', M') ∧ Lp i M1 M' y' (l ++ [a]) := by
  rcases h with ⟨rfl, rfl, h⟩ | h
  · have hc : rowAt M i 0 0 (0 * 13) = some [] := by rw [rowAt_B, at_pre h hi]; rfl
    obtain ⟨T, rfl⟩ := h
    refine ⟨.sl (M1 ++ T).length 0 0 1 1 false, (M1 ++ T) ++ [.cells (polE.enc a) 0 (some 13) true], ?_, .inr ⟨T ++ [.cells (polE.enc a) 0 (some 13) true], by rw [List.append_assoc], .inr (.inr ⟨by simp, T.length, 0, by rw [List.length_append]; rfl, ?_⟩)⟩⟩
    · simp only [appV, hc]
      rw [if_neg (by omega), if_neg (by omega), if_pos ⟨by decide, by decide⟩, if_pos trivial]
      rfl
    · rw [List.getElem?_append_right (by omega), Nat.sub_self]
      show some (Blk.cells (polE.enc a) 0 (some 13) true) = some (.cells ([a].flatMap polE.enc) 0 (some 13) true)
      simp
  · obtain ⟨y', M', h1, h2⟩ := h.app (bytes := 80) polE_one a (by omega) (by omega)
    exact ⟨y', M', h1, .inr h2⟩
end
end Go.Proofs.Ytcoljpgnjiakjaa

namespace Go.Proofs.Ytcoljpgnjiakjaa
open Go.RowKit
set_option linter.unusedSimpArgs false
set_option linter.unusedVariables false
set_option maxRecDepth 10000

end Go.Proofs.Ytcoljpgnjiakjaa

namespace Go.Proofs.Ytcoljpgnjiakjaa
open Go.RowKit
set_option linter.unusedSimpArgs false
set_option linter.unusedVariables false
set_option maxRecDepth 100000

theorem alive_run : isTrue ((evAll tab 100000 100).fn 8 [] []) = true := by kernel_rfl
def aliveS : Spec := fun args S => match args with
  | [] => some (.b true, S)
  | _ => none
theorem alive_ok : SpecOK Try.prog 8 aliveS := by
  intro args S x S' h
  unfold aliveS at h
  split at h
  · cases h
    exact fnOK_of_below (by kernel_rfl) (fun w => calls_of_ev mixed tab_ok alive_run w) S
  · cases h

end Go.Proofs.Ytcoljpgnjiakjaa

namespace Go.Proofs.Ytcoljpgnjiakjaa
open Go.RowKit
set_option linter.unusedVariables false
set_option maxRecDepth 100000

section
variable {H : Type} {enc : TypeId × Value → H} {W : World}
abbrev polSh : List CS := [.int .i64, .int .u8, .int .u8, .int .u8, .int .u8, .int .i64, .int .u64, .int .u64, .int .u64, .int .u64, .int .u64, .int .u64, .int .u64]
theorem rowPol {cs : List Value} (h : RowIs enc Try.prog W polSh cs) : ∃ a : Pol, cs.map (absV W) = a.enc := by
  obtain ⟨h1, h2⟩ := h
  match cs, h1 with
  | [x0, x1, x2, x3, x4, x5, x6, x7, x8, x9, x10, x11, x12], _ =>
    obtain ⟨a0, rfl, w0⟩ := h2 0 (by simp) (by simp)
    obtain ⟨a1, rfl, w1⟩ := h2 1 (by simp) (by simp)
    obtain ⟨a2, rfl, w2⟩ := h2 2 (by simp) (by simp)
    obtain ⟨a3, rfl, w3⟩ := h2 3 (by simp) (by simp)
    obtain ⟨a4, rfl, w4⟩ := h2 4 (by simp) (by simp)
    obtain ⟨a5, rfl, w5⟩ := h2 5 (by simp) (by simp)
    obtain ⟨a6, rfl, w6⟩ := h2 6 (by simp) (by simp)
    obtain ⟨a7, rfl, w7⟩ := h2 7 (by simp) (by simp)
    obtain ⟨a8, rfl, w8⟩ := h2 8 (by simp) (by simp)
    obtain ⟨a9, rfl, w9⟩ := h2 9 (by simp) (by simp)
    obtain ⟨a10, rfl, w10⟩ := h2 10 (by simp) (by simp)
    obtain ⟨a11, rfl, w11⟩ := h2 11 (by simp) (by simp)
    obtain ⟨a12, rfl, w12⟩ := h2 12 (by simp) (by simp)
    exact ⟨⟨a0, a1, a2, a3, a4, a5, a6, a7, a8, a9, a10, a11, a12⟩, rfl⟩
theorem cellPols {v : Value} (h : CellIs enc Try.prog W (.slice 28) v) : ∃ l : List Pol, lstV polE (absS W) (absV W v) = some l := by
  have s2 : shapes Try.prog 20 28 = some polSh := by kernel_rfl
  have c2 : Try.prog.cellsOf 28 = 13 := by kernel_rfl
  obtain ⟨l, hl, _⟩ := lst_of (e := Pol.enc) (sz := 13) c2 (by omega) h (fun cs fuel x ht => let ⟨a, h1⟩ := rowPol (shapes_ok 20 fuel 28 cs x _ ht s2); ⟨a, h1, rfl⟩)
    (good := fun _ => True) (fun cs fuel x a ht he => trivial)
  exact ⟨l, lst_lstV (E := polE) hl⟩
theorem argPols {v : Value} {base : Nat} {d : DataW H} {ps : List MemPlace} (o : Value.okWide Try.prog W .any base 29 v) (h : DataW.Trod enc Try.prog W 0 (fun _ => true) true 29 v d ps) :
    ∃ l, lstV polE (absS W) (absA W v) = some l := by
  have s0 : shapes Try.prog 20 29 = some [.slice 28] := by kernel_rfl
  have hv : v.cells.toList = [v] ∧ absA W v = absV W v := by
    cases v with
    | agg cs =>
      unfold Value.okWide at o
      rw [Try.underlying29] at o
      unfold Cell.okWide at o
      rw [Try.underlying29] at o
      unfold Cell.ok at o
      rw [Try.underlying29] at o
      simp at o
    | _ => exact ⟨rfl, rfl⟩
  obtain ⟨h1, h2⟩ := arg_row h s0
  rw [hv.1] at h1 h2
  have hc := h2 0 (by simp) (by simp)
  simp only [List.getElem_cons_zero] at hc
  rw [hv.2]
  exact cellPols hc
end
end Go.Proofs.Ytcoljpgnjiakjaa

namespace Go.Proofs.Ytcoljpgnjiakjaa
open Go.RowKit
set_option linter.unusedSimpArgs false
set_option linter.unusedVariables false
set_option maxRecDepth 100000

theorem great_no {a b : List Pol} (h : greatF a b = false) : a.length ≤ 30 ∧ b.length ≤ 30 ∧ risF 0 a = true ∧ risF 0 b = true := by
  simpa [greatF, Nat.not_lt, and_assoc] using h
theorem cost_eq {S : Mem} {x y : AV} {a b : List Pol} (ha : lstV polE S x = some a) (hb : lstV polE S y = some b) (h1 : a.length ≤ 400000) (h2 : b.length ≤ 400000) : costS [x, y] S = some (.i .i64 (costF a b), S) := by
  simp only [costS, ha, hb]; rw [if_pos ⟨h1, h2⟩]
theorem great_eq {S : Mem} {x y : AV} {a b : List Pol} (ha : lstV polE S x = some a) (hb : lstV polE S y = some b) : greatS [x, y] S = some (.b (greatF a b), S) := by
  simp only [greatS, ha, hb]
theorem sameP_eq {S : Mem} {x y : AV} {a b : List Pol} (ha : lstV polE S x = some a) (hb : lstV polE S y = some b) (h1 : a.length ≤ 900000) : samePS [x, y] S = some (.b (decide (a = b)), S) := by
  simp only [samePS, ha, hb]; rw [if_pos h1]
section
variable {H : Type} {enc : TypeId × Value → H}
end
end Go.Proofs.Ytcoljpgnjiakjaa

namespace Go.Proofs.Ytcoljpgnjiakjaa
open Go.RowKit
set_option linter.unusedSimpArgs false
set_option linter.unusedVariables false
set_option maxRecDepth 100000

theorem ops_eq {S : Mem} {x y : AV} {a b : List Pol} (ha : lstV polE S x = some a) (hb : lstV polE S y = some b) (h1 : a.length ≤ 400000) (h2 : b.length ≤ 400000) : opsS [x, y] S = some (retX false S (opsL a b), retM false opE S (opsL a b)) := by
  simp only [opsS, ha, hb]; rw [if_pos ⟨h1, h2⟩]
theorem opsL_len (a b : List Pol) : max 0 (((opsL a b).length : Int) - 2) = costF a b := by
  unfold opsL wrapL costF
  by_cases h : chg a b = []
  · rw [h]; simp; try omega
  · rw [if_neg (by simpa using h)]
    simp only [List.cons_append, List.length_cons, List.length_append, List.length_map, List.length_nil]
    omega
theorem opsL_le (a b : List Pol) : (opsL a b).length ≤ a.length + b.length + 2 := by
  have := chg_len a b
  unfold opsL wrapL
  split
  · simp
  · simp only [List.cons_append, List.length_cons, List.length_append, List.length_map, List.length_nil]; omega
section
variable {H : Type} {enc : TypeId × Value → H}
end
end Go.Proofs.Ytcoljpgnjiakjaa

namespace Go.Proofs.Ytcoljpgnjiakjaa
open Go.RowKit
set_option linter.unusedSimpArgs false
set_option linter.unusedVariables false
set_option maxRecDepth 10000

theorem pfind_cons {p : Pol} {l : List Pol} {id : Int} : pfind (p :: l) id = if p.sub = id then some p else pfind l id := by
  unfold pfind
  rw [List.find?_cons]
  by_cases h : p.sub = id
  · rw [if_pos h, decide_eq_true h]
  · rw [if_neg h, decide_eq_false h]
theorem pfind_no {l : List Pol} {id : Int} (h : ∀ p ∈ l, p.sub ≠ id) : pfind l id = none := by
  unfold pfind
  rw [List.find?_eq_none]
  intro p hp
  simpa using h p hp
theorem pfind_sub {l : List Pol} {id : Int} {p : Pol} (h : pfind l id = some p) : p ∈ l ∧ p.sub = id := by
  unfold pfind at h
  exact ⟨List.mem_of_find?_eq_some h, by simpa using List.find?_some h⟩
theorem find_put {p : Pol} : ∀ {l : List Pol}, Ris l → ∀ id, pfind (putF p l) id = if p.sub = id then some p else pfind l id := by
  intro l
  induction l with
  | nil => intro _ id; rw [putF, pfind_cons]
  | cons q l ih =>
    intro hr id
    obtain ⟨h1, h2⟩ := ris_tail hr
    rw [putF]
    by_cases hlt : q.sub < p.sub
    · rw [if_pos hlt, pfind_cons, ih h2, pfind_cons]
      by_cases hq : q.sub = id
      · rw [if_pos hq, if_pos hq, if_neg (by omega)]
      · rw [if_neg hq, if_neg hq]
    · rw [if_neg hlt]
      by_cases he : q.sub = p.sub
      · rw [if_pos he, pfind_cons, pfind_cons]
        by_cases hp : p.sub = id
        · rw [if_pos hp, if_pos hp]
        · rw [if_neg hp, if_neg hp, if_neg (by omega)]
      · rw [if_neg he, pfind_cons]
theorem find_drop {n : Int} (l : List Pol) (id : Int) : pfind (dropF n l) id = if n = id then none else pfind l id := by
  induction l with
  | nil => simp [dropF, pfind]
  | cons q l ih =>
    unfold dropF at ih ⊢
    by_cases hq : q.sub = n
    · rw [List.filter_cons_of_neg (by simpa using hq), ih, pfind_cons]
      by_cases hn : n = id
      · rw [if_pos hn, if_pos hn]
      · rw [if_neg hn, if_neg hn, if_neg (by omega)]
    · rw [List.filter_cons_of_pos (by simpa using hq), pfind_cons, pfind_cons, ih]
      by_cases hqi : q.sub = id
      · rw [if_pos hqi, if_pos hqi, if_neg (by omega)]
      · rw [if_neg hqi, if_neg hqi]
theorem ris_ext : ∀ {l m : List Pol}, Ris l → Ris m → (∀ id, pfind l id = pfind m id) → l = m := by
  intro l
  induction l with
  | nil =>
    intro m _ _ h
    cases m with
    | nil => rfl
    | cons q m => have := h q.sub; rw [pfind_cons, if_pos rfl] at this; cases this
  | cons p l ih =>
    intro m hl hm h
    cases m with
    | nil => have := h p.sub; rw [pfind_cons, if_pos rfl] at this; cases this
    | cons q m =>
      obtain ⟨l1, l2⟩ := ris_tail hl
      obtain ⟨m1, m2⟩ := ris_tail hm
      have hpq : p = q := by
        have e1 := h p.sub
        rw [pfind_cons, if_pos rfl] at e1
        have e2 := h q.sub
        rw [pfind_cons (p := q), if_pos rfl] at e2
        have s1 := (pfind_sub e1.symm).1
        have s2 := (pfind_sub e2).1
        rcases List.mem_cons.1 s1 with h1 | h1
        · exact h1
        · rcases List.mem_cons.1 s2 with h2 | h2
          · exact h2.symm
          · have := m1 p h1; have := l1 q h2; omega
      subst hpq
      rw [ih l2 m2 fun id => ?_]
      have := h id
      rw [pfind_cons, pfind_cons] at this
      by_cases hid : p.sub = id
      · rw [pfind_no (fun r hr => by have := l1 r hr; omega), pfind_no (fun r hr => by have := m1 r hr; omega)]
      · rwa [if_neg hid, if_neg hid] at this
def Ch.id : Ch → Int
  | .drop s => s
  | .put p => p.sub
def Ch.val : Ch → Option Pol
  | .drop _ => none
  | .put p => some p
theorem find_ch {l : List Pol} (hr : Ris l) (c : Ch) (id : Int) : pfind (stepQ l c.op.oq) id = if c.id = id then c.val else pfind l id := by
  cases c with
  | drop s => exact find_drop l id
  | put p => exact find_put hr id
theorem find_all {b : List Pol} : ∀ (cs : List Ch) (l : List Pol), Ris l → (∀ c ∈ cs, c.val = pfind b c.id) → ∀ id, pfind (applyF l (cs.map fun c => c.op.oq)) id = if id ∈ cs.map Ch.id then pfind b id else pfind l id := by
  intro cs
  induction cs with
  | nil => intro l _ _ id; simp [applyF]
  | cons c cs ih =>
    intro l hr hc id
    have h1 := ih (stepQ l c.op.oq) (ris_step hr) (fun d hd => hc d (List.mem_cons_of_mem _ hd)) id
    have h2 : applyF l ((c :: cs).map fun c => c.op.oq) = applyF (stepQ l c.op.oq) (cs.map fun c => c.op.oq) := rfl
    rw [h2, h1, find_ch hr, List.map_cons]
    by_cases h3 : id ∈ cs.map Ch.id
    · rw [if_pos h3, if_pos (List.mem_cons_of_mem _ h3)]
    · rw [if_neg h3]
      by_cases h4 : c.id = id
      · rw [if_pos h4, if_pos (by rw [h4]; exact List.mem_cons_self), ← h4]; exact hc c List.mem_cons_self
      · rw [if_neg h4, if_neg (by intro q; rcases List.mem_cons.1 q with q | q; exact h4 q.symm; exact h3 q)]
theorem opAt_val {a b : List Pol} {id : Int} {c : Ch} (h : opAt a b id = some c) : c.id = id ∧ c.val = pfind b c.id := by
  unfold opAt at h
  split at h
  · rename_i hb
    cases h
    exact ⟨rfl, hb.symm⟩
  · rename_i q hb
    split at h
    · cases h
    · cases h
      have := (pfind_sub hb).2
      exact ⟨this, by show some q = pfind b q.sub; rw [this, hb]⟩
theorem chg_find {a b : List Pol} (ha : risF 0 a = true) (hb : risF 0 b = true) : applyF a ((chg a b).map fun c => c.op.oq) = b := by
  have hra := ris_of ha
  have hrb := ris_of hb
  have hu := chg_uni a b 0 ha hb
  have hval : ∀ c ∈ chg a b, c.val = pfind b c.id := by
    intro c hc
    rw [hu] at hc
    obtain ⟨id, _, h⟩ := List.mem_filterMap.1 hc
    exact (opAt_val h).2
  refine ris_ext (ris_apply hra _) hrb fun id => ?_
  rw [find_all (b := b) _ a hra hval id]
  by_cases hm : id ∈ (chg a b).map Ch.id
  · rw [if_pos hm]
  · rw [if_neg hm]
    by_cases heq : pfind a id = pfind b id
    · exact heq
    · exfalso
      apply hm
      have hiu : id ∈ uni a b := by
        rw [uni_mem]
        cases hfa : pfind a id with
        | some p => exact .inl ⟨p, (pfind_sub hfa).1, (pfind_sub hfa).2⟩
        | none =>
          cases hfb : pfind b id with
          | none => rw [hfa, hfb] at heq; exact absurd rfl heq
          | some q => exact .inr ⟨q, (pfind_sub hfb).1, (pfind_sub hfb).2⟩
      have hop : ∃ c, opAt a b id = some c := by
        unfold opAt
        split
        · rename_i hfb
          exact ⟨_, rfl⟩
        · rename_i q hfb
          split
          · rename_i hc
            exact absurd (by simp_all) heq
          · exact ⟨_, rfl⟩
      obtain ⟨c, hc⟩ := hop
      rw [List.mem_map]
      exact ⟨c, by rw [hu]; exact List.mem_filterMap.2 ⟨id, hiu, hc⟩, (opAt_val hc).1⟩
/-- The ops lead there. -/
theorem opsL_apply {a b : List Pol} (ha : risF 0 a = true) (hb : risF 0 b = true) : applyF a ((opsL a b).map Opv.oq) = b := by
  have h := chg_find ha hb
  unfold opsL wrapL
  by_cases hc : (chg a b).map Ch.op = []
  · rw [if_pos hc]
    have : chg a b = [] := by simpa using hc
    rw [this] at h; exact h
  · rw [if_neg hc, List.cons_append, List.map_cons, List.map_append, List.map_map]
    unfold applyF at h ⊢
    rw [List.foldl_cons, List.foldl_append]
    have e1 : stepQ a (opOf 3).oq = a := rfl
    rw [e1]
    have e2 : List.foldl stepQ a ((chg a b).map (Opv.oq ∘ Ch.op)) = b := h
    rw [e2]; rfl
theorem opsL_self (b : List Pol) : opsL b b = [] := by unfold opsL wrapL; rw [chg_self]; rfl

/-! ### No fewer changes -/
def isCh (o : Oq) : Bool := decide (o.kind = 4) || decide (o.kind = 5)
def okQ (o : Oq) : Prop := (o.kind = 4 → 0 < o.pol.sub) ∧ (o.kind = 5 → 0 < o.sub)
theorem ris_to : ∀ {l : List Pol} {n : Int}, Ris l → (∀ p ∈ l, n < p.sub) → risF n l = true := by
  intro l
  induction l with
  | nil => intro n _ _; rfl
  | cons p l ih =>
    intro n hr h
    obtain ⟨h1, h2⟩ := ris_tail hr
    simp only [risF]
    rw [decide_eq_true (h p List.mem_cons_self), ih h2 h1]; rfl
theorem ris_stepF {l : List Pol} {o : Oq} (h : risF 0 l = true) (ho : okQ o) : risF 0 (stepQ l o) = true := by
  refine ris_to (ris_step (ris_of h)) fun p hp => ?_
  have hg := ris_gt h
  unfold stepQ at hp
  split at hp
  · rename_i hk
    rcases mem_putF hp with rfl | hp
    · exact ho.1 hk
    · exact hg p hp
  · split at hp
    · exact hg p (List.mem_filter.1 hp).1
    · exact hg p hp
theorem count_one {K : List Int} (hn : K.Nodup) {f : Int → Bool} {x : Int} (h : ∀ y, f y = true → y = x) : K.countP f ≤ 1 := by
  induction K with
  | nil => simp
  | cons a K ih =>
    obtain ⟨h1, h2⟩ := List.nodup_cons.1 hn
    rw [List.countP_cons]
    by_cases ha : f a = true
    · have : K.countP f = 0 := by
        rw [List.countP_eq_zero]
        intro y hy hf
        exact h1 (by rw [h a ha, ← h y hf]; exact hy)
      rw [this, if_pos ha]; omega
    · rw [if_neg ha]; exact ih h2
theorem cost_step {l : List Pol} {o : Oq} (h : risF 0 l = true) (ho : okQ o) : costF l (stepQ l o) ≤ if isCh o = true then 1 else 0 := by
  have h2 := ris_stepF h ho
  by_cases hc : isCh o = true
  · rw [if_pos hc]
    obtain ⟨K, hK1, hK2⟩ := ex_nodup ((l ++ stepQ l o).map Pol.sub)
    have hcnt := chg_count l (stepQ l o) 0 K h h2 hK1 (fun p hp => hK2 _ (List.mem_map.2 ⟨p, List.mem_append_left _ hp, rfl⟩)) (fun p hp => hK2 _ (List.mem_map.2 ⟨p, List.mem_append_right _ hp, rfl⟩))
    unfold costF
    rw [hcnt]
    have hr := ris_of h
    have : K.countP (unlike l (stepQ l o)) ≤ 1 := by
      unfold isCh at hc
      rw [Bool.or_eq_true] at hc
      rcases hc with hk | hk
      · have hk := of_decide_eq_true hk
        refine count_one hK1 (x := o.pol.sub) fun y hy => ?_
        unfold unlike stepQ at hy
        rw [if_pos hk, find_put hr] at hy
        have hy := of_decide_eq_true hy
        by_cases hq : o.pol.sub = y
        · exact hq.symm
        · rw [if_neg hq] at hy; exact absurd rfl hy
      · have hk := of_decide_eq_true hk
        refine count_one hK1 (x := o.sub) fun y hy => ?_
        unfold unlike stepQ at hy
        rw [if_neg (by omega), if_pos hk, find_drop] at hy
        have hy := of_decide_eq_true hy
        by_cases hq : o.sub = y
        · exact hq.symm
        · rw [if_neg hq] at hy; exact absurd rfl hy
    omega
  · rw [if_neg hc]
    unfold isCh at hc
    rw [Bool.or_eq_true, not_or] at hc
    have e : stepQ l o = l := by unfold stepQ; rw [if_neg (by simpa using hc.1), if_neg (by simpa using hc.2)]
    rw [e]
    unfold costF
    rw [chg_self]; simp
theorem cost_all : ∀ (ops : List Oq) {l : List Pol}, risF 0 l = true → (∀ o ∈ ops, okQ o) → costF l (applyF l ops) ≤ ops.countP isCh ∧ risF 0 (applyF l ops) = true := by
  intro ops
  induction ops with
  | nil =>
    intro l h _
    refine ⟨?_, h⟩
    show costF l l ≤ _
    unfold costF; rw [chg_self]; simp
  | cons o ops ih =>
    intro l h ho
    have h1 := ho o List.mem_cons_self
    obtain ⟨h2, h4⟩ := ih (ris_stepF h h1) (fun d hd => ho d (List.mem_cons_of_mem _ hd))
    have h3 := cost_step h h1
    have ht := cost_tri h (ris_stepF h h1) h4
    have e : applyF l (o :: ops) = applyF (stepQ l o) ops := rfl
    rw [e]
    refine ⟨?_, h4⟩
    rw [List.countP_cons]
    split at h3
    · rename_i hc; rw [if_pos hc]; omega
    · rename_i hc; rw [if_neg hc]; omega
end Go.Proofs.Ytcoljpgnjiakjaa

namespace Go.Proofs.Ytcoljpgnjiakjaa
open Go.RowKit
set_option linter.unusedVariables false
set_option maxRecDepth 100000

section
variable {H : Type} {enc : TypeId × Value → H} {W : World}
theorem cellOne {e : TypeId} {c : CS} (hs : shapes Try.prog 20 e = some [c]) (hc : Try.prog.cellsOf e = 1) {v : Value} (h : CellIs enc Try.prog W (.slice e) v) : (absV W v).one = true := by
  obtain ⟨l, hl, _⟩ := lst_of (α := AV) (e := fun a => [a]) (sz := 1) hc (by omega) h (fun cs fuel x ht => by
      have h1 := (shapes_ok 20 fuel e cs x _ ht hs).1
      match cs, h1 with
      | [a], _ => exact ⟨absV W a, rfl, rfl⟩)
    (good := fun _ => True) (fun cs fuel x a ht he => trivial)
  rcases hl with ⟨h1, _⟩ | ⟨h1, _⟩ | ⟨i, o, v, len, cap, ex, h1, _, _⟩ <;> rw [h1] <;> rfl
abbrev opSh : List CS := [.int .i64, .int .i64, .int .i64, .int .u64, .slice 5, .int .i64, .int .u8, .int .u8, .int .u8, .int .u8, .int .i64, .int .u64, .int .u64, .int .u64, .int .u64, .int .u64, .int .u64, .int .u64, .slice 4]
theorem rowOp {cs : List Value} (h : RowIs enc Try.prog W opSh cs) : ∃ a : Oq, cs.map (absV W) = a.enc := by
  have c5 : Try.prog.cellsOf 5 = 1 := by kernel_rfl
  have c4 : Try.prog.cellsOf 4 = 1 := by kernel_rfl
  have s5 : shapes Try.prog 20 5 = some [.int .u8] := by kernel_rfl
  have s4 : shapes Try.prog 20 4 = some [.bool] := by kernel_rfl
  obtain ⟨h1, h2⟩ := h
  match cs, h1 with
  | [x0, x1, x2, x3, x4, x5, x6, x7, x8, x9, x10, x11, x12, x13, x14, x15, x16, x17, x18], _ =>
    obtain ⟨a0, rfl, w0⟩ := h2 0 (by simp) (by simp)
    obtain ⟨a1, rfl, w1⟩ := h2 1 (by simp) (by simp)
    obtain ⟨a2, rfl, w2⟩ := h2 2 (by simp) (by simp)
    obtain ⟨a3, rfl, w3⟩ := h2 3 (by simp) (by simp)
    have w4 := cellOne s5 c5 (h2 4 (by simp) (by simp))
    obtain ⟨a5, rfl, w5⟩ := h2 5 (by simp) (by simp)
    obtain ⟨a6, rfl, w6⟩ := h2 6 (by simp) (by simp)
    obtain ⟨a7, rfl, w7⟩ := h2 7 (by simp) (by simp)
    obtain ⟨a8, rfl, w8⟩ := h2 8 (by simp) (by simp)
    obtain ⟨a9, rfl, w9⟩ := h2 9 (by simp) (by simp)
    obtain ⟨a10, rfl, w10⟩ := h2 10 (by simp) (by simp)
    obtain ⟨a11, rfl, w11⟩ := h2 11 (by simp) (by simp)
    obtain ⟨a12, rfl, w12⟩ := h2 12 (by simp) (by simp)
    obtain ⟨a13, rfl, w13⟩ := h2 13 (by simp) (by simp)
    obtain ⟨a14, rfl, w14⟩ := h2 14 (by simp) (by simp)
    obtain ⟨a15, rfl, w15⟩ := h2 15 (by simp) (by simp)
    obtain ⟨a16, rfl, w16⟩ := h2 16 (by simp) (by simp)
    obtain ⟨a17, rfl, w17⟩ := h2 17 (by simp) (by simp)
    have w18 := cellOne s4 c4 (h2 18 (by simp) (by simp))
    exact ⟨⟨a0, a1, a2, a3, ⟨_, w4⟩, ⟨a5, a6, a7, a8, a9, a10, a11, a12, a13, a14, a15, a16, a17⟩, ⟨_, w18⟩⟩, rfl⟩
theorem cellOps {v : Value} (h : CellIs enc Try.prog W (.slice 40) v) : ∃ l : List Oq, lstV oqE (absS W) (absV W v) = some l := by
  have s2 : shapes Try.prog 20 40 = some opSh := by kernel_rfl
  have c2 : Try.prog.cellsOf 40 = 19 := by kernel_rfl
  obtain ⟨l, hl, _⟩ := lst_of (e := Oq.enc) (sz := 19) c2 (by omega) h (fun cs fuel x ht => let ⟨a, h1⟩ := rowOp (shapes_ok 20 fuel 40 cs x _ ht s2); ⟨a, h1, rfl⟩)
    (good := fun _ => True) (fun cs fuel x a ht he => trivial)
  exact ⟨l, lst_lstV (E := oqE) hl⟩
theorem argOps {v : Value} {base : Nat} {d : DataW H} {ps : List MemPlace} (o : Value.okWide Try.prog W .any base 31 v) (h : DataW.Trod enc Try.prog W 0 (fun _ => true) true 31 v d ps) :
    ∃ l, lstV oqE (absS W) (absA W v) = some l := by
  have s0 : shapes Try.prog 20 31 = some [.slice 40] := by kernel_rfl
  have hv : v.cells.toList = [v] ∧ absA W v = absV W v := by
    cases v with
    | agg cs =>
      unfold Value.okWide at o
      rw [Try.underlying31] at o
      unfold Cell.okWide at o
      rw [Try.underlying31] at o
      unfold Cell.ok at o
      rw [Try.underlying31] at o
      simp at o
    | _ => exact ⟨rfl, rfl⟩
  obtain ⟨h1, h2⟩ := arg_row h s0
  rw [hv.1] at h1 h2
  have hc := h2 0 (by simp) (by simp)
  simp only [List.getElem_cons_zero] at hc
  rw [hv.2]
  exact cellOps hc
end
end Go.Proofs.Ytcoljpgnjiakjaa

namespace Go.Proofs.Ytcoljpgnjiakjaa
open Go.RowKit
set_option linter.unusedSimpArgs false
set_option linter.unusedVariables false
set_option maxRecDepth 100000

theorem oDc_ok : OK Try.prog (lamOf Try.prog) (orcOf [(8, aliveS), (12, greatS), (9, opsS), (11, applyS), (10, costS), (15, samePS)]) := orc_ok (by simpa using ⟨alive_ok, great_ok, ops_ok, apply_ok, cost_ok, sameP_ok⟩)
theorem countP_succ {ops : List Oq} {k : Nat} (hk : k < ops.length) : (ops.take (k + 1)).countP isCh = (ops.take k).countP isCh + if isCh ops[k] = true then 1 else 0 := by
  rw [List.take_succ_eq_append_getElem hk, List.countP_append, List.countP_singleton]
theorem okQ_take {ops : List Oq} {k : Nat} (hk : k < ops.length) (h : ∀ o ∈ ops.take k, okQ o) (h2 : okQ ops[k]) : ∀ o ∈ ops.take (k + 1), okQ o := by
  intro o ho
  rw [List.take_succ_eq_append_getElem hk] at ho
  rcases List.mem_append.1 ho with ho | ho
  · exact h o ho
  · rw [List.mem_singleton.1 ho]; exact h2
set_option maxHeartbeats 4000000 in
theorem diffcomes_ok (S : Mem) (x y xo : AV) (a b : List Pol) (ops : List Oq) (ha : lstV polE S x = some a) (hb : lstV polE S y = some b) (ho : lstV oqE S xo = some ops) : FnOK Try.prog 6 [x, y, xo] S (.b true) S := by
  have g1 := great_eq ha hb
  refine fn_of_wp f6 rfl (W_sound oDc_ok mixed _ _ _ _ _ ?_)
  cases h1 : greatF a b with
  | true =>
    rw [h1] at g1
    simp (maxSteps := 1000000) (disch := omega) only [c6, orc_cons, aliveS, g1, go_sem, Option.map_none, Option.map_some, ↓reduceIte, Nat.reduceBEq, Nat.reduceAdd, Nat.reduceSub, Nat.reduceEqDiff, Nat.reduceLeDiff, Nat.reduceMul, Nat.reduceLT, Int.reduceLT, Int.reduceLE, Int.reduceAdd, Int.reduceSub, Int.reduceMul, Int.reduceNeg, Int.reduceEq, Int.reduceNe, Int.reduceToNat, decide_true, decide_false, iaddr_i, iaddr_sl_i, not_true_eq_false, not_false_eq_true, reduceCtorEq, ne_eq, forall_const, false_imp_iff, true_imp_iff, implies_true, Int.cast_ofNat_Int, Int.natCast_zero, Int.natCast_one, Int.add_zero, Int.zero_add]
    exact wkv_same
  | false =>
    rw [h1] at g1
    obtain ⟨la, lb, ra, rb⟩ := great_no h1
    by_cases hol : (ops.length : Int) > 60
    · simp (maxSteps := 1000000) (disch := omega) only [c6, orc_cons, aliveS, g1, lst_len ho, hol, go_sem, Option.map_none, Option.map_some, ↓reduceIte, Nat.reduceBEq, Nat.reduceAdd, Nat.reduceSub, Nat.reduceEqDiff, Nat.reduceLeDiff, Nat.reduceMul, Nat.reduceLT, Int.reduceLT, Int.reduceLE, Int.reduceAdd, Int.reduceSub, Int.reduceMul, Int.reduceNeg, Int.reduceEq, Int.reduceNe, Int.reduceToNat, decide_true, decide_false, iaddr_i, iaddr_sl_i, not_true_eq_false, not_false_eq_true, reduceCtorEq, ne_eq, forall_const, false_imp_iff, true_imp_iff, implies_true, Int.cast_ofNat_Int, Int.natCast_zero, Int.natCast_one, Int.add_zero, Int.zero_add]
      exact wkv_same
    · have hra := ris_of ra
      have e1 := ops_eq ha hb (by omega) (by omega)
      have hl1 := retX_lst (z := false) (E := opE) (S := S) (l := opsL a b)
      have hM1 : S <+: retM false opE S (opsL a b) := retM_ext
      generalize retX false S (opsL a b) = X1 at e1 hl1
      generalize retM false opE S (opsL a b) = M1 at e1 hl1 hM1
      have hol1 := opsL_le a b
      have e2 := apply_eq (lst_ext ha hM1) (lst_oq hl1) (by omega) (by rw [List.length_map]; omega) hra
      have hl2 := apX_lst (z := isSl x) (t := tch a ((opsL a b).map Opv.oq)) (S := M1) (l := applyF a ((opsL a b).map Opv.oq))
      have hM2 : M1 <+: apM (isSl x) (tch a ((opsL a b).map Opv.oq)) M1 (applyF a ((opsL a b).map Opv.oq)) := apM_ext
      rw [opsL_apply ra rb] at e2 hl2 hM2
      generalize apX (isSl x) (tch a ((opsL a b).map Opv.oq)) M1 b = X2 at e2 hl2
      generalize apM (isSl x) (tch a ((opsL a b).map Opv.oq)) M1 b = M2 at e2 hl2 hM2
      have hSM2 := hM1.trans hM2
      have e3 := sameP_eq hl2 (lst_ext hb hSM2) (by omega)
      rw [decide_eq_true rfl] at e3
      have e4 := ops_eq hl2 (lst_ext hb hSM2) (by omega) (by omega)
      rw [opsL_self] at e4
      have e4 : opsS [X2, y] M2 = some (.sn, M2) := e4
      have e5 := cost_eq (lst_ext ha hSM2) (lst_ext hb hSM2) (by omega) (by omega)
      have hw : wrapV .i64 (((opsL a b).length : Int) - 2) = ((opsL a b).length : Int) - 2 := wrap_i64 (by omega) (by omega)
      have hmax := opsL_len a b
      have hly := lst_len hl1
      simp (maxSteps := 1000000) (disch := omega) only [c6, orc_cons, aliveS, g1, lst_len ho, hol, e1, e2, e3, e4, e5, hly, hw, hmax, go_sem, Option.map_none, Option.map_some, ↓reduceIte, Nat.reduceBEq, Nat.reduceAdd, Nat.reduceSub, Nat.reduceEqDiff, Nat.reduceLeDiff, Nat.reduceMul, Nat.reduceLT, Int.reduceLT, Int.reduceLE, Int.reduceAdd, Int.reduceSub, Int.reduceMul, Int.reduceNeg, Int.reduceEq, Int.reduceNe, Int.reduceToNat, decide_true, decide_false, iaddr_i, iaddr_sl_i, not_true_eq_false, not_false_eq_true, reduceCtorEq, ne_eq, forall_const, false_imp_iff, true_imp_iff, implies_true, Int.cast_ofNat_Int, Int.natCast_zero, Int.natCast_one, Int.add_zero, Int.zero_add]
      refine wp_loop (fun j e M dl => dl = [] ∧ ∃ k : Nat, j = ops.length - k ∧ k ≤ ops.length ∧ S <+: M ∧ (∀ o ∈ ops.take k, okQ o) ∧ e.get 49 = xo ∧ e.get 0 = x ∧ e.get 1 = y ∧ e.get 2 = xo ∧ e.get 50 = .i .i64 ops.length ∧ e.get 51 = .i .i64 k ∧ e.get 9 = .i .i64 ((ops.take k).countP isCh : Nat)) (j := ops.length)
        ⟨rfl, 0, rfl, Nat.zero_le _, hSM2, (fun o ho => absurd ho (by simp)), rfl, rfl, rfl, rfl, rfl, rfl, rfl⟩ ?_
      clear e1 e2 e3 e4 e5 hl1 hl2 hM1 hM2 hSM2 hw hmax hly
      rintro j e M d' ⟨rfl, k, rfl, hk, hSM, hok, e49, e0, e1, e2, e50, e51, e9⟩
      refine W_sound oDc_ok mixed _ _ _ _ _ ?_
      have hcle : (ops.take k).countP isCh ≤ k := Nat.le_trans List.countP_le_length (by rw [List.length_take]; omega)
      by_cases hkn : k < ops.length
      · obtain ⟨bi, o, v, cap, ex, rfl⟩ := lst_sl ho hkn
        have hro := lstV_row (lst_ext ho hSM) hkn []
        rw [List.append_nil] at hro
        have hkI : (k : Int) < ops.length := by omega
        have hk6 : k < 1000000 := by omega
        have hro : rowB (M[bi]?) (o + k * 19) v 19 = some (ops[k]).enc := hro
        have hcs := countP_succ hkn
        have hoks := okQ_take hkn hok
        generalize (ops.take k).countP isCh = ct at hcs hcle e9
        have hc6 : ct < 1000000 := by omega
        generalize ops[k] = q at hro hcs hoks
        obtain ⟨kind, sub, m, n, ⟨ox, hox⟩, pol, ⟨oy, hoy⟩⟩ := q
        simp only [Oq.enc] at hro
        by_cases hk4 : kind = 4
        · subst hk4
          by_cases hp : pol.sub < 1
          · simp (maxSteps := 1000000) (disch := omega) only [c6l0, e49, e0, e1, e2, e50, e51, e9, hkI, Int.toNat_natCast, hro, List.replicate, hox, hoy, hp, go_sem, Option.map_none, Option.map_some, ↓reduceIte, Nat.reduceBEq, Nat.reduceAdd, Nat.reduceSub, Nat.reduceEqDiff, Nat.reduceLeDiff, Nat.reduceMul, Nat.reduceLT, Int.reduceLT, Int.reduceLE, Int.reduceAdd, Int.reduceSub, Int.reduceMul, Int.reduceNeg, Int.reduceEq, Int.reduceNe, Int.reduceToNat, decide_true, decide_false, iaddr_i, iaddr_sl_i, not_true_eq_false, not_false_eq_true, reduceCtorEq, ne_eq, forall_const, false_imp_iff, true_imp_iff, implies_true, Int.cast_ofNat_Int, Int.natCast_zero, Int.natCast_one, Int.add_zero, Int.zero_add]
            exact wkv_dropP (ext_more hSM _) rfl
          · have hcs : _ = ct + 1 := hcs
            have hoks := hoks ⟨fun _ => (by show 0 < pol.sub; omega), fun q => absurd q (by show ¬ (4 : Int) = 5; decide)⟩
            simp (maxSteps := 1000000) (disch := omega) only [c6l0, e49, e0, e1, e2, e50, e51, e9, hkI, Int.toNat_natCast, hro, List.replicate, hox, hoy, hp, wrapS hk6, wrapS hc6, go_sem, Option.map_none, Option.map_some, ↓reduceIte, Nat.reduceBEq, Nat.reduceAdd, Nat.reduceSub, Nat.reduceEqDiff, Nat.reduceLeDiff, Nat.reduceMul, Nat.reduceLT, Int.reduceLT, Int.reduceLE, Int.reduceAdd, Int.reduceSub, Int.reduceMul, Int.reduceNeg, Int.reduceEq, Int.reduceNe, Int.reduceToNat, decide_true, decide_false, iaddr_i, iaddr_sl_i, not_true_eq_false, not_false_eq_true, reduceCtorEq, ne_eq, forall_const, false_imp_iff, true_imp_iff, implies_true, Int.cast_ofNat_Int, Int.natCast_zero, Int.natCast_one, Int.add_zero, Int.zero_add]
            exact ⟨ops.length - (k + 1), by omega, k + 1, rfl, hkn, ext_more hSM _, hoks, rfl, by rw [hcs]⟩
        · by_cases hk5 : kind = 5
          · subst hk5
            by_cases hp : sub < 1
            · simp (maxSteps := 1000000) (disch := omega) only [c6l0, e49, e0, e1, e2, e50, e51, e9, hkI, Int.toNat_natCast, hro, List.replicate, hox, hoy, hp, go_sem, Option.map_none, Option.map_some, ↓reduceIte, Nat.reduceBEq, Nat.reduceAdd, Nat.reduceSub, Nat.reduceEqDiff, Nat.reduceLeDiff, Nat.reduceMul, Nat.reduceLT, Int.reduceLT, Int.reduceLE, Int.reduceAdd, Int.reduceSub, Int.reduceMul, Int.reduceNeg, Int.reduceEq, Int.reduceNe, Int.reduceToNat, decide_true, decide_false, iaddr_i, iaddr_sl_i, not_true_eq_false, not_false_eq_true, reduceCtorEq, ne_eq, forall_const, false_imp_iff, true_imp_iff, implies_true, Int.cast_ofNat_Int, Int.natCast_zero, Int.natCast_one, Int.add_zero, Int.zero_add]
              exact wkv_dropP (ext_more hSM _) rfl
            · have hcs : _ = ct + 1 := hcs
              have hoks := hoks ⟨fun q => absurd q (by show ¬ (5 : Int) = 4; decide), fun _ => (by show 0 < sub; omega)⟩
              simp (maxSteps := 1000000) (disch := omega) only [c6l0, e49, e0, e1, e2, e50, e51, e9, hkI, Int.toNat_natCast, hro, List.replicate, hox, hoy, hp, wrapS hk6, wrapS hc6, go_sem, Option.map_none, Option.map_some, ↓reduceIte, Nat.reduceBEq, Nat.reduceAdd, Nat.reduceSub, Nat.reduceEqDiff, Nat.reduceLeDiff, Nat.reduceMul, Nat.reduceLT, Int.reduceLT, Int.reduceLE, Int.reduceAdd, Int.reduceSub, Int.reduceMul, Int.reduceNeg, Int.reduceEq, Int.reduceNe, Int.reduceToNat, decide_true, decide_false, iaddr_i, iaddr_sl_i, not_true_eq_false, not_false_eq_true, reduceCtorEq, ne_eq, forall_const, false_imp_iff, true_imp_iff, implies_true, Int.cast_ofNat_Int, Int.natCast_zero, Int.natCast_one, Int.add_zero, Int.zero_add]
              exact ⟨ops.length - (k + 1), by omega, k + 1, rfl, hkn, ext_more hSM _, hoks, rfl, by rw [hcs]⟩
          · have hcs : _ = ct := hcs.trans (by unfold isCh; rw [decide_eq_false hk4, decide_eq_false hk5]; rfl)
            have hoks := hoks ⟨fun q => absurd q hk4, fun q => absurd q hk5⟩
            simp (maxSteps := 1000000) (disch := omega) only [c6l0, e49, e0, e1, e2, e50, e51, e9, hkI, Int.toNat_natCast, hro, List.replicate, hox, hoy, hk4, hk5, wrapS hk6, go_sem, Option.map_none, Option.map_some, ↓reduceIte, Nat.reduceBEq, Nat.reduceAdd, Nat.reduceSub, Nat.reduceEqDiff, Nat.reduceLeDiff, Nat.reduceMul, Nat.reduceLT, Int.reduceLT, Int.reduceLE, Int.reduceAdd, Int.reduceSub, Int.reduceMul, Int.reduceNeg, Int.reduceEq, Int.reduceNe, Int.reduceToNat, decide_true, decide_false, iaddr_i, iaddr_sl_i, not_true_eq_false, not_false_eq_true, reduceCtorEq, ne_eq, forall_const, false_imp_iff, true_imp_iff, implies_true, Int.cast_ofNat_Int, Int.natCast_zero, Int.natCast_one, Int.add_zero, Int.zero_add]
            exact ⟨ops.length - (k + 1), by omega, k + 1, rfl, hkn, ext_more hSM _, hoks, rfl, by rw [hcs]⟩
      · have hkI : ¬ (k : Int) < ops.length := by omega
        obtain rfl : k = ops.length := by omega
        rw [List.take_length] at hok e9
        have haM := lst_ext ha hSM
        have hbM := lst_ext hb hSM
        have f1 := apply_eq haM (lst_ext ho hSM) (by omega) (by omega) hra
        have hl1 := apX_lst (z := isSl x) (t := tch a ops) (S := M) (l := applyF a ops)
        have hM1 : M <+: apM (isSl x) (tch a ops) M (applyF a ops) := apM_ext
        generalize apX (isSl x) (tch a ops) M (applyF a ops) = X3 at f1 hl1
        generalize apM (isSl x) (tch a ops) M (applyF a ops) = M3 at f1 hl1 hM1
        have hlen := apply_len a ops
        have f2 := sameP_eq hl1 (lst_ext hbM hM1) (by omega)
        have f3 := cost_eq (lst_ext haM hM1) (lst_ext hbM hM1) (by omega) (by omega)
        obtain ⟨hca, _⟩ := cost_all ops ra hok
        by_cases heq : applyF a ops = b
        · rw [heq] at hca
          rw [decide_eq_true heq] at f2
          have hge : ((ops.countP isCh : Nat) : Int) ≥ costF a b := hca
          simp (maxSteps := 1000000) (disch := omega) only [c6l0, e49, e0, e1, e2, e50, e51, e9, hkI, orc_cons, f1, f2, f3, hge, go_sem, Option.map_none, Option.map_some, ↓reduceIte, Nat.reduceBEq, Nat.reduceAdd, Nat.reduceSub, Nat.reduceEqDiff, Nat.reduceLeDiff, Nat.reduceMul, Nat.reduceLT, Int.reduceLT, Int.reduceLE, Int.reduceAdd, Int.reduceSub, Int.reduceMul, Int.reduceNeg, Int.reduceEq, Int.reduceNe, Int.reduceToNat, decide_true, decide_false, iaddr_i, iaddr_sl_i, not_true_eq_false, not_false_eq_true, reduceCtorEq, ne_eq, forall_const, false_imp_iff, true_imp_iff, implies_true, Int.cast_ofNat_Int, Int.natCast_zero, Int.natCast_one, Int.add_zero, Int.zero_add]
          exact wkv_dropP (hSM.trans hM1) rfl
        · rw [decide_eq_false heq] at f2
          simp (maxSteps := 1000000) (disch := omega) only [c6l0, e49, e0, e1, e2, e50, e51, e9, hkI, orc_cons, f1, f2, f3, go_sem, Option.map_none, Option.map_some, ↓reduceIte, Nat.reduceBEq, Nat.reduceAdd, Nat.reduceSub, Nat.reduceEqDiff, Nat.reduceLeDiff, Nat.reduceMul, Nat.reduceLT, Int.reduceLT, Int.reduceLE, Int.reduceAdd, Int.reduceSub, Int.reduceMul, Int.reduceNeg, Int.reduceEq, Int.reduceNe, Int.reduceToNat, decide_true, decide_false, iaddr_i, iaddr_sl_i, not_true_eq_false, not_false_eq_true, reduceCtorEq, ne_eq, forall_const, false_imp_iff, true_imp_iff, implies_true, Int.cast_ofNat_Int, Int.natCast_zero, Int.natCast_one, Int.add_zero, Int.zero_add]
          exact wkv_dropP (hSM.trans hM1) rfl
section
variable {H : Type} {enc : TypeId × Value → H}
theorem walkDiffComes (W : World) (v0 v1 v2 : Value) {base : Nat} (o0 : Value.okWide Try.prog W .any base 29 v0) (o1 : Value.okWide Try.prog W .any base 29 v1) (o2 : Value.okWide Try.prog W .any base 31 v2) {d0 d1 d2 : DataW H} {p0 p1 p2 : List MemPlace}
    (h0 : DataW.Trod enc Try.prog W 0 (fun _ => true) true 29 v0 d0 p0) (h1 : DataW.Trod enc Try.prog W 0 (fun _ => true) true 29 v1 d1 p1) (h2 : DataW.Trod enc Try.prog W 0 (fun _ => true) true 31 v2 d2 p2) :
    Calls Try.prog 6 #[v0, v1, v2] W fun e w' => e = .returned (.bool true) ∧ Below W.heap.size W w' := by
  obtain ⟨a, ha⟩ := argPols o0 h0
  obtain ⟨b, hb⟩ := argPols o1 h1
  obtain ⟨c, hc⟩ := argOps o2 h2
  refine calls_of_fnOK (S' := absS W) ?_
  show FnOK Try.prog _ [absA W v0, absA W v1, absA W v2] _ _ _
  exact diffcomes_ok _ _ _ _ a b c ha hb hc
end
end Go.Proofs.Ytcoljpgnjiakjaa

