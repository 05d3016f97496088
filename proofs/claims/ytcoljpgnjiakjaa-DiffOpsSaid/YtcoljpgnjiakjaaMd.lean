/- Proved here: what the law of this claim leans on (an evaluator of the model's code, contracts of functions). No condition. -/
import Derived.Test.YtcoljpgnjiakjaaQCode
import Derived.Test.YtcoljpgnjiakjaaMc
namespace Go.Proofs.Ytcoljpgnjiakjaa
open Go.RowKit
set_option linter.unusedSimpArgs false
set_option linter.unusedVariables false
set_option maxRecDepth 10000

theorem none_ok : OK Try.prog (lamOf Try.prog) (orcOf []) := orc_ok (l := []) (fun p hp => by cases hp)
theorem wrapS {t : Nat} (h : t < 1000000) : wrapV .i64 ((t : Int) + 1) = ((t + 1 : Nat) : Int) := by rw [wrap_i64 (by omega) (by omega)]; omega
structure Pol where
  sub : Int
  a : Int
  b : Int
  c : Int
  d : Int
  bits : Int
  rate : Int
  burst : Int
  srate : Int
  sburst : Int
  quota : Int
  lease : Int
  quantum : Int
  deriving DecidableEq
def Pol.enc (p : Pol) : List AV := [.i .i64 p.sub, .i .u8 p.a, .i .u8 p.b, .i .u8 p.c, .i .u8 p.d, .i .i64 p.bits, .i .u64 p.rate, .i .u64 p.burst, .i .u64 p.srate, .i .u64 p.sburst, .i .u64 p.quota, .i .u64 p.lease, .i .u64 p.quantum]
def polE : Enc Pol where
  enc := Pol.enc
  dec r := match r with
    | [.i .i64 sub, .i .u8 a, .i .u8 b, .i .u8 c, .i .u8 d, .i .i64 bits, .i .u64 rate, .i .u64 burst, .i .u64 srate, .i .u64 sburst, .i .u64 quota, .i .u64 lease, .i .u64 quantum] => some ⟨sub, a, b, c, d, bits, rate, burst, srate, sburst, quota, lease, quantum⟩
    | _ => none
  sz := 13
  pos := by decide
  len _ := rfl
  de _ := rfl
  ed r a h := by
    split at h
    · injection h with h; subst h; rfl
    · cases h
theorem polE_one (a : Pol) : (polE.enc a).all AV.one = true := rfl
theorem ne_pol {a b : Pol} : eqAgV true [.int, .int, .int, .int, .int, .int, .int, .int, .int, .int, .int, .int, .int] (.ag (polE.enc a)) (.ag (polE.enc b)) = some (.b (decide (¬ a = b))) := by
  obtain ⟨a1, a2, a3, a4, a5, a6, a7, a8, a9, a10, a11, a12, a13⟩ := a
  obtain ⟨b1, b2, b3, b4, b5, b6, b7, b8, b9, b10, b11, b12, b13⟩ := b
  simp [eqAgV, eqCells, eqCell, polE, Pol.enc, Bool.beq_eq_decide_eq, and_assoc]
theorem eq_pol {a b : Pol} : eqAgV false [.int, .int, .int, .int, .int, .int, .int, .int, .int, .int, .int, .int, .int] (.ag (polE.enc a)) (.ag (polE.enc b)) = some (.b (decide (a = b))) := by
  obtain ⟨a1, a2, a3, a4, a5, a6, a7, a8, a9, a10, a11, a12, a13⟩ := a
  obtain ⟨b1, b2, b3, b4, b5, b6, b7, b8, b9, b10, b11, b12, b13⟩ := b
  simp [eqAgV, eqCells, eqCell, polE, Pol.enc, Bool.beq_eq_decide_eq, and_assoc]

/-! ### Rising -/
def risF : Int → List Pol → Bool
  | _, [] => true
  | n, p :: l => decide (n < p.sub) && risF p.sub l
def risS : Spec := fun args S => match args with
  | [x] => match lstV polE S x with
    | some l => if l.length ≤ 900000 then some (.b (risF 0 l), S) else none
    | none => none
  | _ => none
theorem ris_ok : SpecOK Try.prog 26 risS := by
  intro args S x S' h
  simp only [risS] at h
  split at h
  · rename_i s
    split at h
    · rename_i l hl
      split at h
      · rename_i hlim
        cases h
        refine fn_of_wp f26 rfl (W_sound none_ok mixed _ _ _ _ _ ?_)
        simp (maxSteps := 1000000) (disch := omega) only [c26, lst_len hl, go_sem, Option.map_none, Option.map_some, ↓reduceIte, Nat.reduceBEq, Nat.reduceAdd, Nat.reduceSub, Nat.reduceEqDiff, Nat.reduceLeDiff, Nat.reduceMul, Nat.reduceLT, Int.reduceLT, Int.reduceLE, Int.reduceAdd, Int.reduceSub, Int.reduceMul, Int.reduceNeg, Int.reduceEq, Int.reduceNe, Int.reduceToNat, decide_true, decide_false, iaddr_i, iaddr_sl_i, not_true_eq_false, not_false_eq_true, reduceCtorEq, ne_eq, forall_const, false_imp_iff, true_imp_iff, implies_true, Int.cast_ofNat_Int, Int.natCast_zero, Int.natCast_one, Int.add_zero, Int.zero_add]
        refine wp_loop (fun j e M dl => dl = [] ∧ ∃ (k : Nat) (n : Int), j = l.length - k ∧ k ≤ l.length ∧ S <+: M ∧ risF 0 l = risF n (l.drop k) ∧
          e.get 6 = s ∧ e.get 7 = .i .i64 l.length ∧ e.get 8 = .i .i64 k ∧ e.get 3 = .i .i64 n) (j := l.length) ⟨rfl, 0, 0, rfl, Nat.zero_le _, ext_refl, rfl, rfl, rfl, rfl, rfl⟩ ?_
        rintro j e M d' ⟨rfl, k, n, rfl, hk, hSM, hr, h6, h7, h8, h3⟩
        refine W_sound none_ok mixed _ _ _ _ _ ?_
        by_cases hkl : k < l.length
        · obtain ⟨bi, o, v, cap, ex, rfl⟩ := lst_sl hl hkl
          have hro := lstV_row (lst_ext hl hSM) hkl []
          rw [List.append_nil] at hro
          have hkI : (k : Int) < l.length := by omega
          have hk6 : k < 1000000 := by omega
          have hdr : l.drop k = l[k] :: l.drop (k + 1) := List.drop_eq_getElem_cons hkl
          rw [hdr] at hr
          have hro : rowB (M[bi]?) (o + k * 13) v 13 = some (l[k]).enc := hro
          generalize l[k] = p at hro hr
          simp only [Pol.enc] at hro
          simp only [risF] at hr
          by_cases hlt : n < p.sub
          · have hlt' : ¬ p.sub ≤ n := by omega
            rw [decide_eq_true hlt, Bool.true_and] at hr
            simp (maxSteps := 1000000) (disch := omega) only [c26l0, h6, h7, h8, h3, hkI, Int.toNat_natCast, hro, List.replicate, hlt', wrapS hk6, go_sem, Option.map_none, Option.map_some, ↓reduceIte, Nat.reduceBEq, Nat.reduceAdd, Nat.reduceSub, Nat.reduceEqDiff, Nat.reduceLeDiff, Nat.reduceMul, Nat.reduceLT, Int.reduceLT, Int.reduceLE, Int.reduceAdd, Int.reduceSub, Int.reduceMul, Int.reduceNeg, Int.reduceEq, Int.reduceNe, Int.reduceToNat, decide_true, decide_false, iaddr_i, iaddr_sl_i, not_true_eq_false, not_false_eq_true, reduceCtorEq, ne_eq, forall_const, false_imp_iff, true_imp_iff, implies_true, Int.cast_ofNat_Int, Int.natCast_zero, Int.natCast_one, Int.add_zero, Int.zero_add]
            exact ⟨l.length - (k + 1), by omega, k + 1, p.sub, rfl, hkl, ext_more hSM _, hr, rfl, rfl⟩
          · have hlt' : p.sub ≤ n := by omega
            rw [decide_eq_false hlt, Bool.false_and] at hr
            rw [hr]
            simp (maxSteps := 1000000) (disch := omega) only [c26l0, h6, h7, h8, h3, hkI, Int.toNat_natCast, hro, List.replicate, hlt', go_sem, Option.map_none, Option.map_some, ↓reduceIte, Nat.reduceBEq, Nat.reduceAdd, Nat.reduceSub, Nat.reduceEqDiff, Nat.reduceLeDiff, Nat.reduceMul, Nat.reduceLT, Int.reduceLT, Int.reduceLE, Int.reduceAdd, Int.reduceSub, Int.reduceMul, Int.reduceNeg, Int.reduceEq, Int.reduceNe, Int.reduceToNat, decide_true, decide_false, iaddr_i, iaddr_sl_i, not_true_eq_false, not_false_eq_true, reduceCtorEq, ne_eq, forall_const, false_imp_iff, true_imp_iff, implies_true, Int.cast_ofNat_Int, Int.natCast_zero, Int.natCast_one, Int.add_zero, Int.zero_add]
            exact wkv_dropP (ext_more hSM _) rfl
        · have hkI : ¬ (k : Int) < l.length := by omega
          rw [List.drop_of_length_le (by omega)] at hr
          rw [hr]
          simp (maxSteps := 1000000) (disch := omega) only [c26l0, h6, h7, h8, h3, hkI, go_sem, Option.map_none, Option.map_some, ↓reduceIte, Nat.reduceBEq, Nat.reduceAdd, Nat.reduceSub, Nat.reduceEqDiff, Nat.reduceLeDiff, Nat.reduceMul, Nat.reduceLT, Int.reduceLT, Int.reduceLE, Int.reduceAdd, Int.reduceSub, Int.reduceMul, Int.reduceNeg, Int.reduceEq, Int.reduceNe, Int.reduceToNat, decide_true, decide_false, iaddr_i, iaddr_sl_i, not_true_eq_false, not_false_eq_true, reduceCtorEq, ne_eq, forall_const, false_imp_iff, true_imp_iff, implies_true, Int.cast_ofNat_Int, Int.natCast_zero, Int.natCast_one, Int.add_zero, Int.zero_add]
          exact wkv_dropP hSM rfl
      · cases h
    · cases h
  · cases h

/-! ### SamePolicies -/
def samePS : Spec := fun args S => match args with
  | [x, y] => match lstV polE S x, lstV polE S y with
    | some l, some m => if l.length ≤ 900000 then some (.b (decide (l = m)), S) else none
    | _, _ => none
  | _ => none
theorem sameP_ok : SpecOK Try.prog 15 samePS := by
  intro args S x S' h
  simp only [samePS] at h
  split at h
  · rename_i s t
    split at h
    · rename_i l m hl hm
      split at h
      · rename_i hlim
        cases h
        refine fn_of_wp f15 rfl (W_sound none_ok mixed _ _ _ _ _ ?_)
        simp (maxSteps := 1000000) (disch := omega) only [c15, lst_len hl, lst_len hm, go_sem, Option.map_none, Option.map_some, ↓reduceIte, Nat.reduceBEq, Nat.reduceAdd, Nat.reduceSub, Nat.reduceEqDiff, Nat.reduceLeDiff, Nat.reduceMul, Nat.reduceLT, Int.reduceLT, Int.reduceLE, Int.reduceAdd, Int.reduceSub, Int.reduceMul, Int.reduceNeg, Int.reduceEq, Int.reduceNe, Int.reduceToNat, decide_true, decide_false, iaddr_i, iaddr_sl_i, not_true_eq_false, not_false_eq_true, reduceCtorEq, ne_eq, forall_const, false_imp_iff, true_imp_iff, implies_true, Int.cast_ofNat_Int, Int.natCast_zero, Int.natCast_one, Int.add_zero, Int.zero_add]
        refine ⟨fun hne => wkv_fP ext_refl fun q => hne (by rw [q]), fun he => ?_⟩
        have he : l.length = m.length := by omega
        refine wp_loop (fun j e M dl => dl = [] ∧ ∃ k : Nat, j = l.length - k ∧ k ≤ l.length ∧ M = S ∧ (∀ i (hi : i < k) (h1 : i < l.length) (h2 : i < m.length), l[i] = m[i]) ∧
          e.get 0 = s ∧ e.get 1 = t ∧ e.get 12 = .i .i64 l.length ∧ e.get 13 = .i .i64 k) (j := l.length) ⟨rfl, 0, rfl, Nat.zero_le _, rfl, fun i hi => absurd hi (Nat.not_lt_zero _), rfl, rfl, rfl, rfl⟩ ?_
        rintro j e M d' ⟨rfl, k, rfl, hk, rfl, hn, h0, h1, h12, h13⟩
        refine W_sound none_ok mixed _ _ _ _ _ ?_
        by_cases hkl : k < l.length
        · obtain ⟨bi, o, v, cap, ex, rfl⟩ := lst_sl hl hkl
          obtain ⟨bj, o2, v2, cap2, ex2, rfl⟩ := lst_sl hm (show k < m.length by omega)
          have hkI : (k : Int) < l.length := by omega
          have hk6 : k < 1000000 := by omega
          have ha := lstV_row hl hkl []
          have hb := lstV_row hm (show k < m.length by omega) []
          rw [List.append_nil] at ha hb
          have ha : rowB (M[bi]?) (o + k * 13) v 13 = some (polE.enc l[k]) := ha
          have hb : rowB (M[bj]?) (o2 + k * 13) v2 13 = some (polE.enc (m[k]'(by omega))) := hb
          simp (maxSteps := 1000000) (disch := omega) only [c15l1, h0, h1, h12, h13, hkI, Int.toNat_natCast, ha, hb, ne_pol, wrapS hk6, go_sem, Option.map_none, Option.map_some, ↓reduceIte, Nat.reduceBEq, Nat.reduceAdd, Nat.reduceSub, Nat.reduceEqDiff, Nat.reduceLeDiff, Nat.reduceMul, Nat.reduceLT, Int.reduceLT, Int.reduceLE, Int.reduceAdd, Int.reduceSub, Int.reduceMul, Int.reduceNeg, Int.reduceEq, Int.reduceNe, Int.reduceToNat, decide_true, decide_false, iaddr_i, iaddr_sl_i, not_true_eq_false, not_false_eq_true, reduceCtorEq, ne_eq, forall_const, false_imp_iff, true_imp_iff, implies_true, Int.cast_ofNat_Int, Int.natCast_zero, Int.natCast_one, Int.add_zero, Int.zero_add]
          refine ⟨fun hd => wkv_fP ext_refl fun q => hd (by subst q; rfl), fun hd => ⟨l.length - (k + 1), by omega, k + 1, rfl, hkl, fun i hi h1 h2 => ?_, rfl⟩⟩
          by_cases hik : i = k
          · subst hik; exact Decidable.not_not.1 hd
          · exact hn i (by omega) h1 h2
        · have hkI : ¬ (k : Int) < l.length := by omega
          simp (maxSteps := 1000000) (disch := omega) only [c15l1, h0, h1, h12, h13, hkI, go_sem, Option.map_none, Option.map_some, ↓reduceIte, Nat.reduceBEq, Nat.reduceAdd, Nat.reduceSub, Nat.reduceEqDiff, Nat.reduceLeDiff, Nat.reduceMul, Nat.reduceLT, Int.reduceLT, Int.reduceLE, Int.reduceAdd, Int.reduceSub, Int.reduceMul, Int.reduceNeg, Int.reduceEq, Int.reduceNe, Int.reduceToNat, decide_true, decide_false, iaddr_i, iaddr_sl_i, not_true_eq_false, not_false_eq_true, reduceCtorEq, ne_eq, forall_const, false_imp_iff, true_imp_iff, implies_true, Int.cast_ofNat_Int, Int.natCast_zero, Int.natCast_one, Int.add_zero, Int.zero_add]
          exact wkv_tP ext_refl (List.ext_getElem he fun i h1 h2 => hn i (by omega) h1 h2)
      · cases h
    · cases h
  · cases h

/-! ### great -/
def greatF (a b : List Pol) : Bool := decide (30 < a.length) || (decide (30 < b.length) || (!risF 0 a || !risF 0 b))
def greatS : Spec := fun args S => match args with
  | [x, y] => match lstV polE S x, lstV polE S y with
    | some l, some m => some (.b (greatF l m), S)
    | _, _ => none
  | _ => none
theorem oGr_ok : OK Try.prog (lamOf Try.prog) (orcOf [(26, risS)]) := orc_ok (by simpa using ris_ok)
theorem great_ok : SpecOK Try.prog 12 greatS := by
  intro args S x S' h
  simp only [greatS] at h
  split at h
  · rename_i s t
    split at h
    · rename_i l m hl hm
      cases h
      refine fn_of_wp f12 rfl (W_sound oGr_ok mixed _ _ _ _ _ ?_)
      unfold greatF
      by_cases h1 : 30 < l.length
      · have h1I : (30 : Int) < l.length := by omega
        simp (maxSteps := 1000000) (disch := omega) only [c12, lst_len hl, lst_len hm, h1, h1I, Bool.true_or, go_sem, Option.map_none, Option.map_some, ↓reduceIte, Nat.reduceBEq, Nat.reduceAdd, Nat.reduceSub, Nat.reduceEqDiff, Nat.reduceLeDiff, Nat.reduceMul, Nat.reduceLT, Int.reduceLT, Int.reduceLE, Int.reduceAdd, Int.reduceSub, Int.reduceMul, Int.reduceNeg, Int.reduceEq, Int.reduceNe, Int.reduceToNat, decide_true, decide_false, iaddr_i, iaddr_sl_i, not_true_eq_false, not_false_eq_true, reduceCtorEq, ne_eq, forall_const, false_imp_iff, true_imp_iff, implies_true, Int.cast_ofNat_Int, Int.natCast_zero, Int.natCast_one, Int.add_zero, Int.zero_add]
        exact wkv_same
      have h1I : ¬ (30 : Int) < l.length := by omega
      by_cases h2 : 30 < m.length
      · have h2I : (30 : Int) < m.length := by omega
        simp (maxSteps := 1000000) (disch := omega) only [c12, lst_len hl, lst_len hm, h1, h1I, h2, h2I, Bool.true_or, Bool.false_or, go_sem, Option.map_none, Option.map_some, ↓reduceIte, Nat.reduceBEq, Nat.reduceAdd, Nat.reduceSub, Nat.reduceEqDiff, Nat.reduceLeDiff, Nat.reduceMul, Nat.reduceLT, Int.reduceLT, Int.reduceLE, Int.reduceAdd, Int.reduceSub, Int.reduceMul, Int.reduceNeg, Int.reduceEq, Int.reduceNe, Int.reduceToNat, decide_true, decide_false, iaddr_i, iaddr_sl_i, not_true_eq_false, not_false_eq_true, reduceCtorEq, ne_eq, forall_const, false_imp_iff, true_imp_iff, implies_true, Int.cast_ofNat_Int, Int.natCast_zero, Int.natCast_one, Int.add_zero, Int.zero_add]
        exact wkv_same
      have h2I : ¬ (30 : Int) < m.length := by omega
      have r1 : risS [s] S = some (.b (risF 0 l), S) := by simp only [risS, hl]; rw [if_pos (by omega)]
      have r2 : risS [t] S = some (.b (risF 0 m), S) := by simp only [risS, hm]; rw [if_pos (by omega)]
      cases hr1 : risF 0 l with
      | false =>
        rw [hr1] at r1
        simp (maxSteps := 1000000) (disch := omega) only [c12, lst_len hl, lst_len hm, h1, h1I, h2, h2I, Bool.true_or, Bool.false_or, orc_cons, r1, Bool.not_false, go_sem, Option.map_none, Option.map_some, ↓reduceIte, Nat.reduceBEq, Nat.reduceAdd, Nat.reduceSub, Nat.reduceEqDiff, Nat.reduceLeDiff, Nat.reduceMul, Nat.reduceLT, Int.reduceLT, Int.reduceLE, Int.reduceAdd, Int.reduceSub, Int.reduceMul, Int.reduceNeg, Int.reduceEq, Int.reduceNe, Int.reduceToNat, decide_true, decide_false, iaddr_i, iaddr_sl_i, not_true_eq_false, not_false_eq_true, reduceCtorEq, ne_eq, forall_const, false_imp_iff, true_imp_iff, implies_true, Int.cast_ofNat_Int, Int.natCast_zero, Int.natCast_one, Int.add_zero, Int.zero_add]
        exact wkv_same
      | true =>
        rw [hr1] at r1
        cases hr2 : risF 0 m with
        | false =>
          rw [hr2] at r2
          simp (maxSteps := 1000000) (disch := omega) only [c12, lst_len hl, lst_len hm, h1, h1I, h2, h2I, Bool.true_or, Bool.false_or, orc_cons, r1, r2, Bool.not_false, Bool.not_true, go_sem, Option.map_none, Option.map_some, ↓reduceIte, Nat.reduceBEq, Nat.reduceAdd, Nat.reduceSub, Nat.reduceEqDiff, Nat.reduceLeDiff, Nat.reduceMul, Nat.reduceLT, Int.reduceLT, Int.reduceLE, Int.reduceAdd, Int.reduceSub, Int.reduceMul, Int.reduceNeg, Int.reduceEq, Int.reduceNe, Int.reduceToNat, decide_true, decide_false, iaddr_i, iaddr_sl_i, not_true_eq_false, not_false_eq_true, reduceCtorEq, ne_eq, forall_const, false_imp_iff, true_imp_iff, implies_true, Int.cast_ofNat_Int, Int.natCast_zero, Int.natCast_one, Int.add_zero, Int.zero_add]
          exact wkv_same
        | true =>
          rw [hr2] at r2
          simp (maxSteps := 1000000) (disch := omega) only [c12, lst_len hl, lst_len hm, h1, h1I, h2, h2I, Bool.true_or, Bool.false_or, orc_cons, r1, r2, Bool.not_false, Bool.not_true, go_sem, Option.map_none, Option.map_some, ↓reduceIte, Nat.reduceBEq, Nat.reduceAdd, Nat.reduceSub, Nat.reduceEqDiff, Nat.reduceLeDiff, Nat.reduceMul, Nat.reduceLT, Int.reduceLT, Int.reduceLE, Int.reduceAdd, Int.reduceSub, Int.reduceMul, Int.reduceNeg, Int.reduceEq, Int.reduceNe, Int.reduceToNat, decide_true, decide_false, iaddr_i, iaddr_sl_i, not_true_eq_false, not_false_eq_true, reduceCtorEq, ne_eq, forall_const, false_imp_iff, true_imp_iff, implies_true, Int.cast_ofNat_Int, Int.natCast_zero, Int.natCast_one, Int.add_zero, Int.zero_add]
          exact wkv_same
    · cases h
  · cases h
end Go.Proofs.Ytcoljpgnjiakjaa

namespace Go.Proofs.Ytcoljpgnjiakjaa
open Go.RowKit
set_option linter.unusedSimpArgs false
set_option linter.unusedVariables false
set_option maxRecDepth 10000

inductive Ch where
  | drop (sub : Int)
  | put (p : Pol)
  deriving DecidableEq
def noPol : Pol := ⟨0, 0, 0, 0, 0, 0, 0, 0, 0, 0, 0, 0, 0⟩
/-- An op's cells. -/
def opC (kind sub : Int) (p : Pol) : List AV := [.i .i64 kind, .i .i64 sub, .i .i64 0, .i .u64 0, .sn, .i .i64 p.sub, .i .u8 p.a, .i .u8 p.b, .i .u8 p.c, .i .u8 p.d, .i .i64 p.bits, .i .u64 p.rate, .i .u64 p.burst, .i .u64 p.srate, .i .u64 p.sburst, .i .u64 p.quota, .i .u64 p.lease, .i .u64 p.quantum, .sn]
def Ch.enc : Ch → List AV
  | .drop s => opC 5 s noPol
  | .put p => opC 4 0 p
def chg : List Pol → List Pol → List Ch
  | [], [] => []
  | [], q :: b => .put q :: chg [] b
  | p :: a, [] => .drop p.sub :: chg a []
  | p :: a, q :: b => if p.sub < q.sub then .drop p.sub :: chg a (q :: b) else if q.sub < p.sub then .put q :: chg (p :: a) b else if p = q then chg a b else .put q :: chg a b
termination_by a b => a.length + b.length
theorem chg_drop {p : Pol} {a b : List Pol} (h : b = [] ∨ ∃ q b', b = q :: b' ∧ p.sub < q.sub) : chg (p :: a) b = .drop p.sub :: chg a b := by
  rcases h with rfl | ⟨q, b', rfl, h⟩
  · rw [chg]
  · rw [chg, if_pos h]
theorem chg_put {q : Pol} {a b : List Pol} (h : a = [] ∨ ∃ p a', a = p :: a' ∧ q.sub < p.sub) : chg a (q :: b) = .put q :: chg a b := by
  rcases h with rfl | ⟨p, a', rfl, h⟩
  · rw [chg]
  · rw [chg, if_neg (by omega), if_pos h]
theorem chg_same {p q : Pol} {a b : List Pol} (h : p.sub = q.sub) : chg (p :: a) (q :: b) = if p = q then chg a b else .put q :: chg a b := by
  rw [chg, if_neg (by omega), if_neg (by omega)]
theorem chg_nil : chg [] [] = [] := by rw [chg]

theorem iter_ok {i i1 i2 : Nat} {xa xb : AV} {a b : List Pol} {J : Nat → Mem → Prop} (hJg : ∀ k M L, J k M → J k (M ++ L))
    (hJ1 : ∀ k M, J k M → M[i1]? = some (.cells [xa] 0 none true) ∧ M[i2]? = some (.cells [xb] 0 none true) ∧ lstV polE M xa = some a ∧ lstV polE M xb = some b)
    (hround : ∀ k (hk : k < (chg a b).length) M, J k M → ∃ M', RdOK Try.prog i [.ag ((chg a b)[k]).enc] M (.b true) M' ∧ J (k + 1) M') (ha : a.length ≤ 900000) (hb : b.length ≤ 900000) {M0 : Mem} (h0 : J 0 M0) :
    FnR Try.prog 30 [.y i, .p i1 0 0, .p i2 0 0] M0 (fun v M' => J (chg a b).length M') := by
  refine fnR_of_wp f30 rfl (W_sound none_ok mixed _ _ _ _ _ ?_)
  simp (maxSteps := 1000000) (disch := omega) only [c30, go_sem, Option.map_none, Option.map_some, ↓reduceIte, Nat.reduceBEq, Nat.reduceAdd, Nat.reduceSub, Nat.reduceEqDiff, Nat.reduceLeDiff, Nat.reduceMul, Nat.reduceLT, Int.reduceLT, Int.reduceLE, Int.reduceAdd, Int.reduceSub, Int.reduceMul, Int.reduceNeg, Int.reduceEq, Int.reduceNe, Int.reduceToNat, decide_true, decide_false, iaddr_i, iaddr_sl_i, not_true_eq_false, not_false_eq_true, reduceCtorEq, ne_eq, forall_const, false_imp_iff, true_imp_iff, implies_true, Int.cast_ofNat_Int, Int.natCast_zero, Int.natCast_one, Int.add_zero, Int.zero_add]
  refine wp_loop (fun j e M dl => dl = [] ∧ ∃ (k ia ib : Nat), j = (a.length - ia) + (b.length - ib) ∧ ia ≤ a.length ∧ ib ≤ b.length ∧ J k M ∧ k ≤ (chg a b).length ∧ (chg a b).drop k = chg (a.drop ia) (b.drop ib) ∧
    e.get 0 = .y i ∧ e.get 1 = .p i1 0 0 ∧ e.get 5 = .i .i64 ib ∧ e.get 2 = .p i2 0 0 ∧ e.get 4 = .i .i64 ia) (j := a.length + b.length) ?_ ?_
  · exact ⟨rfl, 0, 0, 0, by omega, Nat.zero_le _, Nat.zero_le _, h0, Nat.zero_le _, rfl, rfl, rfl, rfl, rfl, rfl⟩
  rintro j e M d' ⟨rfl, k, ia, ib, rfl, hia, hib, hJ, hk, hd, e0, e1, e5, e2, e4⟩
  obtain ⟨m1, m2, hla, hlb⟩ := hJ1 _ _ hJ
  have hlA := lst_len hla
  have hlB := lst_len hlb
  have m1o := fun L => at_old (L := L) m1
  have m2o := fun L => at_old (L := L) m2
  have hia6 : ia < 1000000 := by omega
  have hib6 : ib < 1000000 := by omega
  have step : ∀ {c : Ch} {r : List Ch}, (chg a b).drop k = c :: r → ∃ hk : k < (chg a b).length, (chg a b)[k] = c ∧ (chg a b).drop (k + 1) = r := fun {c r} h => by
    have hlt : k < (chg a b).length := by
      have := congrArg List.length h
      rw [List.length_drop, List.length_cons] at this; omega
    rw [List.drop_eq_getElem_cons hlt] at h
    injection h with h1 h2
    exact ⟨hlt, h1, h2⟩
  by_cases hA : ia < a.length
  · have hAI : (ia : Int) < a.length := by omega
    obtain ⟨bi, o, v, cap, ex, rfl⟩ := lst_sl hla hA
    have hra := fun L => lstV_row hla hA L
    have hra : ∀ L, rowB ((M ++ L)[bi]?) (o + ia * 13) v 13 = some (a[ia]).enc := hra
    have hfa := fun L => lstV_field hla hA (f := 0) (x := .i .i64 a[ia].sub) rfl L
    have hfa : ∀ L, cellB ((M ++ L)[bi]?) (o + ia * 13) v = some (.i .i64 a[ia].sub) := hfa
    have hda : a.drop ia = a[ia] :: a.drop (ia + 1) := List.drop_eq_getElem_cons hA
    rw [hda] at hd
    generalize a[ia] = p at hra hfa hd hda
    by_cases hB : ib < b.length
    · have hBI : (ib : Int) < b.length := by omega
      have hBn : ¬ (ib : Int) ≥ b.length := by omega
      have hAn : ¬ (ia : Int) ≥ a.length := by omega
      obtain ⟨bj, o2, v2, cap2, ex2, rfl⟩ := lst_sl hlb hB
      have hrb := fun L => lstV_row hlb hB L
      have hrb : ∀ L, rowB ((M ++ L)[bj]?) (o2 + ib * 13) v2 13 = some (b[ib]).enc := hrb
      have hfb := fun L => lstV_field hlb hB (f := 0) (x := .i .i64 b[ib].sub) rfl L
      have hfb : ∀ L, cellB ((M ++ L)[bj]?) (o2 + ib * 13) v2 = some (.i .i64 b[ib].sub) := hfb
      have hdb : b.drop ib = b[ib] :: b.drop (ib + 1) := List.drop_eq_getElem_cons hB
      rw [hdb] at hd
      generalize b[ib] = q at hrb hfb hd hdb
      by_cases h1 : p.sub < q.sub
      · rw [chg_drop (.inr ⟨_, _, rfl, h1⟩), ← hdb] at hd
        obtain ⟨hlt, hc, hd2⟩ := step hd
        obtain ⟨M', hrd, hJ'⟩ := hround k hlt (M ++ [.cells (Ch.drop p.sub).enc 0 none true]) (hJg _ _ _ hJ)
        rw [hc] at hrd
        simp only [Ch.enc, opC, noPol] at hrd
        refine W_sound (orcY_ok (l := []) (by simp) hrd) mixed _ _ _ _ _ ?_
        simp (maxSteps := 1000000) (disch := omega) only [c30l3, e0, e1, e5, e2, e4, m1, m2, m1o, m2o, hlA, hlB, hAI, hBI, hBn, hAn, Int.toNat_natCast, hfa, hfb, Nat.add_zero, h1, List.replicate, wrapS hia6, orcY_y, go_sem, Option.map_none, Option.map_some, ↓reduceIte, Nat.reduceBEq, Nat.reduceAdd, Nat.reduceSub, Nat.reduceEqDiff, Nat.reduceLeDiff, Nat.reduceMul, Nat.reduceLT, Int.reduceLT, Int.reduceLE, Int.reduceAdd, Int.reduceSub, Int.reduceMul, Int.reduceNeg, Int.reduceEq, Int.reduceNe, Int.reduceToNat, decide_true, decide_false, iaddr_i, iaddr_sl_i, not_true_eq_false, not_false_eq_true, reduceCtorEq, ne_eq, forall_const, false_imp_iff, true_imp_iff, implies_true, Int.cast_ofNat_Int, Int.natCast_zero, Int.natCast_one, Int.add_zero, Int.zero_add]
        exact ⟨(a.length - (ia + 1)) + (b.length - ib), by omega, k + 1, ia + 1, ib, rfl, hA, hib, hJ', hlt, hd2, rfl, rfl⟩
      · by_cases h2 : q.sub < p.sub
        · rw [chg_put (.inr ⟨_, _, rfl, h2⟩), ← hda] at hd
          obtain ⟨hlt, hc, hd2⟩ := step hd
          obtain ⟨M', hrd, hJ'⟩ := hround k hlt (M ++ [.cells (Ch.put q).enc 0 none true]) (hJg _ _ _ hJ)
          rw [hc] at hrd
          simp only [Ch.enc, opC] at hrd
          simp only [Pol.enc] at hrb
          refine W_sound (orcY_ok (l := []) (by simp) hrd) mixed _ _ _ _ _ ?_
          simp (maxSteps := 1000000) (disch := omega) only [c30l3, e0, e1, e5, e2, e4, m1, m2, m1o, m2o, hlA, hlB, hAI, hBI, hBn, hAn, Int.toNat_natCast, Nat.add_zero, List.replicate, wrapS hia6, wrapS hib6, hfa, hfb, hrb, h1, h2, orcY_y, go_sem, Option.map_none, Option.map_some, ↓reduceIte, Nat.reduceBEq, Nat.reduceAdd, Nat.reduceSub, Nat.reduceEqDiff, Nat.reduceLeDiff, Nat.reduceMul, Nat.reduceLT, Int.reduceLT, Int.reduceLE, Int.reduceAdd, Int.reduceSub, Int.reduceMul, Int.reduceNeg, Int.reduceEq, Int.reduceNe, Int.reduceToNat, decide_true, decide_false, iaddr_i, iaddr_sl_i, not_true_eq_false, not_false_eq_true, reduceCtorEq, ne_eq, forall_const, false_imp_iff, true_imp_iff, implies_true, Int.cast_ofNat_Int, Int.natCast_zero, Int.natCast_one, Int.add_zero, Int.zero_add]
          exact ⟨(a.length - ia) + (b.length - (ib + 1)), by omega, k + 1, ia, ib + 1, rfl, hia, hB, hJ', hlt, hd2, rfl, rfl⟩
        · have heq : p.sub = q.sub := by omega
          rw [chg_same heq] at hd
          by_cases hpq : p = q
          · rw [if_pos hpq] at hd
            have hqq : eqAgV false [.int, .int, .int, .int, .int, .int, .int, .int, .int, .int, .int, .int, .int] (.ag p.enc) (.ag q.enc) = some (.b true) := by
              have := eq_pol (a := p) (b := q)
              rw [decide_eq_true hpq] at this; exact this
            refine W_sound none_ok mixed _ _ _ _ _ ?_
            simp (maxSteps := 1000000) (disch := omega) only [c30l3, e0, e1, e5, e2, e4, m1, m2, m1o, m2o, hlA, hlB, hAI, hBI, hBn, hAn, Int.toNat_natCast, Nat.add_zero, List.replicate, wrapS hia6, wrapS hib6, hfa, hfb, hra, hrb, h1, h2, hqq, go_sem, Option.map_none, Option.map_some, ↓reduceIte, Nat.reduceBEq, Nat.reduceAdd, Nat.reduceSub, Nat.reduceEqDiff, Nat.reduceLeDiff, Nat.reduceMul, Nat.reduceLT, Int.reduceLT, Int.reduceLE, Int.reduceAdd, Int.reduceSub, Int.reduceMul, Int.reduceNeg, Int.reduceEq, Int.reduceNe, Int.reduceToNat, decide_true, decide_false, iaddr_i, iaddr_sl_i, not_true_eq_false, not_false_eq_true, reduceCtorEq, ne_eq, forall_const, false_imp_iff, true_imp_iff, implies_true, Int.cast_ofNat_Int, Int.natCast_zero, Int.natCast_one, Int.add_zero, Int.zero_add]
            exact ⟨(a.length - (ia + 1)) + (b.length - (ib + 1)), by omega, k, ia + 1, ib + 1, rfl, hA, hB, hJg _ _ _ hJ, hk, hd, rfl, rfl⟩
          · rw [if_neg hpq] at hd
            have hqq : eqAgV false [.int, .int, .int, .int, .int, .int, .int, .int, .int, .int, .int, .int, .int] (.ag p.enc) (.ag q.enc) = some (.b false) := by
              have := eq_pol (a := p) (b := q)
              rw [decide_eq_false hpq] at this; exact this
            obtain ⟨hlt, hc, hd2⟩ := step hd
            obtain ⟨M', hrd, hJ'⟩ := hround k hlt (M ++ [.cells (Ch.put q).enc 0 none true]) (hJg _ _ _ hJ)
            rw [hc] at hrd
            simp only [Ch.enc, opC] at hrd
            refine W_sound (orcY_ok (l := []) (by simp) hrd) mixed _ _ _ _ _ ?_
            simp (maxSteps := 1000000) (disch := omega) only [c30l3, e0, e1, e5, e2, e4, m1, m2, m1o, m2o, hlA, hlB, hAI, hBI, hBn, hAn, Int.toNat_natCast, Nat.add_zero, List.replicate, wrapS hia6, wrapS hib6, hfa, hfb, hra, hrb, h1, h2, hqq, orcY_y, go_sem, Option.map_none, Option.map_some, ↓reduceIte, Nat.reduceBEq, Nat.reduceAdd, Nat.reduceSub, Nat.reduceEqDiff, Nat.reduceLeDiff, Nat.reduceMul, Nat.reduceLT, Int.reduceLT, Int.reduceLE, Int.reduceAdd, Int.reduceSub, Int.reduceMul, Int.reduceNeg, Int.reduceEq, Int.reduceNe, Int.reduceToNat, decide_true, decide_false, iaddr_i, iaddr_sl_i, not_true_eq_false, not_false_eq_true, reduceCtorEq, ne_eq, forall_const, false_imp_iff, true_imp_iff, implies_true, Int.cast_ofNat_Int, Int.natCast_zero, Int.natCast_one, Int.add_zero, Int.zero_add]
            simp only [Pol.enc]
            simp (maxSteps := 1000000) (disch := omega) only [orcY_y, wrapS hia6, wrapS hib6, go_sem, Option.map_none, Option.map_some, ↓reduceIte, Nat.reduceBEq, Nat.reduceAdd, Nat.reduceSub, Nat.reduceEqDiff, Nat.reduceLeDiff, Nat.reduceMul, Nat.reduceLT, Int.reduceLT, Int.reduceLE, Int.reduceAdd, Int.reduceSub, Int.reduceMul, Int.reduceNeg, Int.reduceEq, Int.reduceNe, Int.reduceToNat, decide_true, decide_false, iaddr_i, iaddr_sl_i, not_true_eq_false, not_false_eq_true, reduceCtorEq, ne_eq, forall_const, false_imp_iff, true_imp_iff, implies_true, Int.cast_ofNat_Int, Int.natCast_zero, Int.natCast_one, Int.add_zero, Int.zero_add]
            exact ⟨(a.length - (ia + 1)) + (b.length - (ib + 1)), by omega, k + 1, ia + 1, ib + 1, rfl, hA, hB, hJ', hlt, hd2, rfl, rfl⟩
    · have hBn : (ib : Int) ≥ b.length := by omega
      have hBI : ¬ (ib : Int) < b.length := by omega
      have hAn : ¬ (ia : Int) ≥ a.length := by omega
      have hbe : b.drop ib = [] := List.drop_of_length_le (by omega)
      rw [hbe, chg_drop (.inl rfl), ← hbe] at hd
      obtain ⟨hlt, hc, hd2⟩ := step hd
      obtain ⟨M', hrd, hJ'⟩ := hround k hlt (M ++ [.cells (Ch.drop p.sub).enc 0 none true]) (hJg _ _ _ hJ)
      rw [hc] at hrd
      simp only [Ch.enc, opC, noPol] at hrd
      refine W_sound (orcY_ok (l := []) (by simp) hrd) mixed _ _ _ _ _ ?_
      simp (maxSteps := 1000000) (disch := omega) only [c30l3, e0, e1, e5, e2, e4, m1, m2, m1o, m2o, hlA, hlB, hAI, hBI, hBn, hAn, Int.toNat_natCast, Nat.add_zero, List.replicate, wrapS hia6, hfa, orcY_y, go_sem, Option.map_none, Option.map_some, ↓reduceIte, Nat.reduceBEq, Nat.reduceAdd, Nat.reduceSub, Nat.reduceEqDiff, Nat.reduceLeDiff, Nat.reduceMul, Nat.reduceLT, Int.reduceLT, Int.reduceLE, Int.reduceAdd, Int.reduceSub, Int.reduceMul, Int.reduceNeg, Int.reduceEq, Int.reduceNe, Int.reduceToNat, decide_true, decide_false, iaddr_i, iaddr_sl_i, not_true_eq_false, not_false_eq_true, reduceCtorEq, ne_eq, forall_const, false_imp_iff, true_imp_iff, implies_true, Int.cast_ofNat_Int, Int.natCast_zero, Int.natCast_one, Int.add_zero, Int.zero_add]
      exact ⟨(a.length - (ia + 1)) + (b.length - ib), by omega, k + 1, ia + 1, ib, rfl, hA, hib, hJ', hlt, hd2, rfl, rfl⟩
  · have hAn : (ia : Int) ≥ a.length := by omega
    have hAI : ¬ (ia : Int) < a.length := by omega
    have hae : a.drop ia = [] := List.drop_of_length_le (by omega)
    by_cases hB : ib < b.length
    · have hBI : (ib : Int) < b.length := by omega
      have hBn : ¬ (ib : Int) ≥ b.length := by omega
      obtain ⟨bj, o2, v2, cap2, ex2, rfl⟩ := lst_sl hlb hB
      have hrb := fun L => lstV_row hlb hB L
      have hrb : ∀ L, rowB ((M ++ L)[bj]?) (o2 + ib * 13) v2 13 = some (b[ib]).enc := hrb
      have hdb : b.drop ib = b[ib] :: b.drop (ib + 1) := List.drop_eq_getElem_cons hB
      rw [hdb] at hd
      generalize b[ib] = q at hrb hd hdb
      rw [hae, chg_put (.inl rfl), ← hae] at hd
      obtain ⟨hlt, hc, hd2⟩ := step hd
      obtain ⟨M', hrd, hJ'⟩ := hround k hlt (M ++ [.cells (Ch.put q).enc 0 none true]) (hJg _ _ _ hJ)
      rw [hc] at hrd
      simp only [Ch.enc, opC] at hrd
      simp only [Pol.enc] at hrb
      refine W_sound (orcY_ok (l := []) (by simp) hrd) mixed _ _ _ _ _ ?_
      simp (maxSteps := 1000000) (disch := omega) only [c30l3, e0, e1, e5, e2, e4, m1, m2, m1o, m2o, hlA, hlB, hAI, hBI, hBn, hAn, Int.toNat_natCast, Nat.add_zero, List.replicate, wrapS hib6, hrb, orcY_y, go_sem, Option.map_none, Option.map_some, ↓reduceIte, Nat.reduceBEq, Nat.reduceAdd, Nat.reduceSub, Nat.reduceEqDiff, Nat.reduceLeDiff, Nat.reduceMul, Nat.reduceLT, Int.reduceLT, Int.reduceLE, Int.reduceAdd, Int.reduceSub, Int.reduceMul, Int.reduceNeg, Int.reduceEq, Int.reduceNe, Int.reduceToNat, decide_true, decide_false, iaddr_i, iaddr_sl_i, not_true_eq_false, not_false_eq_true, reduceCtorEq, ne_eq, forall_const, false_imp_iff, true_imp_iff, implies_true, Int.cast_ofNat_Int, Int.natCast_zero, Int.natCast_one, Int.add_zero, Int.zero_add]
      exact ⟨(a.length - ia) + (b.length - (ib + 1)), by omega, k + 1, ia, ib + 1, rfl, hia, hB, hJ', hlt, hd2, rfl, rfl⟩
    · have hBn : (ib : Int) ≥ b.length := by omega
      have hBI : ¬ (ib : Int) < b.length := by omega
      rw [hae, List.drop_of_length_le (by omega : b.length ≤ ib), chg_nil] at hd
      have hkl : k = (chg a b).length := by
        have := congrArg List.length hd
        rw [List.length_drop, List.length_nil] at this; omega
      refine W_sound none_ok mixed _ _ _ _ _ ?_
      simp (maxSteps := 1000000) (disch := omega) only [c30l3, e0, e1, e5, e2, e4, m1, m2, m1o, m2o, hlA, hlB, hAI, hBI, hBn, hAn, go_sem, Option.map_none, Option.map_some, ↓reduceIte, Nat.reduceBEq, Nat.reduceAdd, Nat.reduceSub, Nat.reduceEqDiff, Nat.reduceLeDiff, Nat.reduceMul, Nat.reduceLT, Int.reduceLT, Int.reduceLE, Int.reduceAdd, Int.reduceSub, Int.reduceMul, Int.reduceNeg, Int.reduceEq, Int.reduceNe, Int.reduceToNat, decide_true, decide_false, iaddr_i, iaddr_sl_i, not_true_eq_false, not_false_eq_true, reduceCtorEq, ne_eq, forall_const, false_imp_iff, true_imp_iff, implies_true, Int.cast_ofNat_Int, Int.natCast_zero, Int.natCast_one, Int.add_zero, Int.zero_add]
      rw [← hkl]; exact hJ
end Go.Proofs.Ytcoljpgnjiakjaa

namespace Go.Proofs.Ytcoljpgnjiakjaa
open Go.RowKit
set_option linter.unusedSimpArgs false
set_option linter.unusedVariables false
set_option maxRecDepth 10000

def changesS : Spec := fun args S => match args with
  | [x, y] => match lstV polE S x, lstV polE S y with
    | some _, some _ => some (.f (.func 30) [] [.p S.length 0 0, .p (S.length + 1) 0 0], S ++ [.cells [x] 0 none true, .cells [y] 0 none true])
    | _, _ => none
  | _ => none
theorem changes_ok : SpecOK Try.prog 17 changesS := by
  intro args S x S' h
  simp only [changesS] at h
  split at h
  · rename_i s t
    split at h
    · rename_i l m hl hm
      cases h
      refine fn_of_wp f17 rfl (W_sound none_ok mixed _ _ _ _ _ ?_)
      simp (maxSteps := 1000000) (disch := omega) only [c17, lst_cells hl, lst_cells hm, go_sem, Option.map_none, Option.map_some, ↓reduceIte, Nat.reduceBEq, Nat.reduceAdd, Nat.reduceSub, Nat.reduceEqDiff, Nat.reduceLeDiff, Nat.reduceMul, Nat.reduceLT, Int.reduceLT, Int.reduceLE, Int.reduceAdd, Int.reduceSub, Int.reduceMul, Int.reduceNeg, Int.reduceEq, Int.reduceNe, Int.reduceToNat, decide_true, decide_false, iaddr_i, iaddr_sl_i, not_true_eq_false, not_false_eq_true, reduceCtorEq, ne_eq, forall_const, false_imp_iff, true_imp_iff, implies_true, Int.cast_ofNat_Int, Int.natCast_zero, Int.natCast_one, Int.add_zero, Int.zero_add]
      exact wkv_same
    · cases h
  · cases h
theorem changes_eq {S : Mem} {x y : AV} {a b : List Pol} (ha : lstV polE S x = some a) (hb : lstV polE S y = some b) : changesS [x, y] S = some (.f (.func 30) [] [.p S.length 0 0, .p (S.length + 1) 0 0], S ++ [.cells [x] 0 none true, .cells [y] 0 none true]) := by
  simp only [changesS, ha, hb]

/-! ### Cost -/
def costPath : List Bool := [true, true, false, true, false]
structure Jc (S : Mem) (x y : AV) (env : Env) (k : Nat) (M : Mem) : Prop where
  hS : S <+: M
  hc : M[S.length]? = some (.cells [.i .i64 k] 0 none true)
  h1 : M[S.length + 1]? = some (.cells [x] 0 none true)
  h2 : M[S.length + 2]? = some (.cells [y] 0 none true)
  hd : M[S.length + 3]? = some (.dfr true)
  hl : M[S.length + 4]? = some (.loop 10 costPath env .ready none)
theorem Jc.grow {S : Mem} {x y : AV} {env : Env} {k : Nat} {M : Mem} (J : Jc S x y env k M) (L : Mem) : Jc S x y env k (M ++ L) :=
  ⟨ext_more J.hS L, at_old J.hc, at_old J.h1, at_old J.h2, at_old J.hd, at_old J.hl⟩
theorem cost_round {S : Mem} {x y : AV} {env : Env} {k : Nat} {M : Mem} (J : Jc S x y env k M) (e5 : env.get 5 = .p S.length 0 0) (hk : k < 1000000) (c : AV) : ∃ M', RdOK Try.prog (S.length + 4) [c] M (.b true) M' ∧ Jc S x y env (k + 1) M' := by
  obtain ⟨hS, hc, h1, h2, hd, hl⟩ := J
  obtain ⟨Mb, hMb⟩ : ∃ Mb, Mb = M.set (S.length + 4) (.loop 10 costPath env .busy none) := ⟨_, rfl⟩
  have st : ∀ {i : Nat} {B : Blk}, i ≠ S.length + 4 → M[i]? = some B → Mb[i]? = some B := fun hi hB => by rw [hMb, List.getElem?_set_ne (Ne.symm hi)]; exact hB
  have bc := st (by omega) hc
  have hlb : Mb[S.length + 4]? = some (.loop 10 costPath env .busy none) := by rw [hMb]; exact at_set hl
  refine ⟨(Mb.set S.length (.cells [.i .i64 ((k + 1 : Nat) : Int)] 0 none true)).set (S.length + 4) (.loop 10 costPath env .ready none), ?_, ?_⟩
  · refine round_of_wp hl f10 (List.mem_cons_self ..) rfl (W_sound none_ok mixed _ _ _ _ _ ?_)
    simp (maxSteps := 1000000) (disch := omega) only [c10ra0, bindE, go_sem, Option.map_none, Option.map_some, ↓reduceIte, Nat.reduceBEq, Nat.reduceAdd, Nat.reduceSub, Nat.reduceEqDiff, Nat.reduceLeDiff, Nat.reduceMul, Nat.reduceLT, Int.reduceLT, Int.reduceLE, Int.reduceAdd, Int.reduceSub, Int.reduceMul, Int.reduceNeg, Int.reduceEq, Int.reduceNe, Int.reduceToNat, decide_true, decide_false, iaddr_i, iaddr_sl_i, not_true_eq_false, not_false_eq_true, reduceCtorEq, ne_eq, forall_const, false_imp_iff, true_imp_iff, implies_true, Int.cast_ofNat_Int, Int.natCast_zero, Int.natCast_one, Int.add_zero, Int.zero_add]
    refine ⟨rfl, rfl, 10, costPath, env, none, hl, ?_⟩
    refine W_sound none_ok mixed _ _ _ _ _ ?_
    rw [← hMb]
    simp (maxSteps := 1000000) (disch := omega) only [c10rb0, e5, bc, wrapS hk, go_sem, Option.map_none, Option.map_some, ↓reduceIte, Nat.reduceBEq, Nat.reduceAdd, Nat.reduceSub, Nat.reduceEqDiff, Nat.reduceLeDiff, Nat.reduceMul, Nat.reduceLT, Int.reduceLT, Int.reduceLE, Int.reduceAdd, Int.reduceSub, Int.reduceMul, Int.reduceNeg, Int.reduceEq, Int.reduceNe, Int.reduceToNat, decide_true, decide_false, iaddr_i, iaddr_sl_i, not_true_eq_false, not_false_eq_true, reduceCtorEq, ne_eq, forall_const, false_imp_iff, true_imp_iff, implies_true, Int.cast_ofNat_Int, Int.natCast_zero, Int.natCast_one, Int.add_zero, Int.zero_add]
    exact ⟨10, costPath, env, .busy, none, by rw [List.getElem?_set_ne (by omega)]; exact hlb, wkv_same⟩
  · have st2 : ∀ {i : Nat} {B : Blk}, i ≠ S.length → i ≠ S.length + 4 → M[i]? = some B → ((Mb.set S.length (.cells [.i .i64 ((k + 1 : Nat) : Int)] 0 none true)).set (S.length + 4) (.loop 10 costPath env .ready none))[i]? = some B := fun h3 h4 hB => by
      rw [List.getElem?_set_ne (Ne.symm h4), List.getElem?_set_ne (Ne.symm h3)]; exact st h4 hB
    have hSb : S <+: Mb := by rw [hMb]; exact ext_set hS (by omega) _
    exact ⟨ext_set (ext_set hSb (Nat.le_refl _) _) (by omega) _, by rw [List.getElem?_set_ne (by omega)]; exact at_set bc, st2 (by omega) (by omega) h1, st2 (by omega) (by omega) h2, st2 (by omega) (by omega) hd,
      at_set (by rw [List.getElem?_set_ne (by omega)]; exact hlb)⟩
def costF (a b : List Pol) : Int := (chg a b).length
def costS : Spec := fun args S => match args with
  | [x, y] => match lstV polE S x, lstV polE S y with
    | some a, some b => if a.length ≤ 400000 ∧ b.length ≤ 400000 then some (.i .i64 (costF a b), S) else none
    | _, _ => none
  | _ => none
theorem chg_len : ∀ (a b : List Pol), (chg a b).length ≤ a.length + b.length
  | [], [] => by rw [chg]; simp
  | [], q :: b => by rw [chg]; have := chg_len [] b; simp only [List.length_cons, List.length_nil] at this ⊢; omega
  | p :: a, [] => by rw [chg]; have := chg_len a []; simp only [List.length_cons, List.length_nil] at this ⊢; omega
  | p :: a, q :: b => by
    rw [chg]
    have h1 := chg_len a (q :: b)
    have h2 := chg_len (p :: a) b
    have h3 := chg_len a b
    simp only [List.length_cons] at h1 h2 ⊢
    split
    · simp only [List.length_cons]; omega
    · split
      · simp only [List.length_cons]; omega
      · split
        · omega
        · simp only [List.length_cons]; omega
termination_by a b => a.length + b.length
theorem oCo_ok : OK Try.prog (lamOf Try.prog) (orcOf [(17, changesS)]) := orc_ok (by simpa using changes_ok)
theorem cost_ok : SpecOK Try.prog 10 costS := by
  intro args S x S' h
  simp only [costS] at h
  split at h
  · rename_i s t
    split at h
    · rename_i a b ha hb
      split at h
      · rename_i hlim
        cases h
        have hcl := chg_len a b
        refine fn_of_wp f10 rfl (W_sound oCo_ok mixed _ _ _ _ _ ?_)
        have hch := changes_eq (lstV_grow ha [.cells [.i .i64 0] 0 none true]) (lstV_grow hb [.cells [.i .i64 0] 0 none true])
        rw [List.length_append, List.append_assoc] at hch
        have hch : changesS [s, t] (S ++ [.cells [.i .i64 0] 0 none true]) = some (.f (.func 30) [] [.p (S.length + 1) 0 0, .p (S.length + 2) 0 0], S ++ [.cells [.i .i64 0] 0 none true, .cells [s] 0 none true, .cells [t] 0 none true]) := hch
        simp (maxSteps := 1000000) (disch := omega) only [c10, List.replicate, orc_cons, hch, go_sem, Option.map_none, Option.map_some, ↓reduceIte, Nat.reduceBEq, Nat.reduceAdd, Nat.reduceSub, Nat.reduceEqDiff, Nat.reduceLeDiff, Nat.reduceMul, Nat.reduceLT, Int.reduceLT, Int.reduceLE, Int.reduceAdd, Int.reduceSub, Int.reduceMul, Int.reduceNeg, Int.reduceEq, Int.reduceNe, Int.reduceToNat, decide_true, decide_false, iaddr_i, iaddr_sl_i, not_true_eq_false, not_false_eq_true, reduceCtorEq, ne_eq, forall_const, false_imp_iff, true_imp_iff, implies_true, Int.cast_ofNat_Int, Int.natCast_zero, Int.natCast_one, Int.add_zero, Int.zero_add]
        have hl3 : (S ++ [Blk.cells [.i .i64 0] 0 none true, .cells [s] 0 none true, .cells [t] 0 none true]).length = S.length + 3 := by simp
        have hrf : ∀ (e : Env) (keep : List Nat), (keepE e keep).get 5 = .p S.length 0 0 →
            FnR Try.prog 30 ([] ++ [.y ((S ++ [Blk.cells [.i .i64 0] 0 none true, .cells [s] 0 none true, .cells [t] 0 none true]).length + 1)] ++ [.p (S.length + 1) 0 0, .p (S.length + 2) 0 0])
              (S ++ [Blk.cells [.i .i64 0] 0 none true, .cells [s] 0 none true, .cells [t] 0 none true] ++ [.dfr true, .loop 10 costPath (keepE e keep) .ready none]) (fun v M' => Jc S s t (keepE e keep) (chg a b).length M') := by
          intro e keep g5
          rw [hl3, List.append_assoc S]
          refine iter_ok (J := fun k M => Jc S s t (keepE e keep) k M) (fun k M L J => J.grow L) (fun k M J => ⟨J.h1, J.h2, lst_ext ha J.hS, lst_ext hb J.hS⟩) (fun k hk M J => cost_round J g5 (by omega) _) (by omega) (by omega) ?_
          exact ⟨ext_app _, by rw [at_app0]; rfl, by rw [at_app]; rfl, by rw [at_app]; rfl, by rw [at_app]; rfl, by rw [at_app]; rfl⟩
        apply wp_rf rfl (hrf _ _ (by rfl))
        rw [hl3]
        intro y0 S2 J
        refine ⟨_, _, _, _, _, J.hl, by simp, ?_⟩
        obtain ⟨hS, hc, h1, h2, hd, hl⟩ := J
        obtain ⟨M3, hM3⟩ : ∃ M3, M3 = S2.set (S.length + 4) (.loop 10 costPath (keepE [(5, AV.p (List.length S) 0 0), (10, AV.u), (11, AV.u), (8, AV.f (Fn.func 30) [] [AV.p (List.length S + 1) 0 0, AV.p (List.length S + 2) 0 0])] [5, 10, 5, 11]) .exhausted none) := ⟨_, rfl⟩
        have f1 : M3[S.length]? = some (.cells [.i .i64 (chg a b).length] 0 none true) := by rw [hM3, List.getElem?_set_ne (by omega)]; exact hc
        have fd : M3[S.length + 3]? = some (.dfr true) := by rw [hM3, List.getElem?_set_ne (by omega)]; exact hd
        have fS : S <+: M3 := by rw [hM3]; exact ext_set hS (by omega) _
        rw [show S.length + 3 + 1 = S.length + 4 from rfl, ← hM3]
        simp (maxSteps := 1000000) (disch := omega) only [f1, ret_d fd, go_sem, Option.map_none, Option.map_some, ↓reduceIte, Nat.reduceBEq, Nat.reduceAdd, Nat.reduceSub, Nat.reduceEqDiff, Nat.reduceLeDiff, Nat.reduceMul, Nat.reduceLT, Int.reduceLT, Int.reduceLE, Int.reduceAdd, Int.reduceSub, Int.reduceMul, Int.reduceNeg, Int.reduceEq, Int.reduceNe, Int.reduceToNat, decide_true, decide_false, iaddr_i, iaddr_sl_i, not_true_eq_false, not_false_eq_true, reduceCtorEq, ne_eq, forall_const, false_imp_iff, true_imp_iff, implies_true, Int.cast_ofNat_Int, Int.natCast_zero, Int.natCast_one, Int.add_zero, Int.zero_add]
        exact wkv_dropP (ext_set fS (by omega) _) rfl
      · cases h
    · cases h
  · cases h
end Go.Proofs.Ytcoljpgnjiakjaa

namespace Go.Proofs.Ytcoljpgnjiakjaa
open Go.RowKit
set_option linter.unusedSimpArgs false
set_option linter.unusedVariables false

def pfind (l : List Pol) (id : Int) : Option Pol := l.find? (fun p => decide (p.sub = id))
theorem pfind_same (p : Pol) (l : List Pol) : pfind (p :: l) p.sub = some p := by simp [pfind]
theorem pfind_ne {p : Pol} {l : List Pol} {id : Int} (h : id ≠ p.sub) : pfind (p :: l) id = pfind l id := by
  have : decide (p.sub = id) = false := decide_eq_false fun q => h q.symm
  simp only [pfind, List.find?_cons, this]
theorem ris_cons {n : Int} {p : Pol} {l : List Pol} (h : risF n (p :: l) = true) : n < p.sub ∧ risF p.sub l = true := by
  simpa [risF] using h
theorem ris_gt {n : Int} : ∀ {l : List Pol}, risF n l = true → ∀ p ∈ l, n < p.sub
  | [], _, p, hp => by cases hp
  | a :: l, h, p, hp => by
    obtain ⟨h1, h2⟩ := ris_cons h
    rcases List.mem_cons.1 hp with rfl | hp
    · exact h1
    · have := ris_gt h2 p hp; omega
theorem pfind_none {n : Int} {l : List Pol} (h : risF n l = true) {id : Int} (hid : id ≤ n) : pfind l id = none := by
  unfold pfind
  rw [List.find?_eq_none]
  intro p hp
  have := ris_gt h p hp
  simp only [decide_eq_true_eq]; omega
end Go.Proofs.Ytcoljpgnjiakjaa

namespace Go.Proofs.Ytcoljpgnjiakjaa
open Go.RowKit
set_option linter.unusedSimpArgs false
set_option linter.unusedVariables false
set_option maxRecDepth 10000

structure Opv where
  kind : Int
  sub : Int
  pol : Pol
  deriving DecidableEq
def opE : Enc Opv where
  enc o := opC o.kind o.sub o.pol
  dec r := match r with
    | [.i .i64 k, .i .i64 s, .i .i64 0, .i .u64 0, .sn, .i .i64 sub, .i .u8 a, .i .u8 b, .i .u8 c, .i .u8 d, .i .i64 bits, .i .u64 rate, .i .u64 burst, .i .u64 srate, .i .u64 sburst, .i .u64 quota, .i .u64 lease, .i .u64 quantum, .sn] => some ⟨k, s, ⟨sub, a, b, c, d, bits, rate, burst, srate, sburst, quota, lease, quantum⟩⟩
    | _ => none
  sz := 19
  pos := by decide
  len _ := rfl
  de _ := rfl
  ed r a h := by
    split at h
    · injection h with h; subst h; rfl
    · cases h
theorem opE_one (a : Opv) : (opE.enc a).all AV.one = true := rfl
theorem opE_flat : ∀ (n : Nat) (a : Opv), ∀ c ∈ opE.enc a, AV.Flat n c := by
  intro n a
  have hsn : AV.Flat n .sn := fun g => rfl
  simp only [opE, opC, List.forall_mem_cons, List.not_mem_nil, false_imp_iff, implies_true, and_true, Flat_i, and_self, hsn]
def Ch.op : Ch → Opv
  | .drop s => ⟨5, s, noPol⟩
  | .put p => ⟨4, 0, p⟩
theorem Ch.enc_op (c : Ch) : c.enc = opE.enc c.op := by cases c <;> rfl
def opOf (k : Int) : Opv := ⟨k, 0, noPol⟩
def opsPath : List Bool := [true, true, false, true, false]
/-- The list that is built: a literal first, then a block of its own. -/
def Lb (S M : Mem) (y : AV) (l : List Opv) : Prop := (l = [opOf 3] ∧ y = .sl S.length 0 0 1 1 true ∧ M[S.length]? = some (.cells (opE.enc (opOf 3)) 0 none true) ∧ S <+: M) ∨ Acc false opE S M y l
theorem Lb.grow {S M : Mem} {y : AV} {l : List Opv} (h : Lb S M y l) (U : Mem) : Lb S (M ++ U) y l := by
  rcases h with ⟨h1, h2, h3, h4⟩ | h
  · exact .inl ⟨h1, h2, at_old h3, ext_more h4 U⟩
  · exact .inr (h.grow U)
theorem Lb.lst {S M : Mem} {y : AV} {l : List Opv} (h : Lb S M y l) : lstV opE M y = some l := by
  rcases h with ⟨rfl, rfl, h3, h4⟩ | h
  · refine lst_lstV (.inr (.inr ⟨_, _, _, _, _, _, rfl, rfl, ?_⟩))
    rw [rowAt_B, h3]; rfl
  · exact h.lst
theorem Lb.app {S M : Mem} {y : AV} {l : List Opv} (h : Lb S M y l) (a : Opv) (hn : l.length ≤ 1000000) :
    ∃ y' M', appV M 19 160 y (opE.enc a) 1 = some (y', M') ∧ Acc false opE S M' y' (l ++ [a]) ∧ ∀ (ib : Nat) (B : Blk), M[ib]? = some B → B.opn = none → M'[ib]? = some B := by
  rcases h with ⟨rfl, rfl, h3, ⟨T, rfl⟩⟩ | h
  · have hc : rowAt (S ++ T) S.length 0 0 (1 * 19) = some (opE.enc (opOf 3)) := by rw [rowAt_B, h3]; rfl
    refine ⟨.sl (S ++ T).length 0 0 2 2 false, (S ++ T) ++ [.cells (opE.enc (opOf 3) ++ opE.enc a) 0 (some 19) true], ?_, ⟨T ++ [.cells (opE.enc (opOf 3) ++ opE.enc a) 0 (some 19) true], by rw [List.append_assoc], .inr (.inr ⟨by simp, T.length, 0, by rw [List.length_append]; rfl, ?_⟩)⟩, fun ib B hB _ => at_old hB⟩
    · simp only [appV, hc]
      rw [if_neg (by omega), if_neg (by omega), if_pos ⟨by decide, by decide⟩, if_pos trivial]
    · rw [List.getElem?_append_right (by omega), Nat.sub_self]; rfl
  · obtain ⟨y', M', h1, h2, h3⟩ := h.app' (bytes := 160) opE_one a (by omega) (by omega)
    exact ⟨y', M', h1, h2, h3⟩
structure Jo (S : Mem) (x y : AV) (env : Env) (l : List Opv) (M : Mem) : Prop where
  hS : S <+: M
  h1 : M[S.length + 2]? = some (.cells [x] 0 none true)
  h2 : M[S.length + 3]? = some (.cells [y] 0 none true)
  hd : M[S.length + 4]? = some (.dfr true)
  hl : M[S.length + 5]? = some (.loop 9 opsPath env .ready none)
  hb : ∃ z, M[S.length + 1]? = some (.cells [z] 0 none true) ∧ Lb S M z l
theorem Jo.grow {S : Mem} {x y : AV} {env : Env} {l : List Opv} {M : Mem} (J : Jo S x y env l M) (L : Mem) : Jo S x y env l (M ++ L) := by
  obtain ⟨z, hz, hL⟩ := J.hb
  exact ⟨ext_more J.hS L, at_old J.h1, at_old J.h2, at_old J.hd, at_old J.hl, z, at_old hz, hL.grow L⟩
theorem Lb.set {S M : Mem} {y : AV} {l : List Opv} (h : Lb S M y l) {ib : Nat} (hi : S.length < ib) {B : Blk} (hB : M[ib]? = some B) (hn : B.opn = none) (B' : Blk) : Lb S (M.set ib B') y l := by
  rcases h with ⟨h1, h2, h3, h4⟩ | h
  · exact .inl ⟨h1, h2, by rw [List.getElem?_set_ne (by omega)]; exact h3, ext_set h4 (by omega) _⟩
  · exact .inr (h.setB (by omega) hB hn B')
theorem ops_round {S : Mem} {x y : AV} {env : Env} {l : List Opv} {M : Mem} (J : Jo S x y env l M) (e5 : env.get 5 = .p (S.length + 1) 0 0) (hn : l.length ≤ 1000000) (a : Opv) : ∃ M', RdOK Try.prog (S.length + 5) [.ag (opE.enc a)] M (.b true) M' ∧ Jo S x y env (l ++ [a]) M' := by
  obtain ⟨hS, h1, h2, hd, hl, z, hz, hL⟩ := J
  obtain ⟨Ma, hMa⟩ : ∃ Ma, Ma = M ++ [Blk.cells (opE.enc a) 0 none true] := ⟨_, rfl⟩
  have hla : Ma[S.length + 5]? = some (.loop 9 opsPath env .ready none) := by rw [hMa]; exact at_old hl
  obtain ⟨Mb, hMb⟩ : ∃ Mb, Mb = Ma.set (S.length + 5) (.loop 9 opsPath env .busy none) := ⟨_, rfl⟩
  have st : ∀ {i : Nat} {B : Blk}, i ≠ S.length + 5 → M[i]? = some B → Mb[i]? = some B := fun hi hB => by rw [hMb, List.getElem?_set_ne (Ne.symm hi), hMa]; exact at_old hB
  have bz := st (by omega) hz
  have hlb : Mb[S.length + 5]? = some (.loop 9 opsPath env .busy none) := by rw [hMb]; exact at_set hla
  have hM5 : S.length + 5 < M.length := (List.getElem?_eq_some_iff.1 hl).1
  have bop : Mb[M.length]? = some (.cells (opE.enc a) 0 none true) := by rw [hMb, List.getElem?_set_ne (by omega), hMa, at_app0]; rfl
  have hLb : Lb S Mb z l := by rw [hMb]; exact Lb.set (by rw [hMa]; exact hL.grow _) (by omega) hla rfl _
  obtain ⟨z', M', ha, hA, hkeep⟩ := (hLb.grow [.cells (opE.enc a) 0 none true]).app a hn
  have kz := hkeep _ _ (at_old bz) rfl
  have kl := hkeep _ _ (at_old hlb) rfl
  refine ⟨(M'.set (S.length + 1) (.cells [z'] 0 none true)).set (S.length + 5) (.loop 9 opsPath env .ready none), ?_, ?_⟩
  · refine round_of_wp hl f9 (List.mem_cons_self ..) rfl (W_sound none_ok mixed _ _ _ _ _ ?_)
    simp only [opE, opC] at hMa bop ha
    simp only [opE, opC]
    simp (maxSteps := 1000000) (disch := omega) only [c9ra0, bindE, List.replicate, go_sem, Option.map_none, Option.map_some, ↓reduceIte, Nat.reduceBEq, Nat.reduceAdd, Nat.reduceSub, Nat.reduceEqDiff, Nat.reduceLeDiff, Nat.reduceMul, Nat.reduceLT, Int.reduceLT, Int.reduceLE, Int.reduceAdd, Int.reduceSub, Int.reduceMul, Int.reduceNeg, Int.reduceEq, Int.reduceNe, Int.reduceToNat, decide_true, decide_false, iaddr_i, iaddr_sl_i, not_true_eq_false, not_false_eq_true, reduceCtorEq, ne_eq, forall_const, false_imp_iff, true_imp_iff, implies_true, Int.cast_ofNat_Int, Int.natCast_zero, Int.natCast_one, Int.add_zero, Int.zero_add]
    rw [← hMa]
    refine ⟨rfl, rfl, 9, opsPath, _, none, hla, ?_⟩
    refine W_sound none_ok mixed _ _ _ _ _ ?_
    rw [← hMb]
    simp (maxSteps := 1000000) (disch := omega) only [c9rb0, e5, bz, bop, ha, kz, lst_cells hA.lst, lst_one hA.lst, go_sem, Option.map_none, Option.map_some, ↓reduceIte, Nat.reduceBEq, Nat.reduceAdd, Nat.reduceSub, Nat.reduceEqDiff, Nat.reduceLeDiff, Nat.reduceMul, Nat.reduceLT, Int.reduceLT, Int.reduceLE, Int.reduceAdd, Int.reduceSub, Int.reduceMul, Int.reduceNeg, Int.reduceEq, Int.reduceNe, Int.reduceToNat, decide_true, decide_false, iaddr_i, iaddr_sl_i, not_true_eq_false, not_false_eq_true, reduceCtorEq, ne_eq, forall_const, false_imp_iff, true_imp_iff, implies_true, Int.cast_ofNat_Int, Int.natCast_zero, Int.natCast_one, Int.add_zero, Int.zero_add]
    exact ⟨9, opsPath, env, .busy, none, by rw [List.getElem?_set_ne (by omega)]; exact kl, wkv_same⟩
  · have n1 : ∀ {i : Nat} {B : Blk}, i ≠ S.length + 1 → i ≠ S.length + 5 → B.opn = none → M[i]? = some B → ((M'.set (S.length + 1) (.cells [z'] 0 none true)).set (S.length + 5) (.loop 9 opsPath env .ready none))[i]? = some B := fun h3 h4 ho hB => by
      rw [List.getElem?_set_ne (Ne.symm h4), List.getElem?_set_ne (Ne.symm h3)]
      exact hkeep _ _ (at_old (st h4 hB)) ho
    have hl2 : (M'.set (S.length + 1) (.cells [z'] 0 none true))[S.length + 5]? = some (.loop 9 opsPath env .busy none) := by rw [List.getElem?_set_ne (by omega)]; exact kl
    have hA2 := (hA.setB (by omega) kz rfl (.cells [z'] 0 none true)).setB (ib := S.length + 5) (by omega) hl2 rfl (.loop 9 opsPath env .ready none)
    exact ⟨hA2.ext, n1 (by omega) (by omega) rfl h1, n1 (by omega) (by omega) rfl h2, n1 (by omega) (by omega) rfl hd, at_set hl2, z', by rw [List.getElem?_set_ne (by omega)]; exact at_set kz, .inr hA2⟩
end Go.Proofs.Ytcoljpgnjiakjaa

namespace Go.Proofs.Ytcoljpgnjiakjaa
open Go.RowKit
set_option linter.unusedSimpArgs false
set_option linter.unusedVariables false
set_option maxRecDepth 10000

def wrapL (l : List Opv) : List Opv := if l = [] then [] else opOf 3 :: l ++ [opOf 6]
def opsL (a b : List Pol) : List Opv := wrapL ((chg a b).map Ch.op)
def opsS : Spec := fun args S => match args with
  | [x, y] => match lstV polE S x, lstV polE S y with
    | some a, some b => if a.length ≤ 400000 ∧ b.length ≤ 400000 then some (retX false S (opsL a b), retM false opE S (opsL a b)) else none
    | _, _ => none
  | _ => none
theorem ops_ok : SpecOK Try.prog 9 opsS := by
  intro args S x S' h
  simp only [opsS] at h
  split at h
  · rename_i s t
    split at h
    · rename_i a b ha hb
      split at h
      · rename_i hlim
        cases h
        have hcl := chg_len a b
        refine fn_of_wp f9 rfl (W_sound oCo_ok mixed _ _ _ _ _ ?_)
        obtain ⟨S2, hS2⟩ : ∃ S2, S2 = S ++ [Blk.cells (opE.enc (opOf 3)) 0 none true, .cells [.sl S.length 0 0 1 1 true] 0 none true] := ⟨_, rfl⟩
        have hS2l : S2.length = S.length + 2 := by rw [hS2]; simp
        have hS2e : S <+: S2 := by rw [hS2]; exact ext_app _
        have hch := changes_eq (lst_ext ha hS2e) (lst_ext hb hS2e)
        rw [hS2l, hS2, List.append_assoc] at hch
        simp only [opE, opC, opOf, noPol] at hch
        simp (maxSteps := 1000000) (disch := omega) only [c9, List.replicate, orc_cons, hch, go_sem, Option.map_none, Option.map_some, ↓reduceIte, Nat.reduceBEq, Nat.reduceAdd, Nat.reduceSub, Nat.reduceEqDiff, Nat.reduceLeDiff, Nat.reduceMul, Nat.reduceLT, Int.reduceLT, Int.reduceLE, Int.reduceAdd, Int.reduceSub, Int.reduceMul, Int.reduceNeg, Int.reduceEq, Int.reduceNe, Int.reduceToNat, decide_true, decide_false, iaddr_i, iaddr_sl_i, not_true_eq_false, not_false_eq_true, reduceCtorEq, ne_eq, forall_const, false_imp_iff, true_imp_iff, implies_true, Int.cast_ofNat_Int, Int.natCast_zero, Int.natCast_one, Int.add_zero, Int.zero_add]
        obtain ⟨S4, hS4⟩ : ∃ S4, S4 = S ++ [Blk.cells (opE.enc (opOf 3)) 0 none true, .cells [.sl S.length 0 0 1 1 true] 0 none true, .cells [s] 0 none true, .cells [t] 0 none true] := ⟨_, rfl⟩
        have hl4 : S4.length = S.length + 4 := by rw [hS4]; simp
        have hrf : ∀ (e : Env) (keep : List Nat), (keepE e keep).get 5 = .p (S.length + 1) 0 0 →
            FnR Try.prog 30 ([] ++ [.y (S4.length + 1)] ++ [.p (S.length + 2) 0 0, .p (S.length + 3) 0 0])
              (S4 ++ [.dfr true, .loop 9 opsPath (keepE e keep) .ready none]) (fun v M' => Jo S s t (keepE e keep) (opOf 3 :: (chg a b).map Ch.op) M') := by
          intro e keep g5
          rw [hl4, hS4, List.append_assoc S]
          have h0 := iter_ok (i := S.length + 5) (i1 := S.length + 2) (i2 := S.length + 3) (xa := s) (xb := t) (a := a) (b := b) (J := fun k M => Jo S s t (keepE e keep) (opOf 3 :: ((chg a b).take k).map Ch.op) M) (fun k M L J => J.grow L) (fun k M J => ⟨J.h1, J.h2, lst_ext ha J.hS, lst_ext hb J.hS⟩) (fun k hk M J => by
              obtain ⟨M', h1, h2⟩ := ops_round J g5 (by rw [List.length_cons, List.length_map, List.length_take]; omega) (chg a b)[k].op
              refine ⟨M', by rw [Ch.enc_op]; exact h1, ?_⟩
              rw [List.take_succ_eq_append_getElem hk, List.map_append]
              exact h2) (by omega) (by omega) (M0 := S ++ ([Blk.cells (opE.enc (opOf 3)) 0 none true, .cells [.sl S.length 0 0 1 1 true] 0 none true, .cells [s] 0 none true, .cells [t] 0 none true] ++ [.dfr true, .loop 9 opsPath (keepE e keep) .ready none]))
              ⟨ext_app _, by rw [at_app]; rfl, by rw [at_app]; rfl, by rw [at_app]; rfl, by rw [at_app]; rfl, .sl S.length 0 0 1 1 true, by rw [at_app]; rfl, .inl ⟨rfl, rfl, by rw [at_app0]; rfl, ext_app _⟩⟩
          rw [List.take_length] at h0
          exact h0
        simp only [opE, opC, opOf, noPol] at hS4
        rw [← hS4]
        apply wp_rf rfl (hrf _ _ (by rfl))
        rw [hl4]
        intro y0 S5 J
        refine ⟨_, _, _, _, _, J.hl, by simp, ?_⟩
        rw [show S.length + 4 + 1 = S.length + 5 from rfl]
        obtain ⟨hS, h1, h2, hd, hl, z, hz, hL⟩ := J
        generalize hMe : S5.set (S.length + 5) _ = M3
        have f1 : M3[S.length + 1]? = some (.cells [z] 0 none true) := by rw [← hMe, List.getElem?_set_ne (by omega)]; exact hz
        have fd : M3[S.length + 4]? = some (.dfr true) := by rw [← hMe, List.getElem?_set_ne (by omega)]; exact hd
        have fL : Lb S M3 z (opOf 3 :: (chg a b).map Ch.op) := by rw [← hMe]; exact hL.set (by omega) hl rfl _
        have fS : S <+: M3 := by rw [← hMe]; exact ext_set hS (by omega) _
        have hlz := lst_len fL.lst
        simp only [List.length_cons, List.length_map] at hlz
        by_cases hc0 : chg a b = []
        · have hn : opsL a b = [] := by unfold opsL wrapL; rw [hc0]; rfl
          rw [hn]
          rw [hc0] at hlz
          simp only [List.length_nil] at hlz
          simp (maxSteps := 1000000) (disch := omega) only [f1, hlz, ret_d fd, go_sem, Option.map_none, Option.map_some, ↓reduceIte, Nat.reduceBEq, Nat.reduceAdd, Nat.reduceSub, Nat.reduceEqDiff, Nat.reduceLeDiff, Nat.reduceMul, Nat.reduceLT, Int.reduceLT, Int.reduceLE, Int.reduceAdd, Int.reduceSub, Int.reduceMul, Int.reduceNeg, Int.reduceEq, Int.reduceNe, Int.reduceToNat, decide_true, decide_false, iaddr_i, iaddr_sl_i, not_true_eq_false, not_false_eq_true, reduceCtorEq, ne_eq, forall_const, false_imp_iff, true_imp_iff, implies_true, Int.cast_ofNat_Int, Int.natCast_zero, Int.natCast_one, Int.add_zero, Int.zero_add]
          exact wkv_dropP (ext_set fS (by omega) _) rfl
        · have hn1 : ¬ (((chg a b).length + 1 : Nat) : Int) = 1 := by
            have := List.length_pos_iff.2 hc0; omega
          obtain ⟨z', M', hap, hA, hkeep⟩ := (fL.grow [.cells (opE.enc (opOf 6)) 0 none true]).app (opOf 6) (by rw [List.length_cons, List.length_map]; omega)
          have kd := hkeep _ _ (at_old fd) rfl
          simp only [opE, opC, opOf, noPol] at hap
          simp (maxSteps := 1000000) (disch := omega) only [f1, hlz, hn1, hap, ret_d kd, go_sem, Option.map_none, Option.map_some, ↓reduceIte, Nat.reduceBEq, Nat.reduceAdd, Nat.reduceSub, Nat.reduceEqDiff, Nat.reduceLeDiff, Nat.reduceMul, Nat.reduceLT, Int.reduceLT, Int.reduceLE, Int.reduceAdd, Int.reduceSub, Int.reduceMul, Int.reduceNeg, Int.reduceEq, Int.reduceNe, Int.reduceToNat, decide_true, decide_false, iaddr_i, iaddr_sl_i, not_true_eq_false, not_false_eq_true, reduceCtorEq, ne_eq, forall_const, false_imp_iff, true_imp_iff, implies_true, Int.cast_ofNat_Int, Int.natCast_zero, Int.natCast_one, Int.add_zero, Int.zero_add]
          have hn : opsL a b = opOf 3 :: (chg a b).map Ch.op ++ [opOf 6] := by
            unfold opsL wrapL; rw [if_neg (by simpa using hc0)]
          rw [hn]
          exact (hA.setB (by omega) kd rfl _).ret opE_flat
      · cases h
    · cases h
  · cases h
end Go.Proofs.Ytcoljpgnjiakjaa

namespace Go.Proofs.Ytcoljpgnjiakjaa
open Go.RowKit
set_option linter.unusedSimpArgs false
set_option linter.unusedVariables false
set_option maxRecDepth 10000

def foundPV (o : Option Pol) : AV := match o with
  | some a => .tu [.ag (polE.enc a), .b true]
  | none => .tu [.ag (polE.enc noPol), .b false]
def findS : Spec := fun args S => match args with
  | [x, .i .i64 n] => match lstV polE S x with
    | some l => if l.length ≤ 900000 then some (foundPV (pfind l n), S) else none
    | none => none
  | _ => none
theorem find_eq {S : Mem} {x : AV} {l : List Pol} (hl : lstV polE S x = some l) (n : Int) (hn : l.length ≤ 900000) : findS [x, .i .i64 n] S = some (foundPV (pfind l n), S) := by
  simp only [findS, hl, if_pos hn]
theorem pfind_at {l : List Pol} {n : Int} {k : Nat} (hk : k < l.length) (h : l[k].sub = n) (hb : ∀ i (hi : i < k) (hl : i < l.length), l[i].sub ≠ n) : pfind l n = some l[k] := by
  unfold pfind
  rw [List.find?_eq_some_iff_getElem]
  exact ⟨by simpa using h, k, hk, rfl, fun j hj => by simpa using hb j hj (by omega)⟩
theorem ffind_ok : SpecOK Try.prog 28 findS := by
  intro args S x S' h
  simp only [findS] at h
  split at h
  · rename_i s n
    split at h
    · rename_i l hl
      split at h
      · rename_i hf
        cases h
        refine fn_of_wp f28 rfl (W_sound none_ok mixed _ _ _ _ _ ?_)
        simp (maxSteps := 1000000) (disch := omega) only [c28, lst_len hl, List.replicate, go_sem, Option.map_none, Option.map_some, ↓reduceIte, Nat.reduceBEq, Nat.reduceAdd, Nat.reduceSub, Nat.reduceEqDiff, Nat.reduceLeDiff, Nat.reduceMul, Nat.reduceLT, Int.reduceLT, Int.reduceLE, Int.reduceAdd, Int.reduceSub, Int.reduceMul, Int.reduceNeg, Int.reduceEq, Int.reduceNe, Int.reduceToNat, decide_true, decide_false, iaddr_i, iaddr_sl_i, not_true_eq_false, not_false_eq_true, reduceCtorEq, ne_eq, forall_const, false_imp_iff, true_imp_iff, implies_true, Int.cast_ofNat_Int, Int.natCast_zero, Int.natCast_one, Int.add_zero, Int.zero_add]
        refine wp_loop (fun j e M dl => dl = [] ∧ ∃ (k : Nat), j = l.length - k ∧ k ≤ l.length ∧ S <+: M ∧ M[S.length]? = some (.cells (polE.enc noPol) 0 none true) ∧ (∀ i (hi : i < k) (hl : i < l.length), l[i].sub ≠ n) ∧
          e.get 4 = .p S.length 0 0 ∧ e.get 1 = .i .i64 n ∧ e.get 8 = s ∧ e.get 9 = .i .i64 l.length ∧ e.get 10 = .i .i64 k) (j := l.length) ⟨rfl, 0, rfl, Nat.zero_le _, ext_app _, by rw [at_app0]; rfl, fun i hi => absurd hi (Nat.not_lt_zero _), rfl, rfl, rfl, rfl, rfl⟩ ?_
        rintro j e M d' ⟨rfl, k, rfl, hk, hSM, hat, hn, h4, h1, h8, h9, h10⟩
        refine W_sound none_ok mixed _ _ _ _ _ ?_
        simp only [polE, Pol.enc, noPol] at hat
        have hato := fun L => at_old (L := L) hat
        by_cases hkl : k < l.length
        · obtain ⟨bi, o, v, cap, ex, rfl⟩ := lst_sl hl hkl
          have hrow := lstV_row (lst_ext hl hSM) hkl []
          rw [List.append_nil] at hrow
          have hr : rowB (M[bi]?) (o + k * 13) v 13 = some (polE.enc l[k]) := hrow
          have hkI : (k : Int) < l.length := by omega
          have hk6 : k < 1000000 := by omega
          by_cases he : l[k].sub = n
          · rw [pfind_at hkl he hn]
            generalize hpv : l[k] = p at hr he
            simp only [polE, Pol.enc] at hr
            have hS := fun L B => set_old (L := L) (B' := B) hat
            have hfin : (M.set S.length (.cells (polE.enc p) 0 none true))[S.length]? = some (.cells (polE.enc p) 0 none true) := at_set hat
            have hfin := fun L => at_old (L := L) hfin
            simp only [polE, Pol.enc] at hfin
            subst he
            simp (maxSteps := 1000000) (disch := omega) only [c28l0, h4, h1, h8, h9, h10, hkI, Int.toNat_natCast, hr, List.replicate, eq_self, hato, hS, hfin, go_sem, Option.map_none, Option.map_some, ↓reduceIte, Nat.reduceBEq, Nat.reduceAdd, Nat.reduceSub, Nat.reduceEqDiff, Nat.reduceLeDiff, Nat.reduceMul, Nat.reduceLT, Int.reduceLT, Int.reduceLE, Int.reduceAdd, Int.reduceSub, Int.reduceMul, Int.reduceNeg, Int.reduceEq, Int.reduceNe, Int.reduceToNat, decide_true, decide_false, iaddr_i, iaddr_sl_i, not_true_eq_false, not_false_eq_true, reduceCtorEq, ne_eq, forall_const, false_imp_iff, true_imp_iff, implies_true, Int.cast_ofNat_Int, Int.natCast_zero, Int.natCast_one, Int.add_zero, Int.zero_add]
            have hfl : (foundPV (some p)).flat S.length := rfl
            exact wkv_dropP (ext_more (ext_set hSM (Nat.le_refl _) _) _) hfl
          · generalize hpv : l[k] = p at hr he
            simp only [polE, Pol.enc] at hr
            simp (maxSteps := 1000000) (disch := omega) only [c28l0, h4, h1, h8, h9, h10, hkI, Int.toNat_natCast, hr, wrapS hk6, List.replicate, he, go_sem, Option.map_none, Option.map_some, ↓reduceIte, Nat.reduceBEq, Nat.reduceAdd, Nat.reduceSub, Nat.reduceEqDiff, Nat.reduceLeDiff, Nat.reduceMul, Nat.reduceLT, Int.reduceLT, Int.reduceLE, Int.reduceAdd, Int.reduceSub, Int.reduceMul, Int.reduceNeg, Int.reduceEq, Int.reduceNe, Int.reduceToNat, decide_true, decide_false, iaddr_i, iaddr_sl_i, not_true_eq_false, not_false_eq_true, reduceCtorEq, ne_eq, forall_const, false_imp_iff, true_imp_iff, implies_true, Int.cast_ofNat_Int, Int.natCast_zero, Int.natCast_one, Int.add_zero, Int.zero_add]
            refine ⟨l.length - (k + 1), by omega, k + 1, rfl, hkl, ext_more hSM _, at_old hat, fun i hi g1 => ?_, rfl⟩
            by_cases hik : i = k
            · subst hik; rw [hpv]; exact he
            · exact hn i (by omega) g1
        · have hkI : ¬ (k : Int) < l.length := by omega
          have hself := set_self hat
          simp (maxSteps := 1000000) (disch := omega) only [c28l0, h4, h1, h8, h9, h10, hkI, hat, hself, go_sem, Option.map_none, Option.map_some, ↓reduceIte, Nat.reduceBEq, Nat.reduceAdd, Nat.reduceSub, Nat.reduceEqDiff, Nat.reduceLeDiff, Nat.reduceMul, Nat.reduceLT, Int.reduceLT, Int.reduceLE, Int.reduceAdd, Int.reduceSub, Int.reduceMul, Int.reduceNeg, Int.reduceEq, Int.reduceNe, Int.reduceToNat, decide_true, decide_false, iaddr_i, iaddr_sl_i, not_true_eq_false, not_false_eq_true, reduceCtorEq, ne_eq, forall_const, false_imp_iff, true_imp_iff, implies_true, Int.cast_ofNat_Int, Int.natCast_zero, Int.natCast_one, Int.add_zero, Int.zero_add]
          rw [show pfind l n = none by
            unfold pfind
            rw [List.find?_eq_none]
            intro y hy
            obtain ⟨i, hi, rfl⟩ := List.getElem_of_mem hy
            simpa using hn i (by omega) hi]
          exact wkv_dropP hSM rfl
      · cases h
    · cases h
  · cases h

/-! ### Ops -/
def sameOS : Spec := fun args S => match args with
  | [.ag c1, .ag c2] => match opE.dec c1, opE.dec c2 with
    | some a, some b => some (.b (decide (a = b)), S)
    | _, _ => none
  | _ => none
theorem toStr_sn {S : Mem} : toStrV S .sn = some (.s []) := by rfl
theorem sameO_ok : SpecOK Try.prog 29 sameOS := by
  intro args S x S' h
  simp only [sameOS] at h
  split at h
  · rename_i c1 c2
    split at h
    · rename_i a b ha hb
      cases h
      obtain rfl := opE.ed _ _ ha
      obtain rfl := opE.ed _ _ hb
      refine fn_of_wp f29 rfl (W_sound none_ok mixed _ _ _ _ _ ?_)
      obtain ⟨k1, s1, p1⟩ := a
      obtain ⟨k2, s2, p2⟩ := b
      have hpol : eqAgV true [.int, .int, .int, .int, .int, .int, .int, .int, .int, .int, .int, .int, .int] (.ag p1.enc) (.ag p2.enc) = some (.b (decide (¬ p1 = p2))) := ne_pol
      simp only [Pol.enc] at hpol
      by_cases e1 : k1 = k2
      · by_cases e2 : s1 = s2
        · by_cases e3 : p1 = p2
          · subst e1 e2 e3
            rw [decide_eq_false (fun q => q rfl)] at hpol
            simp only [opE, opC]
            simp (maxSteps := 1000000) (disch := omega) only [c29, List.replicate, hpol, toStr_sn, go_sem, Option.map_none, Option.map_some, ↓reduceIte, Nat.reduceBEq, Nat.reduceAdd, Nat.reduceSub, Nat.reduceEqDiff, Nat.reduceLeDiff, Nat.reduceMul, Nat.reduceLT, Int.reduceLT, Int.reduceLE, Int.reduceAdd, Int.reduceSub, Int.reduceMul, Int.reduceNeg, Int.reduceEq, Int.reduceNe, Int.reduceToNat, decide_true, decide_false, iaddr_i, iaddr_sl_i, not_true_eq_false, not_false_eq_true, reduceCtorEq, ne_eq, forall_const, false_imp_iff, true_imp_iff, implies_true, Int.cast_ofNat_Int, Int.natCast_zero, Int.natCast_one, Int.add_zero, Int.zero_add]
            refine wp_unroll none_ok mixed 1 ?_
            simp (maxSteps := 1000000) (disch := omega) only [c29l1, LW_succ, go_sem, Option.map_none, Option.map_some, ↓reduceIte, Nat.reduceBEq, Nat.reduceAdd, Nat.reduceSub, Nat.reduceEqDiff, Nat.reduceLeDiff, Nat.reduceMul, Nat.reduceLT, Int.reduceLT, Int.reduceLE, Int.reduceAdd, Int.reduceSub, Int.reduceMul, Int.reduceNeg, Int.reduceEq, Int.reduceNe, Int.reduceToNat, decide_true, decide_false, iaddr_i, iaddr_sl_i, not_true_eq_false, not_false_eq_true, reduceCtorEq, ne_eq, forall_const, false_imp_iff, true_imp_iff, implies_true, Int.cast_ofNat_Int, Int.natCast_zero, Int.natCast_one, Int.add_zero, Int.zero_add]
            first | exact wkv_drop rfl | (rw [decide_eq_true rfl]; exact wkv_drop rfl)
          · subst e1 e2
            rw [decide_eq_true e3] at hpol
            simp only [opE, opC]
            simp (maxSteps := 1000000) (disch := omega) only [c29, List.replicate, hpol, go_sem, Option.map_none, Option.map_some, ↓reduceIte, Nat.reduceBEq, Nat.reduceAdd, Nat.reduceSub, Nat.reduceEqDiff, Nat.reduceLeDiff, Nat.reduceMul, Nat.reduceLT, Int.reduceLT, Int.reduceLE, Int.reduceAdd, Int.reduceSub, Int.reduceMul, Int.reduceNeg, Int.reduceEq, Int.reduceNe, Int.reduceToNat, decide_true, decide_false, iaddr_i, iaddr_sl_i, not_true_eq_false, not_false_eq_true, reduceCtorEq, ne_eq, forall_const, false_imp_iff, true_imp_iff, implies_true, Int.cast_ofNat_Int, Int.natCast_zero, Int.natCast_one, Int.add_zero, Int.zero_add]
            exact wkv_fP (ext_app _) fun q => e3 (congrArg Opv.pol q)
        · subst e1
          simp only [opE, opC]
          simp (maxSteps := 1000000) (disch := omega) only [c29, List.replicate, e2, go_sem, Option.map_none, Option.map_some, ↓reduceIte, Nat.reduceBEq, Nat.reduceAdd, Nat.reduceSub, Nat.reduceEqDiff, Nat.reduceLeDiff, Nat.reduceMul, Nat.reduceLT, Int.reduceLT, Int.reduceLE, Int.reduceAdd, Int.reduceSub, Int.reduceMul, Int.reduceNeg, Int.reduceEq, Int.reduceNe, Int.reduceToNat, decide_true, decide_false, iaddr_i, iaddr_sl_i, not_true_eq_false, not_false_eq_true, reduceCtorEq, ne_eq, forall_const, false_imp_iff, true_imp_iff, implies_true, Int.cast_ofNat_Int, Int.natCast_zero, Int.natCast_one, Int.add_zero, Int.zero_add]
          exact wkv_fP (ext_app _) fun q => e2 (congrArg Opv.sub q)
      · simp only [opE, opC]
        simp (maxSteps := 1000000) (disch := omega) only [c29, List.replicate, e1, go_sem, Option.map_none, Option.map_some, ↓reduceIte, Nat.reduceBEq, Nat.reduceAdd, Nat.reduceSub, Nat.reduceEqDiff, Nat.reduceLeDiff, Nat.reduceMul, Nat.reduceLT, Int.reduceLT, Int.reduceLE, Int.reduceAdd, Int.reduceSub, Int.reduceMul, Int.reduceNeg, Int.reduceEq, Int.reduceNe, Int.reduceToNat, decide_true, decide_false, iaddr_i, iaddr_sl_i, not_true_eq_false, not_false_eq_true, reduceCtorEq, ne_eq, forall_const, false_imp_iff, true_imp_iff, implies_true, Int.cast_ofNat_Int, Int.natCast_zero, Int.natCast_one, Int.add_zero, Int.zero_add]
        exact wkv_fP (ext_app _) fun q => e1 (congrArg Opv.kind q)
    · cases h
  · cases h
theorem sameO_eq {S : Mem} (a b : Opv) : sameOS [.ag (opE.enc a), .ag (opE.enc b)] S = some (.b (decide (a = b)), S) := by
  simp only [sameOS, opE.de]
def sameLS : Spec := fun args S => match args with
  | [x, y] => match lstV opE S x, lstV opE S y with
    | some l, some m => if l.length ≤ 900000 then some (.b (decide (l = m)), S) else none
    | _, _ => none
  | _ => none
theorem oSl_ok : OK Try.prog (lamOf Try.prog) (orcOf [(29, sameOS)]) := orc_ok (by simpa using sameO_ok)
theorem sameL_ok : SpecOK Try.prog 14 sameLS := by
  intro args S x S' h
  simp only [sameLS] at h
  split at h
  · rename_i s t
    split at h
    · rename_i l m hl hm
      split at h
      · rename_i hlim
        cases h
        refine fn_of_wp f14 rfl (W_sound oSl_ok mixed _ _ _ _ _ ?_)
        simp (maxSteps := 1000000) (disch := omega) only [c14, lst_len hl, lst_len hm, go_sem, Option.map_none, Option.map_some, ↓reduceIte, Nat.reduceBEq, Nat.reduceAdd, Nat.reduceSub, Nat.reduceEqDiff, Nat.reduceLeDiff, Nat.reduceMul, Nat.reduceLT, Int.reduceLT, Int.reduceLE, Int.reduceAdd, Int.reduceSub, Int.reduceMul, Int.reduceNeg, Int.reduceEq, Int.reduceNe, Int.reduceToNat, decide_true, decide_false, iaddr_i, iaddr_sl_i, not_true_eq_false, not_false_eq_true, reduceCtorEq, ne_eq, forall_const, false_imp_iff, true_imp_iff, implies_true, Int.cast_ofNat_Int, Int.natCast_zero, Int.natCast_one, Int.add_zero, Int.zero_add]
        refine ⟨fun hne => wkv_fP ext_refl fun q => hne (by rw [q]), fun he => ?_⟩
        have he : l.length = m.length := by omega
        refine wp_loop (fun j e M dl => dl = [] ∧ ∃ k : Nat, j = l.length - k ∧ k ≤ l.length ∧ M = S ∧ (∀ i (hi : i < k) (h1 : i < l.length) (h2 : i < m.length), l[i] = m[i]) ∧
          e.get 0 = s ∧ e.get 1 = t ∧ e.get 12 = .i .i64 l.length ∧ e.get 13 = .i .i64 k) (j := l.length) ⟨rfl, 0, rfl, Nat.zero_le _, rfl, fun i hi => absurd hi (Nat.not_lt_zero _), rfl, rfl, rfl, rfl⟩ ?_
        rintro j e M d' ⟨rfl, k, rfl, hk, rfl, hn, h0, h1, h12, h13⟩
        refine W_sound oSl_ok mixed _ _ _ _ _ ?_
        by_cases hkl : k < l.length
        · obtain ⟨bi, o, v, cap, ex, rfl⟩ := lst_sl hl hkl
          obtain ⟨bj, o2, v2, cap2, ex2, rfl⟩ := lst_sl hm (show k < m.length by omega)
          have hkI : (k : Int) < l.length := by omega
          have hk6 : k < 1000000 := by omega
          have ha := lstV_row hl hkl []
          have hb := lstV_row hm (show k < m.length by omega) []
          rw [List.append_nil] at ha hb
          have ha : rowB (M[bi]?) (o + k * 19) v 19 = some (opE.enc l[k]) := ha
          have hb : rowB (M[bj]?) (o2 + k * 19) v2 19 = some (opE.enc (m[k]'(by omega))) := hb
          have hsm := sameO_eq (S := M) l[k] (m[k]'(by omega))
          by_cases heq : l[k] = m[k]'(by omega)
          · rw [decide_eq_true heq] at hsm
            simp (maxSteps := 1000000) (disch := omega) only [c14l1, h0, h1, h12, h13, hkI, Int.toNat_natCast, ha, hb, orc_cons, hsm, wrapS hk6, go_sem, Option.map_none, Option.map_some, ↓reduceIte, Nat.reduceBEq, Nat.reduceAdd, Nat.reduceSub, Nat.reduceEqDiff, Nat.reduceLeDiff, Nat.reduceMul, Nat.reduceLT, Int.reduceLT, Int.reduceLE, Int.reduceAdd, Int.reduceSub, Int.reduceMul, Int.reduceNeg, Int.reduceEq, Int.reduceNe, Int.reduceToNat, decide_true, decide_false, iaddr_i, iaddr_sl_i, not_true_eq_false, not_false_eq_true, reduceCtorEq, ne_eq, forall_const, false_imp_iff, true_imp_iff, implies_true, Int.cast_ofNat_Int, Int.natCast_zero, Int.natCast_one, Int.add_zero, Int.zero_add]
            refine ⟨l.length - (k + 1), by omega, k + 1, rfl, hkl, fun i hi h1 h2 => ?_, rfl⟩
            by_cases hik : i = k
            · subst hik; exact heq
            · exact hn i (by omega) h1 h2
          · rw [decide_eq_false heq] at hsm
            simp (maxSteps := 1000000) (disch := omega) only [c14l1, h0, h1, h12, h13, hkI, Int.toNat_natCast, ha, hb, orc_cons, hsm, wrapS hk6, go_sem, Option.map_none, Option.map_some, ↓reduceIte, Nat.reduceBEq, Nat.reduceAdd, Nat.reduceSub, Nat.reduceEqDiff, Nat.reduceLeDiff, Nat.reduceMul, Nat.reduceLT, Int.reduceLT, Int.reduceLE, Int.reduceAdd, Int.reduceSub, Int.reduceMul, Int.reduceNeg, Int.reduceEq, Int.reduceNe, Int.reduceToNat, decide_true, decide_false, iaddr_i, iaddr_sl_i, not_true_eq_false, not_false_eq_true, reduceCtorEq, ne_eq, forall_const, false_imp_iff, true_imp_iff, implies_true, Int.cast_ofNat_Int, Int.natCast_zero, Int.natCast_one, Int.add_zero, Int.zero_add]
            exact wkv_fP ext_refl fun q => heq (by subst q; rfl)
        · have hkI : ¬ (k : Int) < l.length := by omega
          simp (maxSteps := 1000000) (disch := omega) only [c14l1, h0, h1, h12, h13, hkI, go_sem, Option.map_none, Option.map_some, ↓reduceIte, Nat.reduceBEq, Nat.reduceAdd, Nat.reduceSub, Nat.reduceEqDiff, Nat.reduceLeDiff, Nat.reduceMul, Nat.reduceLT, Int.reduceLT, Int.reduceLE, Int.reduceAdd, Int.reduceSub, Int.reduceMul, Int.reduceNeg, Int.reduceEq, Int.reduceNe, Int.reduceToNat, decide_true, decide_false, iaddr_i, iaddr_sl_i, not_true_eq_false, not_false_eq_true, reduceCtorEq, ne_eq, forall_const, false_imp_iff, true_imp_iff, implies_true, Int.cast_ofNat_Int, Int.natCast_zero, Int.natCast_one, Int.add_zero, Int.zero_add]
          exact wkv_tP ext_refl (List.ext_getElem he fun i h1 h2 => hn i (by omega) h1 h2)
      · cases h
    · cases h
  · cases h
end Go.Proofs.Ytcoljpgnjiakjaa

namespace Go.Proofs.Ytcoljpgnjiakjaa
open Go.RowKit
set_option linter.unusedSimpArgs false
set_option linter.unusedVariables false
set_option maxRecDepth 10000

/-! ### Plain -/
def uni : List Pol → List Pol → List Int
  | [], [] => []
  | [], q :: b => q.sub :: uni [] b
  | p :: a, [] => p.sub :: uni a []
  | p :: a, q :: b => if p.sub < q.sub then p.sub :: uni a (q :: b) else if q.sub < p.sub then q.sub :: uni (p :: a) b else p.sub :: uni a b
termination_by a b => a.length + b.length
def opAt (a b : List Pol) (id : Int) : Option Ch := match pfind b id with
  | none => some (.drop id)
  | some q => if pfind a id = some q then none else some (.put q)
theorem uni_mem : ∀ (a b : List Pol) (id : Int), id ∈ uni a b ↔ (∃ p ∈ a, p.sub = id) ∨ ∃ q ∈ b, q.sub = id
  | [], [], id => by rw [uni]; simp
  | [], q :: b, id => by rw [uni, List.mem_cons, uni_mem [] b]; simp [eq_comm]
  | p :: a, [], id => by rw [uni, List.mem_cons, uni_mem a []]; simp [eq_comm]
  | p :: a, q :: b, id => by
    rw [uni]
    split
    · rw [List.mem_cons, uni_mem a (q :: b)]; simp [eq_comm, or_assoc]
    · split
      · rw [List.mem_cons, uni_mem (p :: a) b]; simp [eq_comm, or_assoc, or_left_comm]
      · rename_i h1 h2
        have hs : p.sub = q.sub := by omega
        rw [List.mem_cons, uni_mem a b]
        simp only [List.mem_cons, exists_eq_or_imp]
        constructor
        · rintro (h | h | h)
          · exact .inl (.inl h.symm)
          · exact .inl (.inr h)
          · exact .inr (.inr h)
        · rintro ((h | h) | (h | h))
          · exact .inl h.symm
          · exact .inr (.inl h)
          · exact .inl (by rw [← h, hs])
          · exact .inr (.inr h)
termination_by a b => a.length + b.length
theorem uni_gt {n : Int} {a b : List Pol} (ha : risF n a = true) (hb : risF n b = true) : ∀ x ∈ uni a b, n < x := by
  intro x hx
  rcases (uni_mem a b x).1 hx with ⟨p, hp, rfl⟩ | ⟨p, hp, rfl⟩
  · exact ris_gt ha p hp
  · exact ris_gt hb p hp
theorem uni_len : ∀ (a b : List Pol), (uni a b).length ≤ a.length + b.length
  | [], [] => by rw [uni]; simp
  | [], q :: b => by rw [uni]; have := uni_len [] b; simp only [List.length_cons, List.length_nil] at this ⊢; omega
  | p :: a, [] => by rw [uni]; have := uni_len a []; simp only [List.length_cons, List.length_nil] at this ⊢; omega
  | p :: a, q :: b => by
    rw [uni]
    have h1 := uni_len a (q :: b)
    have h2 := uni_len (p :: a) b
    have h3 := uni_len a b
    simp only [List.length_cons] at h1 h2 ⊢
    split
    · simp only [List.length_cons]; omega
    · split
      · simp only [List.length_cons]; omega
      · simp only [List.length_cons]; omega
termination_by a b => a.length + b.length
theorem fm_congr {α β : Type} {f g : α → Option β} : ∀ (l : List α), (∀ a ∈ l, f a = g a) → l.filterMap f = l.filterMap g
  | [], _ => rfl
  | a :: l, h => by
    rw [List.filterMap_cons, List.filterMap_cons, h a (by simp), fm_congr l fun x hx => h x (by simp [hx])]
theorem uni_sorted : ∀ (a b : List Pol) (n : Int), risF n a = true → risF n b = true → (uni a b).Pairwise (· < ·)
  | [], [], n, _, _ => by rw [uni]; exact List.Pairwise.nil
  | [], q :: b, n, ha, hb => by
    obtain ⟨h1, h2⟩ := ris_cons hb
    rw [uni]
    exact List.pairwise_cons.2 ⟨fun x hx => uni_gt (n := q.sub) rfl h2 x hx, uni_sorted [] b q.sub rfl h2⟩
  | p :: a, [], n, ha, hb => by
    obtain ⟨h1, h2⟩ := ris_cons ha
    rw [uni]
    exact List.pairwise_cons.2 ⟨fun x hx => uni_gt (n := p.sub) h2 rfl x hx, uni_sorted a [] p.sub h2 rfl⟩
  | p :: a, q :: b, n, ha, hb => by
    obtain ⟨h1, h2⟩ := ris_cons ha
    obtain ⟨k1, k2⟩ := ris_cons hb
    rw [uni]
    split
    · rename_i c1
      have hb2 : risF p.sub (q :: b) = true := by simp only [risF, k2, Bool.and_true, decide_eq_true_eq]; exact c1
      exact List.pairwise_cons.2 ⟨fun x hx => uni_gt h2 hb2 x hx, uni_sorted a (q :: b) p.sub h2 hb2⟩
    · split
      · rename_i c2
        have ha2 : risF q.sub (p :: a) = true := by simp only [risF, h2, Bool.and_true, decide_eq_true_eq]; exact c2
        exact List.pairwise_cons.2 ⟨fun x hx => uni_gt ha2 k2 x hx, uni_sorted (p :: a) b q.sub ha2 k2⟩
      · rename_i c1 c2
        have hs : p.sub = q.sub := by omega
        have hb3 : risF p.sub b = true := by rw [hs]; exact k2
        exact List.pairwise_cons.2 ⟨fun x hx => uni_gt h2 hb3 x hx, uni_sorted a b p.sub h2 hb3⟩
termination_by a b => a.length + b.length
theorem opAt_ne {p : Pol} {a b : List Pol} {id : Int} (h : id ≠ p.sub) : opAt (p :: a) b id = opAt a b id := by unfold opAt; rw [pfind_ne h]
theorem opAt_ne2 {q : Pol} {a b : List Pol} {id : Int} (h : id ≠ q.sub) : opAt a (q :: b) id = opAt a b id := by unfold opAt; rw [pfind_ne h]
/-- The changes, subscriber by subscriber. -/
theorem chg_uni : ∀ (a b : List Pol) (n : Int), risF n a = true → risF n b = true → chg a b = (uni a b).filterMap (opAt a b)
  | [], [], n, _, _ => by rw [chg, uni]; rfl
  | [], q :: b, n, ha, hb => by
    obtain ⟨h1, h2⟩ := ris_cons hb
    rw [chg, uni, List.filterMap_cons]
    have e : opAt [] (q :: b) q.sub = some (.put q) := by unfold opAt; rw [pfind_same]; simp [pfind]
    rw [e]
    simp only
    rw [chg_uni [] b q.sub rfl h2]
    congr 1
    refine fm_congr _ fun x hx => (opAt_ne2 ?_).symm
    have := uni_gt (n := q.sub) rfl h2 x hx; omega
  | p :: a, [], n, ha, hb => by
    obtain ⟨h1, h2⟩ := ris_cons ha
    rw [chg, uni, List.filterMap_cons]
    have e : opAt (p :: a) [] p.sub = some (.drop p.sub) := by unfold opAt; simp [pfind]
    rw [e]
    simp only
    rw [chg_uni a [] p.sub h2 rfl]
    exact congrArg _ (fm_congr _ fun x hx => (opAt_ne (by have := uni_gt (n := p.sub) h2 rfl x hx; omega)).symm)
  | p :: a, q :: b, n, ha, hb => by
    obtain ⟨h1, h2⟩ := ris_cons ha
    obtain ⟨k1, k2⟩ := ris_cons hb
    by_cases c1 : p.sub < q.sub
    · have hb2 : risF p.sub (q :: b) = true := by simp only [risF, k2, Bool.and_true, decide_eq_true_eq]; exact c1
      rw [chg, uni, if_pos c1, if_pos c1, List.filterMap_cons]
      have e : opAt (p :: a) (q :: b) p.sub = some (.drop p.sub) := by unfold opAt; rw [pfind_none hb2 (Int.le_refl _)]
      rw [e]
      simp only
      rw [chg_uni a (q :: b) p.sub h2 hb2]
      congr 1
      refine fm_congr _ fun x hx => (opAt_ne ?_).symm
      have := uni_gt h2 hb2 x hx; omega
    · by_cases c2 : q.sub < p.sub
      · have ha2 : risF q.sub (p :: a) = true := by simp only [risF, h2, Bool.and_true, decide_eq_true_eq]; exact c2
        rw [chg, uni, if_neg c1, if_neg c1, if_pos c2, if_pos c2, List.filterMap_cons]
        have e : opAt (p :: a) (q :: b) q.sub = some (.put q) := by unfold opAt; rw [pfind_same, pfind_none ha2 (Int.le_refl _)]; simp
        rw [e]
        simp only
        rw [chg_uni (p :: a) b q.sub ha2 k2]
        congr 1
        refine fm_congr _ fun x hx => (opAt_ne2 ?_).symm
        have := uni_gt ha2 k2 x hx; omega
      · have hs : p.sub = q.sub := by omega
        have hb3 : risF p.sub b = true := by rw [hs]; exact k2
        have ih := chg_uni a b p.sub h2 hb3
        have hrest : (uni a b).filterMap (opAt (p :: a) (q :: b)) = (uni a b).filterMap (opAt a b) := fm_congr _ fun x hx => by
          have := uni_gt h2 hb3 x hx
          rw [opAt_ne (by omega), opAt_ne2 (by omega)]
        rw [chg_same hs, uni, if_neg c1, if_neg c2, List.filterMap_cons, hrest, ← ih]
        have hf : pfind (q :: b) p.sub = some q := by rw [hs]; exact pfind_same q b
        have e : opAt (p :: a) (q :: b) p.sub = if p = q then none else some (.put q) := by
          unfold opAt; rw [hf, pfind_same]
          by_cases e : p = q
          · simp [e]
          · simp [e]
        rw [e]
        by_cases e : p = q
        · rw [if_pos e, if_pos e]
        · rw [if_neg e, if_neg e]
termination_by a b => a.length + b.length
def lastOf (U : List Int) (k : Nat) : Int := (0 :: U).getD k 0
theorem last_lt {U : List Int} (hp : U.Pairwise (· < ·)) (h0 : ∀ x ∈ U, 0 < x) {k i : Nat} (hki : k ≤ i) (hi : i < U.length) : lastOf U k < U[i] := by
  have hp2 : (0 :: U).Pairwise (· < ·) := List.pairwise_cons.2 ⟨h0, hp⟩
  have := List.pairwise_iff_getElem.1 hp2 k (i + 1) (by simp; omega) (by simp; omega) (by omega)
  unfold lastOf
  rw [List.getD_eq_getElem?_getD, List.getElem?_eq_getElem (by simp; omega)]
  simpa using this
theorem last_ge {U : List Int} (hp : U.Pairwise (· < ·)) (h0 : ∀ x ∈ U, 0 < x) {k i : Nat} (hki : i < k) (hk : k ≤ U.length) : U[i] ≤ lastOf U k := by
  have hp2 : (0 :: U).Pairwise (· < ·) := List.pairwise_cons.2 ⟨h0, hp⟩
  unfold lastOf
  rw [List.getD_eq_getElem?_getD, List.getElem?_eq_getElem (by simp; omega)]
  by_cases e : i + 1 = k
  · subst e; simp
  · have := List.pairwise_iff_getElem.1 hp2 (i + 1) k (by simp; omega) (by simp; omega) (by omega)
    simpa using Int.le_of_lt this
theorem last_succ {U : List Int} {k : Nat} (hk : k < U.length) : lastOf U (k + 1) = U[k] := by
  unfold lastOf
  rw [List.getD_eq_getElem?_getD, List.getElem?_cons_succ, List.getElem?_eq_getElem hk]; rfl
/-- The least one beyond. -/
theorem uni_next {a b : List Pol} (ha : risF 0 a = true) (hb : risF 0 b = true) {k : Nat} (hk : k ≤ (uni a b).length) {nx : Int} (h1 : lastOf (uni a b) k < nx) (h2 : ∃ p ∈ a ++ b, p.sub = nx) (h3 : ∀ p ∈ a ++ b, lastOf (uni a b) k < p.sub → nx ≤ p.sub) : ∃ hk : k < (uni a b).length, (uni a b)[k] = nx := by
  have hp := uni_sorted a b 0 ha hb
  have h0 := uni_gt ha hb
  have hm : nx ∈ uni a b := by
    obtain ⟨p, hp, rfl⟩ := h2
    rcases List.mem_append.1 hp with h | h
    · exact (uni_mem a b _).2 (.inl ⟨p, h, rfl⟩)
    · exact (uni_mem a b _).2 (.inr ⟨p, h, rfl⟩)
  obtain ⟨i, hi, he⟩ := List.getElem_of_mem hm
  have hki : k ≤ i := by
    by_cases h : k ≤ i
    · exact h
    · have := last_ge hp h0 (show i < k by omega) hk
      omega
  have hkl : k < (uni a b).length := by omega
  refine ⟨hkl, ?_⟩
  have hl := last_lt hp h0 (Nat.le_refl k) hkl
  have hle : nx ≤ (uni a b)[k] := by
    rcases (uni_mem a b _).1 (List.getElem_mem hkl) with ⟨p, hp, hs⟩ | ⟨p, hp, hs⟩
    · rw [← hs] at hl ⊢; exact h3 p (by simp [hp]) hl
    · rw [← hs] at hl ⊢; exact h3 p (by simp [hp]) hl
  by_cases e : k = i
  · subst e; exact he
  · have := List.pairwise_iff_getElem.1 hp k i hkl hi (by omega)
    omega
theorem uni_end {a b : List Pol} (ha : risF 0 a = true) (hb : risF 0 b = true) {k : Nat} (hk : k ≤ (uni a b).length) (h : ∀ p ∈ a ++ b, p.sub ≤ lastOf (uni a b) k) : k = (uni a b).length := by
  by_cases hkl : k < (uni a b).length
  · exfalso
    have hl := last_lt (uni_sorted a b 0 ha hb) (uni_gt ha hb) (Nat.le_refl k) hkl
    rcases (uni_mem a b _).1 (List.getElem_mem hkl) with ⟨p, hp, hs⟩ | ⟨p, hp, hs⟩
    · have := h p (by simp [hp]); omega
    · have := h p (by simp [hp]); omega
  · omega
end Go.Proofs.Ytcoljpgnjiakjaa

namespace Go.Proofs.Ytcoljpgnjiakjaa
open Go.RowKit
set_option linter.unusedSimpArgs false
set_option linter.unusedVariables false
set_option maxRecDepth 10000

theorem intE_one (a : Int) : ((intE .i64).enc a).all AV.one = true := rfl
theorem intE_flat : ∀ n a, ∀ c ∈ (intE .i64).enc a, AV.Flat n c := by
  intro n a c hc
  simp only [intE, List.mem_singleton] at hc
  rw [hc]; exact Flat_i
theorem src_lst {α : Type} {E : Enc α} {S : Mem} {x : AV} {l : List α} (h : lstV E S x = some l) : srcV S E.sz x = some (l.flatMap E.enc, l.length) := by
  rcases lstV_lst h with ⟨rfl, rfl⟩ | ⟨rfl, rfl⟩ | ⟨i, o, v, len, cap, ex, rfl, rfl, hrow⟩
  · rfl
  · rfl
  · have hrow : rowB (S[i]?) o v (l.length * E.sz) = some (l.flatMap E.enc) := by rw [← rowAt_B]; exact hrow
    rw [src_sl, hrow, srcN_some]
def subsS : Spec := fun args S => match args with
  | [x, y] => match lstV polE S x, lstV polE S y with
    | some a, some b => if a.length ≤ 400000 ∧ b.length ≤ 400000 ∧ risF 0 a = true ∧ risF 0 b = true then some (retX true S (uni a b), retM true (intE .i64) S (uni a b)) else none
    | _, _ => none
  | _ => none
theorem subs_ok : SpecOK Try.prog 27 subsS := by
  intro args S x S' h
  simp only [subsS] at h
  split at h
  · rename_i s t
    split at h
    · rename_i a b ha hb
      split at h
      · rename_i hc
        obtain ⟨la, lb, ra, rb⟩ := hc
        cases h
        have hul := uni_len a b
        refine fn_of_wp f27 rfl (W_sound none_ok mixed _ _ _ _ _ ?_)
        simp (maxSteps := 1000000) (disch := omega) only [c27, List.replicate, go_sem, Option.map_none, Option.map_some, ↓reduceIte, Nat.reduceBEq, Nat.reduceAdd, Nat.reduceSub, Nat.reduceEqDiff, Nat.reduceLeDiff, Nat.reduceMul, Nat.reduceLT, Int.reduceLT, Int.reduceLE, Int.reduceAdd, Int.reduceSub, Int.reduceMul, Int.reduceNeg, Int.reduceEq, Int.reduceNe, Int.reduceToNat, decide_true, decide_false, iaddr_i, iaddr_sl_i, not_true_eq_false, not_false_eq_true, reduceCtorEq, ne_eq, forall_const, false_imp_iff, true_imp_iff, implies_true, Int.cast_ofNat_Int, Int.natCast_zero, Int.natCast_one, Int.add_zero, Int.zero_add]
        refine wp_loop (fun j e M dl => dl = [] ∧ ∃ (k : Nat) (y : AV), j = (uni a b).length + 1 - k ∧ k ≤ (uni a b).length ∧ Acc true (intE .i64) S M y ((uni a b).take k) ∧
          e.get 6 = .i .i64 (lastOf (uni a b) k) ∧ e.get 5 = y ∧ e.get 1 = t ∧ e.get 0 = s) (j := (uni a b).length + 1) ?_ ?_
        · exact ⟨rfl, 0, _, rfl, Nat.zero_le _, acc_lit ext_refl, rfl, rfl, rfl, rfl⟩
        rintro j e M d' ⟨rfl, k, y, rfl, hk, hA, e6, e5, e1, e0⟩
        refine W_sound none_ok mixed _ _ _ _ _ ?_
        have haM := lst_ext ha hA.ext
        have hbM := lst_ext hb hA.ext
        obtain ⟨X1, M1, hap1, hX1⟩ := (acc_lit (E := polE) (S := M) (M := M) ext_refl).apps (bytes := 80) polE_one a (by simp only [List.length_nil]; omega) (by simp only [List.length_nil]; omega)
        rw [List.nil_append] at hX1
        obtain ⟨X2, M2, hap2, hX2⟩ := hX1.apps (bytes := 80) polE_one b (by omega) (by omega)
        have hap1 : appV (M ++ [.cells [] 0 none true]) 13 80 (.sl M.length 0 0 0 0 true) (a.flatMap polE.enc) a.length = some (X1, M1) := hap1
        have hap2 : appV M1 13 80 X1 (b.flatMap polE.enc) b.length = some (X2, M2) := hap2
        have hs1 : ∀ L, srcV (M ++ L) 13 s = some (a.flatMap polE.enc, a.length) := fun L => src_lst (lstV_grow haM L)
        have hs2 : srcV M1 13 t = some (b.flatMap polE.enc, b.length) := src_lst (lst_ext hbM hX1.ext)
        have hX := hX2.lst
        have hMM2 := hX2.ext
        generalize hcl : a ++ b = c at hX hX2
        have hclen : c.length = a.length + b.length := by rw [← hcl, List.length_append]
        simp (maxSteps := 1000000) (disch := omega) only [c27l1, e6, e5, e1, e0, hs1, hap1, hs2, hap2, lst_len hX, go_sem, Option.map_none, Option.map_some, ↓reduceIte, Nat.reduceBEq, Nat.reduceAdd, Nat.reduceSub, Nat.reduceEqDiff, Nat.reduceLeDiff, Nat.reduceMul, Nat.reduceLT, Int.reduceLT, Int.reduceLE, Int.reduceAdd, Int.reduceSub, Int.reduceMul, Int.reduceNeg, Int.reduceEq, Int.reduceNe, Int.reduceToNat, decide_true, decide_false, iaddr_i, iaddr_sl_i, not_true_eq_false, not_false_eq_true, reduceCtorEq, ne_eq, forall_const, false_imp_iff, true_imp_iff, implies_true, Int.cast_ofNat_Int, Int.natCast_zero, Int.natCast_one, Int.add_zero, Int.zero_add]
        have hin0 : (∀ i (hi : i < 0) (hl : i < c.length), c[i].sub ≤ lastOf (uni a b) k) := fun i hi => absurd hi (Nat.not_lt_zero _)
        refine wp_loop (fun j e M' dl => dl = [] ∧ ∃ (u : Nat) (nx : Int) (fo : Bool), j = c.length - u ∧ u ≤ c.length ∧ M2 <+: M' ∧
          (fo = false → ∀ i (hi : i < u) (hl : i < c.length), c[i].sub ≤ lastOf (uni a b) k) ∧
          (fo = true → lastOf (uni a b) k < nx ∧ (∃ i, ∃ hl : i < c.length, i < u ∧ c[i].sub = nx) ∧ ∀ i (hi : i < u) (hl : i < c.length), lastOf (uni a b) k < c[i].sub → nx ≤ c[i].sub) ∧
          e.get 6 = .i .i64 (lastOf (uni a b) k) ∧ e.get 16 = X2 ∧ e.get 5 = y ∧ e.get 1 = t ∧ e.get 0 = s ∧ e.get 17 = .i .i64 c.length ∧ e.get 18 = .i .i64 u ∧ e.get 7 = .i .i64 nx ∧ e.get 8 = .b fo) (j := c.length) ?_ ?_
        · exact ⟨rfl, 0, 0, false, rfl, Nat.zero_le _, ext_refl, fun _ => hin0, fun q => (by cases q), rfl, rfl, rfl, rfl, rfl, rfl, rfl, rfl, rfl⟩
        rintro j2 e2 M3 d2 ⟨rfl, u, nx, fo, rfl, hu, hM3, hF, hT, f6, f16, f5, f1, f0, f17, f18, f7, f8⟩
        refine W_sound none_ok mixed _ _ _ _ _ ?_
        by_cases hul : u < c.length
        · obtain ⟨bi, o, v, cap, ex, rfl⟩ := lst_sl hX hul
          have hro := lstV_row (lst_ext hX hM3) hul []
          rw [List.append_nil] at hro
          have hro : rowB (M3[bi]?) (o + u * 13) v 13 = some (c[u]).enc := hro
          have huI : (u : Int) < c.length := by omega
          have hu6 : u < 1000000 := by omega
          generalize hpu : c[u] = p at hro
          simp only [Pol.enc] at hro
          have fin : ∀ (nx' : Int) (fo' : Bool) (L : Mem), (fo' = false → ∀ i (hi : i < u + 1) (hl : i < c.length), c[i].sub ≤ lastOf (uni a b) k) →
              (fo' = true → lastOf (uni a b) k < nx' ∧ (∃ i, ∃ hl : i < c.length, i < u + 1 ∧ c[i].sub = nx') ∧ ∀ i (hi : i < u + 1) (hl : i < c.length), lastOf (uni a b) k < c[i].sub → nx' ≤ c[i].sub) →
              ∃ j', j' < c.length - u ∧ ∃ (u_1 : Nat) (nx_1 : Int) (fo_1 : Bool), j' = c.length - u_1 ∧ u_1 ≤ c.length ∧ M2 <+: M3 ++ L ∧ (fo_1 = false → ∀ i (hi : i < u_1) (hl : i < c.length), c[i].sub ≤ lastOf (uni a b) k) ∧
                (fo_1 = true → lastOf (uni a b) k < nx_1 ∧ (∃ i, ∃ hl : i < c.length, i < u_1 ∧ c[i].sub = nx_1) ∧ ∀ i (hi : i < u_1) (hl : i < c.length), lastOf (uni a b) k < c[i].sub → nx_1 ≤ c[i].sub) ∧ AV.i .i64 ((u + 1 : Nat) : Int) = AV.i .i64 (u_1 : Int) ∧ AV.i .i64 nx' = AV.i .i64 nx_1 ∧ AV.b fo' = AV.b fo_1 := fun nx' fo' L h1 h2 =>
            ⟨c.length - (u + 1), by omega, u + 1, nx', fo', rfl, hul, ext_more hM3 L, h1, h2, rfl, rfl, rfl⟩
          have old : ∀ i, i < u + 1 → i < u ∨ i = u := fun i hi => by omega
          by_cases c1 : lastOf (uni a b) k < p.sub
          · cases fo with
            | false =>
              simp (maxSteps := 1000000) (disch := omega) only [c27l0, f6, f16, f5, f1, f0, f17, f18, f7, f8, huI, Int.toNat_natCast, hro, List.replicate, c1, wrapS hu6, go_sem, Option.map_none, Option.map_some, ↓reduceIte, Nat.reduceBEq, Nat.reduceAdd, Nat.reduceSub, Nat.reduceEqDiff, Nat.reduceLeDiff, Nat.reduceMul, Nat.reduceLT, Int.reduceLT, Int.reduceLE, Int.reduceAdd, Int.reduceSub, Int.reduceMul, Int.reduceNeg, Int.reduceEq, Int.reduceNe, Int.reduceToNat, decide_true, decide_false, iaddr_i, iaddr_sl_i, not_true_eq_false, not_false_eq_true, reduceCtorEq, ne_eq, forall_const, false_imp_iff, true_imp_iff, implies_true, Int.cast_ofNat_Int, Int.natCast_zero, Int.natCast_one, Int.add_zero, Int.zero_add]
              refine fin p.sub true _ (fun q => by cases q) (fun _ => ⟨c1, ⟨u, hul, by omega, by rw [hpu]⟩, fun i hi hl hlt => ?_⟩)
              rcases old i hi with h | rfl
              · have := hF rfl i h hl; omega
              · rw [hpu]; exact Int.le_refl _
            | true =>
              by_cases c2 : p.sub < nx
              · simp (maxSteps := 1000000) (disch := omega) only [c27l0, f6, f16, f5, f1, f0, f17, f18, f7, f8, huI, Int.toNat_natCast, hro, List.replicate, c1, c2, wrapS hu6, go_sem, Option.map_none, Option.map_some, ↓reduceIte, Nat.reduceBEq, Nat.reduceAdd, Nat.reduceSub, Nat.reduceEqDiff, Nat.reduceLeDiff, Nat.reduceMul, Nat.reduceLT, Int.reduceLT, Int.reduceLE, Int.reduceAdd, Int.reduceSub, Int.reduceMul, Int.reduceNeg, Int.reduceEq, Int.reduceNe, Int.reduceToNat, decide_true, decide_false, iaddr_i, iaddr_sl_i, not_true_eq_false, not_false_eq_true, reduceCtorEq, ne_eq, forall_const, false_imp_iff, true_imp_iff, implies_true, Int.cast_ofNat_Int, Int.natCast_zero, Int.natCast_one, Int.add_zero, Int.zero_add]
                refine fin p.sub true _ (fun q => by cases q) (fun _ => ⟨c1, ⟨u, hul, by omega, by rw [hpu]⟩, fun i hi hl hlt => ?_⟩)
                rcases old i hi with h | rfl
                · have := (hT rfl).2.2 i h hl hlt; omega
                · rw [hpu]; exact Int.le_refl _
              · simp (maxSteps := 1000000) (disch := omega) only [c27l0, f6, f16, f5, f1, f0, f17, f18, f7, f8, huI, Int.toNat_natCast, hro, List.replicate, c1, c2, wrapS hu6, go_sem, Option.map_none, Option.map_some, ↓reduceIte, Nat.reduceBEq, Nat.reduceAdd, Nat.reduceSub, Nat.reduceEqDiff, Nat.reduceLeDiff, Nat.reduceMul, Nat.reduceLT, Int.reduceLT, Int.reduceLE, Int.reduceAdd, Int.reduceSub, Int.reduceMul, Int.reduceNeg, Int.reduceEq, Int.reduceNe, Int.reduceToNat, decide_true, decide_false, iaddr_i, iaddr_sl_i, not_true_eq_false, not_false_eq_true, reduceCtorEq, ne_eq, forall_const, false_imp_iff, true_imp_iff, implies_true, Int.cast_ofNat_Int, Int.natCast_zero, Int.natCast_one, Int.add_zero, Int.zero_add]
                obtain ⟨t1, ⟨i0, hl0, hi0, hs0⟩, t3⟩ := hT rfl
                refine fin nx true _ (fun q => by cases q) (fun _ => ⟨t1, ⟨i0, hl0, by omega, hs0⟩, fun i hi hl hlt => ?_⟩)
                rcases old i hi with h | rfl
                · exact t3 i h hl hlt
                · rw [hpu]; omega
          · simp (maxSteps := 1000000) (disch := omega) only [c27l0, f6, f16, f5, f1, f0, f17, f18, f7, f8, huI, Int.toNat_natCast, hro, List.replicate, c1, wrapS hu6, go_sem, Option.map_none, Option.map_some, ↓reduceIte, Nat.reduceBEq, Nat.reduceAdd, Nat.reduceSub, Nat.reduceEqDiff, Nat.reduceLeDiff, Nat.reduceMul, Nat.reduceLT, Int.reduceLT, Int.reduceLE, Int.reduceAdd, Int.reduceSub, Int.reduceMul, Int.reduceNeg, Int.reduceEq, Int.reduceNe, Int.reduceToNat, decide_true, decide_false, iaddr_i, iaddr_sl_i, not_true_eq_false, not_false_eq_true, reduceCtorEq, ne_eq, forall_const, false_imp_iff, true_imp_iff, implies_true, Int.cast_ofNat_Int, Int.natCast_zero, Int.natCast_one, Int.add_zero, Int.zero_add]
            refine fin nx fo _ (fun q i hi hl => ?_) (fun q => ?_)
            · rcases old i hi with h | rfl
              · exact hF q i h hl
              · rw [hpu]; omega
            · obtain ⟨t1, ⟨i0, hl0, hi0, hs0⟩, t3⟩ := hT q
              refine ⟨t1, ⟨i0, hl0, by omega, hs0⟩, fun i hi hl hlt => ?_⟩
              rcases old i hi with h | rfl
              · exact t3 i h hl hlt
              · rw [hpu] at hlt; omega
        · have huI : ¬ (u : Int) < c.length := by omega
          obtain rfl : u = c.length := by omega
          have hA3 := hA.extM (hMM2.trans hM3)
          cases fo with
          | false =>
            have hke := uni_end ra rb hk (fun p hp => by
              rw [hcl] at hp
              obtain ⟨i, hi, rfl⟩ := List.getElem_of_mem hp
              exact hF rfl i hi hi)
            rw [List.take_of_length_le (by omega)] at hA3
            simp (maxSteps := 1000000) (disch := omega) only [c27l0, f6, f16, f5, f1, f0, f17, f18, f7, f8, huI, go_sem, Option.map_none, Option.map_some, ↓reduceIte, Nat.reduceBEq, Nat.reduceAdd, Nat.reduceSub, Nat.reduceEqDiff, Nat.reduceLeDiff, Nat.reduceMul, Nat.reduceLT, Int.reduceLT, Int.reduceLE, Int.reduceAdd, Int.reduceSub, Int.reduceMul, Int.reduceNeg, Int.reduceEq, Int.reduceNe, Int.reduceToNat, decide_true, decide_false, iaddr_i, iaddr_sl_i, not_true_eq_false, not_false_eq_true, reduceCtorEq, ne_eq, forall_const, false_imp_iff, true_imp_iff, implies_true, Int.cast_ofNat_Int, Int.natCast_zero, Int.natCast_one, Int.add_zero, Int.zero_add]
            exact hA3.ret intE_flat
          | true =>
            obtain ⟨t1, ⟨i0, hl0, hi0, hs0⟩, t3⟩ := hT rfl
            obtain ⟨hkl, hkn⟩ := uni_next ra rb hk t1 ⟨c[i0], by rw [hcl]; exact List.getElem_mem hl0, hs0⟩ (fun p hp hlt => by
              rw [hcl] at hp
              obtain ⟨i, hi, rfl⟩ := List.getElem_of_mem hp
              exact t3 i hi hi hlt)
            obtain ⟨y', M', hap, hA'⟩ := (hA3.grow [.cells [.i .i64 nx] 0 none true]).app (bytes := 8) intE_one nx (by rw [List.length_take]; omega) (by rw [List.length_take]; omega)
            have hap : appV (M3 ++ [.cells [.i .i64 nx] 0 none true]) 1 8 y [.i .i64 nx] 1 = some (y', M') := hap
            simp (maxSteps := 1000000) (disch := omega) only [c27l0, f6, f16, f5, f1, f0, f17, f18, f7, f8, huI, hap, go_sem, Option.map_none, Option.map_some, ↓reduceIte, Nat.reduceBEq, Nat.reduceAdd, Nat.reduceSub, Nat.reduceEqDiff, Nat.reduceLeDiff, Nat.reduceMul, Nat.reduceLT, Int.reduceLT, Int.reduceLE, Int.reduceAdd, Int.reduceSub, Int.reduceMul, Int.reduceNeg, Int.reduceEq, Int.reduceNe, Int.reduceToNat, decide_true, decide_false, iaddr_i, iaddr_sl_i, not_true_eq_false, not_false_eq_true, reduceCtorEq, ne_eq, forall_const, false_imp_iff, true_imp_iff, implies_true, Int.cast_ofNat_Int, Int.natCast_zero, Int.natCast_one, Int.add_zero, Int.zero_add]
            refine ⟨(uni a b).length + 1 - (k + 1), by omega, k + 1, y', rfl, hkl, ?_, ?_, rfl⟩
            · rw [List.take_succ_eq_append_getElem hkl, hkn]; exact hA'
            · rw [last_succ hkl, hkn]
      · cases h
    · cases h
  · cases h
end Go.Proofs.Ytcoljpgnjiakjaa

namespace Go.Proofs.Ytcoljpgnjiakjaa
open Go.RowKit
set_option linter.unusedSimpArgs false
set_option linter.unusedVariables false
set_option maxRecDepth 10000

theorem foundP_case (o : Option Pol) : ∃ (a : Pol) (ok : Bool), foundPV o = .tu [.ag (polE.enc a), .b ok] ∧ ((ok = true ∧ o = some a) ∨ (ok = false ∧ o = none ∧ a = noPol)) := by
  cases o with
  | none => exact ⟨noPol, false, rfl, .inr ⟨rfl, rfl, rfl⟩⟩
  | some a => exact ⟨a, true, rfl, .inl ⟨rfl, rfl⟩⟩
def ropsS : Spec := fun args S => match args with
  | [x, y] => match lstV polE S x, lstV polE S y with
    | some a, some b => if a.length ≤ 400000 ∧ b.length ≤ 400000 ∧ risF 0 a = true ∧ risF 0 b = true then some (retX true S (opsL a b), retM true opE S (opsL a b)) else none
    | _, _ => none
  | _ => none
def partL (a b : List Pol) (k : Nat) : List Opv := (((uni a b).take k).filterMap (opAt a b)).map Ch.op
theorem partL_len (a b : List Pol) (k : Nat) : (partL a b k).length ≤ k := by
  unfold partL
  rw [List.length_map]
  exact Nat.le_trans (List.length_filterMap_le _ _) (by rw [List.length_take]; omega)
theorem partL_succ {a b : List Pol} {k : Nat} (hk : k < (uni a b).length) : partL a b (k + 1) = partL a b k ++ ((opAt a b (uni a b)[k]).map Ch.op).toList := by
  unfold partL
  rw [List.take_succ_eq_append_getElem hk, List.filterMap_append, List.map_append]
  congr 1
  simp only [List.filterMap_cons, List.filterMap_nil]
  cases opAt a b (uni a b)[k] <;> rfl
/-- The list that is built: the empty literal, or a block of its own. -/
def Lm (i : Nat) (M1 M : Mem) (y : AV) (l : List Opv) : Prop := (l = [] ∧ y = .sl i 0 0 0 0 true ∧ M1 <+: M) ∨ Acc true opE M1 M y l
theorem Lm.ext {i : Nat} {M1 M : Mem} {y : AV} {l : List Opv} (h : Lm i M1 M y l) : M1 <+: M := by
  rcases h with ⟨_, _, h⟩ | h
  · exact h
  · exact h.ext
theorem Lm.grow {i : Nat} {M1 M : Mem} {y : AV} {l : List Opv} (h : Lm i M1 M y l) (U : Mem) : Lm i M1 (M ++ U) y l := by
  rcases h with ⟨h1, h2, h⟩ | h
  · exact .inl ⟨h1, h2, ext_more h U⟩
  · exact .inr (h.grow U)
theorem Lm.acc {S : Mem} {M1 M : Mem} {y : AV} {l : List Opv} (hS : S ++ [.cells [] 0 none true] <+: M1) (h : Lm S.length M1 M y l) : Acc true opE S M y l := by
  rcases h with ⟨rfl, rfl, h⟩ | h
  · exact (acc_lit ext_refl).extM (hS.trans h)
  · exact h.base ((ext_app _).trans hS)
theorem Lm.app {i : Nat} {M1 M : Mem} {y : AV} {l : List Opv} (hi : M1[i]? = some (.cells [] 0 none true)) (h : Lm i M1 M y l) (a : Opv) (hn : l.length ≤ 1000000) : ∃ y' M', appV M 19 160 y (opE.enc a) 1 = some (y', M') ∧ Lm i M1 M' y' (l ++ [a]) := by
  rcases h with ⟨rfl, rfl, h⟩ | h
  · have hc : rowAt M i 0 0 (0 * 19) = some [] := by rw [rowAt_B, at_pre h hi]; rfl
    obtain ⟨T, rfl⟩ := h
    refine ⟨.sl (M1 ++ T).length 0 0 1 1 false, (M1 ++ T) ++ [.cells (opE.enc a) 0 (some 19) true], ?_, .inr ⟨T ++ [.cells (opE.enc a) 0 (some 19) true], by rw [List.append_assoc], .inr (.inr ⟨by simp, T.length, 0, by rw [List.length_append]; rfl, ?_⟩)⟩⟩
    · simp only [appV, hc]
      rw [if_neg (by omega), if_neg (by omega), if_pos ⟨by decide, by decide⟩, if_pos trivial]
      rfl
    · rw [List.getElem?_append_right (by omega), Nat.sub_self]
      show some (Blk.cells (opE.enc a) 0 (some 19) true) = some (.cells ([a].flatMap opE.enc) 0 (some 19) true)
      simp
  · obtain ⟨y', M', h1, h2⟩ := h.app (bytes := 160) opE_one a (by omega) (by omega)
    exact ⟨y', M', h1, .inr h2⟩
theorem oRo_ok : OK Try.prog (lamOf Try.prog) (orcOf [(27, subsS), (28, findS)]) := orc_ok (by simpa using ⟨subs_ok, ffind_ok⟩)
set_option maxHeartbeats 1000000 in
theorem rops_ok : SpecOK Try.prog 13 ropsS := by
  intro args S x S' h
  simp only [ropsS] at h
  split at h
  · rename_i s t
    split at h
    · rename_i a b ha hb
      split at h
      · rename_i hc
        obtain ⟨la, lb, ra, rb⟩ := hc
        cases h
        have hul := uni_len a b
        have hsub : ∀ L, subsS [s, t] (S ++ L) = some (retX true (S ++ L) (uni a b), retM true (intE .i64) (S ++ L) (uni a b)) := fun L => by
          simp only [subsS, lstV_grow ha L, lstV_grow hb L]
          rw [if_pos ⟨la, lb, ra, rb⟩]
        have hsub := hsub [.cells [] 0 none true]
        have hU := retX_lst (z := true) (E := intE .i64) (S := S ++ [.cells [] 0 none true]) (l := uni a b)
        have hUM : S ++ [.cells [] 0 none true] <+: retM true (intE .i64) (S ++ [.cells [] 0 none true]) (uni a b) := retM_ext
        generalize retX true (S ++ [.cells [] 0 none true]) (uni a b) = X0 at hsub hU
        generalize retM true (intE .i64) (S ++ [.cells [] 0 none true]) (uni a b) = M1 at hsub hU hUM
        have hi1 : M1[S.length]? = some (.cells [] 0 none true) := at_pre hUM (by rw [at_app0]; rfl)
        refine fn_of_wp f13 rfl (W_sound oRo_ok mixed _ _ _ _ _ ?_)
        simp (maxSteps := 1000000) (disch := omega) only [c13, List.replicate, orc_cons, hsub, lst_len hU, go_sem, Option.map_none, Option.map_some, ↓reduceIte, Nat.reduceBEq, Nat.reduceAdd, Nat.reduceSub, Nat.reduceEqDiff, Nat.reduceLeDiff, Nat.reduceMul, Nat.reduceLT, Int.reduceLT, Int.reduceLE, Int.reduceAdd, Int.reduceSub, Int.reduceMul, Int.reduceNeg, Int.reduceEq, Int.reduceNe, Int.reduceToNat, decide_true, decide_false, iaddr_i, iaddr_sl_i, not_true_eq_false, not_false_eq_true, reduceCtorEq, ne_eq, forall_const, false_imp_iff, true_imp_iff, implies_true, Int.cast_ofNat_Int, Int.natCast_zero, Int.natCast_one, Int.add_zero, Int.zero_add]
        refine wp_loop (fun j e M dl => dl = [] ∧ ∃ (k : Nat) (y : AV), j = (uni a b).length - k ∧ k ≤ (uni a b).length ∧ Lm S.length M1 M y (partL a b k) ∧
          e.get 1 = t ∧ e.get 0 = s ∧ e.get 16 = X0 ∧ e.get 17 = .i .i64 (uni a b).length ∧ e.get 18 = .i .i64 k ∧ e.get 5 = y) (j := (uni a b).length) ?_ ?_
        · exact ⟨rfl, 0, _, rfl, Nat.zero_le _, .inl ⟨rfl, rfl, ext_refl⟩, rfl, rfl, rfl, rfl, rfl, rfl⟩
        rintro j e M d' ⟨rfl, k, y, rfl, hk, hLm, e1, e0, e16, e17, e18, e5⟩
        refine W_sound oRo_ok mixed _ _ _ _ _ ?_
        have hM1 := hLm.ext
        have hSM := ((ext_app _).trans hUM).trans hM1
        have haM := lst_ext ha hSM
        have hbM := lst_ext hb hSM
        have hpl := partL_len a b k
        by_cases hkl : k < (uni a b).length
        · obtain ⟨bi, o, v, cap, ex, rfl⟩ := lst_sl hU hkl
          have hcell := lstV_cell (lst_ext hU hM1) rfl (fun a => rfl) hkl []
          rw [List.append_nil] at hcell
          have hkI : (k : Int) < (uni a b).length := by omega
          have hk6 : k < 1000000 := by omega
          have hsucc := partL_succ hkl
          generalize (uni a b)[k] = id at hcell hsucc
          obtain ⟨p1, o1, hf1, hc1⟩ := foundP_case (pfind a id)
          obtain ⟨p2, o2, hf2, hc2⟩ := foundP_case (pfind b id)
          have hfa : findS [s, .i .i64 id] M = some (.tu [.ag (polE.enc p1), .b o1], M) := by rw [find_eq haM _ (by omega), hf1]
          have hfb : ∀ L, findS [t, .i .i64 id] (M ++ L) = some (.tu [.ag (polE.enc p2), .b o2], M ++ L) := fun L => by rw [find_eq (lstV_grow hbM L) _ (by omega), hf2]
          have hne := ne_pol (a := p1) (b := p2)
          have app := fun (c : Ch) => (hLm.grow [.cells (polE.enc p1) 0 none true, .cells (polE.enc p2) 0 none true, .cells (opE.enc c.op) 0 none true]).app hi1 c.op (by omega)
          simp only [polE] at hne
          simp only [polE, Pol.enc] at hfa hfb
          rcases hc2 with ⟨rfl, q2⟩ | ⟨rfl, q2, rfl⟩
          · rcases hc1 with ⟨rfl, q1⟩ | ⟨rfl, q1, rfl⟩
            · by_cases hpq : p1 = p2
              · have hop : opAt a b id = none := by unfold opAt; rw [q2, q1, hpq]; simp
                rw [hop] at hsucc
                simp only [Option.map_none, Option.toList_none, List.append_nil] at hsucc
                rw [decide_eq_false (fun q => q hpq)] at hne
                simp only [Pol.enc] at hne
                simp (maxSteps := 1000000) (disch := omega) only [c13l0, e1, e0, e16, e17, e18, e5, hkI, Int.toNat_natCast, Nat.mul_one, hcell, orc_cons, hfa, hfb, List.replicate, hne, wrapS hk6, go_sem, Option.map_none, Option.map_some, ↓reduceIte, Nat.reduceBEq, Nat.reduceAdd, Nat.reduceSub, Nat.reduceEqDiff, Nat.reduceLeDiff, Nat.reduceMul, Nat.reduceLT, Int.reduceLT, Int.reduceLE, Int.reduceAdd, Int.reduceSub, Int.reduceMul, Int.reduceNeg, Int.reduceEq, Int.reduceNe, Int.reduceToNat, decide_true, decide_false, iaddr_i, iaddr_sl_i, not_true_eq_false, not_false_eq_true, reduceCtorEq, ne_eq, forall_const, false_imp_iff, true_imp_iff, implies_true, Int.cast_ofNat_Int, Int.natCast_zero, Int.natCast_one, Int.add_zero, Int.zero_add]
                exact ⟨(uni a b).length - (k + 1), by omega, k + 1, y, rfl, hkl, by rw [hsucc]; exact hLm.grow _, rfl, rfl⟩
              · have hop : opAt a b id = some (.put p2) := by unfold opAt; rw [q2, q1]; simp [hpq]
                rw [hop] at hsucc
                simp only [Option.map_some, Option.toList_some] at hsucc
                rw [decide_eq_true hpq] at hne
                simp only [Pol.enc] at hne
                obtain ⟨y', M', hap, hA'⟩ := app (.put p2)
                simp only [opE, opC, Ch.op, polE, Pol.enc] at hap
                simp (maxSteps := 1000000) (disch := omega) only [c13l0, e1, e0, e16, e17, e18, e5, hkI, Int.toNat_natCast, Nat.mul_one, hcell, orc_cons, hfa, hfb, List.replicate, hne, hap, wrapS hk6, go_sem, Option.map_none, Option.map_some, ↓reduceIte, Nat.reduceBEq, Nat.reduceAdd, Nat.reduceSub, Nat.reduceEqDiff, Nat.reduceLeDiff, Nat.reduceMul, Nat.reduceLT, Int.reduceLT, Int.reduceLE, Int.reduceAdd, Int.reduceSub, Int.reduceMul, Int.reduceNeg, Int.reduceEq, Int.reduceNe, Int.reduceToNat, decide_true, decide_false, iaddr_i, iaddr_sl_i, not_true_eq_false, not_false_eq_true, reduceCtorEq, ne_eq, forall_const, false_imp_iff, true_imp_iff, implies_true, Int.cast_ofNat_Int, Int.natCast_zero, Int.natCast_one, Int.add_zero, Int.zero_add]
                exact ⟨(uni a b).length - (k + 1), by omega, k + 1, y', rfl, hkl, by rw [hsucc]; exact hA', rfl, rfl⟩
            · have hop : opAt a b id = some (.put p2) := by unfold opAt; rw [q2, q1]; simp
              rw [hop] at hsucc
              simp only [Option.map_some, Option.toList_some] at hsucc
              obtain ⟨y', M', hap, hA'⟩ := app (.put p2)
              simp only [opE, opC, Ch.op, polE, Pol.enc] at hap
              simp (maxSteps := 1000000) (disch := omega) only [c13l0, e1, e0, e16, e17, e18, e5, hkI, Int.toNat_natCast, Nat.mul_one, hcell, orc_cons, hfa, hfb, List.replicate, hap, wrapS hk6, go_sem, Option.map_none, Option.map_some, ↓reduceIte, Nat.reduceBEq, Nat.reduceAdd, Nat.reduceSub, Nat.reduceEqDiff, Nat.reduceLeDiff, Nat.reduceMul, Nat.reduceLT, Int.reduceLT, Int.reduceLE, Int.reduceAdd, Int.reduceSub, Int.reduceMul, Int.reduceNeg, Int.reduceEq, Int.reduceNe, Int.reduceToNat, decide_true, decide_false, iaddr_i, iaddr_sl_i, not_true_eq_false, not_false_eq_true, reduceCtorEq, ne_eq, forall_const, false_imp_iff, true_imp_iff, implies_true, Int.cast_ofNat_Int, Int.natCast_zero, Int.natCast_one, Int.add_zero, Int.zero_add]
              exact ⟨(uni a b).length - (k + 1), by omega, k + 1, y', rfl, hkl, by rw [hsucc]; exact hA', rfl, rfl⟩
          · have hop : opAt a b id = some (.drop id) := by unfold opAt; rw [q2]
            rw [hop] at hsucc
            simp only [Option.map_some, Option.toList_some] at hsucc
            obtain ⟨y', M', hap, hA'⟩ := app (.drop id)
            simp only [opE, opC, Ch.op, polE, Pol.enc, noPol] at hap
            simp only [noPol] at hfb
            simp (maxSteps := 1000000) (disch := omega) only [c13l0, e1, e0, e16, e17, e18, e5, hkI, Int.toNat_natCast, Nat.mul_one, hcell, orc_cons, hfa, hfb, List.replicate, hap, wrapS hk6, go_sem, Option.map_none, Option.map_some, ↓reduceIte, Nat.reduceBEq, Nat.reduceAdd, Nat.reduceSub, Nat.reduceEqDiff, Nat.reduceLeDiff, Nat.reduceMul, Nat.reduceLT, Int.reduceLT, Int.reduceLE, Int.reduceAdd, Int.reduceSub, Int.reduceMul, Int.reduceNeg, Int.reduceEq, Int.reduceNe, Int.reduceToNat, decide_true, decide_false, iaddr_i, iaddr_sl_i, not_true_eq_false, not_false_eq_true, reduceCtorEq, ne_eq, forall_const, false_imp_iff, true_imp_iff, implies_true, Int.cast_ofNat_Int, Int.natCast_zero, Int.natCast_one, Int.add_zero, Int.zero_add]
            exact ⟨(uni a b).length - (k + 1), by omega, k + 1, y', rfl, hkl, by rw [hsucc]; exact hA', rfl, rfl⟩
        · have hkI : ¬ (k : Int) < (uni a b).length := by omega
          have hL : opsL a b = wrapL (partL a b k) := by
            unfold opsL partL
            rw [chg_uni a b 0 ra rb, List.take_of_length_le (by omega)]
          rw [hL]
          have hA := hLm.acc hUM
          have hly := lst_len hA.lst
          generalize partL a b k = L at hA hly hpl
          by_cases hL0 : L = []
          · subst hL0
            simp only [List.length_nil] at hly
            simp (maxSteps := 1000000) (disch := omega) only [c13l0, e1, e0, e16, e17, e18, e5, hkI, hly, go_sem, Option.map_none, Option.map_some, ↓reduceIte, Nat.reduceBEq, Nat.reduceAdd, Nat.reduceSub, Nat.reduceEqDiff, Nat.reduceLeDiff, Nat.reduceMul, Nat.reduceLT, Int.reduceLT, Int.reduceLE, Int.reduceAdd, Int.reduceSub, Int.reduceMul, Int.reduceNeg, Int.reduceEq, Int.reduceNe, Int.reduceToNat, decide_true, decide_false, iaddr_i, iaddr_sl_i, not_true_eq_false, not_false_eq_true, reduceCtorEq, ne_eq, forall_const, false_imp_iff, true_imp_iff, implies_true, Int.cast_ofNat_Int, Int.natCast_zero, Int.natCast_one, Int.add_zero, Int.zero_add]
            exact hA.ret opE_flat
          · have hpos := List.length_pos_iff.2 hL0
            have hn0 : ¬ ((L.length : Nat) : Int) = 0 := by omega
            have hy : ∀ U, srcV (M ++ U) 19 y = some (L.flatMap opE.enc, L.length) := fun U => src_lst (lstV_grow hA.lst U)
            obtain ⟨x2, M2, U2, ha2, hl2, _, hacc⟩ := (accL_lit (E := opE) (S := S) (M := M) (l := [opOf 3]) hA.ext).apps (bytes := 160) opE_one [] L (by simp only [List.length_cons, List.length_nil]; omega) (by simp only [List.length_cons, List.length_nil]; omega)
            rw [List.append_nil] at ha2
            simp only [List.nil_append] at ha2 hacc
            have hA2 := hacc hL0 true
            obtain ⟨x3, M3, ha3, hA3⟩ := (hA2.grow [.cells (opE.enc (opOf 6)) 0 none true]).app (bytes := 160) opE_one (opOf 6) (by simp only [List.length_append, List.length_cons, List.length_nil]; omega) (by simp only [List.length_append, List.length_cons, List.length_nil]; omega)
            have ha2 : appV (M ++ [.cells (opE.enc (opOf 3)) 0 none true]) 19 160 (.sl M.length 0 0 1 1 true) (L.flatMap opE.enc) L.length = some (x2, M2 ++ U2) := ha2
            generalize M2 ++ U2 = M4 at ha2 ha3 hA2
            have hwl : wrapL L = [opOf 3] ++ L ++ [opOf 6] := by unfold wrapL; rw [if_neg hL0]; rfl
            rw [hwl]
            have hy := hy [.cells (opE.enc (opOf 3)) 0 none true]
            simp only [opOf, opE, opC, noPol] at ha2 ha3 hy
            simp (maxSteps := 1000000) (disch := omega) only [c13l0, e1, e0, e16, e17, e18, e5, hkI, hly, hn0, hy, ha2, ha3, go_sem, Option.map_none, Option.map_some, ↓reduceIte, Nat.reduceBEq, Nat.reduceAdd, Nat.reduceSub, Nat.reduceEqDiff, Nat.reduceLeDiff, Nat.reduceMul, Nat.reduceLT, Int.reduceLT, Int.reduceLE, Int.reduceAdd, Int.reduceSub, Int.reduceMul, Int.reduceNeg, Int.reduceEq, Int.reduceNe, Int.reduceToNat, decide_true, decide_false, iaddr_i, iaddr_sl_i, not_true_eq_false, not_false_eq_true, reduceCtorEq, ne_eq, forall_const, false_imp_iff, true_imp_iff, implies_true, Int.cast_ofNat_Int, Int.natCast_zero, Int.natCast_one, Int.add_zero, Int.zero_add]
            exact hA3.ret opE_flat
      · cases h
    · cases h
  · cases h
end Go.Proofs.Ytcoljpgnjiakjaa

namespace Go.Proofs.Ytcoljpgnjiakjaa
open Go.RowKit
set_option linter.unusedSimpArgs false
set_option linter.unusedVariables false
set_option maxRecDepth 100000

theorem alive_run : isTrue ((evAll tab 100000 100).fn 8 [] []) = true := by kernel_rfl
def aliveS : Spec := fun args S => match args with
  | [] => some (.b true, S)
  | _ => none
theorem alive_ok : SpecOK Try.prog 8 aliveS := by
  intro args S x S' h
  unfold aliveS at h
  split at h
  · cases h
    exact fnOK_of_below (by kernel_rfl) (fun w => calls_of_ev mixed tab_ok alive_run w) S
  · cases h

end Go.Proofs.Ytcoljpgnjiakjaa

namespace Go.Proofs.Ytcoljpgnjiakjaa
open Go.RowKit
set_option linter.unusedVariables false
set_option maxRecDepth 100000

section
variable {H : Type} {enc : TypeId × Value → H} {W : World}
abbrev polSh : List CS := [.int .i64, .int .u8, .int .u8, .int .u8, .int .u8, .int .i64, .int .u64, .int .u64, .int .u64, .int .u64, .int .u64, .int .u64, .int .u64]
theorem rowPol {cs : List Value} (h : RowIs enc Try.prog W polSh cs) : ∃ a : Pol, cs.map (absV W) = a.enc := by
  obtain ⟨h1, h2⟩ := h
  match cs, h1 with
  | [x0, x1, x2, x3, x4, x5, x6, x7, x8, x9, x10, x11, x12], _ =>
    obtain ⟨a0, rfl, w0⟩ := h2 0 (by simp) (by simp)
    obtain ⟨a1, rfl, w1⟩ := h2 1 (by simp) (by simp)
    obtain ⟨a2, rfl, w2⟩ := h2 2 (by simp) (by simp)
    obtain ⟨a3, rfl, w3⟩ := h2 3 (by simp) (by simp)
    obtain ⟨a4, rfl, w4⟩ := h2 4 (by simp) (by simp)
    obtain ⟨a5, rfl, w5⟩ := h2 5 (by simp) (by simp)
    obtain ⟨a6, rfl, w6⟩ := h2 6 (by simp) (by simp)
    obtain ⟨a7, rfl, w7⟩ := h2 7 (by simp) (by simp)
    obtain ⟨a8, rfl, w8⟩ := h2 8 (by simp) (by simp)
    obtain ⟨a9, rfl, w9⟩ := h2 9 (by simp) (by simp)
    obtain ⟨a10, rfl, w10⟩ := h2 10 (by simp) (by simp)
    obtain ⟨a11, rfl, w11⟩ := h2 11 (by simp) (by simp)
    obtain ⟨a12, rfl, w12⟩ := h2 12 (by simp) (by simp)
    exact ⟨⟨a0, a1, a2, a3, a4, a5, a6, a7, a8, a9, a10, a11, a12⟩, rfl⟩
theorem cellPols {v : Value} (h : CellIs enc Try.prog W (.slice 28) v) : ∃ l : List Pol, lstV polE (absS W) (absV W v) = some l := by
  have s2 : shapes Try.prog 20 28 = some polSh := by kernel_rfl
  have c2 : Try.prog.cellsOf 28 = 13 := by kernel_rfl
  obtain ⟨l, hl, _⟩ := lst_of (e := Pol.enc) (sz := 13) c2 (by omega) h (fun cs fuel x ht => let ⟨a, h1⟩ := rowPol (shapes_ok 20 fuel 28 cs x _ ht s2); ⟨a, h1, rfl⟩)
    (good := fun _ => True) (fun cs fuel x a ht he => trivial)
  exact ⟨l, lst_lstV (E := polE) hl⟩
theorem argPols {v : Value} {base : Nat} {d : DataW H} {ps : List MemPlace} (o : Value.okWide Try.prog W .any base 29 v) (h : DataW.Trod enc Try.prog W 0 (fun _ => true) true 29 v d ps) :
    ∃ l, lstV polE (absS W) (absA W v) = some l := by
  have s0 : shapes Try.prog 20 29 = some [.slice 28] := by kernel_rfl
  have hv : v.cells.toList = [v] ∧ absA W v = absV W v := by
    cases v with
    | agg cs =>
      unfold Value.okWide at o
      rw [Try.underlying29] at o
      unfold Cell.okWide at o
      rw [Try.underlying29] at o
      unfold Cell.ok at o
      rw [Try.underlying29] at o
      simp at o
    | _ => exact ⟨rfl, rfl⟩
  obtain ⟨h1, h2⟩ := arg_row h s0
  rw [hv.1] at h1 h2
  have hc := h2 0 (by simp) (by simp)
  simp only [List.getElem_cons_zero] at hc
  rw [hv.2]
  exact cellPols hc
end
end Go.Proofs.Ytcoljpgnjiakjaa

namespace Go.Proofs.Ytcoljpgnjiakjaa
open Go.RowKit
set_option linter.unusedSimpArgs false
set_option linter.unusedVariables false
set_option maxRecDepth 100000

theorem great_no {a b : List Pol} (h : greatF a b = false) : a.length ≤ 30 ∧ b.length ≤ 30 ∧ risF 0 a = true ∧ risF 0 b = true := by
  simpa [greatF, Nat.not_lt, and_assoc] using h
theorem cost_eq {S : Mem} {x y : AV} {a b : List Pol} (ha : lstV polE S x = some a) (hb : lstV polE S y = some b) (h1 : a.length ≤ 400000) (h2 : b.length ≤ 400000) : costS [x, y] S = some (.i .i64 (costF a b), S) := by
  simp only [costS, ha, hb]; rw [if_pos ⟨h1, h2⟩]
theorem great_eq {S : Mem} {x y : AV} {a b : List Pol} (ha : lstV polE S x = some a) (hb : lstV polE S y = some b) : greatS [x, y] S = some (.b (greatF a b), S) := by
  simp only [greatS, ha, hb]
theorem sameP_eq {S : Mem} {x y : AV} {a b : List Pol} (ha : lstV polE S x = some a) (hb : lstV polE S y = some b) (h1 : a.length ≤ 900000) : samePS [x, y] S = some (.b (decide (a = b)), S) := by
  simp only [samePS, ha, hb]; rw [if_pos h1]
section
variable {H : Type} {enc : TypeId × Value → H}
end
end Go.Proofs.Ytcoljpgnjiakjaa

namespace Go.Proofs.Ytcoljpgnjiakjaa
open Go.RowKit
set_option linter.unusedSimpArgs false
set_option linter.unusedVariables false
set_option maxRecDepth 100000

theorem ops_eq {S : Mem} {x y : AV} {a b : List Pol} (ha : lstV polE S x = some a) (hb : lstV polE S y = some b) (h1 : a.length ≤ 400000) (h2 : b.length ≤ 400000) : opsS [x, y] S = some (retX false S (opsL a b), retM false opE S (opsL a b)) := by
  simp only [opsS, ha, hb]; rw [if_pos ⟨h1, h2⟩]
theorem rops_eq {S : Mem} {x y : AV} {a b : List Pol} (ha : lstV polE S x = some a) (hb : lstV polE S y = some b) (h1 : a.length ≤ 400000) (h2 : b.length ≤ 400000) (h3 : risF 0 a = true) (h4 : risF 0 b = true) : ropsS [x, y] S = some (retX true S (opsL a b), retM true opE S (opsL a b)) := by
  simp only [ropsS, ha, hb]; rw [if_pos ⟨h1, h2, h3, h4⟩]
theorem sameL_eq {S : Mem} {x y : AV} {l m : List Opv} (hl : lstV opE S x = some l) (hm : lstV opE S y = some m) (h1 : l.length ≤ 900000) : sameLS [x, y] S = some (.b (decide (l = m)), S) := by
  simp only [sameLS, hl, hm]; rw [if_pos h1]
theorem opsL_len (a b : List Pol) : max 0 (((opsL a b).length : Int) - 2) = costF a b := by
  unfold opsL wrapL costF
  by_cases h : chg a b = []
  · rw [h]; simp; try omega
  · rw [if_neg (by simpa using h)]
    simp only [List.cons_append, List.length_cons, List.length_append, List.length_map, List.length_nil]
    omega
theorem opsL_le (a b : List Pol) : (opsL a b).length ≤ a.length + b.length + 2 := by
  have := chg_len a b
  unfold opsL wrapL
  split
  · simp
  · simp only [List.cons_append, List.length_cons, List.length_append, List.length_map, List.length_nil]; omega
theorem oDo_ok : OK Try.prog (lamOf Try.prog) (orcOf [(8, aliveS), (12, greatS), (9, opsS), (13, ropsS), (14, sameLS), (10, costS), (15, samePS)]) := orc_ok (by simpa using ⟨alive_ok, great_ok, ops_ok, rops_ok, sameL_ok, cost_ok, sameP_ok⟩)
theorem diffops_ok (S : Mem) (x y : AV) (a b : List Pol) (ha : lstV polE S x = some a) (hb : lstV polE S y = some b) : FnOK Try.prog 4 [x, y] S (.b true) S := by
  have g1 := great_eq ha hb
  refine fn_of_wp f4 rfl (W_sound oDo_ok mixed _ _ _ _ _ ?_)
  cases h1 : greatF a b with
  | true =>
    rw [h1] at g1
    simp (maxSteps := 1000000) (disch := omega) only [c4, orc_cons, aliveS, g1, go_sem, Option.map_none, Option.map_some, ↓reduceIte, Nat.reduceBEq, Nat.reduceAdd, Nat.reduceSub, Nat.reduceEqDiff, Nat.reduceLeDiff, Nat.reduceMul, Nat.reduceLT, Int.reduceLT, Int.reduceLE, Int.reduceAdd, Int.reduceSub, Int.reduceMul, Int.reduceNeg, Int.reduceEq, Int.reduceNe, Int.reduceToNat, decide_true, decide_false, iaddr_i, iaddr_sl_i, not_true_eq_false, not_false_eq_true, reduceCtorEq, ne_eq, forall_const, false_imp_iff, true_imp_iff, implies_true, Int.cast_ofNat_Int, Int.natCast_zero, Int.natCast_one, Int.add_zero, Int.zero_add]
    exact wkv_same
  | false =>
    rw [h1] at g1
    obtain ⟨la, lb, ra, rb⟩ := great_no h1
    obtain ⟨X1, M1, hap1, hX1⟩ := (acc_lit (E := polE) (S := S) (M := S) ext_refl).apps (bytes := 80) polE_one a (by simp only [List.length_nil]; omega) (by simp only [List.length_nil]; omega)
    rw [List.nil_append] at hX1
    have hap1 : appV (S ++ [.cells [] 0 none true]) 13 80 (.sl S.length 0 0 0 0 true) (a.flatMap polE.enc) a.length = some (X1, M1) := hap1
    have hbM1 := lst_ext hb hX1.ext
    obtain ⟨X2, M2, hap2, hX2⟩ := (acc_lit (E := polE) (S := M1) (M := M1) ext_refl).apps (bytes := 80) polE_one b (by simp only [List.length_nil]; omega) (by simp only [List.length_nil]; omega)
    rw [List.nil_append] at hX2
    have hap2 : appV (M1 ++ [.cells [] 0 none true]) 13 80 (.sl M1.length 0 0 0 0 true) (b.flatMap polE.enc) b.length = some (X2, M2) := hap2
    have hs1 : ∀ L, srcV (S ++ L) 13 x = some (a.flatMap polE.enc, a.length) := fun L => src_lst (lstV_grow ha L)
    have hs2 : ∀ L, srcV (M1 ++ L) 13 y = some (b.flatMap polE.enc, b.length) := fun L => src_lst (lstV_grow hbM1 L)
    have hSM2 := hX1.ext.trans hX2.ext
    have e1 := ops_eq (lst_ext hX1.lst hX2.ext) hX2.lst (by omega) (by omega)
    have hl1 := retX_lst (z := false) (E := opE) (S := M2) (l := opsL a b)
    have hM3 : M2 <+: retM false opE M2 (opsL a b) := retM_ext
    generalize retX false M2 (opsL a b) = Y1 at e1 hl1
    generalize retM false opE M2 (opsL a b) = M3 at e1 hl1 hM3
    have hSM3 := hSM2.trans hM3
    have e2 := rops_eq (lst_ext ha hSM3) (lst_ext hb hSM3) (by omega) (by omega) ra rb
    have hl2 := retX_lst (z := true) (E := opE) (S := M3) (l := opsL a b)
    have hM4 : M3 <+: retM true opE M3 (opsL a b) := retM_ext
    generalize retX true M3 (opsL a b) = Y2 at e2 hl2
    generalize retM true opE M3 (opsL a b) = M4 at e2 hl2 hM4
    have hSM4 := hSM3.trans hM4
    have hol := opsL_le a b
    have e3 := sameL_eq (lst_ext hl1 hM4) hl2 (by omega)
    rw [decide_eq_true rfl] at e3
    have hx1 := lst_ext hX1.lst ((hX2.ext.trans hM3).trans hM4)
    have hx2 := lst_ext hX2.lst (hM3.trans hM4)
    have e4 := cost_eq hx1 hx2 (by omega) (by omega)
    have e5 := sameP_eq hx1 (lst_ext ha hSM4) (by omega)
    have e6 := sameP_eq hx2 (lst_ext hb hSM4) (by omega)
    rw [decide_eq_true rfl] at e5 e6
    have hly := lst_len hl2
    have hw : wrapV .i64 (((opsL a b).length : Int) - 2) = ((opsL a b).length : Int) - 2 := wrap_i64 (by omega) (by omega)
    have hmax := opsL_len a b
    simp (maxSteps := 1000000) (disch := omega) only [c4, orc_cons, aliveS, g1, hs1, hap1, hs2, hap2, e1, e2, hly, hw, hmax, e3, e4, e5, e6, go_sem, Option.map_none, Option.map_some, ↓reduceIte, Nat.reduceBEq, Nat.reduceAdd, Nat.reduceSub, Nat.reduceEqDiff, Nat.reduceLeDiff, Nat.reduceMul, Nat.reduceLT, Int.reduceLT, Int.reduceLE, Int.reduceAdd, Int.reduceSub, Int.reduceMul, Int.reduceNeg, Int.reduceEq, Int.reduceNe, Int.reduceToNat, decide_true, decide_false, iaddr_i, iaddr_sl_i, not_true_eq_false, not_false_eq_true, reduceCtorEq, ne_eq, forall_const, false_imp_iff, true_imp_iff, implies_true, Int.cast_ofNat_Int, Int.natCast_zero, Int.natCast_one, Int.add_zero, Int.zero_add]
    exact wkv_dropP hSM4 rfl
section
variable {H : Type} {enc : TypeId × Value → H}
theorem walkDiffOps (W : World) (v0 v1 : Value) {base : Nat} (o0 : Value.okWide Try.prog W .any base 29 v0) (o1 : Value.okWide Try.prog W .any base 29 v1) {d0 d1 : DataW H} {p0 p1 : List MemPlace}
    (h0 : DataW.Trod enc Try.prog W 0 (fun _ => true) true 29 v0 d0 p0) (h1 : DataW.Trod enc Try.prog W 0 (fun _ => true) true 29 v1 d1 p1) :
    Calls Try.prog 4 #[v0, v1] W fun e w' => e = .returned (.bool true) ∧ Below W.heap.size W w' := by
  obtain ⟨a, ha⟩ := argPols o0 h0
  obtain ⟨b, hb⟩ := argPols o1 h1
  refine calls_of_fnOK (S' := absS W) ?_
  show FnOK Try.prog _ [absA W v0, absA W v1] _ _ _
  exact diffops_ok _ _ _ a b ha hb
end
end Go.Proofs.Ytcoljpgnjiakjaa

