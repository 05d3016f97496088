/- Proved here: what the law of this claim leans on (an evaluator of the model's code, contracts of functions). No condition. -/
import Derived.Test.YtcoljpgnjiakjaaQCode
import Derived.Test.YtcoljpgnjiakjaaMc
namespace Go.Proofs.Ytcoljpgnjiakjaa
open Go.RowKit
set_option linter.unusedSimpArgs false
set_option linter.unusedVariables false
set_option maxRecDepth 10000

theorem none_ok : OK Try.prog (lamOf Try.prog) (orcOf []) := orc_ok (l := []) (fun p hp => by cases hp)
theorem wrapS {t : Nat} (h : t < 1000000) : wrapV .i64 ((t : Int) + 1) = ((t + 1 : Nat) : Int) := by rw [wrap_i64 (by omega) (by omega)]; omega
structure Pol where
  sub : Int
  a : Int
  b : Int
  c : Int
  d : Int
  bits : Int
  rate : Int
  burst : Int
  srate : Int
  sburst : Int
  quota : Int
  lease : Int
  quantum : Int
  deriving DecidableEq
def Pol.enc (p : Pol) : List AV := [.i .i64 p.sub, .i .u8 p.a, .i .u8 p.b, .i .u8 p.c, .i .u8 p.d, .i .i64 p.bits, .i .u64 p.rate, .i .u64 p.burst, .i .u64 p.srate, .i .u64 p.sburst, .i .u64 p.quota, .i .u64 p.lease, .i .u64 p.quantum]
def polE : Enc Pol where
  enc := Pol.enc
  dec r := match r with
    | [.i .i64 sub, .i .u8 a, .i .u8 b, .i .u8 c, .i .u8 d, .i .i64 bits, .i .u64 rate, .i .u64 burst, .i .u64 srate, .i .u64 sburst, .i .u64 quota, .i .u64 lease, .i .u64 quantum] => some ⟨sub, a, b, c, d, bits, rate, burst, srate, sburst, quota, lease, quantum⟩
    | _ => none
  sz := 13
  pos := by decide
  len _ := rfl
  de _ := rfl
  ed r a h := by
    split at h
    · injection h with h; subst h; rfl
    · cases h
theorem ne_pol {a b : Pol} : eqAgV true [.int, .int, .int, .int, .int, .int, .int, .int, .int, .int, .int, .int, .int] (.ag (polE.enc a)) (.ag (polE.enc b)) = some (.b (decide (¬ a = b))) := by
  obtain ⟨a1, a2, a3, a4, a5, a6, a7, a8, a9, a10, a11, a12, a13⟩ := a
  obtain ⟨b1, b2, b3, b4, b5, b6, b7, b8, b9, b10, b11, b12, b13⟩ := b
  simp [eqAgV, eqCells, eqCell, polE, Pol.enc, Bool.beq_eq_decide_eq, and_assoc]
theorem eq_pol {a b : Pol} : eqAgV false [.int, .int, .int, .int, .int, .int, .int, .int, .int, .int, .int, .int, .int] (.ag (polE.enc a)) (.ag (polE.enc b)) = some (.b (decide (a = b))) := by
  obtain ⟨a1, a2, a3, a4, a5, a6, a7, a8, a9, a10, a11, a12, a13⟩ := a
  obtain ⟨b1, b2, b3, b4, b5, b6, b7, b8, b9, b10, b11, b12, b13⟩ := b
  simp [eqAgV, eqCells, eqCell, polE, Pol.enc, Bool.beq_eq_decide_eq, and_assoc]

/-! ### Rising -/
def risF : Int → List Pol → Bool
  | _, [] => true
  | n, p :: l => decide (n < p.sub) && risF p.sub l
def risS : Spec := fun args S => match args with
  | [x] => match lstV polE S x with
    | some l => if l.length ≤ 900000 then some (.b (risF 0 l), S) else none
    | none => none
  | _ => none
theorem ris_ok : SpecOK Try.prog 26 risS := by
  intro args S x S' h
  simp only [risS] at h
  split at h
  · rename_i s
    split at h
    · rename_i l hl
      split at h
      · rename_i hlim
        cases h
        refine fn_of_wp f26 rfl (W_sound none_ok mixed _ _ _ _ _ ?_)
        simp (maxSteps := 1000000) (disch := omega) only [c26, lst_len hl, go_sem, Option.map_none, Option.map_some, ↓reduceIte, Nat.reduceBEq, Nat.reduceAdd, Nat.reduceSub, Nat.reduceEqDiff, Nat.reduceLeDiff, Nat.reduceMul, Nat.reduceLT, Int.reduceLT, Int.reduceLE, Int.reduceAdd, Int.reduceSub, Int.reduceMul, Int.reduceNeg, Int.reduceEq, Int.reduceNe, Int.reduceToNat, decide_true, decide_false, iaddr_i, iaddr_sl_i, not_true_eq_false, not_false_eq_true, reduceCtorEq, ne_eq, forall_const, false_imp_iff, true_imp_iff, implies_true, Int.cast_ofNat_Int, Int.natCast_zero, Int.natCast_one, Int.add_zero, Int.zero_add]
        refine wp_loop (fun j e M dl => dl = [] ∧ ∃ (k : Nat) (n : Int), j = l.length - k ∧ k ≤ l.length ∧ S <+: M ∧ risF 0 l = risF n (l.drop k) ∧
          e.get 6 = s ∧ e.get 7 = .i .i64 l.length ∧ e.get 8 = .i .i64 k ∧ e.get 3 = .i .i64 n) (j := l.length) ⟨rfl, 0, 0, rfl, Nat.zero_le _, ext_refl, rfl, rfl, rfl, rfl, rfl⟩ ?_
        rintro j e M d' ⟨rfl, k, n, rfl, hk, hSM, hr, h6, h7, h8, h3⟩
        refine W_sound none_ok mixed _ _ _ _ _ ?_
        by_cases hkl : k < l.length
        · obtain ⟨bi, o, v, cap, ex, rfl⟩ := lst_sl hl hkl
          have hro := lstV_row (lst_ext hl hSM) hkl []
          rw [List.append_nil] at hro
          have hkI : (k : Int) < l.length := by omega
          have hk6 : k < 1000000 := by omega
          have hdr : l.drop k = l[k] :: l.drop (k + 1) := List.drop_eq_getElem_cons hkl
          rw [hdr] at hr
          have hro : rowB (M[bi]?) (o + k * 13) v 13 = some (l[k]).enc := hro
          generalize l[k] = p at hro hr
          simp only [Pol.enc] at hro
          simp only [risF] at hr
          by_cases hlt : n < p.sub
          · have hlt' : ¬ p.sub ≤ n := by omega
            rw [decide_eq_true hlt, Bool.true_and] at hr
            simp (maxSteps := 1000000) (disch := omega) only [c26l0, h6, h7, h8, h3, hkI, Int.toNat_natCast, hro, List.replicate, hlt', wrapS hk6, go_sem, Option.map_none, Option.map_some, ↓reduceIte, Nat.reduceBEq, Nat.reduceAdd, Nat.reduceSub, Nat.reduceEqDiff, Nat.reduceLeDiff, Nat.reduceMul, Nat.reduceLT, Int.reduceLT, Int.reduceLE, Int.reduceAdd, Int.reduceSub, Int.reduceMul, Int.reduceNeg, Int.reduceEq, Int.reduceNe, Int.reduceToNat, decide_true, decide_false, iaddr_i, iaddr_sl_i, not_true_eq_false, not_false_eq_true, reduceCtorEq, ne_eq, forall_const, false_imp_iff, true_imp_iff, implies_true, Int.cast_ofNat_Int, Int.natCast_zero, Int.natCast_one, Int.add_zero, Int.zero_add]
            exact ⟨l.length - (k + 1), by omega, k + 1, p.sub, rfl, hkl, ext_more hSM _, hr, rfl, rfl⟩
          · have hlt' : p.sub ≤ n := by omega
            rw [decide_eq_false hlt, Bool.false_and] at hr
            rw [hr]
            simp (maxSteps := 1000000) (disch := omega) only [c26l0, h6, h7, h8, h3, hkI, Int.toNat_natCast, hro, List.replicate, hlt', go_sem, Option.map_none, Option.map_some, ↓reduceIte, Nat.reduceBEq, Nat.reduceAdd, Nat.reduceSub, Nat.reduceEqDiff, Nat.reduceLeDiff, Nat.reduceMul, Nat.reduceLT, Int.reduceLT, Int.reduceLE, Int.reduceAdd, Int.reduceSub, Int.reduceMul, Int.reduceNeg, Int.reduceEq, Int.reduceNe, Int.reduceToNat, decide_true, decide_false, iaddr_i, iaddr_sl_i, not_true_eq_false, not_false_eq_true, reduceCtorEq, ne_eq, forall_const, false_imp_iff, true_imp_iff, implies_true, Int.cast_ofNat_Int, Int.natCast_zero, Int.natCast_one, Int.add_zero, Int.zero_add]
            exact wkv_dropP (ext_more hSM _) rfl
        · have hkI : ¬ (k : Int) < l.length := by omega
          rw [List.drop_of_length_le (by omega)] at hr
          rw [hr]
          simp (maxSteps := 1000000) (disch := omega) only [c26l0, h6, h7, h8, h3, hkI, go_sem, Option.map_none, Option.map_some, ↓reduceIte, Nat.reduceBEq, Nat.reduceAdd, Nat.reduceSub, Nat.reduceEqDiff, Nat.reduceLeDiff, Nat.reduceMul, Nat.reduceLT, Int.reduceLT, Int.reduceLE, Int.reduceAdd, Int.reduceSub, Int.reduceMul, Int.reduceNeg, Int.reduceEq, Int.reduceNe, Int.reduceToNat, decide_true, decide_false, iaddr_i, iaddr_sl_i, not_true_eq_false, not_false_eq_true, reduceCtorEq, ne_eq, forall_const, false_imp_iff, true_imp_iff, implies_true, Int.cast_ofNat_Int, Int.natCast_zero, Int.natCast_one, Int.add_zero, Int.zero_add]
          exact wkv_dropP hSM rfl
      · cases h
    · cases h
  · cases h

/-! ### SamePolicies -/
def samePS : Spec := fun args S => match args with
  | [x, y] => match lstV polE S x, lstV polE S y with
    | some l, some m => if l.length ≤ 900000 then some (.b (decide (l = m)), S) else none
    | _, _ => none
  | _ => none
theorem sameP_ok : SpecOK Try.prog 15 samePS := by
  intro args S x S' h
  simp only [samePS] at h
  split at h
  · rename_i s t
    split at h
    · rename_i l m hl hm
      split at h
      · rename_i hlim
        cases h
        refine fn_of_wp f15 rfl (W_sound none_ok mixed _ _ _ _ _ ?_)
        simp (maxSteps := 1000000) (disch := omega) only [c15, lst_len hl, lst_len hm, go_sem, Option.map_none, Option.map_some, ↓reduceIte, Nat.reduceBEq, Nat.reduceAdd, Nat.reduceSub, Nat.reduceEqDiff, Nat.reduceLeDiff, Nat.reduceMul, Nat.reduceLT, Int.reduceLT, Int.reduceLE, Int.reduceAdd, Int.reduceSub, Int.reduceMul, Int.reduceNeg, Int.reduceEq, Int.reduceNe, Int.reduceToNat, decide_true, decide_false, iaddr_i, iaddr_sl_i, not_true_eq_false, not_false_eq_true, reduceCtorEq, ne_eq, forall_const, false_imp_iff, true_imp_iff, implies_true, Int.cast_ofNat_Int, Int.natCast_zero, Int.natCast_one, Int.add_zero, Int.zero_add]
        refine ⟨fun hne => wkv_fP ext_refl fun q => hne (by rw [q]), fun he => ?_⟩
        have he : l.length = m.length := by omega
        refine wp_loop (fun j e M dl => dl = [] ∧ ∃ k : Nat, j = l.length - k ∧ k ≤ l.length ∧ M = S ∧ (∀ i (hi : i < k) (h1 : i < l.length) (h2 : i < m.length), l[i] = m[i]) ∧
          e.get 0 = s ∧ e.get 1 = t ∧ e.get 12 = .i .i64 l.length ∧ e.get 13 = .i .i64 k) (j := l.length) ⟨rfl, 0, rfl, Nat.zero_le _, rfl, fun i hi => absurd hi (Nat.not_lt_zero _), rfl, rfl, rfl, rfl⟩ ?_
        rintro j e M d' ⟨rfl, k, rfl, hk, rfl, hn, h0, h1, h12, h13⟩
        refine W_sound none_ok mixed _ _ _ _ _ ?_
        by_cases hkl : k < l.length
        · obtain ⟨bi, o, v, cap, ex, rfl⟩ := lst_sl hl hkl
          obtain ⟨bj, o2, v2, cap2, ex2, rfl⟩ := lst_sl hm (show k < m.length by omega)
          have hkI : (k : Int) < l.length := by omega
          have hk6 : k < 1000000 := by omega
          have ha := lstV_row hl hkl []
          have hb := lstV_row hm (show k < m.length by omega) []
          rw [List.append_nil] at ha hb
          have ha : rowB (M[bi]?) (o + k * 13) v 13 = some (polE.enc l[k]) := ha
          have hb : rowB (M[bj]?) (o2 + k * 13) v2 13 = some (polE.enc (m[k]'(by omega))) := hb
          simp (maxSteps := 1000000) (disch := omega) only [c15l1, h0, h1, h12, h13, hkI, Int.toNat_natCast, ha, hb, ne_pol, wrapS hk6, go_sem, Option.map_none, Option.map_some, ↓reduceIte, Nat.reduceBEq, Nat.reduceAdd, Nat.reduceSub, Nat.reduceEqDiff, Nat.reduceLeDiff, Nat.reduceMul, Nat.reduceLT, Int.reduceLT, Int.reduceLE, Int.reduceAdd, Int.reduceSub, Int.reduceMul, Int.reduceNeg, Int.reduceEq, Int.reduceNe, Int.reduceToNat, decide_true, decide_false, iaddr_i, iaddr_sl_i, not_true_eq_false, not_false_eq_true, reduceCtorEq, ne_eq, forall_const, false_imp_iff, true_imp_iff, implies_true, Int.cast_ofNat_Int, Int.natCast_zero, Int.natCast_one, Int.add_zero, Int.zero_add]
          refine ⟨fun hd => wkv_fP ext_refl fun q => hd (by subst q; rfl), fun hd => ⟨l.length - (k + 1), by omega, k + 1, rfl, hkl, fun i hi h1 h2 => ?_, rfl⟩⟩
          by_cases hik : i = k
          · subst hik; exact Decidable.not_not.1 hd
          · exact hn i (by omega) h1 h2
        · have hkI : ¬ (k : Int) < l.length := by omega
          simp (maxSteps := 1000000) (disch := omega) only [c15l1, h0, h1, h12, h13, hkI, go_sem, Option.map_none, Option.map_some, ↓reduceIte, Nat.reduceBEq, Nat.reduceAdd, Nat.reduceSub, Nat.reduceEqDiff, Nat.reduceLeDiff, Nat.reduceMul, Nat.reduceLT, Int.reduceLT, Int.reduceLE, Int.reduceAdd, Int.reduceSub, Int.reduceMul, Int.reduceNeg, Int.reduceEq, Int.reduceNe, Int.reduceToNat, decide_true, decide_false, iaddr_i, iaddr_sl_i, not_true_eq_false, not_false_eq_true, reduceCtorEq, ne_eq, forall_const, false_imp_iff, true_imp_iff, implies_true, Int.cast_ofNat_Int, Int.natCast_zero, Int.natCast_one, Int.add_zero, Int.zero_add]
          exact wkv_tP ext_refl (List.ext_getElem he fun i h1 h2 => hn i (by omega) h1 h2)
      · cases h
    · cases h
  · cases h

/-! ### great -/
def greatF (a b : List Pol) : Bool := decide (30 < a.length) || (decide (30 < b.length) || (!risF 0 a || !risF 0 b))
def greatS : Spec := fun args S => match args with
  | [x, y] => match lstV polE S x, lstV polE S y with
    | some l, some m => some (.b (greatF l m), S)
    | _, _ => none
  | _ => none
theorem oGr_ok : OK Try.prog (lamOf Try.prog) (orcOf [(26, risS)]) := orc_ok (by simpa using ris_ok)
theorem great_ok : SpecOK Try.prog 12 greatS := by
  intro args S x S' h
  simp only [greatS] at h
  split at h
  · rename_i s t
    split at h
    · rename_i l m hl hm
      cases h
      refine fn_of_wp f12 rfl (W_sound oGr_ok mixed _ _ _ _ _ ?_)
      unfold greatF
      by_cases h1 : 30 < l.length
      · have h1I : (30 : Int) < l.length := by omega
        simp (maxSteps := 1000000) (disch := omega) only [c12, lst_len hl, lst_len hm, h1, h1I, Bool.true_or, go_sem, Option.map_none, Option.map_some, ↓reduceIte, Nat.reduceBEq, Nat.reduceAdd, Nat.reduceSub, Nat.reduceEqDiff, Nat.reduceLeDiff, Nat.reduceMul, Nat.reduceLT, Int.reduceLT, Int.reduceLE, Int.reduceAdd, Int.reduceSub, Int.reduceMul, Int.reduceNeg, Int.reduceEq, Int.reduceNe, Int.reduceToNat, decide_true, decide_false, iaddr_i, iaddr_sl_i, not_true_eq_false, not_false_eq_true, reduceCtorEq, ne_eq, forall_const, false_imp_iff, true_imp_iff, implies_true, Int.cast_ofNat_Int, Int.natCast_zero, Int.natCast_one, Int.add_zero, Int.zero_add]
        exact wkv_same
      have h1I : ¬ (30 : Int) < l.length := by omega
      by_cases h2 : 30 < m.length
      · have h2I : (30 : Int) < m.length := by omega
        simp (maxSteps := 1000000) (disch := omega) only [c12, lst_len hl, lst_len hm, h1, h1I, h2, h2I, Bool.true_or, Bool.false_or, go_sem, Option.map_none, Option.map_some, ↓reduceIte, Nat.reduceBEq, Nat.reduceAdd, Nat.reduceSub, Nat.reduceEqDiff, Nat.reduceLeDiff, Nat.reduceMul, Nat.reduceLT, Int.reduceLT, Int.reduceLE, Int.reduceAdd, Int.reduceSub, Int.reduceMul, Int.reduceNeg, Int.reduceEq, Int.reduceNe, Int.reduceToNat, decide_true, decide_false, iaddr_i, iaddr_sl_i, not_true_eq_false, not_false_eq_true, reduceCtorEq, ne_eq, forall_const, false_imp_iff, true_imp_iff, implies_true, Int.cast_ofNat_Int, Int.natCast_zero, Int.natCast_one, Int.add_zero, Int.zero_add]
        exact wkv_same
      have h2I : ¬ (30 : Int) < m.length := by omega
      have r1 : risS [s] S = some (.b (risF 0 l), S) := by simp only [risS, hl]; rw [if_pos (by omega)]
      have r2 : risS [t] S = some (.b (risF 0 m), S) := by simp only [risS, hm]; rw [if_pos (by omega)]
      cases hr1 : risF 0 l with
      | false =>
        rw [hr1] at r1
        simp (maxSteps := 1000000) (disch := omega) only [c12, lst_len hl, lst_len hm, h1, h1I, h2, h2I, Bool.true_or, Bool.false_or, orc_cons, r1, Bool.not_false, go_sem, Option.map_none, Option.map_some, ↓reduceIte, Nat.reduceBEq, Nat.reduceAdd, Nat.reduceSub, Nat.reduceEqDiff, Nat.reduceLeDiff, Nat.reduceMul, Nat.reduceLT, Int.reduceLT, Int.reduceLE, Int.reduceAdd, Int.reduceSub, Int.reduceMul, Int.reduceNeg, Int.reduceEq, Int.reduceNe, Int.reduceToNat, decide_true, decide_false, iaddr_i, iaddr_sl_i, not_true_eq_false, not_false_eq_true, reduceCtorEq, ne_eq, forall_const, false_imp_iff, true_imp_iff, implies_true, Int.cast_ofNat_Int, Int.natCast_zero, Int.natCast_one, Int.add_zero, Int.zero_add]
        exact wkv_same
      | true =>
        rw [hr1] at r1
        cases hr2 : risF 0 m with
        | false =>
          rw [hr2] at r2
          simp (maxSteps := 1000000) (disch := omega) only [c12, lst_len hl, lst_len hm, h1, h1I, h2, h2I, Bool.true_or, Bool.false_or, orc_cons, r1, r2, Bool.not_false, Bool.not_true, go_sem, Option.map_none, Option.map_some, ↓reduceIte, Nat.reduceBEq, Nat.reduceAdd, Nat.reduceSub, Nat.reduceEqDiff, Nat.reduceLeDiff, Nat.reduceMul, Nat.reduceLT, Int.reduceLT, Int.reduceLE, Int.reduceAdd, Int.reduceSub, Int.reduceMul, Int.reduceNeg, Int.reduceEq, Int.reduceNe, Int.reduceToNat, decide_true, decide_false, iaddr_i, iaddr_sl_i, not_true_eq_false, not_false_eq_true, reduceCtorEq, ne_eq, forall_const, false_imp_iff, true_imp_iff, implies_true, Int.cast_ofNat_Int, Int.natCast_zero, Int.natCast_one, Int.add_zero, Int.zero_add]
          exact wkv_same
        | true =>
          rw [hr2] at r2
          simp (maxSteps := 1000000) (disch := omega) only [c12, lst_len hl, lst_len hm, h1, h1I, h2, h2I, Bool.true_or, Bool.false_or, orc_cons, r1, r2, Bool.not_false, Bool.not_true, go_sem, Option.map_none, Option.map_some, ↓reduceIte, Nat.reduceBEq, Nat.reduceAdd, Nat.reduceSub, Nat.reduceEqDiff, Nat.reduceLeDiff, Nat.reduceMul, Nat.reduceLT, Int.reduceLT, Int.reduceLE, Int.reduceAdd, Int.reduceSub, Int.reduceMul, Int.reduceNeg, Int.reduceEq, Int.reduceNe, Int.reduceToNat, decide_true, decide_false, iaddr_i, iaddr_sl_i, not_true_eq_false, not_false_eq_true, reduceCtorEq, ne_eq, forall_const, false_imp_iff, true_imp_iff, implies_true, Int.cast_ofNat_Int, Int.natCast_zero, Int.natCast_one, Int.add_zero, Int.zero_add]
          exact wkv_same
    · cases h
  · cases h
end Go.Proofs.Ytcoljpgnjiakjaa

namespace Go.Proofs.Ytcoljpgnjiakjaa
open Go.RowKit
set_option linter.unusedSimpArgs false
set_option linter.unusedVariables false
set_option maxRecDepth 10000

inductive Ch where
  | drop (sub : Int)
  | put (p : Pol)
  deriving DecidableEq
def noPol : Pol := ⟨0, 0, 0, 0, 0, 0, 0, 0, 0, 0, 0, 0, 0⟩
/-- An op's cells. -/
def opC (kind sub : Int) (p : Pol) : List AV := [.i .i64 kind, .i .i64 sub, .i .i64 0, .i .u64 0, .sn, .i .i64 p.sub, .i .u8 p.a, .i .u8 p.b, .i .u8 p.c, .i .u8 p.d, .i .i64 p.bits, .i .u64 p.rate, .i .u64 p.burst, .i .u64 p.srate, .i .u64 p.sburst, .i .u64 p.quota, .i .u64 p.lease, .i .u64 p.quantum, .sn]
def Ch.enc : Ch → List AV
  | .drop s => opC 5 s noPol
  | .put p => opC 4 0 p
def chg : List Pol → List Pol → List Ch
  | [], [] => []
  | [], q :: b => .put q :: chg [] b
  | p :: a, [] => .drop p.sub :: chg a []
  | p :: a, q :: b => if p.sub < q.sub then .drop p.sub :: chg a (q :: b) else if q.sub < p.sub then .put q :: chg (p :: a) b else if p = q then chg a b else .put q :: chg a b
termination_by a b => a.length + b.length
theorem chg_drop {p : Pol} {a b : List Pol} (h : b = [] ∨ ∃ q b', b = q :: b' ∧ p.sub < q.sub) : chg (p :: a) b = .drop p.sub :: chg a b := by
  rcases h with rfl | ⟨q, b', rfl, h⟩
  · rw [chg]
  · rw [chg, if_pos h]
theorem chg_put {q : Pol} {a b : List Pol} (h : a = [] ∨ ∃ p a', a = p :: a' ∧ q.sub < p.sub) : chg a (q :: b) = .put q :: chg a b := by
  rcases h with rfl | ⟨p, a', rfl, h⟩
  · rw [chg]
  · rw [chg, if_neg (by omega), if_pos h]
theorem chg_same {p q : Pol} {a b : List Pol} (h : p.sub = q.sub) : chg (p :: a) (q :: b) = if p = q then chg a b else .put q :: chg a b := by
  rw [chg, if_neg (by omega), if_neg (by omega)]
theorem chg_nil : chg [] [] = [] := by rw [chg]

theorem iter_ok {i i1 i2 : Nat} {xa xb : AV} {a b : List Pol} {J : Nat → Mem → Prop} (hJg : ∀ k M L, J k M → J k (M ++ L))
    (hJ1 : ∀ k M, J k M → M[i1]? = some (.cells [xa] 0 none true) ∧ M[i2]? = some (.cells [xb] 0 none true) ∧ lstV polE M xa = some a ∧ lstV polE M xb = some b)
    (hround : ∀ k (hk : k < (chg a b).length) M, J k M → ∃ M', RdOK Try.prog i [.ag ((chg a b)[k]).enc] M (.b true) M' ∧ J (k + 1) M') (ha : a.length ≤ 900000) (hb : b.length ≤ 900000) {M0 : Mem} (h0 : J 0 M0) :
    FnR Try.prog 30 [.y i, .p i1 0 0, .p i2 0 0] M0 (fun v M' => J (chg a b).length M') := by
  refine fnR_of_wp f30 rfl (W_sound none_ok mixed _ _ _ _ _ ?_)
  simp (maxSteps := 1000000) (disch := omega) only [c30, go_sem, Option.map_none, Option.map_some, ↓reduceIte, Nat.reduceBEq, Nat.reduceAdd, Nat.reduceSub, Nat.reduceEqDiff, Nat.reduceLeDiff, Nat.reduceMul, Nat.reduceLT, Int.reduceLT, Int.reduceLE, Int.reduceAdd, Int.reduceSub, Int.reduceMul, Int.reduceNeg, Int.reduceEq, Int.reduceNe, Int.reduceToNat, decide_true, decide_false, iaddr_i, iaddr_sl_i, not_true_eq_false, not_false_eq_true, reduceCtorEq, ne_eq, forall_const, false_imp_iff, true_imp_iff, implies_true, Int.cast_ofNat_Int, Int.natCast_zero, Int.natCast_one, Int.add_zero, Int.zero_add]
  refine wp_loop (fun j e M dl => dl = [] ∧ ∃ (k ia ib : Nat), j = (a.length - ia) + (b.length - ib) ∧ ia ≤ a.length ∧ ib ≤ b.length ∧ J k M ∧ k ≤ (chg a b).length ∧ (chg a b).drop k = chg (a.drop ia) (b.drop ib) ∧
    e.get 0 = .y i ∧ e.get 1 = .p i1 0 0 ∧ e.get 5 = .i .i64 ib ∧ e.get 2 = .p i2 0 0 ∧ e.get 4 = .i .i64 ia) (j := a.length + b.length) ?_ ?_
  · exact ⟨rfl, 0, 0, 0, by omega, Nat.zero_le _, Nat.zero_le _, h0, Nat.zero_le _, rfl, rfl, rfl, rfl, rfl, rfl⟩
  rintro j e M d' ⟨rfl, k, ia, ib, rfl, hia, hib, hJ, hk, hd, e0, e1, e5, e2, e4⟩
  obtain ⟨m1, m2, hla, hlb⟩ := hJ1 _ _ hJ
  have hlA := lst_len hla
  have hlB := lst_len hlb
  have m1o := fun L => at_old (L := L) m1
  have m2o := fun L => at_old (L := L) m2
  have hia6 : ia < 1000000 := by omega
  have hib6 : ib < 1000000 := by omega
  have step : ∀ {c : Ch} {r : List Ch}, (chg a b).drop k = c :: r → ∃ hk : k < (chg a b).length, (chg a b)[k] = c ∧ (chg a b).drop (k + 1) = r := fun {c r} h => by
    have hlt : k < (chg a b).length := by
      have := congrArg List.length h
      rw [List.length_drop, List.length_cons] at this; omega
    rw [List.drop_eq_getElem_cons hlt] at h
    injection h with h1 h2
    exact ⟨hlt, h1, h2⟩
  by_cases hA : ia < a.length
  · have hAI : (ia : Int) < a.length := by omega
    obtain ⟨bi, o, v, cap, ex, rfl⟩ := lst_sl hla hA
    have hra := fun L => lstV_row hla hA L
    have hra : ∀ L, rowB ((M ++ L)[bi]?) (o + ia * 13) v 13 = some (a[ia]).enc := hra
    have hfa := fun L => lstV_field hla hA (f := 0) (x := .i .i64 a[ia].sub) rfl L
    have hfa : ∀ L, cellB ((M ++ L)[bi]?) (o + ia * 13) v = some (.i .i64 a[ia].sub) := hfa
    have hda : a.drop ia = a[ia] :: a.drop (ia + 1) := List.drop_eq_getElem_cons hA
    rw [hda] at hd
    generalize a[ia] = p at hra hfa hd hda
    by_cases hB : ib < b.length
    · have hBI : (ib : Int) < b.length := by omega
      have hBn : ¬ (ib : Int) ≥ b.length := by omega
      have hAn : ¬ (ia : Int) ≥ a.length := by omega
      obtain ⟨bj, o2, v2, cap2, ex2, rfl⟩ := lst_sl hlb hB
      have hrb := fun L => lstV_row hlb hB L
      have hrb : ∀ L, rowB ((M ++ L)[bj]?) (o2 + ib * 13) v2 13 = some (b[ib]).enc := hrb
      have hfb := fun L => lstV_field hlb hB (f := 0) (x := .i .i64 b[ib].sub) rfl L
      have hfb : ∀ L, cellB ((M ++ L)[bj]?) (o2 + ib * 13) v2 = some (.i .i64 b[ib].sub) := hfb
      have hdb : b.drop ib = b[ib] :: b.drop (ib + 1) := List.drop_eq_getElem_cons hB
      rw [hdb] at hd
      generalize b[ib] = q at hrb hfb hd hdb
      by_cases h1 : p.sub < q.sub
      · rw [chg_drop (.inr ⟨_, _, rfl, h1⟩), ← hdb] at hd
        obtain ⟨hlt, hc, hd2⟩ := step hd
        obtain ⟨M', hrd, hJ'⟩ := hround k hlt (M ++ [.cells (Ch.drop p.sub).enc 0 none true]) (hJg _ _ _ hJ)
        rw [hc] at hrd
        simp only [Ch.enc, opC, noPol] at hrd
        refine W_sound (orcY_ok (l := []) (by simp) hrd) mixed _ _ _ _ _ ?_
        simp (maxSteps := 1000000) (disch := omega) only [c30l3, e0, e1, e5, e2, e4, m1, m2, m1o, m2o, hlA, hlB, hAI, hBI, hBn, hAn, Int.toNat_natCast, hfa, hfb, Nat.add_zero, h1, List.replicate, wrapS hia6, orcY_y, go_sem, Option.map_none, Option.map_some, ↓reduceIte, Nat.reduceBEq, Nat.reduceAdd, Nat.reduceSub, Nat.reduceEqDiff, Nat.reduceLeDiff, Nat.reduceMul, Nat.reduceLT, Int.reduceLT, Int.reduceLE, Int.reduceAdd, Int.reduceSub, Int.reduceMul, Int.reduceNeg, Int.reduceEq, Int.reduceNe, Int.reduceToNat, decide_true, decide_false, iaddr_i, iaddr_sl_i, not_true_eq_false, not_false_eq_true, reduceCtorEq, ne_eq, forall_const, false_imp_iff, true_imp_iff, implies_true, Int.cast_ofNat_Int, Int.natCast_zero, Int.natCast_one, Int.add_zero, Int.zero_add]
        exact ⟨(a.length - (ia + 1)) + (b.length - ib), by omega, k + 1, ia + 1, ib, rfl, hA, hib, hJ', hlt, hd2, rfl, rfl⟩
      · by_cases h2 : q.sub < p.sub
        · rw [chg_put (.inr ⟨_, _, rfl, h2⟩), ← hda] at hd
          obtain ⟨hlt, hc, hd2⟩ := step hd
          obtain ⟨M', hrd, hJ'⟩ := hround k hlt (M ++ [.cells (Ch.put q).enc 0 none true]) (hJg _ _ _ hJ)
          rw [hc] at hrd
          simp only [Ch.enc, opC] at hrd
          simp only [Pol.enc] at hrb
          refine W_sound (orcY_ok (l := []) (by simp) hrd) mixed _ _ _ _ _ ?_
          simp (maxSteps := 1000000) (disch := omega) only [c30l3, e0, e1, e5, e2, e4, m1, m2, m1o, m2o, hlA, hlB, hAI, hBI, hBn, hAn, Int.toNat_natCast, Nat.add_zero, List.replicate, wrapS hia6, wrapS hib6, hfa, hfb, hrb, h1, h2, orcY_y, go_sem, Option.map_none, Option.map_some, ↓reduceIte, Nat.reduceBEq, Nat.reduceAdd, Nat.reduceSub, Nat.reduceEqDiff, Nat.reduceLeDiff, Nat.reduceMul, Nat.reduceLT, Int.reduceLT, Int.reduceLE, Int.reduceAdd, Int.reduceSub, Int.reduceMul, Int.reduceNeg, Int.reduceEq, Int.reduceNe, Int.reduceToNat, decide_true, decide_false, iaddr_i, iaddr_sl_i, not_true_eq_false, not_false_eq_true, reduceCtorEq, ne_eq, forall_const, false_imp_iff, true_imp_iff, implies_true, Int.cast_ofNat_Int, Int.natCast_zero, Int.natCast_one, Int.add_zero, Int.zero_add]
          exact ⟨(a.length - ia) + (b.length - (ib + 1)), by omega, k + 1, ia, ib + 1, rfl, hia, hB, hJ', hlt, hd2, rfl, rfl⟩
        · have heq : p.sub = q.sub := by omega
          rw [chg_same heq] at hd
          by_cases hpq : p = q
          · rw [if_pos hpq] at hd
            have hqq : eqAgV false [.int, .int, .int, .int, .int, .int, .int, .int, .int, .int, .int, .int, .int] (.ag p.enc) (.ag q.enc) = some (.b true) := by
              have := eq_pol (a := p) (b := q)
              rw [decide_eq_true hpq] at this; exact this
            refine W_sound none_ok mixed _ _ _ _ _ ?_
            simp (maxSteps := 1000000) (disch := omega) only [c30l3, e0, e1, e5, e2, e4, m1, m2, m1o, m2o, hlA, hlB, hAI, hBI, hBn, hAn, Int.toNat_natCast, Nat.add_zero, List.replicate, wrapS hia6, wrapS hib6, hfa, hfb, hra, hrb, h1, h2, hqq, go_sem, Option.map_none, Option.map_some, ↓reduceIte, Nat.reduceBEq, Nat.reduceAdd, Nat.reduceSub, Nat.reduceEqDiff, Nat.reduceLeDiff, Nat.reduceMul, Nat.reduceLT, Int.reduceLT, Int.reduceLE, Int.reduceAdd, Int.reduceSub, Int.reduceMul, Int.reduceNeg, Int.reduceEq, Int.reduceNe, Int.reduceToNat, decide_true, decide_false, iaddr_i, iaddr_sl_i, not_true_eq_false, not_false_eq_true, reduceCtorEq, ne_eq, forall_const, false_imp_iff, true_imp_iff, implies_true, Int.cast_ofNat_Int, Int.natCast_zero, Int.natCast_one, Int.add_zero, Int.zero_add]
            exact ⟨(a.length - (ia + 1)) + (b.length - (ib + 1)), by omega, k, ia + 1, ib + 1, rfl, hA, hB, hJg _ _ _ hJ, hk, hd, rfl, rfl⟩
          · rw [if_neg hpq] at hd
            have hqq : eqAgV false [.int, .int, .int, .int, .int, .int, .int, .int, .int, .int, .int, .int, .int] (.ag p.enc) (.ag q.enc) = some (.b false) := by
              have := eq_pol (a := p) (b := q)
              rw [decide_eq_false hpq] at this; exact this
            obtain ⟨hlt, hc, hd2⟩ := step hd
            obtain ⟨M', hrd, hJ'⟩ := hround k hlt (M ++ [.cells (Ch.put q).enc 0 none true]) (hJg _ _ _ hJ)
            rw [hc] at hrd
            simp only [Ch.enc, opC] at hrd
            refine W_sound (orcY_ok (l := []) (by simp) hrd) mixed _ _ _ _ _ ?_
            simp (maxSteps := 1000000) (disch := omega) only [c30l3, e0, e1, e5, e2, e4, m1, m2, m1o, m2o, hlA, hlB, hAI, hBI, hBn, hAn, Int.toNat_natCast, Nat.add_zero, List.replicate, wrapS hia6, wrapS hib6, hfa, hfb, hra, hrb, h1, h2, hqq, orcY_y, go_sem, Option.map_none, Option.map_some, ↓reduceIte, Nat.reduceBEq, Nat.reduceAdd, Nat.reduceSub, Nat.reduceEqDiff, Nat.reduceLeDiff, Nat.reduceMul, Nat.reduceLT, Int.reduceLT, Int.reduceLE, Int.reduceAdd, Int.reduceSub, Int.reduceMul, Int.reduceNeg, Int.reduceEq, Int.reduceNe, Int.reduceToNat, decide_true, decide_false, iaddr_i, iaddr_sl_i, not_true_eq_false, not_false_eq_true, reduceCtorEq, ne_eq, forall_const, false_imp_iff, true_imp_iff, implies_true, Int.cast_ofNat_Int, Int.natCast_zero, Int.natCast_one, Int.add_zero, Int.zero_add]
            simp only [Pol.enc]
            simp (maxSteps := 1000000) (disch := omega) only [orcY_y, wrapS hia6, wrapS hib6, go_sem, Option.map_none, Option.map_some, ↓reduceIte, Nat.reduceBEq, Nat.reduceAdd, Nat.reduceSub, Nat.reduceEqDiff, Nat.reduceLeDiff, Nat.reduceMul, Nat.reduceLT, Int.reduceLT, Int.reduceLE, Int.reduceAdd, Int.reduceSub, Int.reduceMul, Int.reduceNeg, Int.reduceEq, Int.reduceNe, Int.reduceToNat, decide_true, decide_false, iaddr_i, iaddr_sl_i, not_true_eq_false, not_false_eq_true, reduceCtorEq, ne_eq, forall_const, false_imp_iff, true_imp_iff, implies_true, Int.cast_ofNat_Int, Int.natCast_zero, Int.natCast_one, Int.add_zero, Int.zero_add]
            exact ⟨(a.length - (ia + 1)) + (b.length - (ib + 1)), by omega, k + 1, ia + 1, ib + 1, rfl, hA, hB, hJ', hlt, hd2, rfl, rfl⟩
    · have hBn : (ib : Int) ≥ b.length := by omega
      have hBI : ¬ (ib : Int) < b.length := by omega
      have hAn : ¬ (ia : Int) ≥ a.length := by omega
      have hbe : b.drop ib = [] := List.drop_of_length_le (by omega)
      rw [hbe, chg_drop (.inl rfl), ← hbe] at hd
      obtain ⟨hlt, hc, hd2⟩ := step hd
      obtain ⟨M', hrd, hJ'⟩ := hround k hlt (M ++ [.cells (Ch.drop p.sub).enc 0 none true]) (hJg _ _ _ hJ)
      rw [hc] at hrd
      simp only [Ch.enc, opC, noPol] at hrd
      refine W_sound (orcY_ok (l := []) (by simp) hrd) mixed _ _ _ _ _ ?_
      simp (maxSteps := 1000000) (disch := omega) only [c30l3, e0, e1, e5, e2, e4, m1, m2, m1o, m2o, hlA, hlB, hAI, hBI, hBn, hAn, Int.toNat_natCast, Nat.add_zero, List.replicate, wrapS hia6, hfa, orcY_y, go_sem, Option.map_none, Option.map_some, ↓reduceIte, Nat.reduceBEq, Nat.reduceAdd, Nat.reduceSub, Nat.reduceEqDiff, Nat.reduceLeDiff, Nat.reduceMul, Nat.reduceLT, Int.reduceLT, Int.reduceLE, Int.reduceAdd, Int.reduceSub, Int.reduceMul, Int.reduceNeg, Int.reduceEq, Int.reduceNe, Int.reduceToNat, decide_true, decide_false, iaddr_i, iaddr_sl_i, not_true_eq_false, not_false_eq_true, reduceCtorEq, ne_eq, forall_const, false_imp_iff, true_imp_iff, implies_true, Int.cast_ofNat_Int, Int.natCast_zero, Int.natCast_one, Int.add_zero, Int.zero_add]
      exact ⟨(a.length - (ia + 1)) + (b.length - ib), by omega, k + 1, ia + 1, ib, rfl, hA, hib, hJ', hlt, hd2, rfl, rfl⟩
  · have hAn : (ia : Int) ≥ a.length := by omega
    have hAI : ¬ (ia : Int) < a.length := by omega
    have hae : a.drop ia = [] := List.drop_of_length_le (by omega)
    by_cases hB : ib < b.length
    · have hBI : (ib : Int) < b.length := by omega
      have hBn : ¬ (ib : Int) ≥ b.length := by omega
      obtain ⟨bj, o2, v2, cap2, ex2, rfl⟩ := lst_sl hlb hB
      have hrb := fun L => lstV_row hlb hB L
      have hrb : ∀ L, rowB ((M ++ L)[bj]?) (o2 + ib * 13) v2 13 = some (b[ib]).enc := hrb
      have hdb : b.drop ib = b[ib] :: b.drop (ib + 1) := List.drop_eq_getElem_cons hB
      rw [hdb] at hd
      generalize b[ib] = q at hrb hd hdb
      rw [hae, chg_put (.inl rfl), ← hae] at hd
      obtain ⟨hlt, hc, hd2⟩ := step hd
      obtain ⟨M', hrd, hJ'⟩ := hround k hlt (M ++ [.cells (Ch.put q).enc 0 none true]) (hJg _ _ _ hJ)
      rw [hc] at hrd
      simp only [Ch.enc, opC] at hrd
      simp only [Pol.enc] at hrb
      refine W_sound (orcY_ok (l := []) (by simp) hrd) mixed _ _ _ _ _ ?_
      simp (maxSteps := 1000000) (disch := omega) only [c30l3, e0, e1, e5, e2, e4, m1, m2, m1o, m2o, hlA, hlB, hAI, hBI, hBn, hAn, Int.toNat_natCast, Nat.add_zero, List.replicate, wrapS hib6, hrb, orcY_y, go_sem, Option.map_none, Option.map_some, ↓reduceIte, Nat.reduceBEq, Nat.reduceAdd, Nat.reduceSub, Nat.reduceEqDiff, Nat.reduceLeDiff, Nat.reduceMul, Nat.reduceLT, Int.reduceLT, Int.reduceLE, Int.reduceAdd, Int.reduceSub, Int.reduceMul, Int.reduceNeg, Int.reduceEq, Int.reduceNe, Int.reduceToNat, decide_true, decide_false, iaddr_i, iaddr_sl_i, not_true_eq_false, not_false_eq_true, reduceCtorEq, ne_eq, forall_const, false_imp_iff, true_imp_iff, implies_true, Int.cast_ofNat_Int, Int.natCast_zero, Int.natCast_one, Int.add_zero, Int.zero_add]
      exact ⟨(a.length - ia) + (b.length - (ib + 1)), by omega, k + 1, ia, ib + 1, rfl, hia, hB, hJ', hlt, hd2, rfl, rfl⟩
    · have hBn : (ib : Int) ≥ b.length := by omega
      have hBI : ¬ (ib : Int) < b.length := by omega
      rw [hae, List.drop_of_length_le (by omega : b.length ≤ ib), chg_nil] at hd
      have hkl : k = (chg a b).length := by
        have := congrArg List.length hd
        rw [List.length_drop, List.length_nil] at this; omega
      refine W_sound none_ok mixed _ _ _ _ _ ?_
      simp (maxSteps := 1000000) (disch := omega) only [c30l3, e0, e1, e5, e2, e4, m1, m2, m1o, m2o, hlA, hlB, hAI, hBI, hBn, hAn, go_sem, Option.map_none, Option.map_some, ↓reduceIte, Nat.reduceBEq, Nat.reduceAdd, Nat.reduceSub, Nat.reduceEqDiff, Nat.reduceLeDiff, Nat.reduceMul, Nat.reduceLT, Int.reduceLT, Int.reduceLE, Int.reduceAdd, Int.reduceSub, Int.reduceMul, Int.reduceNeg, Int.reduceEq, Int.reduceNe, Int.reduceToNat, decide_true, decide_false, iaddr_i, iaddr_sl_i, not_true_eq_false, not_false_eq_true, reduceCtorEq, ne_eq, forall_const, false_imp_iff, true_imp_iff, implies_true, Int.cast_ofNat_Int, Int.natCast_zero, Int.natCast_one, Int.add_zero, Int.zero_add]
      rw [← hkl]; exact hJ
end Go.Proofs.Ytcoljpgnjiakjaa

namespace Go.Proofs.Ytcoljpgnjiakjaa
open Go.RowKit
set_option linter.unusedSimpArgs false
set_option linter.unusedVariables false
set_option maxRecDepth 10000

def changesS : Spec := fun args S => match args with
  | [x, y] => match lstV polE S x, lstV polE S y with
    | some _, some _ => some (.f (.func 30) [] [.p S.length 0 0, .p (S.length + 1) 0 0], S ++ [.cells [x] 0 none true, .cells [y] 0 none true])
    | _, _ => none
  | _ => none
theorem changes_ok : SpecOK Try.prog 17 changesS := by
  intro args S x S' h
  simp only [changesS] at h
  split at h
  · rename_i s t
    split at h
    · rename_i l m hl hm
      cases h
      refine fn_of_wp f17 rfl (W_sound none_ok mixed _ _ _ _ _ ?_)
      simp (maxSteps := 1000000) (disch := omega) only [c17, lst_cells hl, lst_cells hm, go_sem, Option.map_none, Option.map_some, ↓reduceIte, Nat.reduceBEq, Nat.reduceAdd, Nat.reduceSub, Nat.reduceEqDiff, Nat.reduceLeDiff, Nat.reduceMul, Nat.reduceLT, Int.reduceLT, Int.reduceLE, Int.reduceAdd, Int.reduceSub, Int.reduceMul, Int.reduceNeg, Int.reduceEq, Int.reduceNe, Int.reduceToNat, decide_true, decide_false, iaddr_i, iaddr_sl_i, not_true_eq_false, not_false_eq_true, reduceCtorEq, ne_eq, forall_const, false_imp_iff, true_imp_iff, implies_true, Int.cast_ofNat_Int, Int.natCast_zero, Int.natCast_one, Int.add_zero, Int.zero_add]
      exact wkv_same
    · cases h
  · cases h
theorem changes_eq {S : Mem} {x y : AV} {a b : List Pol} (ha : lstV polE S x = some a) (hb : lstV polE S y = some b) : changesS [x, y] S = some (.f (.func 30) [] [.p S.length 0 0, .p (S.length + 1) 0 0], S ++ [.cells [x] 0 none true, .cells [y] 0 none true]) := by
  simp only [changesS, ha, hb]

/-! ### Cost -/
def costPath : List Bool := [true, true, false, true, false]
structure Jc (S : Mem) (x y : AV) (env : Env) (k : Nat) (M : Mem) : Prop where
  hS : S <+: M
  hc : M[S.length]? = some (.cells [.i .i64 k] 0 none true)
  h1 : M[S.length + 1]? = some (.cells [x] 0 none true)
  h2 : M[S.length + 2]? = some (.cells [y] 0 none true)
  hd : M[S.length + 3]? = some (.dfr true)
  hl : M[S.length + 4]? = some (.loop 10 costPath env .ready none)
theorem Jc.grow {S : Mem} {x y : AV} {env : Env} {k : Nat} {M : Mem} (J : Jc S x y env k M) (L : Mem) : Jc S x y env k (M ++ L) :=
  ⟨ext_more J.hS L, at_old J.hc, at_old J.h1, at_old J.h2, at_old J.hd, at_old J.hl⟩
theorem cost_round {S : Mem} {x y : AV} {env : Env} {k : Nat} {M : Mem} (J : Jc S x y env k M) (e5 : env.get 5 = .p S.length 0 0) (hk : k < 1000000) (c : AV) : ∃ M', RdOK Try.prog (S.length + 4) [c] M (.b true) M' ∧ Jc S x y env (k + 1) M' := by
  obtain ⟨hS, hc, h1, h2, hd, hl⟩ := J
  obtain ⟨Mb, hMb⟩ : ∃ Mb, Mb = M.set (S.length + 4) (.loop 10 costPath env .busy none) := ⟨_, rfl⟩
  have st : ∀ {i : Nat} {B : Blk}, i ≠ S.length + 4 → M[i]? = some B → Mb[i]? = some B := fun hi hB => by rw [hMb, List.getElem?_set_ne (Ne.symm hi)]; exact hB
  have bc := st (by omega) hc
  have hlb : Mb[S.length + 4]? = some (.loop 10 costPath env .busy none) := by rw [hMb]; exact at_set hl
  refine ⟨(Mb.set S.length (.cells [.i .i64 ((k + 1 : Nat) : Int)] 0 none true)).set (S.length + 4) (.loop 10 costPath env .ready none), ?_, ?_⟩
  · refine round_of_wp hl f10 (List.mem_cons_self ..) rfl (W_sound none_ok mixed _ _ _ _ _ ?_)
    simp (maxSteps := 1000000) (disch := omega) only [c10ra0, bindE, go_sem, Option.map_none, Option.map_some, ↓reduceIte, Nat.reduceBEq, Nat.reduceAdd, Nat.reduceSub, Nat.reduceEqDiff, Nat.reduceLeDiff, Nat.reduceMul, Nat.reduceLT, Int.reduceLT, Int.reduceLE, Int.reduceAdd, Int.reduceSub, Int.reduceMul, Int.reduceNeg, Int.reduceEq, Int.reduceNe, Int.reduceToNat, decide_true, decide_false, iaddr_i, iaddr_sl_i, not_true_eq_false, not_false_eq_true, reduceCtorEq, ne_eq, forall_const, false_imp_iff, true_imp_iff, implies_true, Int.cast_ofNat_Int, Int.natCast_zero, Int.natCast_one, Int.add_zero, Int.zero_add]
    refine ⟨rfl, rfl, 10, costPath, env, none, hl, ?_⟩
    refine W_sound none_ok mixed _ _ _ _ _ ?_
    rw [← hMb]
    simp (maxSteps := 1000000) (disch := omega) only [c10rb0, e5, bc, wrapS hk, go_sem, Option.map_none, Option.map_some, ↓reduceIte, Nat.reduceBEq, Nat.reduceAdd, Nat.reduceSub, Nat.reduceEqDiff, Nat.reduceLeDiff, Nat.reduceMul, Nat.reduceLT, Int.reduceLT, Int.reduceLE, Int.reduceAdd, Int.reduceSub, Int.reduceMul, Int.reduceNeg, Int.reduceEq, Int.reduceNe, Int.reduceToNat, decide_true, decide_false, iaddr_i, iaddr_sl_i, not_true_eq_false, not_false_eq_true, reduceCtorEq, ne_eq, forall_const, false_imp_iff, true_imp_iff, implies_true, Int.cast_ofNat_Int, Int.natCast_zero, Int.natCast_one, Int.add_zero, Int.zero_add]
    exact ⟨10, costPath, env, .busy, none, by rw [List.getElem?_set_ne (by omega)]; exact hlb, wkv_same⟩
  · have st2 : ∀ {i : Nat} {B : Blk}, i ≠ S.length → i ≠ S.length + 4 → M[i]? = some B → ((Mb.set S.length (.cells [.i .i64 ((k + 1 : Nat) : Int)] 0 none true)).set (S.length + 4) (.loop 10 costPath env .ready none))[i]? = some B := fun h3 h4 hB => by
      rw [List.getElem?_set_ne (Ne.symm h4), List.getElem?_set_ne (Ne.symm h3)]; exact st h4 hB
    have hSb : S <+: Mb := by rw [hMb]; exact ext_set hS (by omega) _
    exact ⟨ext_set (ext_set hSb (Nat.le_refl _) _) (by omega) _, by rw [List.getElem?_set_ne (by omega)]; exact at_set bc, st2 (by omega) (by omega) h1, st2 (by omega) (by omega) h2, st2 (by omega) (by omega) hd,
      at_set (by rw [List.getElem?_set_ne (by omega)]; exact hlb)⟩
def costF (a b : List Pol) : Int := (chg a b).length
def costS : Spec := fun args S => match args with
  | [x, y] => match lstV polE S x, lstV polE S y with
    | some a, some b => if a.length ≤ 400000 ∧ b.length ≤ 400000 then some (.i .i64 (costF a b), S) else none
    | _, _ => none
  | _ => none
theorem chg_len : ∀ (a b : List Pol), (chg a b).length ≤ a.length + b.length
  | [], [] => by rw [chg]; simp
  | [], q :: b => by rw [chg]; have := chg_len [] b; simp only [List.length_cons, List.length_nil] at this ⊢; omega
  | p :: a, [] => by rw [chg]; have := chg_len a []; simp only [List.length_cons, List.length_nil] at this ⊢; omega
  | p :: a, q :: b => by
    rw [chg]
    have h1 := chg_len a (q :: b)
    have h2 := chg_len (p :: a) b
    have h3 := chg_len a b
    simp only [List.length_cons] at h1 h2 ⊢
    split
    · simp only [List.length_cons]; omega
    · split
      · simp only [List.length_cons]; omega
      · split
        · omega
        · simp only [List.length_cons]; omega
termination_by a b => a.length + b.length
theorem oCo_ok : OK Try.prog (lamOf Try.prog) (orcOf [(17, changesS)]) := orc_ok (by simpa using changes_ok)
theorem cost_ok : SpecOK Try.prog 10 costS := by
  intro args S x S' h
  simp only [costS] at h
  split at h
  · rename_i s t
    split at h
    · rename_i a b ha hb
      split at h
      · rename_i hlim
        cases h
        have hcl := chg_len a b
        refine fn_of_wp f10 rfl (W_sound oCo_ok mixed _ _ _ _ _ ?_)
        have hch := changes_eq (lstV_grow ha [.cells [.i .i64 0] 0 none true]) (lstV_grow hb [.cells [.i .i64 0] 0 none true])
        rw [List.length_append, List.append_assoc] at hch
        have hch : changesS [s, t] (S ++ [.cells [.i .i64 0] 0 none true]) = some (.f (.func 30) [] [.p (S.length + 1) 0 0, .p (S.length + 2) 0 0], S ++ [.cells [.i .i64 0] 0 none true, .cells [s] 0 none true, .cells [t] 0 none true]) := hch
        simp (maxSteps := 1000000) (disch := omega) only [c10, List.replicate, orc_cons, hch, go_sem, Option.map_none, Option.map_some, ↓reduceIte, Nat.reduceBEq, Nat.reduceAdd, Nat.reduceSub, Nat.reduceEqDiff, Nat.reduceLeDiff, Nat.reduceMul, Nat.reduceLT, Int.reduceLT, Int.reduceLE, Int.reduceAdd, Int.reduceSub, Int.reduceMul, Int.reduceNeg, Int.reduceEq, Int.reduceNe, Int.reduceToNat, decide_true, decide_false, iaddr_i, iaddr_sl_i, not_true_eq_false, not_false_eq_true, reduceCtorEq, ne_eq, forall_const, false_imp_iff, true_imp_iff, implies_true, Int.cast_ofNat_Int, Int.natCast_zero, Int.natCast_one, Int.add_zero, Int.zero_add]
        have hl3 : (S ++ [Blk.cells [.i .i64 0] 0 none true, .cells [s] 0 none true, .cells [t] 0 none true]).length = S.length + 3 := by simp
        have hrf : ∀ (e : Env) (keep : List Nat), (keepE e keep).get 5 = .p S.length 0 0 →
            FnR Try.prog 30 ([] ++ [.y ((S ++ [Blk.cells [.i .i64 0] 0 none true, .cells [s] 0 none true, .cells [t] 0 none true]).length + 1)] ++ [.p (S.length + 1) 0 0, .p (S.length + 2) 0 0])
              (S ++ [Blk.cells [.i .i64 0] 0 none true, .cells [s] 0 none true, .cells [t] 0 none true] ++ [.dfr true, .loop 10 costPath (keepE e keep) .ready none]) (fun v M' => Jc S s t (keepE e keep) (chg a b).length M') := by
          intro e keep g5
          rw [hl3, List.append_assoc S]
          refine iter_ok (J := fun k M => Jc S s t (keepE e keep) k M) (fun k M L J => J.grow L) (fun k M J => ⟨J.h1, J.h2, lst_ext ha J.hS, lst_ext hb J.hS⟩) (fun k hk M J => cost_round J g5 (by omega) _) (by omega) (by omega) ?_
          exact ⟨ext_app _, by rw [at_app0]; rfl, by rw [at_app]; rfl, by rw [at_app]; rfl, by rw [at_app]; rfl, by rw [at_app]; rfl⟩
        apply wp_rf rfl (hrf _ _ (by rfl))
        rw [hl3]
        intro y0 S2 J
        refine ⟨_, _, _, _, _, J.hl, by simp, ?_⟩
        obtain ⟨hS, hc, h1, h2, hd, hl⟩ := J
        obtain ⟨M3, hM3⟩ : ∃ M3, M3 = S2.set (S.length + 4) (.loop 10 costPath (keepE [(5, AV.p (List.length S) 0 0), (10, AV.u), (11, AV.u), (8, AV.f (Fn.func 30) [] [AV.p (List.length S + 1) 0 0, AV.p (List.length S + 2) 0 0])] [5, 10, 5, 11]) .exhausted none) := ⟨_, rfl⟩
        have f1 : M3[S.length]? = some (.cells [.i .i64 (chg a b).length] 0 none true) := by rw [hM3, List.getElem?_set_ne (by omega)]; exact hc
        have fd : M3[S.length + 3]? = some (.dfr true) := by rw [hM3, List.getElem?_set_ne (by omega)]; exact hd
        have fS : S <+: M3 := by rw [hM3]; exact ext_set hS (by omega) _
        rw [show S.length + 3 + 1 = S.length + 4 from rfl, ← hM3]
        simp (maxSteps := 1000000) (disch := omega) only [f1, ret_d fd, go_sem, Option.map_none, Option.map_some, ↓reduceIte, Nat.reduceBEq, Nat.reduceAdd, Nat.reduceSub, Nat.reduceEqDiff, Nat.reduceLeDiff, Nat.reduceMul, Nat.reduceLT, Int.reduceLT, Int.reduceLE, Int.reduceAdd, Int.reduceSub, Int.reduceMul, Int.reduceNeg, Int.reduceEq, Int.reduceNe, Int.reduceToNat, decide_true, decide_false, iaddr_i, iaddr_sl_i, not_true_eq_false, not_false_eq_true, reduceCtorEq, ne_eq, forall_const, false_imp_iff, true_imp_iff, implies_true, Int.cast_ofNat_Int, Int.natCast_zero, Int.natCast_one, Int.add_zero, Int.zero_add]
        exact wkv_dropP (ext_set fS (by omega) _) rfl
      · cases h
    · cases h
  · cases h
end Go.Proofs.Ytcoljpgnjiakjaa

namespace Go.Proofs.Ytcoljpgnjiakjaa
open Go.RowKit
set_option linter.unusedSimpArgs false
set_option linter.unusedVariables false

def pfind (l : List Pol) (id : Int) : Option Pol := l.find? (fun p => decide (p.sub = id))
theorem pfind_same (p : Pol) (l : List Pol) : pfind (p :: l) p.sub = some p := by simp [pfind]
theorem pfind_ne {p : Pol} {l : List Pol} {id : Int} (h : id ≠ p.sub) : pfind (p :: l) id = pfind l id := by
  have : decide (p.sub = id) = false := decide_eq_false fun q => h q.symm
  simp only [pfind, List.find?_cons, this]
theorem ris_cons {n : Int} {p : Pol} {l : List Pol} (h : risF n (p :: l) = true) : n < p.sub ∧ risF p.sub l = true := by
  simpa [risF] using h
theorem ris_gt {n : Int} : ∀ {l : List Pol}, risF n l = true → ∀ p ∈ l, n < p.sub
  | [], _, p, hp => by cases hp
  | a :: l, h, p, hp => by
    obtain ⟨h1, h2⟩ := ris_cons h
    rcases List.mem_cons.1 hp with rfl | hp
    · exact h1
    · have := ris_gt h2 p hp; omega
theorem pfind_none {n : Int} {l : List Pol} (h : risF n l = true) {id : Int} (hid : id ≤ n) : pfind l id = none := by
  unfold pfind
  rw [List.find?_eq_none]
  intro p hp
  have := ris_gt h p hp
  simp only [decide_eq_true_eq]; omega
def unlike (a b : List Pol) (id : Int) : Bool := decide (pfind a id ≠ pfind b id)
theorem count_step {f g : Int → Bool} {K : List Int} {x : Int} (hn : K.Nodup) (hx : x ∈ K) (h : ∀ y, y ≠ x → f y = g y) : K.countP f = (if f x then 1 else 0) + (K.erase x).countP g := by
  have hp := List.perm_cons_erase hx
  rw [hp.countP_eq, List.countP_cons]
  have : (K.erase x).countP f = (K.erase x).countP g := by
    refine List.countP_congr fun y hy => ?_
    have hne : y ≠ x := fun e => by
      rw [e] at hy
      exact (hn.mem_erase_iff.1 hy).1 rfl
    rw [h y hne]
  rw [this]; omega
theorem mem_er {K : List Int} (hn : K.Nodup) {x : Int} {l : List Pol} (h : ∀ p ∈ l, p.sub ∈ K) (hg : ∀ p ∈ l, p.sub ≠ x) : ∀ p ∈ l, p.sub ∈ K.erase x := fun p hp => hn.mem_erase_iff.2 ⟨hg p hp, h p hp⟩
theorem chg_count : ∀ (a b : List Pol) (n : Int) (K : List Int), risF n a = true → risF n b = true → K.Nodup → (∀ p ∈ a, p.sub ∈ K) → (∀ p ∈ b, p.sub ∈ K) → (chg a b).length = K.countP (unlike a b)
  | [], [], n, K, _, _, _, _, _ => by
    rw [chg]
    symm
    rw [List.length_nil, List.countP_eq_zero]
    intro id _
    simp [unlike, pfind]
  | [], q :: b, n, K, ha, hb, hn, h1, h2 => by
    obtain ⟨g1, g2⟩ := ris_cons hb
    rw [chg, List.length_cons]
    have hq := h2 q (by simp)
    have hr := ris_gt g2
    rw [count_step (g := unlike [] b) hn hq fun y hy => by unfold unlike; rw [pfind_ne hy],
      chg_count [] b q.sub (K.erase q.sub) rfl g2 (hn.erase _) (by simp) (mem_er hn (fun p hp => h2 p (by simp [hp])) fun p hp => by have := hr p hp; omega)]
    have : unlike [] (q :: b) q.sub = true := by unfold unlike; rw [pfind_same]; simp [pfind]
    rw [this, if_pos rfl]; omega
  | p :: a, [], n, K, ha, hb, hn, h1, h2 => by
    obtain ⟨g1, g2⟩ := ris_cons ha
    rw [chg, List.length_cons]
    have hq := h1 p (by simp)
    have hr := ris_gt g2
    rw [count_step (g := unlike a []) hn hq fun y hy => by unfold unlike; rw [pfind_ne hy],
      chg_count a [] p.sub (K.erase p.sub) g2 rfl (hn.erase _) (mem_er hn (fun p hp => h1 p (by simp [hp])) fun p hp => by have := hr p hp; omega) (by simp)]
    have : unlike (p :: a) [] p.sub = true := by unfold unlike; rw [pfind_same]; simp [pfind]
    rw [this, if_pos rfl]; omega
  | p :: a, q :: b, n, K, ha, hb, hn, h1, h2 => by
    obtain ⟨g1, g2⟩ := ris_cons ha
    obtain ⟨k1, k2⟩ := ris_cons hb
    have hp := h1 p (by simp)
    have hq := h2 q (by simp)
    have hra := ris_gt g2
    have hrb := ris_gt k2
    by_cases c1 : p.sub < q.sub
    · have hb2 : risF p.sub (q :: b) = true := by simp only [risF, k2, Bool.and_true, decide_eq_true_eq]; exact c1
      rw [chg_drop (.inr ⟨_, _, rfl, c1⟩), List.length_cons]
      rw [count_step (g := unlike a (q :: b)) hn hp fun y hy => by unfold unlike; rw [pfind_ne hy],
        chg_count a (q :: b) p.sub (K.erase p.sub) g2 hb2 (hn.erase _) (mem_er hn (fun p hp => h1 p (by simp [hp])) fun p hp => by have := hra p hp; omega) (mem_er hn h2 fun r hr => by have := ris_gt hb2 r hr; omega)]
      have : unlike (p :: a) (q :: b) p.sub = true := by unfold unlike; rw [pfind_same, pfind_none hb2 (Int.le_refl _)]; simp
      rw [this, if_pos rfl]; omega
    · by_cases c2 : q.sub < p.sub
      · have ha2 : risF q.sub (p :: a) = true := by simp only [risF, g2, Bool.and_true, decide_eq_true_eq]; exact c2
        rw [chg_put (.inr ⟨_, _, rfl, c2⟩), List.length_cons]
        rw [count_step (g := unlike (p :: a) b) hn hq fun y hy => by unfold unlike; rw [pfind_ne (p := q) hy],
          chg_count (p :: a) b q.sub (K.erase q.sub) ha2 k2 (hn.erase _) (mem_er hn h1 fun r hr => by have := ris_gt ha2 r hr; omega) (mem_er hn (fun p hp => h2 p (by simp [hp])) fun p hp => by have := hrb p hp; omega)]
        have : unlike (p :: a) (q :: b) q.sub = true := by unfold unlike; rw [pfind_same, pfind_none ha2 (Int.le_refl _)]; simp
        rw [this, if_pos rfl]; omega
      · have hs : p.sub = q.sub := by omega
        rw [chg_same hs]
        have hb3 : risF p.sub b = true := by rw [hs]; exact k2
        have step := count_step (f := unlike (p :: a) (q :: b)) (g := unlike a b) hn hp fun y hy => by unfold unlike; rw [pfind_ne hy, pfind_ne (by rw [← hs]; exact hy)]
        have ih := chg_count a b p.sub (K.erase p.sub) g2 hb3 (hn.erase _) (mem_er hn (fun p hp => h1 p (by simp [hp])) fun p hp => by have := hra p hp; omega) (mem_er hn (fun p hp => h2 p (by simp [hp])) fun p hp => by have := hrb p hp; omega)
        have hf : unlike (p :: a) (q :: b) p.sub = decide (p ≠ q) := by
          unfold unlike
          rw [pfind_same]
          have : pfind (q :: b) p.sub = some q := by rw [hs]; exact pfind_same q b
          rw [this]; simp
        rw [step, hf, ← ih]
        by_cases e : p = q
        · rw [if_pos e]; simp [e]
        · rw [if_neg e, List.length_cons]; simp [e]; omega
termination_by a b => a.length + b.length
theorem ex_nodup : ∀ (l : List Int), ∃ K : List Int, K.Nodup ∧ ∀ x ∈ l, x ∈ K
  | [] => ⟨[], List.nodup_nil, by simp⟩
  | a :: l => by
    obtain ⟨K, h1, h2⟩ := ex_nodup l
    by_cases ha : a ∈ K
    · exact ⟨K, h1, fun x hx => by rcases List.mem_cons.1 hx with rfl | hx; exact ha; exact h2 x hx⟩
    · exact ⟨a :: K, List.nodup_cons.2 ⟨ha, h1⟩, fun x hx => by rcases List.mem_cons.1 hx with rfl | hx; simp; simp [h2 x hx]⟩
theorem cost_sym {a b : List Pol} (ha : risF 0 a = true) (hb : risF 0 b = true) : costF a b = costF b a := by
  obtain ⟨K, h1, h2⟩ := ex_nodup ((a ++ b).map (·.sub))
  have ka : ∀ p ∈ a, p.sub ∈ K := fun p hp => h2 _ (List.mem_map.2 ⟨p, by simp [hp], rfl⟩)
  have kb : ∀ p ∈ b, p.sub ∈ K := fun p hp => h2 _ (List.mem_map.2 ⟨p, by simp [hp], rfl⟩)
  unfold costF
  rw [chg_count a b 0 K ha hb h1 ka kb, chg_count b a 0 K hb ha h1 kb ka]
  congr 1
  refine List.countP_congr fun y _ => ?_
  unfold unlike
  simp only [ne_eq, decide_eq_true_eq]
  exact ⟨fun h q => h q.symm, fun h q => h q.symm⟩
theorem count_tri {f g h : Int → Bool} (hh : ∀ y, f y = true → g y = true ∨ h y = true) : ∀ K : List Int, K.countP f ≤ K.countP g + K.countP h
  | [] => by simp
  | y :: K => by
    have ih := count_tri hh K
    rw [List.countP_cons, List.countP_cons, List.countP_cons]
    cases hf : f y with
    | false => simp only [Bool.false_eq_true, if_false]; split <;> split <;> omega
    | true =>
      rcases hh y hf with h1 | h1
      · rw [h1]; simp only [if_true]; split <;> omega
      · rw [h1]; simp only [if_true]; split <;> omega
theorem cost_tri {a b c : List Pol} (ha : risF 0 a = true) (hb : risF 0 b = true) (hc : risF 0 c = true) : costF a c ≤ costF a b + costF b c := by
  obtain ⟨K, h1, h2⟩ := ex_nodup ((a ++ (b ++ c)).map (·.sub))
  have ka : ∀ p ∈ a, p.sub ∈ K := fun p hp => h2 _ (List.mem_map.2 ⟨p, by simp [hp], rfl⟩)
  have kb : ∀ p ∈ b, p.sub ∈ K := fun p hp => h2 _ (List.mem_map.2 ⟨p, by simp [hp], rfl⟩)
  have kc : ∀ p ∈ c, p.sub ∈ K := fun p hp => h2 _ (List.mem_map.2 ⟨p, by simp [hp], rfl⟩)
  unfold costF
  rw [chg_count a b 0 K ha hb h1 ka kb, chg_count b c 0 K hb hc h1 kb kc, chg_count a c 0 K ha hc h1 ka kc]
  have := count_tri (f := unlike a c) (g := unlike a b) (h := unlike b c) (fun y hy => by
    unfold unlike at hy ⊢
    simp only [ne_eq, decide_eq_true_eq] at hy ⊢
    by_cases e : pfind a y = pfind b y
    · exact .inr fun q => hy (e.trans q)
    · exact .inl e) K
  omega
theorem chg_self : ∀ a : List Pol, chg a a = []
  | [] => by rw [chg]
  | p :: a => by rw [chg_same rfl, if_pos rfl]; exact chg_self a
theorem chg_zero : ∀ (a b : List Pol), chg a b = [] → a = b
  | [], [], _ => rfl
  | [], q :: b, h => by rw [chg] at h; cases h
  | p :: a, [], h => by rw [chg] at h; cases h
  | p :: a, q :: b, h => by
    rw [chg] at h
    split at h
    · cases h
    · split at h
      · cases h
      · split at h
        · rename_i e
          rw [e, chg_zero a b h]
        · cases h
theorem cost_zero {a b : List Pol} : costF a b = 0 ↔ a = b := by
  unfold costF
  constructor
  · intro h
    exact chg_zero a b (List.eq_nil_of_length_eq_zero (by omega))
  · rintro rfl
    rw [chg_self]; rfl
end Go.Proofs.Ytcoljpgnjiakjaa

namespace Go.Proofs.Ytcoljpgnjiakjaa
open Go.RowKit
set_option linter.unusedSimpArgs false
set_option linter.unusedVariables false
set_option maxRecDepth 100000

theorem alive_run : isTrue ((evAll tab 100000 100).fn 8 [] []) = true := by kernel_rfl
def aliveS : Spec := fun args S => match args with
  | [] => some (.b true, S)
  | _ => none
theorem alive_ok : SpecOK Try.prog 8 aliveS := by
  intro args S x S' h
  unfold aliveS at h
  split at h
  · cases h
    exact fnOK_of_below (by kernel_rfl) (fun w => calls_of_ev mixed tab_ok alive_run w) S
  · cases h

end Go.Proofs.Ytcoljpgnjiakjaa

namespace Go.Proofs.Ytcoljpgnjiakjaa
open Go.RowKit
set_option linter.unusedVariables false
set_option maxRecDepth 100000

section
variable {H : Type} {enc : TypeId × Value → H} {W : World}
abbrev polSh : List CS := [.int .i64, .int .u8, .int .u8, .int .u8, .int .u8, .int .i64, .int .u64, .int .u64, .int .u64, .int .u64, .int .u64, .int .u64, .int .u64]
theorem rowPol {cs : List Value} (h : RowIs enc Try.prog W polSh cs) : ∃ a : Pol, cs.map (absV W) = a.enc := by
  obtain ⟨h1, h2⟩ := h
  match cs, h1 with
  | [x0, x1, x2, x3, x4, x5, x6, x7, x8, x9, x10, x11, x12], _ =>
    obtain ⟨a0, rfl, w0⟩ := h2 0 (by simp) (by simp)
    obtain ⟨a1, rfl, w1⟩ := h2 1 (by simp) (by simp)
    obtain ⟨a2, rfl, w2⟩ := h2 2 (by simp) (by simp)
    obtain ⟨a3, rfl, w3⟩ := h2 3 (by simp) (by simp)
    obtain ⟨a4, rfl, w4⟩ := h2 4 (by simp) (by simp)
    obtain ⟨a5, rfl, w5⟩ := h2 5 (by simp) (by simp)
    obtain ⟨a6, rfl, w6⟩ := h2 6 (by simp) (by simp)
    obtain ⟨a7, rfl, w7⟩ := h2 7 (by simp) (by simp)
    obtain ⟨a8, rfl, w8⟩ := h2 8 (by simp) (by simp)
    obtain ⟨a9, rfl, w9⟩ := h2 9 (by simp) (by simp)
    obtain ⟨a10, rfl, w10⟩ := h2 10 (by simp) (by simp)
    obtain ⟨a11, rfl, w11⟩ := h2 11 (by simp) (by simp)
    obtain ⟨a12, rfl, w12⟩ := h2 12 (by simp) (by simp)
    exact ⟨⟨a0, a1, a2, a3, a4, a5, a6, a7, a8, a9, a10, a11, a12⟩, rfl⟩
theorem cellPols {v : Value} (h : CellIs enc Try.prog W (.slice 28) v) : ∃ l : List Pol, lstV polE (absS W) (absV W v) = some l := by
  have s2 : shapes Try.prog 20 28 = some polSh := by kernel_rfl
  have c2 : Try.prog.cellsOf 28 = 13 := by kernel_rfl
  obtain ⟨l, hl, _⟩ := lst_of (e := Pol.enc) (sz := 13) c2 (by omega) h (fun cs fuel x ht => let ⟨a, h1⟩ := rowPol (shapes_ok 20 fuel 28 cs x _ ht s2); ⟨a, h1, rfl⟩)
    (good := fun _ => True) (fun cs fuel x a ht he => trivial)
  exact ⟨l, lst_lstV (E := polE) hl⟩
theorem argPols {v : Value} {base : Nat} {d : DataW H} {ps : List MemPlace} (o : Value.okWide Try.prog W .any base 29 v) (h : DataW.Trod enc Try.prog W 0 (fun _ => true) true 29 v d ps) :
    ∃ l, lstV polE (absS W) (absA W v) = some l := by
  have s0 : shapes Try.prog 20 29 = some [.slice 28] := by kernel_rfl
  have hv : v.cells.toList = [v] ∧ absA W v = absV W v := by
    cases v with
    | agg cs =>
      unfold Value.okWide at o
      rw [Try.underlying29] at o
      unfold Cell.okWide at o
      rw [Try.underlying29] at o
      unfold Cell.ok at o
      rw [Try.underlying29] at o
      simp at o
    | _ => exact ⟨rfl, rfl⟩
  obtain ⟨h1, h2⟩ := arg_row h s0
  rw [hv.1] at h1 h2
  have hc := h2 0 (by simp) (by simp)
  simp only [List.getElem_cons_zero] at hc
  rw [hv.2]
  exact cellPols hc
end
end Go.Proofs.Ytcoljpgnjiakjaa

namespace Go.Proofs.Ytcoljpgnjiakjaa
open Go.RowKit
set_option linter.unusedSimpArgs false
set_option linter.unusedVariables false
set_option maxRecDepth 100000

theorem great_no {a b : List Pol} (h : greatF a b = false) : a.length ≤ 30 ∧ b.length ≤ 30 ∧ risF 0 a = true ∧ risF 0 b = true := by
  simpa [greatF, Nat.not_lt, and_assoc] using h
theorem cost_eq {S : Mem} {x y : AV} {a b : List Pol} (ha : lstV polE S x = some a) (hb : lstV polE S y = some b) (h1 : a.length ≤ 400000) (h2 : b.length ≤ 400000) : costS [x, y] S = some (.i .i64 (costF a b), S) := by
  simp only [costS, ha, hb]; rw [if_pos ⟨h1, h2⟩]
theorem great_eq {S : Mem} {x y : AV} {a b : List Pol} (ha : lstV polE S x = some a) (hb : lstV polE S y = some b) : greatS [x, y] S = some (.b (greatF a b), S) := by
  simp only [greatS, ha, hb]
theorem sameP_eq {S : Mem} {x y : AV} {a b : List Pol} (ha : lstV polE S x = some a) (hb : lstV polE S y = some b) (h1 : a.length ≤ 900000) : samePS [x, y] S = some (.b (decide (a = b)), S) := by
  simp only [samePS, ha, hb]; rw [if_pos h1]
theorem cost_nn (a b : List Pol) : 0 ≤ costF a b := by unfold costF; omega
theorem cost_le {a b : List Pol} (h1 : a.length ≤ 30) (h2 : b.length ≤ 30) : costF a b ≤ 60 := by
  have := chg_len a b
  unfold costF; omega
theorem oWa_ok : OK Try.prog (lamOf Try.prog) (orcOf [(8, aliveS), (12, greatS), (10, costS), (15, samePS)]) := orc_ok (by simpa using ⟨alive_ok, great_ok, cost_ok, sameP_ok⟩)
theorem ways_ok (S : Mem) (x y z : AV) (a b c : List Pol) (ha : lstV polE S x = some a) (hb : lstV polE S y = some b) (hc : lstV polE S z = some c) : FnOK Try.prog 7 [x, y, z] S (.b true) S := by
  have g1 := great_eq ha hb
  have g2 := great_eq (y := .sn) (b := []) hc rfl
  refine fn_of_wp f7 rfl (W_sound oWa_ok mixed _ _ _ _ _ ?_)
  cases h1 : greatF a b with
  | true =>
    rw [h1] at g1
    simp (maxSteps := 1000000) (disch := omega) only [c7, orc_cons, aliveS, g1, go_sem, Option.map_none, Option.map_some, ↓reduceIte, Nat.reduceBEq, Nat.reduceAdd, Nat.reduceSub, Nat.reduceEqDiff, Nat.reduceLeDiff, Nat.reduceMul, Nat.reduceLT, Int.reduceLT, Int.reduceLE, Int.reduceAdd, Int.reduceSub, Int.reduceMul, Int.reduceNeg, Int.reduceEq, Int.reduceNe, Int.reduceToNat, decide_true, decide_false, iaddr_i, iaddr_sl_i, not_true_eq_false, not_false_eq_true, reduceCtorEq, ne_eq, forall_const, false_imp_iff, true_imp_iff, implies_true, Int.cast_ofNat_Int, Int.natCast_zero, Int.natCast_one, Int.add_zero, Int.zero_add]
    exact wkv_same
  | false =>
    rw [h1] at g1
    cases h2 : greatF c [] with
    | true =>
      rw [h2] at g2
      simp (maxSteps := 1000000) (disch := omega) only [c7, orc_cons, aliveS, g1, g2, go_sem, Option.map_none, Option.map_some, ↓reduceIte, Nat.reduceBEq, Nat.reduceAdd, Nat.reduceSub, Nat.reduceEqDiff, Nat.reduceLeDiff, Nat.reduceMul, Nat.reduceLT, Int.reduceLT, Int.reduceLE, Int.reduceAdd, Int.reduceSub, Int.reduceMul, Int.reduceNeg, Int.reduceEq, Int.reduceNe, Int.reduceToNat, decide_true, decide_false, iaddr_i, iaddr_sl_i, not_true_eq_false, not_false_eq_true, reduceCtorEq, ne_eq, forall_const, false_imp_iff, true_imp_iff, implies_true, Int.cast_ofNat_Int, Int.natCast_zero, Int.natCast_one, Int.add_zero, Int.zero_add]
      exact wkv_same
    | false =>
      rw [h2] at g2
      obtain ⟨la, lb, ra, rb⟩ := great_no h1
      obtain ⟨lc, _, rc, _⟩ := great_no h2
      have e1 := cost_eq ha hb (by omega) (by omega)
      have e2 := cost_eq hb ha (by omega) (by omega)
      have e3 := cost_eq ha hc (by omega) (by omega)
      have e4 := cost_eq hb hc (by omega) (by omega)
      have e5 := sameP_eq ha hb (by omega)
      rw [← cost_sym ra rb] at e2
      have t1 := cost_tri ra rb rc
      have z1 : decide (a = b) = decide (costF a b = 0) := decide_eq_decide.2 cost_zero.symm
      rw [z1] at e5
      have u1 := cost_le la lb
      have u2 := cost_le lb lc
      have u3 := cost_nn a b
      have u4 := cost_nn b c
      generalize costF a b = n1 at *
      generalize costF b c = n2 at *
      generalize costF a c = n3 at *
      have hw : wrapV .i64 (n1 + n2) = n1 + n2 := wrap_i64 (by omega) (by omega)
      simp (maxSteps := 1000000) (disch := omega) only [c7, orc_cons, aliveS, g1, g2, e1, e2, e3, e4, e5, hw, t1, go_sem, Option.map_none, Option.map_some, ↓reduceIte, Nat.reduceBEq, Nat.reduceAdd, Nat.reduceSub, Nat.reduceEqDiff, Nat.reduceLeDiff, Nat.reduceMul, Nat.reduceLT, Int.reduceLT, Int.reduceLE, Int.reduceAdd, Int.reduceSub, Int.reduceMul, Int.reduceNeg, Int.reduceEq, Int.reduceNe, Int.reduceToNat, decide_true, decide_false, iaddr_i, iaddr_sl_i, not_true_eq_false, not_false_eq_true, reduceCtorEq, ne_eq, forall_const, false_imp_iff, true_imp_iff, implies_true, Int.cast_ofNat_Int, Int.natCast_zero, Int.natCast_one, Int.add_zero, Int.zero_add]
      exact wkv_same
section
variable {H : Type} {enc : TypeId × Value → H}
theorem walkDiffWays (W : World) (v0 v1 v2 : Value) {base : Nat} (o0 : Value.okWide Try.prog W .any base 29 v0) (o1 : Value.okWide Try.prog W .any base 29 v1) (o2 : Value.okWide Try.prog W .any base 29 v2) {d0 d1 d2 : DataW H} {p0 p1 p2 : List MemPlace}
    (h0 : DataW.Trod enc Try.prog W 0 (fun _ => true) true 29 v0 d0 p0) (h1 : DataW.Trod enc Try.prog W 0 (fun _ => true) true 29 v1 d1 p1) (h2 : DataW.Trod enc Try.prog W 0 (fun _ => true) true 29 v2 d2 p2) :
    Calls Try.prog 7 #[v0, v1, v2] W fun e w' => e = .returned (.bool true) ∧ Below W.heap.size W w' := by
  obtain ⟨a, ha⟩ := argPols o0 h0
  obtain ⟨b, hb⟩ := argPols o1 h1
  obtain ⟨c, hc⟩ := argPols o2 h2
  refine calls_of_fnOK (S' := absS W) ?_
  show FnOK Try.prog _ [absA W v0, absA W v1, absA W v2] _ _ _
  exact ways_ok _ _ _ _ a b c ha hb hc
end
end Go.Proofs.Ytcoljpgnjiakjaa

