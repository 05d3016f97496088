/- Proved here: what the law of this claim leans on (an evaluator of the model's code, contracts of functions). No condition. -/
import Derived.Test.YtcoljpgnjiakjaaQCode
import Derived.Test.YtcoljpgnjiakjaaMc
namespace Go.Proofs.Ytcoljpgnjiakjaa
open Go.RowKit
set_option linter.unusedSimpArgs false
set_option linter.unusedVariables false
set_option maxRecDepth 10000

theorem none_ok : OK Try.prog (lamOf Try.prog) (orcOf []) := orc_ok (l := []) (fun p hp => by cases hp)
theorem wrapS {t : Nat} (h : t < 1000000) : wrapV .i64 ((t : Int) + 1) = ((t + 1 : Nat) : Int) := by rw [wrap_i64 (by omega) (by omega)]; omega
structure Pol where
  sub : Int
  a : Int
  b : Int
  c : Int
  d : Int
  bits : Int
  rate : Int
  burst : Int
  srate : Int
  sburst : Int
  quota : Int
  lease : Int
  quantum : Int
  deriving DecidableEq
def Pol.enc (p : Pol) : List AV := [.i .i64 p.sub, .i .u8 p.a, .i .u8 p.b, .i .u8 p.c, .i .u8 p.d, .i .i64 p.bits, .i .u64 p.rate, .i .u64 p.burst, .i .u64 p.srate, .i .u64 p.sburst, .i .u64 p.quota, .i .u64 p.lease, .i .u64 p.quantum]
def polE : Enc Pol where
  enc := Pol.enc
  dec r := match r with
    | [.i .i64 sub, .i .u8 a, .i .u8 b, .i .u8 c, .i .u8 d, .i .i64 bits, .i .u64 rate, .i .u64 burst, .i .u64 srate, .i .u64 sburst, .i .u64 quota, .i .u64 lease, .i .u64 quantum] => some ⟨sub, a, b, c, d, bits, rate, burst, srate, sburst, quota, lease, quantum⟩
    | _ => none
  sz := 13
  pos := by decide
  len _ := rfl
  de _ := rfl
  ed r a h := by
    split at h
    · injection h with h; subst h; rfl
    · cases h
theorem polE_one (a : Pol) : (polE.enc a).all AV.one = true := rfl
theorem polE_flat : ∀ (n : Nat) (a : Pol), ∀ c ∈ polE.enc a, AV.Flat n c := by
  intro n a
  simp only [polE, Pol.enc, List.forall_mem_cons, List.not_mem_nil, false_imp_iff, implies_true, and_true, Flat_i, and_self]
theorem ne_pol {a b : Pol} : eqAgV true [.int, .int, .int, .int, .int, .int, .int, .int, .int, .int, .int, .int, .int] (.ag (polE.enc a)) (.ag (polE.enc b)) = some (.b (decide (¬ a = b))) := by
  obtain ⟨a1, a2, a3, a4, a5, a6, a7, a8, a9, a10, a11, a12, a13⟩ := a
  obtain ⟨b1, b2, b3, b4, b5, b6, b7, b8, b9, b10, b11, b12, b13⟩ := b
  simp [eqAgV, eqCells, eqCell, polE, Pol.enc, Bool.beq_eq_decide_eq, and_assoc]
def risF : Int → List Pol → Bool
  | _, [] => true
  | n, p :: l => decide (n < p.sub) && risF p.sub l
def risS : Spec := fun args S => match args with
  | [x] => match lstV polE S x with
    | some l => if l.length ≤ 900000 then some (.b (risF 0 l), S) else none
    | none => none
  | _ => none
theorem ris_ok : SpecOK Try.prog 26 risS := by
  intro args S x S' h
  simp only [risS] at h
  split at h
  · rename_i s
    split at h
    · rename_i l hl
      split at h
      · rename_i hlim
        cases h
        refine fn_of_wp f26 rfl (W_sound none_ok mixed _ _ _ _ _ ?_)
        simp (maxSteps := 1000000) (disch := omega) only [c26, lst_len hl, go_sem, Option.map_none, Option.map_some, ↓reduceIte, Nat.reduceBEq, Nat.reduceAdd, Nat.reduceSub, Nat.reduceEqDiff, Nat.reduceLeDiff, Nat.reduceMul, Nat.reduceLT, Int.reduceLT, Int.reduceLE, Int.reduceAdd, Int.reduceSub, Int.reduceMul, Int.reduceNeg, Int.reduceEq, Int.reduceNe, Int.reduceToNat, decide_true, decide_false, iaddr_i, iaddr_sl_i, not_true_eq_false, not_false_eq_true, reduceCtorEq, ne_eq, forall_const, false_imp_iff, true_imp_iff, implies_true, Int.cast_ofNat_Int, Int.natCast_zero, Int.natCast_one, Int.add_zero, Int.zero_add]
        refine wp_loop (fun j e M dl => dl = [] ∧ ∃ (k : Nat) (n : Int), j = l.length - k ∧ k ≤ l.length ∧ S <+: M ∧ risF 0 l = risF n (l.drop k) ∧
          e.get 6 = s ∧ e.get 7 = .i .i64 l.length ∧ e.get 8 = .i .i64 k ∧ e.get 3 = .i .i64 n) (j := l.length) ⟨rfl, 0, 0, rfl, Nat.zero_le _, ext_refl, rfl, rfl, rfl, rfl, rfl⟩ ?_
        rintro j e M d' ⟨rfl, k, n, rfl, hk, hSM, hr, h6, h7, h8, h3⟩
        refine W_sound none_ok mixed _ _ _ _ _ ?_
        by_cases hkl : k < l.length
        · obtain ⟨bi, o, v, cap, ex, rfl⟩ := lst_sl hl hkl
          have hro := lstV_row (lst_ext hl hSM) hkl []
          rw [List.append_nil] at hro
          have hkI : (k : Int) < l.length := by omega
          have hk6 : k < 1000000 := by omega
          have hdr : l.drop k = l[k] :: l.drop (k + 1) := List.drop_eq_getElem_cons hkl
          rw [hdr] at hr
          have hro : rowB (M[bi]?) (o + k * 13) v 13 = some (l[k]).enc := hro
          generalize l[k] = p at hro hr
          simp only [Pol.enc] at hro
          simp only [risF] at hr
          by_cases hlt : n < p.sub
          · have hlt' : ¬ p.sub ≤ n := by omega
            rw [decide_eq_true hlt, Bool.true_and] at hr
            simp (maxSteps := 1000000) (disch := omega) only [c26l0, h6, h7, h8, h3, hkI, Int.toNat_natCast, hro, List.replicate, hlt', wrapS hk6, go_sem, Option.map_none, Option.map_some, ↓reduceIte, Nat.reduceBEq, Nat.reduceAdd, Nat.reduceSub, Nat.reduceEqDiff, Nat.reduceLeDiff, Nat.reduceMul, Nat.reduceLT, Int.reduceLT, Int.reduceLE, Int.reduceAdd, Int.reduceSub, Int.reduceMul, Int.reduceNeg, Int.reduceEq, Int.reduceNe, Int.reduceToNat, decide_true, decide_false, iaddr_i, iaddr_sl_i, not_true_eq_false, not_false_eq_true, reduceCtorEq, ne_eq, forall_const, false_imp_iff, true_imp_iff, implies_true, Int.cast_ofNat_Int, Int.natCast_zero, Int.natCast_one, Int.add_zero, Int.zero_add]
            exact ⟨l.length - (k + 1), by omega, k + 1, p.sub, rfl, hkl, ext_more hSM _, hr, rfl, rfl⟩
          · have hlt' : p.sub ≤ n := by omega
            rw [decide_eq_false hlt, Bool.false_and] at hr
            rw [hr]
            simp (maxSteps := 1000000) (disch := omega) only [c26l0, h6, h7, h8, h3, hkI, Int.toNat_natCast, hro, List.replicate, hlt', go_sem, Option.map_none, Option.map_some, ↓reduceIte, Nat.reduceBEq, Nat.reduceAdd, Nat.reduceSub, Nat.reduceEqDiff, Nat.reduceLeDiff, Nat.reduceMul, Nat.reduceLT, Int.reduceLT, Int.reduceLE, Int.reduceAdd, Int.reduceSub, Int.reduceMul, Int.reduceNeg, Int.reduceEq, Int.reduceNe, Int.reduceToNat, decide_true, decide_false, iaddr_i, iaddr_sl_i, not_true_eq_false, not_false_eq_true, reduceCtorEq, ne_eq, forall_const, false_imp_iff, true_imp_iff, implies_true, Int.cast_ofNat_Int, Int.natCast_zero, Int.natCast_one, Int.add_zero, Int.zero_add]
            exact wkv_dropP (ext_more hSM _) rfl
        · have hkI : ¬ (k : Int) < l.length := by omega
          rw [List.drop_of_length_le (by omega)] at hr
          rw [hr]
          simp (maxSteps := 1000000) (disch := omega) only [c26l0, h6, h7, h8, h3, hkI, go_sem, Option.map_none, Option.map_some, ↓reduceIte, Nat.reduceBEq, Nat.reduceAdd, Nat.reduceSub, Nat.reduceEqDiff, Nat.reduceLeDiff, Nat.reduceMul, Nat.reduceLT, Int.reduceLT, Int.reduceLE, Int.reduceAdd, Int.reduceSub, Int.reduceMul, Int.reduceNeg, Int.reduceEq, Int.reduceNe, Int.reduceToNat, decide_true, decide_false, iaddr_i, iaddr_sl_i, not_true_eq_false, not_false_eq_true, reduceCtorEq, ne_eq, forall_const, false_imp_iff, true_imp_iff, implies_true, Int.cast_ofNat_Int, Int.natCast_zero, Int.natCast_one, Int.add_zero, Int.zero_add]
          exact wkv_dropP hSM rfl
      · cases h
    · cases h
  · cases h

/-! ### SamePolicies -/
def samePS : Spec := fun args S => match args with
  | [x, y] => match lstV polE S x, lstV polE S y with
    | some l, some m => if l.length ≤ 900000 then some (.b (decide (l = m)), S) else none
    | _, _ => none
  | _ => none
theorem sameP_ok : SpecOK Try.prog 15 samePS := by
  intro args S x S' h
  simp only [samePS] at h
  split at h
  · rename_i s t
    split at h
    · rename_i l m hl hm
      split at h
      · rename_i hlim
        cases h
        refine fn_of_wp f15 rfl (W_sound none_ok mixed _ _ _ _ _ ?_)
        simp (maxSteps := 1000000) (disch := omega) only [c15, lst_len hl, lst_len hm, go_sem, Option.map_none, Option.map_some, ↓reduceIte, Nat.reduceBEq, Nat.reduceAdd, Nat.reduceSub, Nat.reduceEqDiff, Nat.reduceLeDiff, Nat.reduceMul, Nat.reduceLT, Int.reduceLT, Int.reduceLE, Int.reduceAdd, Int.reduceSub, Int.reduceMul, Int.reduceNeg, Int.reduceEq, Int.reduceNe, Int.reduceToNat, decide_true, decide_false, iaddr_i, iaddr_sl_i, not_true_eq_false, not_false_eq_true, reduceCtorEq, ne_eq, forall_const, false_imp_iff, true_imp_iff, implies_true, Int.cast_ofNat_Int, Int.natCast_zero, Int.natCast_one, Int.add_zero, Int.zero_add]
        refine ⟨fun hne => wkv_fP ext_refl fun q => hne (by rw [q]), fun he => ?_⟩
        have he : l.length = m.length := by omega
        refine wp_loop (fun j e M dl => dl = [] ∧ ∃ k : Nat, j = l.length - k ∧ k ≤ l.length ∧ M = S ∧ (∀ i (hi : i < k) (h1 : i < l.length) (h2 : i < m.length), l[i] = m[i]) ∧
          e.get 0 = s ∧ e.get 1 = t ∧ e.get 12 = .i .i64 l.length ∧ e.get 13 = .i .i64 k) (j := l.length) ⟨rfl, 0, rfl, Nat.zero_le _, rfl, fun i hi => absurd hi (Nat.not_lt_zero _), rfl, rfl, rfl, rfl⟩ ?_
        rintro j e M d' ⟨rfl, k, rfl, hk, rfl, hn, h0, h1, h12, h13⟩
        refine W_sound none_ok mixed _ _ _ _ _ ?_
        by_cases hkl : k < l.length
        · obtain ⟨bi, o, v, cap, ex, rfl⟩ := lst_sl hl hkl
          obtain ⟨bj, o2, v2, cap2, ex2, rfl⟩ := lst_sl hm (show k < m.length by omega)
          have hkI : (k : Int) < l.length := by omega
          have hk6 : k < 1000000 := by omega
          have ha := lstV_row hl hkl []
          have hb := lstV_row hm (show k < m.length by omega) []
          rw [List.append_nil] at ha hb
          have ha : rowB (M[bi]?) (o + k * 13) v 13 = some (polE.enc l[k]) := ha
          have hb : rowB (M[bj]?) (o2 + k * 13) v2 13 = some (polE.enc (m[k]'(by omega))) := hb
          simp (maxSteps := 1000000) (disch := omega) only [c15l1, h0, h1, h12, h13, hkI, Int.toNat_natCast, ha, hb, ne_pol, wrapS hk6, go_sem, Option.map_none, Option.map_some, ↓reduceIte, Nat.reduceBEq, Nat.reduceAdd, Nat.reduceSub, Nat.reduceEqDiff, Nat.reduceLeDiff, Nat.reduceMul, Nat.reduceLT, Int.reduceLT, Int.reduceLE, Int.reduceAdd, Int.reduceSub, Int.reduceMul, Int.reduceNeg, Int.reduceEq, Int.reduceNe, Int.reduceToNat, decide_true, decide_false, iaddr_i, iaddr_sl_i, not_true_eq_false, not_false_eq_true, reduceCtorEq, ne_eq, forall_const, false_imp_iff, true_imp_iff, implies_true, Int.cast_ofNat_Int, Int.natCast_zero, Int.natCast_one, Int.add_zero, Int.zero_add]
          refine ⟨fun hd => wkv_fP ext_refl fun q => hd (by subst q; rfl), fun hd => ⟨l.length - (k + 1), by omega, k + 1, rfl, hkl, fun i hi h1 h2 => ?_, rfl⟩⟩
          by_cases hik : i = k
          · subst hik; exact Decidable.not_not.1 hd
          · exact hn i (by omega) h1 h2
        · have hkI : ¬ (k : Int) < l.length := by omega
          simp (maxSteps := 1000000) (disch := omega) only [c15l1, h0, h1, h12, h13, hkI, go_sem, Option.map_none, Option.map_some, ↓reduceIte, Nat.reduceBEq, Nat.reduceAdd, Nat.reduceSub, Nat.reduceEqDiff, Nat.reduceLeDiff, Nat.reduceMul, Nat.reduceLT, Int.reduceLT, Int.reduceLE, Int.reduceAdd, Int.reduceSub, Int.reduceMul, Int.reduceNeg, Int.reduceEq, Int.reduceNe, Int.reduceToNat, decide_true, decide_false, iaddr_i, iaddr_sl_i, not_true_eq_false, not_false_eq_true, reduceCtorEq, ne_eq, forall_const, false_imp_iff, true_imp_iff, implies_true, Int.cast_ofNat_Int, Int.natCast_zero, Int.natCast_one, Int.add_zero, Int.zero_add]
          exact wkv_tP ext_refl (List.ext_getElem he fun i h1 h2 => hn i (by omega) h1 h2)
      · cases h
    · cases h
  · cases h

/-! ### great -/
def greatF (a b : List Pol) : Bool := decide (30 < a.length) || (decide (30 < b.length) || (!risF 0 a || !risF 0 b))
def greatS : Spec := fun args S => match args with
  | [x, y] => match lstV polE S x, lstV polE S y with
    | some l, some m => some (.b (greatF l m), S)
    | _, _ => none
  | _ => none
theorem oGr_ok : OK Try.prog (lamOf Try.prog) (orcOf [(26, risS)]) := orc_ok (by simpa using ris_ok)
theorem great_ok : SpecOK Try.prog 12 greatS := by
  intro args S x S' h
  simp only [greatS] at h
  split at h
  · rename_i s t
    split at h
    · rename_i l m hl hm
      cases h
      refine fn_of_wp f12 rfl (W_sound oGr_ok mixed _ _ _ _ _ ?_)
      unfold greatF
      by_cases h1 : 30 < l.length
      · have h1I : (30 : Int) < l.length := by omega
        simp (maxSteps := 1000000) (disch := omega) only [c12, lst_len hl, lst_len hm, h1, h1I, Bool.true_or, go_sem, Option.map_none, Option.map_some, ↓reduceIte, Nat.reduceBEq, Nat.reduceAdd, Nat.reduceSub, Nat.reduceEqDiff, Nat.reduceLeDiff, Nat.reduceMul, Nat.reduceLT, Int.reduceLT, Int.reduceLE, Int.reduceAdd, Int.reduceSub, Int.reduceMul, Int.reduceNeg, Int.reduceEq, Int.reduceNe, Int.reduceToNat, decide_true, decide_false, iaddr_i, iaddr_sl_i, not_true_eq_false, not_false_eq_true, reduceCtorEq, ne_eq, forall_const, false_imp_iff, true_imp_iff, implies_true, Int.cast_ofNat_Int, Int.natCast_zero, Int.natCast_one, Int.add_zero, Int.zero_add]
        exact wkv_same
      have h1I : ¬ (30 : Int) < l.length := by omega
      by_cases h2 : 30 < m.length
      · have h2I : (30 : Int) < m.length := by omega
        simp (maxSteps := 1000000) (disch := omega) only [c12, lst_len hl, lst_len hm, h1, h1I, h2, h2I, Bool.true_or, Bool.false_or, go_sem, Option.map_none, Option.map_some, ↓reduceIte, Nat.reduceBEq, Nat.reduceAdd, Nat.reduceSub, Nat.reduceEqDiff, Nat.reduceLeDiff, Nat.reduceMul, Nat.reduceLT, Int.reduceLT, Int.reduceLE, Int.reduceAdd, Int.reduceSub, Int.reduceMul, Int.reduceNeg, Int.reduceEq, Int.reduceNe, Int.reduceToNat, decide_true, decide_false, iaddr_i, iaddr_sl_i, not_true_eq_false, not_false_eq_true, reduceCtorEq, ne_eq, forall_const, false_imp_iff, true_imp_iff, implies_true, Int.cast_ofNat_Int, Int.natCast_zero, Int.natCast_one, Int.add_zero, Int.zero_add]
        exact wkv_same
      have h2I : ¬ (30 : Int) < m.length := by omega
      have r1 : risS [s] S = some (.b (risF 0 l), S) := by simp only [risS, hl]; rw [if_pos (by omega)]
      have r2 : risS [t] S = some (.b (risF 0 m), S) := by simp only [risS, hm]; rw [if_pos (by omega)]
      cases hr1 : risF 0 l with
      | false =>
        rw [hr1] at r1
        simp (maxSteps := 1000000) (disch := omega) only [c12, lst_len hl, lst_len hm, h1, h1I, h2, h2I, Bool.true_or, Bool.false_or, orc_cons, r1, Bool.not_false, go_sem, Option.map_none, Option.map_some, ↓reduceIte, Nat.reduceBEq, Nat.reduceAdd, Nat.reduceSub, Nat.reduceEqDiff, Nat.reduceLeDiff, Nat.reduceMul, Nat.reduceLT, Int.reduceLT, Int.reduceLE, Int.reduceAdd, Int.reduceSub, Int.reduceMul, Int.reduceNeg, Int.reduceEq, Int.reduceNe, Int.reduceToNat, decide_true, decide_false, iaddr_i, iaddr_sl_i, not_true_eq_false, not_false_eq_true, reduceCtorEq, ne_eq, forall_const, false_imp_iff, true_imp_iff, implies_true, Int.cast_ofNat_Int, Int.natCast_zero, Int.natCast_one, Int.add_zero, Int.zero_add]
        exact wkv_same
      | true =>
        rw [hr1] at r1
        cases hr2 : risF 0 m with
        | false =>
          rw [hr2] at r2
          simp (maxSteps := 1000000) (disch := omega) only [c12, lst_len hl, lst_len hm, h1, h1I, h2, h2I, Bool.true_or, Bool.false_or, orc_cons, r1, r2, Bool.not_false, Bool.not_true, go_sem, Option.map_none, Option.map_some, ↓reduceIte, Nat.reduceBEq, Nat.reduceAdd, Nat.reduceSub, Nat.reduceEqDiff, Nat.reduceLeDiff, Nat.reduceMul, Nat.reduceLT, Int.reduceLT, Int.reduceLE, Int.reduceAdd, Int.reduceSub, Int.reduceMul, Int.reduceNeg, Int.reduceEq, Int.reduceNe, Int.reduceToNat, decide_true, decide_false, iaddr_i, iaddr_sl_i, not_true_eq_false, not_false_eq_true, reduceCtorEq, ne_eq, forall_const, false_imp_iff, true_imp_iff, implies_true, Int.cast_ofNat_Int, Int.natCast_zero, Int.natCast_one, Int.add_zero, Int.zero_add]
          exact wkv_same
        | true =>
          rw [hr2] at r2
          simp (maxSteps := 1000000) (disch := omega) only [c12, lst_len hl, lst_len hm, h1, h1I, h2, h2I, Bool.true_or, Bool.false_or, orc_cons, r1, r2, Bool.not_false, Bool.not_true, go_sem, Option.map_none, Option.map_some, ↓reduceIte, Nat.reduceBEq, Nat.reduceAdd, Nat.reduceSub, Nat.reduceEqDiff, Nat.reduceLeDiff, Nat.reduceMul, Nat.reduceLT, Int.reduceLT, Int.reduceLE, Int.reduceAdd, Int.reduceSub, Int.reduceMul, Int.reduceNeg, Int.reduceEq, Int.reduceNe, Int.reduceToNat, decide_true, decide_false, iaddr_i, iaddr_sl_i, not_true_eq_false, not_false_eq_true, reduceCtorEq, ne_eq, forall_const, false_imp_iff, true_imp_iff, implies_true, Int.cast_ofNat_Int, Int.natCast_zero, Int.natCast_one, Int.add_zero, Int.zero_add]
          exact wkv_same
    · cases h
  · cases h
end Go.Proofs.Ytcoljpgnjiakjaa

namespace Go.Proofs.Ytcoljpgnjiakjaa
open Go.RowKit
set_option linter.unusedSimpArgs false
set_option linter.unusedVariables false
set_option maxRecDepth 10000

inductive Ch where
  | drop (sub : Int)
  | put (p : Pol)
  deriving DecidableEq
def noPol : Pol := ⟨0, 0, 0, 0, 0, 0, 0, 0, 0, 0, 0, 0, 0⟩
/-- An op's cells. -/
def opC (kind sub : Int) (p : Pol) : List AV := [.i .i64 kind, .i .i64 sub, .i .i64 0, .i .u64 0, .sn, .i .i64 p.sub, .i .u8 p.a, .i .u8 p.b, .i .u8 p.c, .i .u8 p.d, .i .i64 p.bits, .i .u64 p.rate, .i .u64 p.burst, .i .u64 p.srate, .i .u64 p.sburst, .i .u64 p.quota, .i .u64 p.lease, .i .u64 p.quantum, .sn]
def Ch.enc : Ch → List AV
  | .drop s => opC 5 s noPol
  | .put p => opC 4 0 p
end Go.Proofs.Ytcoljpgnjiakjaa

namespace Go.Proofs.Ytcoljpgnjiakjaa
open Go.RowKit
set_option linter.unusedSimpArgs false
set_option linter.unusedVariables false
set_option maxRecDepth 10000

def costPath : List Bool := [true, true, false, true, false]
structure Jc (S : Mem) (x y : AV) (env : Env) (k : Nat) (M : Mem) : Prop where
  hS : S <+: M
  hc : M[S.length]? = some (.cells [.i .i64 k] 0 none true)
  h1 : M[S.length + 1]? = some (.cells [x] 0 none true)
  h2 : M[S.length + 2]? = some (.cells [y] 0 none true)
  hd : M[S.length + 3]? = some (.dfr true)
  hl : M[S.length + 4]? = some (.loop 10 costPath env .ready none)
theorem Jc.grow {S : Mem} {x y : AV} {env : Env} {k : Nat} {M : Mem} (J : Jc S x y env k M) (L : Mem) : Jc S x y env k (M ++ L) :=
  ⟨ext_more J.hS L, at_old J.hc, at_old J.h1, at_old J.h2, at_old J.hd, at_old J.hl⟩
end Go.Proofs.Ytcoljpgnjiakjaa

namespace Go.Proofs.Ytcoljpgnjiakjaa
open Go.RowKit
set_option linter.unusedSimpArgs false
set_option linter.unusedVariables false

theorem ris_cons {n : Int} {p : Pol} {l : List Pol} (h : risF n (p :: l) = true) : n < p.sub ∧ risF p.sub l = true := by
  simpa [risF] using h
theorem ris_gt {n : Int} : ∀ {l : List Pol}, risF n l = true → ∀ p ∈ l, n < p.sub
  | [], _, p, hp => by cases hp
  | a :: l, h, p, hp => by
    obtain ⟨h1, h2⟩ := ris_cons h
    rcases List.mem_cons.1 hp with rfl | hp
    · exact h1
    · have := ris_gt h2 p hp; omega
end Go.Proofs.Ytcoljpgnjiakjaa

namespace Go.Proofs.Ytcoljpgnjiakjaa
open Go.RowKit
set_option linter.unusedSimpArgs false
set_option linter.unusedVariables false
set_option maxRecDepth 10000

def nanS : Spec := fun args S => match args with
  | [.i .i64 n] => some (.b false, S)
  | _ => none
theorem nan_ok : SpecOK Try.prog 31 nanS := by
  intro args S x S' h
  simp only [nanS] at h
  split at h
  · cases h
    refine fn_of_wp f31 rfl (W_sound none_ok mixed _ _ _ _ _ ?_)
    simp (maxSteps := 1000000) (disch := omega) only [c31, go_sem, Option.map_none, Option.map_some, ↓reduceIte, Nat.reduceBEq, Nat.reduceAdd, Nat.reduceSub, Nat.reduceEqDiff, Nat.reduceLeDiff, Nat.reduceMul, Nat.reduceLT, Int.reduceLT, Int.reduceLE, Int.reduceAdd, Int.reduceSub, Int.reduceMul, Int.reduceNeg, Int.reduceEq, Int.reduceNe, Int.reduceToNat, decide_true, decide_false, iaddr_i, iaddr_sl_i, not_true_eq_false, not_false_eq_true, reduceCtorEq, ne_eq, forall_const, false_imp_iff, true_imp_iff, implies_true, Int.cast_ofNat_Int, Int.natCast_zero, Int.natCast_one, Int.add_zero, Int.zero_add]
    first | exact wkv_same | simpa using wkv_same
  · cases h
def cmpI (a b : Int) : Int := if a < b then -1 else if b < a then 1 else 0
def cmpS : Spec := fun args S => match args with
  | [.i .i64 a, .i .i64 b] => some (.i .i64 (cmpI a b), S)
  | _ => none
theorem oCmp_ok : OK Try.prog (lamOf Try.prog) (orcOf [(31, nanS)]) := orc_ok (by simpa using nan_ok)
theorem cmp_ok : SpecOK Try.prog 21 cmpS := by
  intro args S x S' h
  simp only [cmpS] at h
  split at h
  · rename_i a b
    cases h
    refine fn_of_wp f21 rfl (W_sound oCmp_ok mixed _ _ _ _ _ ?_)
    unfold cmpI
    by_cases h1 : a < b
    · simp (maxSteps := 1000000) (disch := omega) only [c21, orc_cons, nanS, h1, go_sem, Option.map_none, Option.map_some, ↓reduceIte, Nat.reduceBEq, Nat.reduceAdd, Nat.reduceSub, Nat.reduceEqDiff, Nat.reduceLeDiff, Nat.reduceMul, Nat.reduceLT, Int.reduceLT, Int.reduceLE, Int.reduceAdd, Int.reduceSub, Int.reduceMul, Int.reduceNeg, Int.reduceEq, Int.reduceNe, Int.reduceToNat, decide_true, decide_false, iaddr_i, iaddr_sl_i, not_true_eq_false, not_false_eq_true, reduceCtorEq, ne_eq, forall_const, false_imp_iff, true_imp_iff, implies_true, Int.cast_ofNat_Int, Int.natCast_zero, Int.natCast_one, Int.add_zero, Int.zero_add]
      exact wkv_same
    · by_cases h2 : b < a
      · simp (maxSteps := 1000000) (disch := omega) only [c21, orc_cons, nanS, h1, h2, go_sem, Option.map_none, Option.map_some, ↓reduceIte, Nat.reduceBEq, Nat.reduceAdd, Nat.reduceSub, Nat.reduceEqDiff, Nat.reduceLeDiff, Nat.reduceMul, Nat.reduceLT, Int.reduceLT, Int.reduceLE, Int.reduceAdd, Int.reduceSub, Int.reduceMul, Int.reduceNeg, Int.reduceEq, Int.reduceNe, Int.reduceToNat, decide_true, decide_false, iaddr_i, iaddr_sl_i, not_true_eq_false, not_false_eq_true, reduceCtorEq, ne_eq, forall_const, false_imp_iff, true_imp_iff, implies_true, Int.cast_ofNat_Int, Int.natCast_zero, Int.natCast_one, Int.add_zero, Int.zero_add]
        exact wkv_same
      · simp (maxSteps := 1000000) (disch := omega) only [c21, orc_cons, nanS, h1, h2, go_sem, Option.map_none, Option.map_some, ↓reduceIte, Nat.reduceBEq, Nat.reduceAdd, Nat.reduceSub, Nat.reduceEqDiff, Nat.reduceLeDiff, Nat.reduceMul, Nat.reduceLT, Int.reduceLT, Int.reduceLE, Int.reduceAdd, Int.reduceSub, Int.reduceMul, Int.reduceNeg, Int.reduceEq, Int.reduceNe, Int.reduceToNat, decide_true, decide_false, iaddr_i, iaddr_sl_i, not_true_eq_false, not_false_eq_true, reduceCtorEq, ne_eq, forall_const, false_imp_iff, true_imp_iff, implies_true, Int.cast_ofNat_Int, Int.natCast_zero, Int.natCast_one, Int.add_zero, Int.zero_add]
        exact wkv_same
  · cases h
def cmpPS : Spec := fun args S => match args with
  | [.ag ca, .i .i64 n] => match polE.dec ca with
    | some a => some (.i .i64 (cmpI a.sub n), S)
    | none => none
  | _ => none
def bySubS : Spec := fun args S => match args with
  | [.ag ca, .ag cb] => match polE.dec ca, polE.dec cb with
    | some a, some b => some (.i .i64 (cmpI a.sub b.sub), S)
    | _, _ => none
  | _ => none
theorem oCmE_ok : OK Try.prog (lamOf Try.prog) (orcOf [(21, cmpS)]) := orc_ok (by simpa using cmp_ok)
theorem cmpP_ok : SpecOK Try.prog 20 cmpPS := by
  intro args S x S' h
  simp only [cmpPS] at h
  split at h
  · rename_i ca n
    split at h
    · rename_i a ha
      obtain rfl := polE.ed _ _ ha
      cases h
      refine fn_of_wp f20 rfl (W_sound oCmE_ok mixed _ _ _ _ _ ?_)
      simp (maxSteps := 1000000) (disch := omega) only [c20, polE, Pol.enc, orc_cons, cmpS, go_sem, Option.map_none, Option.map_some, ↓reduceIte, Nat.reduceBEq, Nat.reduceAdd, Nat.reduceSub, Nat.reduceEqDiff, Nat.reduceLeDiff, Nat.reduceMul, Nat.reduceLT, Int.reduceLT, Int.reduceLE, Int.reduceAdd, Int.reduceSub, Int.reduceMul, Int.reduceNeg, Int.reduceEq, Int.reduceNe, Int.reduceToNat, decide_true, decide_false, iaddr_i, iaddr_sl_i, not_true_eq_false, not_false_eq_true, reduceCtorEq, ne_eq, forall_const, false_imp_iff, true_imp_iff, implies_true, Int.cast_ofNat_Int, Int.natCast_zero, Int.natCast_one, Int.add_zero, Int.zero_add]
      exact wkv_drop rfl
    · cases h
  · cases h
theorem bySub_ok : SpecOK Try.prog 25 bySubS := by
  intro args S x S' h
  simp only [bySubS] at h
  split at h
  · rename_i ca cb
    split at h
    · rename_i a b ha hb
      obtain rfl := polE.ed _ _ ha
      obtain rfl := polE.ed _ _ hb
      cases h
      refine fn_of_wp f25 rfl (W_sound oCmE_ok mixed _ _ _ _ _ ?_)
      simp (maxSteps := 1000000) (disch := omega) only [c25, polE, Pol.enc, orc_cons, cmpS, go_sem, Option.map_none, Option.map_some, ↓reduceIte, Nat.reduceBEq, Nat.reduceAdd, Nat.reduceSub, Nat.reduceEqDiff, Nat.reduceLeDiff, Nat.reduceMul, Nat.reduceLT, Int.reduceLT, Int.reduceLE, Int.reduceAdd, Int.reduceSub, Int.reduceMul, Int.reduceNeg, Int.reduceEq, Int.reduceNe, Int.reduceToNat, decide_true, decide_false, iaddr_i, iaddr_sl_i, not_true_eq_false, not_false_eq_true, reduceCtorEq, ne_eq, forall_const, false_imp_iff, true_imp_iff, implies_true, Int.cast_ofNat_Int, Int.natCast_zero, Int.natCast_one, Int.add_zero, Int.zero_add]
      exact wkv_drop rfl
    · cases h
  · cases h
theorem cmpP_eq {S : Mem} (a : Pol) (n : Int) : cmpPS [.ag (polE.enc a), .i .i64 n] S = some (.i .i64 (cmpI a.sub n), S) := by simp only [cmpPS, polE.de]
theorem bySub_eq {S : Mem} (a b : Pol) : bySubS [.ag (polE.enc a), .ag (polE.enc b)] S = some (.i .i64 (cmpI a.sub b.sub), S) := by simp only [bySubS, polE.de]
theorem cmpI_neg {a b : Int} : (cmpI a b < 0) ↔ a < b := by
  unfold cmpI
  split
  · rename_i h; exact ⟨fun _ => h, fun _ => by omega⟩
  · rename_i h
    split
    · exact ⟨fun z => by omega, fun z => absurd z h⟩
    · exact ⟨fun z => by omega, fun z => absurd z h⟩
theorem cmpI_zero {a b : Int} : cmpI a b = 0 ↔ a = b := by
  unfold cmpI
  split
  · rename_i h; exact ⟨fun q => by omega, fun q => by omega⟩
  · rename_i h
    split
    · rename_i h2; exact ⟨fun q => by omega, fun q => by omega⟩
    · rename_i h2; exact ⟨fun q => by omega, fun q => rfl⟩
theorem shr_1 {n : Int} : shiftV .shr .u64 n 1 = some (.i .u64 (n / 2)) := by
  simp only [shiftV, IntKind.bits]
  rw [if_neg (by omega), Int.fdiv_eq_ediv_of_nonneg _ (Int.natCast_nonneg _)]; rfl
/-- No subscriber twice, in order. -/
def Ris (l : List Pol) : Prop := l.Pairwise fun p q => p.sub < q.sub
/-- How many stand before. -/
def bidx (l : List Pol) (n : Int) : Nat := (l.takeWhile fun p => decide (p.sub < n)).length
theorem bidx_spec {l : List Pol} {n : Int} {k : Nat} (hk : k ≤ l.length) (h1 : ∀ i (hi : i < k) (hl : i < l.length), l[i].sub < n) (h2 : ∀ i (hi : k ≤ i) (hl : i < l.length), n ≤ l[i].sub) : bidx l n = k := by
  unfold bidx
  induction l generalizing k with
  | nil => simp only [List.length_nil] at hk; simp; omega
  | cons a l ih =>
    cases k with
    | zero =>
      have := h2 0 (by omega) (by simp)
      simp only [List.getElem_cons_zero] at this
      rw [List.takeWhile_cons_of_neg (by simp; omega)]; rfl
    | succ k =>
      have := h1 0 (by omega) (by simp)
      simp only [List.getElem_cons_zero] at this
      rw [List.takeWhile_cons_of_pos (by simpa using this), List.length_cons]
      congr 1
      exact ih (by simpa using hk) (fun i hi hl => by have := h1 (i + 1) (by omega) (by simp; omega); simpa using this) (fun i hi hl => by have := h2 (i + 1) (by omega) (by simp; omega); simpa using this)
def bfound (l : List Pol) (n : Int) : Bool := l.any fun p => decide (p.sub = n)
noncomputable def bsS : Spec := fun args S => match args with
  | [x, .i .i64 n, .f (.func f) [] []] => match lstV polE S x with
    | some l => open Classical in if f = 20 ∧ l.length ≤ 900000 ∧ Ris l then some (.tu [.i .i64 (bidx l n), .b (bfound l n)], S) else none
    | none => none
  | _ => none
theorem oBs_ok : OK Try.prog (lamOf Try.prog) (orcOf [(20, cmpPS)]) := orc_ok (by simpa using cmpP_ok)
theorem bs_ok : SpecOK Try.prog 19 bsS := by
  intro args S x S' h
  simp only [bsS] at h
  split at h
  · rename_i s n f
    split at h
    · rename_i l hl
      split at h
      · rename_i hc
        obtain ⟨rfl, hlim, hris⟩ := hc
        cases h
        have hsort := List.pairwise_iff_getElem.1 hris
        refine fn_of_wp f19 rfl (W_sound oBs_ok mixed _ _ _ _ _ ?_)
        simp (maxSteps := 1000000) (disch := omega) only [c19, lst_len hl, go_sem, Option.map_none, Option.map_some, ↓reduceIte, Nat.reduceBEq, Nat.reduceAdd, Nat.reduceSub, Nat.reduceEqDiff, Nat.reduceLeDiff, Nat.reduceMul, Nat.reduceLT, Int.reduceLT, Int.reduceLE, Int.reduceAdd, Int.reduceSub, Int.reduceMul, Int.reduceNeg, Int.reduceEq, Int.reduceNe, Int.reduceToNat, decide_true, decide_false, iaddr_i, iaddr_sl_i, not_true_eq_false, not_false_eq_true, reduceCtorEq, ne_eq, forall_const, false_imp_iff, true_imp_iff, implies_true, Int.cast_ofNat_Int, Int.natCast_zero, Int.natCast_one, Int.add_zero, Int.zero_add]
        refine wp_loop (fun j e M dl => dl = [] ∧ M = S ∧ ∃ (a b : Nat), j = b - a ∧ a ≤ b ∧ b ≤ l.length ∧ (∀ i (hi : i < a) (hl : i < l.length), l[i].sub < n) ∧ (∀ i (hi : b ≤ i) (hl : i < l.length), n ≤ l[i].sub) ∧
          e.get 1 = .i .i64 n ∧ e.get 0 = s ∧ e.get 2 = .f (.func 20) [] [] ∧ e.get 10 = .i .i64 b ∧ e.get 8 = .i .i64 l.length ∧ e.get 9 = .i .i64 a) (j := l.length) ?_ ?_
        · exact ⟨rfl, rfl, 0, l.length, rfl, Nat.zero_le _, Nat.le_refl _, fun i hi => absurd hi (Nat.not_lt_zero _), fun i hi hl => absurd hl (by omega), rfl, rfl, rfl, rfl, rfl, rfl⟩
        rintro j e M d' ⟨rfl, rfl, a, b, rfl, hab, hbl, h1, h2, e1, e0, e2, e10, e8, e9⟩
        refine W_sound oBs_ok mixed _ _ _ _ _ ?_
        by_cases hlt : a < b
        · have hI : (a : Int) < b := by omega
          have hm : ((a : Int) + b) / 2 = (((a + b) / 2 : Nat) : Int) := by omega
          obtain ⟨m, hmm⟩ : ∃ m, m = (a + b) / 2 := ⟨_, rfl⟩
          rw [← hmm] at hm
          have hml : m < l.length := by omega
          obtain ⟨bi, o, v, cap, ex, rfl⟩ := lst_sl hl hml
          have hr := lstV_row hl hml []
          rw [List.append_nil] at hr
          have hr : rowB (M[bi]?) (o + m * 13) v 13 = some (polE.enc l[m]) := hr
          have hcm := cmpP_eq (S := M) l[m] n
          have hw1 : wrapV .i64 ((a : Int) + b) = (a : Int) + b := wrap_i64 (by omega) (by omega)
          have hw2 : wrapV .u64 ((a : Int) + b) = (a : Int) + b := wrap_u64 (by omega) (by omega)
          have hw3 : wrapV .i64 (m : Int) = m := wrap_i64 (by omega) (by omega)
          have hm6 : m < 1000000 := by omega
          by_cases hlt2 : l[m].sub < n
          · have hneg : cmpI l[m].sub n < 0 := cmpI_neg.2 hlt2
            generalize hcv : cmpI l[m].sub n = cv at hcm hneg
            clear hcv
            simp (maxSteps := 1000000) (disch := omega) only [c19l0, e1, e0, e2, e10, e8, e9, hI, hw1, hw2, shr_1, hm, hw3, Int.toNat_natCast, hr, orc_cons, hcm, hneg, wrapS hm6, go_sem, Option.map_none, Option.map_some, ↓reduceIte, Nat.reduceBEq, Nat.reduceAdd, Nat.reduceSub, Nat.reduceEqDiff, Nat.reduceLeDiff, Nat.reduceMul, Nat.reduceLT, Int.reduceLT, Int.reduceLE, Int.reduceAdd, Int.reduceSub, Int.reduceMul, Int.reduceNeg, Int.reduceEq, Int.reduceNe, Int.reduceToNat, decide_true, decide_false, iaddr_i, iaddr_sl_i, not_true_eq_false, not_false_eq_true, reduceCtorEq, ne_eq, forall_const, false_imp_iff, true_imp_iff, implies_true, Int.cast_ofNat_Int, Int.natCast_zero, Int.natCast_one, Int.add_zero, Int.zero_add]
            refine ⟨b - (m + 1), by omega, m + 1, b, rfl, by omega, hbl, fun i hi hl' => ?_, h2, rfl, rfl⟩
            by_cases him : i = m
            · subst him; exact hlt2
            · have := hsort i m hl' hml (by omega); omega
          · have hneg : ¬ cmpI l[m].sub n < 0 := fun q => hlt2 (cmpI_neg.1 q)
            generalize hcv : cmpI l[m].sub n = cv at hcm hneg
            clear hcv
            simp (maxSteps := 1000000) (disch := omega) only [c19l0, e1, e0, e2, e10, e8, e9, hI, hw1, hw2, shr_1, hm, hw3, Int.toNat_natCast, hr, orc_cons, hcm, hneg, wrapS hm6, go_sem, Option.map_none, Option.map_some, ↓reduceIte, Nat.reduceBEq, Nat.reduceAdd, Nat.reduceSub, Nat.reduceEqDiff, Nat.reduceLeDiff, Nat.reduceMul, Nat.reduceLT, Int.reduceLT, Int.reduceLE, Int.reduceAdd, Int.reduceSub, Int.reduceMul, Int.reduceNeg, Int.reduceEq, Int.reduceNe, Int.reduceToNat, decide_true, decide_false, iaddr_i, iaddr_sl_i, not_true_eq_false, not_false_eq_true, reduceCtorEq, ne_eq, forall_const, false_imp_iff, true_imp_iff, implies_true, Int.cast_ofNat_Int, Int.natCast_zero, Int.natCast_one, Int.add_zero, Int.zero_add]
            refine ⟨m - a, by omega, a, m, rfl, by omega, by omega, h1, fun i hi hl' => ?_, rfl, rfl⟩
            by_cases him : i = m
            · subst him; omega
            · have := hsort m i hml hl' (by omega); omega
        · have hI : ¬ (a : Int) < b := by omega
          obtain rfl : a = b := by omega
          have hbi := bidx_spec hbl h1 h2
          by_cases hal : a < l.length
          · obtain ⟨bi, o, v, cap, ex, rfl⟩ := lst_sl hl hal
            have hr := lstV_row hl hal []
            rw [List.append_nil] at hr
            have hr : rowB (M[bi]?) (o + a * 13) v 13 = some (polE.enc l[a]) := hr
            have hcm := cmpP_eq (S := M) l[a] n
            have halI : (a : Int) < l.length := by omega
            by_cases hz : l[a].sub = n
            · have hz0 : cmpI l[a].sub n = 0 := cmpI_zero.2 hz
              have hbf : bfound l n = true := by
                unfold bfound
                rw [List.any_eq_true]; exact ⟨l[a], List.getElem_mem hal, by simpa using hz⟩
              rw [hbi, hbf]
              generalize hcv : cmpI l[a].sub n = cv at hcm hz0
              simp (maxSteps := 1000000) (disch := omega) only [c19l0, e1, e0, e2, e10, e8, e9, hI, halI, Int.toNat_natCast, hr, orc_cons, hcm, hz0, go_sem, Option.map_none, Option.map_some, ↓reduceIte, Nat.reduceBEq, Nat.reduceAdd, Nat.reduceSub, Nat.reduceEqDiff, Nat.reduceLeDiff, Nat.reduceMul, Nat.reduceLT, Int.reduceLT, Int.reduceLE, Int.reduceAdd, Int.reduceSub, Int.reduceMul, Int.reduceNeg, Int.reduceEq, Int.reduceNe, Int.reduceToNat, decide_true, decide_false, iaddr_i, iaddr_sl_i, not_true_eq_false, not_false_eq_true, reduceCtorEq, ne_eq, forall_const, false_imp_iff, true_imp_iff, implies_true, Int.cast_ofNat_Int, Int.natCast_zero, Int.natCast_one, Int.add_zero, Int.zero_add]
              exact wkv_same
            · have hz0 : ¬ cmpI l[a].sub n = 0 := fun q => hz (cmpI_zero.1 q)
              have hbf : bfound l n = false := by
                unfold bfound
                rw [List.any_eq_false]
                intro p hp
                obtain ⟨i, hi, rfl⟩ := List.getElem_of_mem hp
                simp only [decide_eq_true_eq]
                intro q
                by_cases hia : i < a
                · have := h1 i hia hi; omega
                · by_cases hie : i = a
                  · subst hie; exact hz q
                  · have := hsort a i hal hi (by omega)
                    have := h2 a (Nat.le_refl _) hal
                    omega
              rw [hbi, hbf]
              generalize hcv : cmpI l[a].sub n = cv at hcm hz0
              simp (maxSteps := 1000000) (disch := omega) only [c19l0, e1, e0, e2, e10, e8, e9, hI, halI, Int.toNat_natCast, hr, orc_cons, hcm, hz0, go_sem, Option.map_none, Option.map_some, ↓reduceIte, Nat.reduceBEq, Nat.reduceAdd, Nat.reduceSub, Nat.reduceEqDiff, Nat.reduceLeDiff, Nat.reduceMul, Nat.reduceLT, Int.reduceLT, Int.reduceLE, Int.reduceAdd, Int.reduceSub, Int.reduceMul, Int.reduceNeg, Int.reduceEq, Int.reduceNe, Int.reduceToNat, decide_true, decide_false, iaddr_i, iaddr_sl_i, not_true_eq_false, not_false_eq_true, reduceCtorEq, ne_eq, forall_const, false_imp_iff, true_imp_iff, implies_true, Int.cast_ofNat_Int, Int.natCast_zero, Int.natCast_one, Int.add_zero, Int.zero_add]
              exact wkv_same
          · have halI : ¬ (a : Int) < l.length := by omega
            have hbf : bfound l n = false := by
              unfold bfound
              rw [List.any_eq_false]
              intro p hp
              obtain ⟨i, hi, rfl⟩ := List.getElem_of_mem hp
              simp only [decide_eq_true_eq]
              have := h1 i (by omega) hi
              omega
            rw [hbi, hbf]
            simp (maxSteps := 1000000) (disch := omega) only [c19l0, e1, e0, e2, e10, e8, e9, hI, halI, go_sem, Option.map_none, Option.map_some, ↓reduceIte, Nat.reduceBEq, Nat.reduceAdd, Nat.reduceSub, Nat.reduceEqDiff, Nat.reduceLeDiff, Nat.reduceMul, Nat.reduceLT, Int.reduceLT, Int.reduceLE, Int.reduceAdd, Int.reduceSub, Int.reduceMul, Int.reduceNeg, Int.reduceEq, Int.reduceNe, Int.reduceToNat, decide_true, decide_false, iaddr_i, iaddr_sl_i, not_true_eq_false, not_false_eq_true, reduceCtorEq, ne_eq, forall_const, false_imp_iff, true_imp_iff, implies_true, Int.cast_ofNat_Int, Int.natCast_zero, Int.natCast_one, Int.add_zero, Int.zero_add]
            exact wkv_same
      · cases h
    · cases h
  · cases h
end Go.Proofs.Ytcoljpgnjiakjaa

namespace Go.Proofs.Ytcoljpgnjiakjaa
open Go.RowKit
set_option linter.unusedSimpArgs false
set_option linter.unusedVariables false
set_option maxRecDepth 10000

theorem ris_not {l : List Pol} (h : Ris l) {x y : Nat} (hx : x < l.length) (hy : y < l.length) (hxy : y ≤ x) : ¬ cmpI l[x].sub l[y].sub < 0 := by
  rw [cmpI_neg]
  by_cases e : x = y
  · subst e; omega
  · have := List.pairwise_iff_getElem.1 h y x hy hx (by omega)
    omega
theorem oSt_ok : OK Try.prog (lamOf Try.prog) (orcOf [(25, bySubS)]) := orc_ok (by simpa using bySub_ok)
noncomputable def insnS : Spec := fun args S => match args with
  | [x, .i .i64 a, .i .i64 b, .f (.func f) [] []] => match lstV polE S x with
    | some l => open Classical in if f = 25 ∧ l.length ≤ 900000 ∧ Ris l ∧ 0 ≤ a ∧ a ≤ b ∧ b ≤ l.length then some (.tu [], S) else none
    | none => none
  | _ => none
theorem insn_ok : SpecOK Try.prog 36 insnS := by
  intro args S x S' h
  simp only [insnS] at h
  split at h
  · rename_i s a b f
    split at h
    · rename_i l hl
      split at h
      · rename_i hc
        obtain ⟨rfl, hlim, hris, ha0, hab, hbl⟩ := hc
        cases h
        obtain ⟨a, rfl⟩ := Int.eq_ofNat_of_zero_le ha0
        obtain ⟨b, rfl⟩ := Int.eq_ofNat_of_zero_le (show 0 ≤ b by omega)
        have hab : a ≤ b := by omega
        have hbl : b ≤ l.length := by omega
        have ha6 : a < 1000000 := by omega
        refine fn_of_wp f36 rfl (W_sound oSt_ok mixed _ _ _ _ _ ?_)
        simp (maxSteps := 1000000) (disch := omega) only [c36, wrapS ha6, go_sem, Option.map_none, Option.map_some, ↓reduceIte, Nat.reduceBEq, Nat.reduceAdd, Nat.reduceSub, Nat.reduceEqDiff, Nat.reduceLeDiff, Nat.reduceMul, Nat.reduceLT, Int.reduceLT, Int.reduceLE, Int.reduceAdd, Int.reduceSub, Int.reduceMul, Int.reduceNeg, Int.reduceEq, Int.reduceNe, Int.reduceToNat, decide_true, decide_false, iaddr_i, iaddr_sl_i, not_true_eq_false, not_false_eq_true, reduceCtorEq, ne_eq, forall_const, false_imp_iff, true_imp_iff, implies_true, Int.cast_ofNat_Int, Int.natCast_zero, Int.natCast_one, Int.add_zero, Int.zero_add]
        refine wp_loop (fun j e M dl => dl = [] ∧ M = S ∧ ∃ (i : Nat), j = l.length + 1 - i ∧ a < i ∧ (i ≤ b ∨ i = a + 1) ∧ e.get 0 = s ∧ e.get 1 = .i .i64 a ∧ e.get 3 = .f (.func 25) [] [] ∧ e.get 2 = .i .i64 b ∧ e.get 8 = .i .i64 i) (j := l.length + 1 - (a + 1)) ?_ ?_
        · exact ⟨rfl, rfl, a + 1, rfl, by omega, .inr rfl, rfl, rfl, rfl, rfl, rfl⟩
        rintro j e M d' ⟨rfl, rfl, i, rfl, hai, hib, e0, e1, e3, e2, e8⟩
        refine W_sound oSt_ok mixed _ _ _ _ _ ?_
        by_cases hlt : i < b
        · have hI : (i : Int) < b := by omega
          have hil : i < l.length := by omega
          obtain ⟨bi, o, v, cap, ex, rfl⟩ := lst_sl hl hil
          have hr1 := lstV_row hl hil []
          have hr2 := lstV_row hl (show i - 1 < l.length by omega) []
          rw [List.append_nil] at hr1 hr2
          have hr1 : rowB (M[bi]?) (o + i * 13) v 13 = some (polE.enc l[i]) := hr1
          have hr2 : rowB (M[bi]?) (o + (i - 1) * 13) v 13 = some (polE.enc (l[i - 1]'(by omega))) := hr2
          have hcm := bySub_eq (S := M) l[i] (l[i - 1]'(by omega))
          have hneg := ris_not hris hil (show i - 1 < l.length by omega) (by omega)
          have him : (i : Int) - 1 = ((i - 1 : Nat) : Int) := by omega
          have hgt : (i : Int) > a := by omega
          have hi6 : i < 1000000 := by omega
          have hw1 : wrapV .i64 ((i : Int) - 1) = ((i - 1 : Nat) : Int) := by rw [wrap_i64 (by omega) (by omega)]; omega
          generalize hcv : cmpI l[i].sub (l[i - 1]'(by omega)).sub = cv at hcm hneg
          clear hcv
          simp (maxSteps := 1000000) (disch := omega) only [c36l3, e0, e1, e3, e2, e8, hI, go_sem, Option.map_none, Option.map_some, ↓reduceIte, Nat.reduceBEq, Nat.reduceAdd, Nat.reduceSub, Nat.reduceEqDiff, Nat.reduceLeDiff, Nat.reduceMul, Nat.reduceLT, Int.reduceLT, Int.reduceLE, Int.reduceAdd, Int.reduceSub, Int.reduceMul, Int.reduceNeg, Int.reduceEq, Int.reduceNe, Int.reduceToNat, decide_true, decide_false, iaddr_i, iaddr_sl_i, not_true_eq_false, not_false_eq_true, reduceCtorEq, ne_eq, forall_const, false_imp_iff, true_imp_iff, implies_true, Int.cast_ofNat_Int, Int.natCast_zero, Int.natCast_one, Int.add_zero, Int.zero_add]
          refine wp_unroll oSt_ok mixed 1 ?_
          simp (maxSteps := 1000000) (disch := omega) only [c36l2, LW_succ, hgt, hw1, Int.toNat_natCast, hr1, hr2, orc_cons, hcm, hneg, wrapS hi6, go_sem, Option.map_none, Option.map_some, ↓reduceIte, Nat.reduceBEq, Nat.reduceAdd, Nat.reduceSub, Nat.reduceEqDiff, Nat.reduceLeDiff, Nat.reduceMul, Nat.reduceLT, Int.reduceLT, Int.reduceLE, Int.reduceAdd, Int.reduceSub, Int.reduceMul, Int.reduceNeg, Int.reduceEq, Int.reduceNe, Int.reduceToNat, decide_true, decide_false, iaddr_i, iaddr_sl_i, not_true_eq_false, not_false_eq_true, reduceCtorEq, ne_eq, forall_const, false_imp_iff, true_imp_iff, implies_true, Int.cast_ofNat_Int, Int.natCast_zero, Int.natCast_one, Int.add_zero, Int.zero_add]
          exact ⟨l.length + 1 - (i + 1), by omega, i + 1, rfl, by omega, .inl (by omega), rfl⟩
        · have hI : ¬ (i : Int) < b := by omega
          simp (maxSteps := 1000000) (disch := omega) only [c36l3, e0, e1, e3, e2, e8, hI, go_sem, Option.map_none, Option.map_some, ↓reduceIte, Nat.reduceBEq, Nat.reduceAdd, Nat.reduceSub, Nat.reduceEqDiff, Nat.reduceLeDiff, Nat.reduceMul, Nat.reduceLT, Int.reduceLT, Int.reduceLE, Int.reduceAdd, Int.reduceSub, Int.reduceMul, Int.reduceNeg, Int.reduceEq, Int.reduceNe, Int.reduceToNat, decide_true, decide_false, iaddr_i, iaddr_sl_i, not_true_eq_false, not_false_eq_true, reduceCtorEq, ne_eq, forall_const, false_imp_iff, true_imp_iff, implies_true, Int.cast_ofNat_Int, Int.natCast_zero, Int.natCast_one, Int.add_zero, Int.zero_add]
          exact wkv_same
      · cases h
    · cases h
  · cases h
end Go.Proofs.Ytcoljpgnjiakjaa

namespace Go.Proofs.Ytcoljpgnjiakjaa
open Go.RowKit
set_option linter.unusedSimpArgs false
set_option linter.unusedVariables false
set_option maxRecDepth 10000

noncomputable def symS (n : Nat) : Spec := fun args S => match args with
  | [x, .i .i64 a, .i .i64 m, .i .i64 b, .f (.func f) [] []] => match lstV polE S x with
    | some l => open Classical in if f = 25 ∧ l.length ≤ 900000 ∧ Ris l ∧ 0 ≤ a ∧ a < m ∧ m < b ∧ b ≤ l.length ∧ b - a ≤ n then some (.tu [], S) else none
    | none => none
  | _ => none
theorem sym_eq {n : Nat} {S : Mem} {x : AV} {l : List Pol} (hl : lstV polE S x = some l) (h1 : l.length ≤ 900000) (h2 : Ris l) {a m b : Nat} (h3 : a < m) (h4 : m < b) (h5 : b ≤ l.length) (h6 : b - a ≤ n) :
    symS n [x, .i .i64 (a : Int), .i .i64 (m : Int), .i .i64 (b : Int), .f (.func 25) [] []] S = some (.tu [], S) := by
  simp only [symS, hl]
  rw [if_pos ⟨rfl, h1, h2, by omega, by omega, by omega, by omega, by omega⟩]
theorem sym_ok : ∀ n : Nat, SpecOK Try.prog 37 (symS n)
  | 0 => by
    intro args S x S' h
    simp only [symS] at h
    split at h
    · split at h
      · split at h
        · rename_i hc; omega
        · cases h
      · cases h
    · cases h
  | n + 1 => by
    have ih := sym_ok n
    have hO : OK Try.prog (lamOf Try.prog) (orcOf [(25, bySubS), (37, symS n)]) := orc_ok (by simpa using ⟨bySub_ok, ih⟩)
    intro args S x S' h
    simp only [symS] at h
    split at h
    · rename_i s a m b f
      split at h
      · rename_i l hl
        split at h
        · rename_i hc
          obtain ⟨rfl, hlim, hris, ha0, ham, hmb, hbl, hsz⟩ := hc
          cases h
          obtain ⟨a, rfl⟩ := Int.eq_ofNat_of_zero_le ha0
          obtain ⟨m, rfl⟩ := Int.eq_ofNat_of_zero_le (show 0 ≤ m by omega)
          obtain ⟨b, rfl⟩ := Int.eq_ofNat_of_zero_le (show 0 ≤ b by omega)
          have ham : a < m := by omega
          have hmb : m < b := by omega
          have hbl : b ≤ l.length := by omega
          have hsz : b - a ≤ n + 1 := by omega
          obtain ⟨bi, o, v, cap, ex, rfl⟩ := lst_sl hl (show 0 < l.length by omega)
          have row : ∀ k (hk : k < l.length), rowB (S[bi]?) (o + k * 13) v 13 = some (polE.enc l[k]) := fun k hk => by
            have hr := lstV_row hl hk []
            rw [List.append_nil] at hr; exact hr
          refine fn_of_wp f37 rfl (W_sound hO mixed _ _ _ _ _ ?_)
          by_cases c1 : m = a + 1
          · have hI : (m : Int) - a = 1 := by omega
            simp (maxSteps := 1000000) (disch := omega) only [c37, hI, go_sem, Option.map_none, Option.map_some, ↓reduceIte, Nat.reduceBEq, Nat.reduceAdd, Nat.reduceSub, Nat.reduceEqDiff, Nat.reduceLeDiff, Nat.reduceMul, Nat.reduceLT, Int.reduceLT, Int.reduceLE, Int.reduceAdd, Int.reduceSub, Int.reduceMul, Int.reduceNeg, Int.reduceEq, Int.reduceNe, Int.reduceToNat, decide_true, decide_false, iaddr_i, iaddr_sl_i, not_true_eq_false, not_false_eq_true, reduceCtorEq, ne_eq, forall_const, false_imp_iff, true_imp_iff, implies_true, Int.cast_ofNat_Int, Int.natCast_zero, Int.natCast_one, Int.add_zero, Int.zero_add]
            refine wp_loop (fun j e M dl => dl = [] ∧ M = S ∧ ∃ (q : Nat), j = q - m ∧ m ≤ q ∧ q ≤ b ∧ e.get 4 = .f (.func 25) [] [] ∧ e.get 0 = .sl bi o v l.length cap ex ∧ e.get 1 = .i .i64 a ∧ e.get 11 = .i .i64 q ∧ e.get 10 = .i .i64 m) (j := b - m) ?_ ?_
            · exact ⟨rfl, rfl, b, rfl, by omega, Nat.le_refl _, rfl, rfl, rfl, rfl, rfl⟩
            rintro j e M d' ⟨rfl, rfl, q, rfl, hmq, hqb, e4, e0, e1, e11, e10⟩
            refine W_sound hO mixed _ _ _ _ _ ?_
            by_cases hlt : m < q
            · have hqI : (m : Int) < q := by omega
              obtain ⟨g, hg⟩ : ∃ g, g = (m + q) / 2 := ⟨_, rfl⟩
              have hm2 : ((m : Int) + q) / 2 = (g : Int) := by omega
              have hgl : g < l.length := by omega
              have hr1 := row g hgl
              have hr2 := row a (by omega)
              have hcm := bySub_eq (S := M) l[g] (l[a]'(by omega))
              have hneg := ris_not hris hgl (show a < l.length by omega) (by omega)
              generalize hcv : cmpI l[g].sub (l[a]'(by omega)).sub = cv at hcm hneg
              clear hcv row
              have hgI : (g : Int) ≤ 900000 := by omega
              simp (maxSteps := 1000000) (disch := omega) only [c37l1, e4, e0, e1, e11, e10, hqI, shr_1, hm2, Int.toNat_natCast, hr1, hr2, orc_cons, hcm, hneg, go_sem, Option.map_none, Option.map_some, ↓reduceIte, Nat.reduceBEq, Nat.reduceAdd, Nat.reduceSub, Nat.reduceEqDiff, Nat.reduceLeDiff, Nat.reduceMul, Nat.reduceLT, Int.reduceLT, Int.reduceLE, Int.reduceAdd, Int.reduceSub, Int.reduceMul, Int.reduceNeg, Int.reduceEq, Int.reduceNe, Int.reduceToNat, decide_true, decide_false, iaddr_i, iaddr_sl_i, not_true_eq_false, not_false_eq_true, reduceCtorEq, ne_eq, forall_const, false_imp_iff, true_imp_iff, implies_true, Int.cast_ofNat_Int, Int.natCast_zero, Int.natCast_one, Int.add_zero, Int.zero_add]
              exact ⟨g - m, by omega, g, rfl, by omega, by omega, rfl⟩
            · have hqI : ¬ (m : Int) < q := by omega
              simp (maxSteps := 1000000) (disch := omega) only [c37l1, e4, e0, e1, e11, e10, hqI, go_sem, Option.map_none, Option.map_some, ↓reduceIte, Nat.reduceBEq, Nat.reduceAdd, Nat.reduceSub, Nat.reduceEqDiff, Nat.reduceLeDiff, Nat.reduceMul, Nat.reduceLT, Int.reduceLT, Int.reduceLE, Int.reduceAdd, Int.reduceSub, Int.reduceMul, Int.reduceNeg, Int.reduceEq, Int.reduceNe, Int.reduceToNat, decide_true, decide_false, iaddr_i, iaddr_sl_i, not_true_eq_false, not_false_eq_true, reduceCtorEq, ne_eq, forall_const, false_imp_iff, true_imp_iff, implies_true, Int.cast_ofNat_Int, Int.natCast_zero, Int.natCast_one, Int.add_zero, Int.zero_add]
              refine wp_unroll hO mixed 1 ?_
              have hz : ¬ (a : Int) < m - 1 := by omega
              simp (maxSteps := 1000000) (disch := omega) only [c37l3, LW_succ, hz, go_sem, Option.map_none, Option.map_some, ↓reduceIte, Nat.reduceBEq, Nat.reduceAdd, Nat.reduceSub, Nat.reduceEqDiff, Nat.reduceLeDiff, Nat.reduceMul, Nat.reduceLT, Int.reduceLT, Int.reduceLE, Int.reduceAdd, Int.reduceSub, Int.reduceMul, Int.reduceNeg, Int.reduceEq, Int.reduceNe, Int.reduceToNat, decide_true, decide_false, iaddr_i, iaddr_sl_i, not_true_eq_false, not_false_eq_true, reduceCtorEq, ne_eq, forall_const, false_imp_iff, true_imp_iff, implies_true, Int.cast_ofNat_Int, Int.natCast_zero, Int.natCast_one, Int.add_zero, Int.zero_add]
              exact wkv_same
          · have hI : ¬ (m : Int) - a = 1 := by omega
            by_cases c2 : b = m + 1
            · have hI2 : (b : Int) - m = 1 := by omega
              simp (maxSteps := 1000000) (disch := omega) only [c37, hI, hI2, go_sem, Option.map_none, Option.map_some, ↓reduceIte, Nat.reduceBEq, Nat.reduceAdd, Nat.reduceSub, Nat.reduceEqDiff, Nat.reduceLeDiff, Nat.reduceMul, Nat.reduceLT, Int.reduceLT, Int.reduceLE, Int.reduceAdd, Int.reduceSub, Int.reduceMul, Int.reduceNeg, Int.reduceEq, Int.reduceNe, Int.reduceToNat, decide_true, decide_false, iaddr_i, iaddr_sl_i, not_true_eq_false, not_false_eq_true, reduceCtorEq, ne_eq, forall_const, false_imp_iff, true_imp_iff, implies_true, Int.cast_ofNat_Int, Int.natCast_zero, Int.natCast_one, Int.add_zero, Int.zero_add]
              refine wp_loop (fun j e M dl => dl = [] ∧ M = S ∧ ∃ (q : Nat), j = m - q ∧ a ≤ q ∧ q ≤ m ∧ e.get 4 = .f (.func 25) [] [] ∧ e.get 0 = .sl bi o v l.length cap ex ∧ e.get 2 = .i .i64 m ∧ e.get 15 = .i .i64 m ∧ e.get 14 = .i .i64 q) (j := m - a) ?_ ?_
              · exact ⟨rfl, rfl, a, rfl, Nat.le_refl _, by omega, rfl, rfl, rfl, rfl, rfl⟩
              rintro j e M d' ⟨rfl, rfl, q, rfl, haq, hqm, e4, e0, e2, e15, e14⟩
              refine W_sound hO mixed _ _ _ _ _ ?_
              by_cases hlt : q < m
              · have hqI : (q : Int) < m := by omega
                obtain ⟨g, hg⟩ : ∃ g, g = (q + m) / 2 := ⟨_, rfl⟩
                have hm2 : ((q : Int) + m) / 2 = (g : Int) := by omega
                have hgl : g < l.length := by omega
                have hr1 := row g hgl
                have hr2 := row m (by omega)
                have hcm := bySub_eq (S := M) (l[m]'(by omega)) l[g]
                have hneg := ris_not hris (show m < l.length by omega) hgl (by omega)
                generalize hcv : cmpI (l[m]'(by omega)).sub l[g].sub = cv at hcm hneg
                clear hcv row
                have hg6 : g < 1000000 := by omega
                simp (maxSteps := 1000000) (disch := omega) only [c37l5, e4, e0, e2, e15, e14, hqI, shr_1, hm2, Int.toNat_natCast, hr1, hr2, orc_cons, hcm, hneg, wrapS hg6, go_sem, Option.map_none, Option.map_some, ↓reduceIte, Nat.reduceBEq, Nat.reduceAdd, Nat.reduceSub, Nat.reduceEqDiff, Nat.reduceLeDiff, Nat.reduceMul, Nat.reduceLT, Int.reduceLT, Int.reduceLE, Int.reduceAdd, Int.reduceSub, Int.reduceMul, Int.reduceNeg, Int.reduceEq, Int.reduceNe, Int.reduceToNat, decide_true, decide_false, iaddr_i, iaddr_sl_i, not_true_eq_false, not_false_eq_true, reduceCtorEq, ne_eq, forall_const, false_imp_iff, true_imp_iff, implies_true, Int.cast_ofNat_Int, Int.natCast_zero, Int.natCast_one, Int.add_zero, Int.zero_add]
                exact ⟨m - (g + 1), by omega, g + 1, rfl, by omega, by omega, rfl⟩
              · have hqI : ¬ (q : Int) < m := by omega
                obtain rfl : q = m := by omega
                simp (maxSteps := 1000000) (disch := omega) only [c37l5, e4, e0, e2, e15, e14, hqI, go_sem, Option.map_none, Option.map_some, ↓reduceIte, Nat.reduceBEq, Nat.reduceAdd, Nat.reduceSub, Nat.reduceEqDiff, Nat.reduceLeDiff, Nat.reduceMul, Nat.reduceLT, Int.reduceLT, Int.reduceLE, Int.reduceAdd, Int.reduceSub, Int.reduceMul, Int.reduceNeg, Int.reduceEq, Int.reduceNe, Int.reduceToNat, decide_true, decide_false, iaddr_i, iaddr_sl_i, not_true_eq_false, not_false_eq_true, reduceCtorEq, ne_eq, forall_const, false_imp_iff, true_imp_iff, implies_true, Int.cast_ofNat_Int, Int.natCast_zero, Int.natCast_one, Int.add_zero, Int.zero_add]
                refine wp_unroll hO mixed 1 ?_
                simp (maxSteps := 1000000) (disch := omega) only [c37l7, LW_succ, Int.lt_irrefl, gt_iff_lt, go_sem, Option.map_none, Option.map_some, ↓reduceIte, Nat.reduceBEq, Nat.reduceAdd, Nat.reduceSub, Nat.reduceEqDiff, Nat.reduceLeDiff, Nat.reduceMul, Nat.reduceLT, Int.reduceLT, Int.reduceLE, Int.reduceAdd, Int.reduceSub, Int.reduceMul, Int.reduceNeg, Int.reduceEq, Int.reduceNe, Int.reduceToNat, decide_true, decide_false, iaddr_i, iaddr_sl_i, not_true_eq_false, not_false_eq_true, reduceCtorEq, ne_eq, forall_const, false_imp_iff, true_imp_iff, implies_true, Int.cast_ofNat_Int, Int.natCast_zero, Int.natCast_one, Int.add_zero, Int.zero_add]
                exact wkv_same
            · have hI2 : ¬ (b : Int) - m = 1 := by omega
              obtain ⟨mid, hmid⟩ : ∃ mid, mid = (a + b) / 2 := ⟨_, rfl⟩
              have hm2 : ((a : Int) + b) / 2 = (mid : Int) := by omega
              by_cases c3 : mid < m
              · have c3I : (m : Int) > mid := by omega
                obtain ⟨st, hst⟩ : ∃ st, st = mid + m - b := ⟨_, rfl⟩
                have hst2 : (mid : Int) + m - b = (st : Int) := by omega
                simp (maxSteps := 1000000) (disch := omega) only [c37, hI, hI2, shr_1, hm2, c3I, hst2, go_sem, Option.map_none, Option.map_some, ↓reduceIte, Nat.reduceBEq, Nat.reduceAdd, Nat.reduceSub, Nat.reduceEqDiff, Nat.reduceLeDiff, Nat.reduceMul, Nat.reduceLT, Int.reduceLT, Int.reduceLE, Int.reduceAdd, Int.reduceSub, Int.reduceMul, Int.reduceNeg, Int.reduceEq, Int.reduceNe, Int.reduceToNat, decide_true, decide_false, iaddr_i, iaddr_sl_i, not_true_eq_false, not_false_eq_true, reduceCtorEq, ne_eq, forall_const, false_imp_iff, true_imp_iff, implies_true, Int.cast_ofNat_Int, Int.natCast_zero, Int.natCast_one, Int.add_zero, Int.zero_add]
                refine wp_loop (fun j e M dl => dl = [] ∧ M = S ∧ ∃ (q : Nat), j = mid - q ∧ st ≤ q ∧ q ≤ mid ∧ e.get 4 = .f (.func 25) [] [] ∧ e.get 22 = .i .i64 ((mid : Int) + m - 1) ∧ e.get 0 = .sl bi o v l.length cap ex ∧ e.get 21 = .i .i64 mid ∧ e.get 3 = .i .i64 b ∧ e.get 18 = .i .i64 mid ∧ e.get 1 = .i .i64 a ∧ e.get 2 = .i .i64 m ∧ e.get 19 = .i .i64 ((mid : Int) + m) ∧ e.get 20 = .i .i64 q) (j := mid - st) ?_ ?_
                · exact ⟨rfl, rfl, st, rfl, Nat.le_refl _, by omega, rfl, rfl, rfl, rfl, rfl, rfl, rfl, rfl, rfl, rfl⟩
                rintro j e M d' ⟨rfl, rfl, q, rfl, hq1, hq2, e4, e22, e0, e21, e3, e18, e1, e2, e19, e20⟩
                refine W_sound hO mixed _ _ _ _ _ ?_
                by_cases hlt : q < mid
                · have hqI : (q : Int) < mid := by omega
                  obtain ⟨g, hg⟩ : ∃ g, g = (q + mid) / 2 := ⟨_, rfl⟩
                  have hg2 : ((q : Int) + mid) / 2 = (g : Int) := by omega
                  obtain ⟨w, hw⟩ : ∃ w, w = mid + m - 1 - g := ⟨_, rfl⟩
                  have hw2 : (mid : Int) + m - 1 - g = (w : Int) := by omega
                  have hgl : g < l.length := by omega
                  have hwl : w < l.length := by omega
                  have hr1 := row g hgl
                  have hr2 := row w hwl
                  have hcm := bySub_eq (S := M) l[w] l[g]
                  have hneg := ris_not hris hwl hgl (by omega)
                  generalize hcv : cmpI l[w].sub l[g].sub = cv at hcm hneg
                  clear hcv row
                  have hg6 : g < 1000000 := by omega
                  simp (maxSteps := 1000000) (disch := omega) only [c37l9, e4, e22, e0, e21, e3, e18, e1, e2, e19, e20, hqI, shr_1, hg2, hw2, Int.toNat_natCast, hr1, hr2, orc_cons, hcm, hneg, wrapS hg6, go_sem, Option.map_none, Option.map_some, ↓reduceIte, Nat.reduceBEq, Nat.reduceAdd, Nat.reduceSub, Nat.reduceEqDiff, Nat.reduceLeDiff, Nat.reduceMul, Nat.reduceLT, Int.reduceLT, Int.reduceLE, Int.reduceAdd, Int.reduceSub, Int.reduceMul, Int.reduceNeg, Int.reduceEq, Int.reduceNe, Int.reduceToNat, decide_true, decide_false, iaddr_i, iaddr_sl_i, not_true_eq_false, not_false_eq_true, reduceCtorEq, ne_eq, forall_const, false_imp_iff, true_imp_iff, implies_true, Int.cast_ofNat_Int, Int.natCast_zero, Int.natCast_one, Int.add_zero, Int.zero_add]
                  exact ⟨mid - (g + 1), by omega, g + 1, rfl, by omega, by omega, rfl⟩
                · have hqI : ¬ (q : Int) < mid := by omega
                  obtain rfl : q = mid := by omega
                  have hend : (q : Int) + m - q = m := by omega
                  have k1 : (q : Int) < m := by omega
                  have k2 : (a : Int) < q := by omega
                  have k3 : (m : Int) < b := by omega
                  have hsy := sym_eq (n := n) (x := .sl bi o v l.length cap ex) hl hlim hris (a := q) (m := m) (b := b) (by omega) hmb hbl (by omega)
                  simp (maxSteps := 1000000) (disch := omega) only [c37l9, e4, e22, e0, e21, e3, e18, e1, e2, e19, e20, hqI, hend, k1, k2, k3, Int.lt_irrefl, orc_cons, hsy, go_sem, Option.map_none, Option.map_some, ↓reduceIte, Nat.reduceBEq, Nat.reduceAdd, Nat.reduceSub, Nat.reduceEqDiff, Nat.reduceLeDiff, Nat.reduceMul, Nat.reduceLT, Int.reduceLT, Int.reduceLE, Int.reduceAdd, Int.reduceSub, Int.reduceMul, Int.reduceNeg, Int.reduceEq, Int.reduceNe, Int.reduceToNat, decide_true, decide_false, iaddr_i, iaddr_sl_i, not_true_eq_false, not_false_eq_true, reduceCtorEq, ne_eq, forall_const, false_imp_iff, true_imp_iff, implies_true, Int.cast_ofNat_Int, Int.natCast_zero, Int.natCast_one, Int.add_zero, Int.zero_add]
                  exact wkv_same
              · have c3I : ¬ (m : Int) > mid := by omega
                simp (maxSteps := 1000000) (disch := omega) only [c37, hI, hI2, shr_1, hm2, c3I, go_sem, Option.map_none, Option.map_some, ↓reduceIte, Nat.reduceBEq, Nat.reduceAdd, Nat.reduceSub, Nat.reduceEqDiff, Nat.reduceLeDiff, Nat.reduceMul, Nat.reduceLT, Int.reduceLT, Int.reduceLE, Int.reduceAdd, Int.reduceSub, Int.reduceMul, Int.reduceNeg, Int.reduceEq, Int.reduceNe, Int.reduceToNat, decide_true, decide_false, iaddr_i, iaddr_sl_i, not_true_eq_false, not_false_eq_true, reduceCtorEq, ne_eq, forall_const, false_imp_iff, true_imp_iff, implies_true, Int.cast_ofNat_Int, Int.natCast_zero, Int.natCast_one, Int.add_zero, Int.zero_add]
                refine wp_loop (fun j e M dl => dl = [] ∧ M = S ∧ ∃ (q : Nat), j = m - q ∧ a ≤ q ∧ q ≤ m ∧ e.get 4 = .f (.func 25) [] [] ∧ e.get 22 = .i .i64 ((mid : Int) + m - 1) ∧ e.get 0 = .sl bi o v l.length cap ex ∧ e.get 21 = .i .i64 m ∧ e.get 3 = .i .i64 b ∧ e.get 18 = .i .i64 mid ∧ e.get 1 = .i .i64 a ∧ e.get 2 = .i .i64 m ∧ e.get 19 = .i .i64 ((mid : Int) + m) ∧ e.get 20 = .i .i64 q) (j := m - a) ?_ ?_
                · exact ⟨rfl, rfl, a, rfl, Nat.le_refl _, by omega, rfl, rfl, rfl, rfl, rfl, rfl, rfl, rfl, rfl, rfl⟩
                rintro j e M d' ⟨rfl, rfl, q, rfl, hq1, hq2, e4, e22, e0, e21, e3, e18, e1, e2, e19, e20⟩
                refine W_sound hO mixed _ _ _ _ _ ?_
                by_cases hlt : q < m
                · have hqI : (q : Int) < m := by omega
                  obtain ⟨g, hg⟩ : ∃ g, g = (q + m) / 2 := ⟨_, rfl⟩
                  have hg2 : ((q : Int) + m) / 2 = (g : Int) := by omega
                  obtain ⟨w, hw⟩ : ∃ w, w = mid + m - 1 - g := ⟨_, rfl⟩
                  have hw2 : (mid : Int) + m - 1 - g = (w : Int) := by omega
                  have hgl : g < l.length := by omega
                  have hwl : w < l.length := by omega
                  have hr1 := row g hgl
                  have hr2 := row w hwl
                  have hcm := bySub_eq (S := M) l[w] l[g]
                  have hneg := ris_not hris hwl hgl (by omega)
                  generalize hcv : cmpI l[w].sub l[g].sub = cv at hcm hneg
                  clear hcv row
                  have hg6 : g < 1000000 := by omega
                  simp (maxSteps := 1000000) (disch := omega) only [c37l9, e4, e22, e0, e21, e3, e18, e1, e2, e19, e20, hqI, shr_1, hg2, hw2, Int.toNat_natCast, hr1, hr2, orc_cons, hcm, hneg, wrapS hg6, go_sem, Option.map_none, Option.map_some, ↓reduceIte, Nat.reduceBEq, Nat.reduceAdd, Nat.reduceSub, Nat.reduceEqDiff, Nat.reduceLeDiff, Nat.reduceMul, Nat.reduceLT, Int.reduceLT, Int.reduceLE, Int.reduceAdd, Int.reduceSub, Int.reduceMul, Int.reduceNeg, Int.reduceEq, Int.reduceNe, Int.reduceToNat, decide_true, decide_false, iaddr_i, iaddr_sl_i, not_true_eq_false, not_false_eq_true, reduceCtorEq, ne_eq, forall_const, false_imp_iff, true_imp_iff, implies_true, Int.cast_ofNat_Int, Int.natCast_zero, Int.natCast_one, Int.add_zero, Int.zero_add]
                  exact ⟨m - (g + 1), by omega, g + 1, rfl, by omega, by omega, rfl⟩
                · have hqI : ¬ (q : Int) < m := by omega
                  obtain rfl : q = m := by omega
                  have hend : (mid : Int) + q - q = mid := by omega
                  have k2 : (a : Int) < q := by omega
                  by_cases hmm : q < mid
                  · have k1 : (q : Int) < mid := by omega
                    have hsy := sym_eq (n := n) (x := .sl bi o v l.length cap ex) hl hlim hris (a := a) (m := q) (b := mid) (by omega) hmm (by omega) (by omega)
                    simp (maxSteps := 1000000) (disch := omega) only [c37l9, e4, e22, e0, e21, e3, e18, e1, e2, e19, e20, hqI, hend, k1, k2, Int.lt_irrefl, orc_cons, hsy, go_sem, Option.map_none, Option.map_some, ↓reduceIte, Nat.reduceBEq, Nat.reduceAdd, Nat.reduceSub, Nat.reduceEqDiff, Nat.reduceLeDiff, Nat.reduceMul, Nat.reduceLT, Int.reduceLT, Int.reduceLE, Int.reduceAdd, Int.reduceSub, Int.reduceMul, Int.reduceNeg, Int.reduceEq, Int.reduceNe, Int.reduceToNat, decide_true, decide_false, iaddr_i, iaddr_sl_i, not_true_eq_false, not_false_eq_true, reduceCtorEq, ne_eq, forall_const, false_imp_iff, true_imp_iff, implies_true, Int.cast_ofNat_Int, Int.natCast_zero, Int.natCast_one, Int.add_zero, Int.zero_add]
                    exact wkv_same
                  · have k1 : ¬ (q : Int) < mid := by omega
                    simp (maxSteps := 1000000) (disch := omega) only [c37l9, e4, e22, e0, e21, e3, e18, e1, e2, e19, e20, hqI, hend, k1, k2, Int.lt_irrefl, go_sem, Option.map_none, Option.map_some, ↓reduceIte, Nat.reduceBEq, Nat.reduceAdd, Nat.reduceSub, Nat.reduceEqDiff, Nat.reduceLeDiff, Nat.reduceMul, Nat.reduceLT, Int.reduceLT, Int.reduceLE, Int.reduceAdd, Int.reduceSub, Int.reduceMul, Int.reduceNeg, Int.reduceEq, Int.reduceNe, Int.reduceToNat, decide_true, decide_false, iaddr_i, iaddr_sl_i, not_true_eq_false, not_false_eq_true, reduceCtorEq, ne_eq, forall_const, false_imp_iff, true_imp_iff, implies_true, Int.cast_ofNat_Int, Int.natCast_zero, Int.natCast_one, Int.add_zero, Int.zero_add]
                    exact wkv_same
        · cases h
      · cases h
    · cases h
end Go.Proofs.Ytcoljpgnjiakjaa

namespace Go.Proofs.Ytcoljpgnjiakjaa
open Go.RowKit
set_option linter.unusedSimpArgs false
set_option linter.unusedVariables false
set_option maxRecDepth 10000

theorem insn_eq {S : Mem} {x : AV} {l : List Pol} (hl : lstV polE S x = some l) (h1 : l.length ≤ 900000) (h2 : Ris l) {a b : Nat} (h3 : a ≤ b) (h5 : b ≤ l.length) :
    insnS [x, .i .i64 (a : Int), .i .i64 (b : Int), .f (.func 25) [] []] S = some (.tu [], S) := by
  simp only [insnS, hl]
  rw [if_pos ⟨rfl, h1, h2, by omega, by omega, by omega⟩]
noncomputable def stS : Spec := fun args S => match args with
  | [x, .i .i64 n, .f (.func f) [] []] => match lstV polE S x with
    | some l => open Classical in if f = 25 ∧ l.length ≤ 900000 ∧ Ris l ∧ n = l.length then some (.tu [], S) else none
    | none => none
  | _ => none
theorem oSs_ok : OK Try.prog (lamOf Try.prog) (orcOf [(36, insnS), (37, symS 900000)]) := orc_ok (by simpa using ⟨insn_ok, sym_ok 900000⟩)
theorem st_ok : SpecOK Try.prog 34 stS := by
  intro args S x S' h
  simp only [stS] at h
  split at h
  · rename_i s n f
    split at h
    · rename_i l hl
      split at h
      · rename_i hc
        obtain ⟨rfl, hlim, hris, rfl⟩ := hc
        cases h
        obtain ⟨n, hn⟩ : ∃ n, n = l.length := ⟨_, rfl⟩
        rw [← hn]
        have hnl : n ≤ 900000 := by omega
        refine fn_of_wp f34 rfl (W_sound oSs_ok mixed _ _ _ _ _ ?_)
        simp (maxSteps := 1000000) (disch := omega) only [c34, go_sem, Option.map_none, Option.map_some, ↓reduceIte, Nat.reduceBEq, Nat.reduceAdd, Nat.reduceSub, Nat.reduceEqDiff, Nat.reduceLeDiff, Nat.reduceMul, Nat.reduceLT, Int.reduceLT, Int.reduceLE, Int.reduceAdd, Int.reduceSub, Int.reduceMul, Int.reduceNeg, Int.reduceEq, Int.reduceNe, Int.reduceToNat, decide_true, decide_false, iaddr_i, iaddr_sl_i, not_true_eq_false, not_false_eq_true, reduceCtorEq, ne_eq, forall_const, false_imp_iff, true_imp_iff, implies_true, Int.cast_ofNat_Int, Int.natCast_zero, Int.natCast_one, Int.add_zero, Int.zero_add]
        refine wp_loop (fun j e M dl => dl = [] ∧ M = S ∧ ∃ (a : Nat), j = n - a ∧ a ≤ n ∧ e.get 6 = .i .i64 20 ∧ e.get 2 = .f (.func 25) [] [] ∧ e.get 0 = s ∧ e.get 1 = .i .i64 n ∧ e.get 8 = .i .i64 ((a : Int) + 20) ∧ e.get 7 = .i .i64 a) (j := n) ?_ ?_
        · exact ⟨rfl, rfl, 0, rfl, Nat.zero_le _, rfl, rfl, rfl, rfl, rfl, rfl⟩
        rintro j e M d' ⟨rfl, rfl, a, rfl, ha, e6, e2, e0, e1, e8, e7⟩
        refine W_sound oSs_ok mixed _ _ _ _ _ ?_
        by_cases hlt : a + 20 ≤ n
        · have hI : (a : Int) + 20 ≤ n := by omega
          have hi := insn_eq hl hlim hris (a := a) (b := a + 20) (by omega) (by omega)
          rw [show ((a + 20 : Nat) : Int) = (a : Int) + 20 by omega] at hi
          simp (maxSteps := 1000000) (disch := omega) only [c34l0, e6, e2, e0, e1, e8, e7, hI, orc_cons, hi, go_sem, Option.map_none, Option.map_some, ↓reduceIte, Nat.reduceBEq, Nat.reduceAdd, Nat.reduceSub, Nat.reduceEqDiff, Nat.reduceLeDiff, Nat.reduceMul, Nat.reduceLT, Int.reduceLT, Int.reduceLE, Int.reduceAdd, Int.reduceSub, Int.reduceMul, Int.reduceNeg, Int.reduceEq, Int.reduceNe, Int.reduceToNat, decide_true, decide_false, iaddr_i, iaddr_sl_i, not_true_eq_false, not_false_eq_true, reduceCtorEq, ne_eq, forall_const, false_imp_iff, true_imp_iff, implies_true, Int.cast_ofNat_Int, Int.natCast_zero, Int.natCast_one, Int.add_zero, Int.zero_add]
          refine ⟨n - (a + 20), by omega, a + 20, rfl, hlt, ?_, ?_⟩
          · rw [show ((a + 20 : Nat) : Int) = (a : Int) + 20 by omega]
          · rw [show ((a + 20 : Nat) : Int) = (a : Int) + 20 by omega]
        · have hI : ¬ (a : Int) + 20 ≤ n := by omega
          have hi := insn_eq hl hlim hris (a := a) (b := n) ha (by omega)
          simp (maxSteps := 1000000) (disch := omega) only [c34l0, e6, e2, e0, e1, e8, e7, hI, orc_cons, hi, go_sem, Option.map_none, Option.map_some, ↓reduceIte, Nat.reduceBEq, Nat.reduceAdd, Nat.reduceSub, Nat.reduceEqDiff, Nat.reduceLeDiff, Nat.reduceMul, Nat.reduceLT, Int.reduceLT, Int.reduceLE, Int.reduceAdd, Int.reduceSub, Int.reduceMul, Int.reduceNeg, Int.reduceEq, Int.reduceNe, Int.reduceToNat, decide_true, decide_false, iaddr_i, iaddr_sl_i, not_true_eq_false, not_false_eq_true, reduceCtorEq, ne_eq, forall_const, false_imp_iff, true_imp_iff, implies_true, Int.cast_ofNat_Int, Int.natCast_zero, Int.natCast_one, Int.add_zero, Int.zero_add]
          refine wp_loop (fun j e M' dl => dl = [] ∧ M' = M ∧ ∃ (bs : Nat), j = n - bs ∧ 20 ≤ bs ∧ bs ≤ 1800000 ∧ e.get 6 = .i .i64 bs ∧ e.get 2 = .f (.func 25) [] [] ∧ e.get 0 = s ∧ e.get 1 = .i .i64 n) (j := n - 20) ?_ ?_
          · exact ⟨rfl, rfl, 20, rfl, Nat.le_refl _, by omega, rfl, rfl, rfl, rfl⟩
          clear e6 e2 e0 e1 e8 e7 hI hlt ha hi
          rintro j e M' d' ⟨rfl, rfl, bs, rfl, hb20, hbb, e6, e2, e0, e1⟩
          refine W_sound oSs_ok mixed _ _ _ _ _ ?_
          by_cases hbs : bs < n
          · have hI : (bs : Int) < n := by omega
            simp (maxSteps := 1000000) (disch := omega) only [c34l2, e6, e2, e0, e1, hI, go_sem, Option.map_none, Option.map_some, ↓reduceIte, Nat.reduceBEq, Nat.reduceAdd, Nat.reduceSub, Nat.reduceEqDiff, Nat.reduceLeDiff, Nat.reduceMul, Nat.reduceLT, Int.reduceLT, Int.reduceLE, Int.reduceAdd, Int.reduceSub, Int.reduceMul, Int.reduceNeg, Int.reduceEq, Int.reduceNe, Int.reduceToNat, decide_true, decide_false, iaddr_i, iaddr_sl_i, not_true_eq_false, not_false_eq_true, reduceCtorEq, ne_eq, forall_const, false_imp_iff, true_imp_iff, implies_true, Int.cast_ofNat_Int, Int.natCast_zero, Int.natCast_one, Int.add_zero, Int.zero_add]
            refine wp_loop (fun j e M'' dl => dl = [] ∧ M'' = M' ∧ ∃ (a : Nat), j = n - a ∧ a ≤ n ∧ e.get 6 = .i .i64 bs ∧ e.get 2 = .f (.func 25) [] [] ∧ e.get 0 = s ∧ e.get 1 = .i .i64 n ∧ e.get 8 = .i .i64 ((a : Int) + 2 * bs) ∧ e.get 7 = .i .i64 a) (j := n) ?_ ?_
            · exact ⟨rfl, rfl, 0, rfl, Nat.zero_le _, rfl, rfl, rfl, rfl, (show AV.i IntKind.i64 (2 * (bs : Int)) = AV.i .i64 (((0 : Nat) : Int) + 2 * bs) by congr 1; omega), rfl⟩
            clear e6 e2 e0 e1
            rintro j e M'' d' ⟨rfl, rfl, a, rfl, ha, e6, e2, e0, e1, e8, e7⟩
            refine W_sound oSs_ok mixed _ _ _ _ _ ?_
            by_cases hlt : a + 2 * bs ≤ n
            · have hI2 : (a : Int) + 2 * bs ≤ n := by omega
              have hs := sym_eq (n := 900000) hl hlim hris (a := a) (m := a + bs) (b := a + 2 * bs) (by omega) (by omega) (by omega) (by omega)
              rw [show ((a + 2 * bs : Nat) : Int) = (a : Int) + 2 * bs by omega, show ((a + bs : Nat) : Int) = (a : Int) + bs by omega] at hs
              simp (maxSteps := 1000000) (disch := omega) only [c34l1, e6, e2, e0, e1, e8, e7, hI2, orc_cons, hs, go_sem, Option.map_none, Option.map_some, ↓reduceIte, Nat.reduceBEq, Nat.reduceAdd, Nat.reduceSub, Nat.reduceEqDiff, Nat.reduceLeDiff, Nat.reduceMul, Nat.reduceLT, Int.reduceLT, Int.reduceLE, Int.reduceAdd, Int.reduceSub, Int.reduceMul, Int.reduceNeg, Int.reduceEq, Int.reduceNe, Int.reduceToNat, decide_true, decide_false, iaddr_i, iaddr_sl_i, not_true_eq_false, not_false_eq_true, reduceCtorEq, ne_eq, forall_const, false_imp_iff, true_imp_iff, implies_true, Int.cast_ofNat_Int, Int.natCast_zero, Int.natCast_one, Int.add_zero, Int.zero_add]
              refine ⟨n - (a + 2 * bs), by omega, a + 2 * bs, rfl, hlt, ?_, ?_⟩
              · rw [show ((a + 2 * bs : Nat) : Int) = (a : Int) + 2 * bs by omega]
              · rw [show ((a + 2 * bs : Nat) : Int) = (a : Int) + 2 * bs by omega]
            · have hI2 : ¬ (a : Int) + 2 * bs ≤ n := by omega
              by_cases hm : a + bs < n
              · have hmI : (a : Int) + bs < n := by omega
                have hs := sym_eq (n := 900000) hl hlim hris (a := a) (m := a + bs) (b := n) (by omega) hm (by omega) (by omega)
                rw [show ((a + bs : Nat) : Int) = (a : Int) + bs by omega] at hs
                simp (maxSteps := 1000000) (disch := omega) only [c34l1, e6, e2, e0, e1, e8, e7, hI2, hmI, orc_cons, hs, go_sem, Option.map_none, Option.map_some, ↓reduceIte, Nat.reduceBEq, Nat.reduceAdd, Nat.reduceSub, Nat.reduceEqDiff, Nat.reduceLeDiff, Nat.reduceMul, Nat.reduceLT, Int.reduceLT, Int.reduceLE, Int.reduceAdd, Int.reduceSub, Int.reduceMul, Int.reduceNeg, Int.reduceEq, Int.reduceNe, Int.reduceToNat, decide_true, decide_false, iaddr_i, iaddr_sl_i, not_true_eq_false, not_false_eq_true, reduceCtorEq, ne_eq, forall_const, false_imp_iff, true_imp_iff, implies_true, Int.cast_ofNat_Int, Int.natCast_zero, Int.natCast_one, Int.add_zero, Int.zero_add]
                exact ⟨n - 2 * bs, by omega, 2 * bs, rfl, by omega, by omega, by rw [show ((2 * bs : Nat) : Int) = (bs : Int) * 2 by omega]⟩
              · have hmI : ¬ (a : Int) + bs < n := by omega
                simp (maxSteps := 1000000) (disch := omega) only [c34l1, e6, e2, e0, e1, e8, e7, hI2, hmI, go_sem, Option.map_none, Option.map_some, ↓reduceIte, Nat.reduceBEq, Nat.reduceAdd, Nat.reduceSub, Nat.reduceEqDiff, Nat.reduceLeDiff, Nat.reduceMul, Nat.reduceLT, Int.reduceLT, Int.reduceLE, Int.reduceAdd, Int.reduceSub, Int.reduceMul, Int.reduceNeg, Int.reduceEq, Int.reduceNe, Int.reduceToNat, decide_true, decide_false, iaddr_i, iaddr_sl_i, not_true_eq_false, not_false_eq_true, reduceCtorEq, ne_eq, forall_const, false_imp_iff, true_imp_iff, implies_true, Int.cast_ofNat_Int, Int.natCast_zero, Int.natCast_one, Int.add_zero, Int.zero_add]
                exact ⟨n - 2 * bs, by omega, 2 * bs, rfl, by omega, by omega, by rw [show ((2 * bs : Nat) : Int) = (bs : Int) * 2 by omega]⟩
          · have hI : ¬ (bs : Int) < n := by omega
            simp (maxSteps := 1000000) (disch := omega) only [c34l2, e6, e2, e0, e1, hI, go_sem, Option.map_none, Option.map_some, ↓reduceIte, Nat.reduceBEq, Nat.reduceAdd, Nat.reduceSub, Nat.reduceEqDiff, Nat.reduceLeDiff, Nat.reduceMul, Nat.reduceLT, Int.reduceLT, Int.reduceLE, Int.reduceAdd, Int.reduceSub, Int.reduceMul, Int.reduceNeg, Int.reduceEq, Int.reduceNe, Int.reduceToNat, decide_true, decide_false, iaddr_i, iaddr_sl_i, not_true_eq_false, not_false_eq_true, reduceCtorEq, ne_eq, forall_const, false_imp_iff, true_imp_iff, implies_true, Int.cast_ofNat_Int, Int.natCast_zero, Int.natCast_one, Int.add_zero, Int.zero_add]
            exact wkv_same
      · cases h
    · cases h
  · cases h
noncomputable def sstS : Spec := fun args S => match args with
  | [x, .f (.func f) [] []] => match lstV polE S x with
    | some l => open Classical in if f = 25 ∧ l.length ≤ 900000 ∧ Ris l then some (.tu [], S) else none
    | none => none
  | _ => none
theorem oSt2_ok : OK Try.prog (lamOf Try.prog) (orcOf [(34, stS)]) := orc_ok (by simpa using st_ok)
theorem sst_ok : SpecOK Try.prog 24 sstS := by
  intro args S x S' h
  simp only [sstS] at h
  split at h
  · rename_i s f
    split at h
    · rename_i l hl
      split at h
      · rename_i hc
        obtain ⟨rfl, hlim, hris⟩ := hc
        cases h
        have hs : stS [s, .i .i64 (l.length : Int), .f (.func 25) [] []] S = some (.tu [], S) := by
          simp only [stS, hl]
          rw [if_pos ⟨rfl, hlim, hris, rfl⟩]
        refine fn_of_wp f24 rfl (W_sound oSt2_ok mixed _ _ _ _ _ ?_)
        simp (maxSteps := 1000000) (disch := omega) only [c24, lst_len hl, orc_cons, hs, go_sem, Option.map_none, Option.map_some, ↓reduceIte, Nat.reduceBEq, Nat.reduceAdd, Nat.reduceSub, Nat.reduceEqDiff, Nat.reduceLeDiff, Nat.reduceMul, Nat.reduceLT, Int.reduceLT, Int.reduceLE, Int.reduceAdd, Int.reduceSub, Int.reduceMul, Int.reduceNeg, Int.reduceEq, Int.reduceNe, Int.reduceToNat, decide_true, decide_false, iaddr_i, iaddr_sl_i, not_true_eq_false, not_false_eq_true, reduceCtorEq, ne_eq, forall_const, false_imp_iff, true_imp_iff, implies_true, Int.cast_ofNat_Int, Int.natCast_zero, Int.natCast_one, Int.add_zero, Int.zero_add]
        first | exact wkv_same | skip
      · cases h
    · cases h
  · cases h
end Go.Proofs.Ytcoljpgnjiakjaa

namespace Go.Proofs.Ytcoljpgnjiakjaa
open Go.RowKit
set_option linter.unusedSimpArgs false
set_option linter.unusedVariables false
set_option maxRecDepth 10000

theorem bnds_hi {q : IntKind} {len cap b : Nat} (h : b ≤ cap) : bnds len cap none (some (.i q (b : Int))) none = some (0, b, cap) := by
  simp [bnds, bndV, natV, h]
theorem bnds_lo {q : IntKind} {len cap a : Nat} (h : a ≤ len) (h2 : len ≤ cap) : bnds len cap (some (.i q (a : Int))) none none = some (a, len, cap) := by
  simp [bnds, bndV, natV, h, h2]
theorem bnds_both {q q' : IntKind} {len cap a b : Nat} (h : a ≤ b) (h2 : b ≤ cap) : bnds len cap (some (.i q (a : Int))) (some (.i q' (b : Int))) none = some (a, b, cap) := by
  simp [bnds, bndV, natV, h, h2]
/-- A list that is empty and has no block of its own to grow in. -/
def noX (S : Mem) : AV → Bool
  | .sn => true
  | .sl i 0 0 0 0 true => match S[i]? with
    | some (.cells [] 0 none true) => true
    | _ => false
  | _ => false
theorem noX_cases {S : Mem} {x : AV} (h : noX S x = true) : x = .sn ∨ ∃ i, x = .sl i 0 0 0 0 true ∧ S[i]? = some (.cells [] 0 none true) := by
  unfold noX at h
  split at h
  · exact .inl rfl
  · rename_i i
    split at h
    · rename_i hB; exact .inr ⟨i, rfl, hB⟩
    · cases h
  · cases h
def insS : Spec := fun args S => match args with
  | [x, .i .i64 k, .sl j 0 0 1 1 true] => match S[j]? with
    | some (.cells cp 0 none true) => match polE.dec cp with
      | some p => if noX S x = true then (if k = 0 then some (.sl S.length 0 0 1 1 false, S ++ [.cells p.enc 0 (some 13) true]) else none) else match x with
        | .sl i 0 v n c true => match S[i]? with
          | some (.cells cs ver (some 13) true) => match decL polE n (cs.take (n * 13)) with
            | some l => if ver = v ∧ cs.length = c * 13 ∧ n ≤ c ∧ i ≠ j ∧ 0 ≤ k ∧ k ≤ n ∧ n ≤ 900000 then
                (if n + 1 ≤ c then some (.sl i 0 v (n + 1) c true, S.set i (.cells ((l.take k.toNat ++ p :: l.drop k.toNat).flatMap polE.enc ++ cs.drop ((n + 1) * 13)) v (some 13) true))
                else some (.sl S.length 0 0 (n + 1) (n + 1) false, S ++ [.cells ((l.take k.toNat ++ p :: l.drop k.toNat).flatMap polE.enc) 0 (some 13) true])) else none
            | none => none
          | _ => none
        | _ => none
      | none => none
    | _ => none
  | _ => none
theorem flat13 (l : List Pol) : (l.flatMap polE.enc).length = l.length * 13 := enc_length (E := polE) l
theorem cut_true {S : Mem} {i v len cap a b sz : Nat} {lo hi : Option AV} (h : bnds len cap lo hi none = some (a, b, cap)) (ha : a < cap) : sliceV S sz (.sl i 0 v len cap true) lo hi none = some (.sl i (a * sz) v (b - a) (cap - a) true) := by
  simp only [sliceV, h, Bool.true_or, if_true]
  unfold cutAt
  rw [if_neg (by omega), Nat.zero_add]
theorem splice2 {cs D P : List AV} {a : Nat} (h : a + 13 ≤ cs.length) (hP : P.length = 13) : splice (splice cs (a + 13) D) a P = cs.take a ++ (P ++ (D ++ cs.drop (a + 13 + D.length))) := by
  unfold splice
  have l1 : (cs.take (a + 13)).length = a + 13 := by rw [List.length_take]; omega
  rw [hP, List.take_append_of_le_length (by omega), List.take_take, Nat.min_eq_left (by omega), List.drop_append_of_le_length (by omega), List.drop_of_length_le (by omega : (cs.take (a + 13)).length ≤ a + 13), List.nil_append]
theorem splice3 {cs D P : List AV} {a : Nat} (h : a + 13 ≤ cs.length) (hP : P.length = 13) : splice (splice cs a P) (a + 13) D = cs.take a ++ (P ++ (D ++ cs.drop (a + 13 + D.length))) := by
  unfold splice
  have l1 : (cs.take a).length = a := by rw [List.length_take]; omega
  rw [hP]
  have e1 : (cs.take a ++ (P ++ cs.drop (a + 13))).take (a + 13) = cs.take a ++ P := by
    rw [← List.append_assoc, List.take_append_of_le_length (by rw [List.length_append]; omega), List.take_of_length_le (by rw [List.length_append]; omega)]
  have e2 : (cs.take a ++ (P ++ cs.drop (a + 13))).drop (a + 13 + D.length) = cs.drop (a + 13 + D.length) := by
    rw [← List.append_assoc, List.drop_append, List.drop_of_length_le (by rw [List.length_append]; omega), List.nil_append, List.length_append, List.drop_drop]
    congr 1; omega
  rw [e1, e2, List.append_assoc]
def appzQ (S : Mem) (z : List AV) (bytes : Nat) (x n : AV) : Option (AV × Mem) := match natV n with
  | some n => if n ≤ lim ∧ n * bytes ≤ lim then appV S z.length bytes x (zerosV z n) n else none
  | none => none
theorem oi_appz {e : Env} {S : Mem} {k : AV → Mem → Prop} {z : List AV} {b : Nat} {x n : X} : optK (evIO e S (.appz z b x n)) k = optK (appzQ S z b (x.ev e) (n.ev e)) k := (rfl)
theorem zeros_len (z : List AV) : ∀ n, (zerosV z n).length = n * z.length := by
  intro n
  unfold zerosV
  simp
theorem ins_ok : SpecOK Try.prog 22 insS := by
  intro args S x S' h
  simp only [insS] at h
  split at h
  · rename_i s k j
    split at h
    · rename_i cp hJ
      split at h
      · rename_i p hp
        obtain rfl := polE.ed _ _ hp
        have hrow : rowB (S[j]?) 0 0 (1 * 13) = some p.enc := by rw [hJ]; rfl
        have hsy : srcV S 13 (.sl j 0 0 1 1 true) = some (p.enc, 1) := by rw [src_sl, hrow]; rfl
        have hp13 : p.enc.length = 13 := rfl
        have hpone : p.enc.all AV.one = true := rfl
        refine fn_of_wp f22 rfl (W_sound none_ok mixed _ _ _ _ _ ?_)
        split at h
        · rename_i hno
          split at h
          · rename_i hk
            subst hk
            cases h
            rcases noX_cases hno with rfl | ⟨i, rfl, hI⟩
            · have s1 : sliceV S 13 .sn (some (.i .i64 0)) none none = some .sn := by rfl
              have ha : appV S 13 80 .sn p.enc 1 = some (.sl S.length 0 0 1 1 false, S ++ [.cells p.enc 0 (some 13) true]) := by
                simp only [appV]; rw [if_neg (by omega), if_pos ⟨by decide, by decide⟩]
              simp (maxSteps := 1000000) (disch := omega) only [c22, s1, hsy, ha, go_sem, Option.map_none, Option.map_some, ↓reduceIte, Nat.reduceBEq, Nat.reduceAdd, Nat.reduceSub, Nat.reduceEqDiff, Nat.reduceLeDiff, Nat.reduceMul, Nat.reduceLT, Int.reduceLT, Int.reduceLE, Int.reduceAdd, Int.reduceSub, Int.reduceMul, Int.reduceNeg, Int.reduceEq, Int.reduceNe, Int.reduceToNat, decide_true, decide_false, iaddr_i, iaddr_sl_i, not_true_eq_false, not_false_eq_true, reduceCtorEq, ne_eq, forall_const, false_imp_iff, true_imp_iff, implies_true, Int.cast_ofNat_Int, Int.natCast_zero, Int.natCast_one, Int.add_zero, Int.zero_add]
              exact wkv_same
            · have s1 : sliceV S 13 (.sl i 0 0 0 0 true) (some (.i .i64 0)) none none = some (.sl i 0 0 0 0 true) := by rfl
              have hc : rowAt S i 0 0 (0 * 13) = some [] := by rw [rowAt_B, hI]; rfl
              have ha : appV S 13 80 (.sl i 0 0 0 0 true) p.enc 1 = some (.sl S.length 0 0 1 1 false, S ++ [.cells p.enc 0 (some 13) true]) := by
                simp only [appV, hc]
                rw [if_neg (by omega), if_neg (by omega), if_pos ⟨by decide, by decide⟩, if_pos trivial]; rfl
              simp (maxSteps := 1000000) (disch := omega) only [c22, s1, hsy, ha, go_sem, Option.map_none, Option.map_some, ↓reduceIte, Nat.reduceBEq, Nat.reduceAdd, Nat.reduceSub, Nat.reduceEqDiff, Nat.reduceLeDiff, Nat.reduceMul, Nat.reduceLT, Int.reduceLT, Int.reduceLE, Int.reduceAdd, Int.reduceSub, Int.reduceMul, Int.reduceNeg, Int.reduceEq, Int.reduceNe, Int.reduceToNat, decide_true, decide_false, iaddr_i, iaddr_sl_i, not_true_eq_false, not_false_eq_true, reduceCtorEq, ne_eq, forall_const, false_imp_iff, true_imp_iff, implies_true, Int.cast_ofNat_Int, Int.natCast_zero, Int.natCast_one, Int.add_zero, Int.zero_add]
              exact wkv_same
          · cases h
        · split at h
          · rename_i i v n c hno
            split at h
            · rename_i cs ver hB
              split at h
              · rename_i l hl
                split at h
                · rename_i hcond
                  obtain ⟨hver, hcl, hnc, hij, hk0, hkn, hlim⟩ := hcond
                  have hver := hver.symm
                  subst hver
                  obtain ⟨k, rfl⟩ := Int.eq_ofNat_of_zero_le hk0
                  have hkn : k ≤ n := by omega
                  rw [Int.toNat_natCast] at h
                  obtain ⟨hln, htk⟩ := decL_ok _ _ _ hl (by rw [List.length_take]; show min (n * 13) cs.length = n * 13; omega)
                  have hA : cs.take (k * 13) = (l.take k).flatMap polE.enc := by
                    have h1 : (cs.take (n * 13)).take (k * 13) = cs.take (k * 13) := by rw [List.take_take, Nat.min_eq_left (by omega)]
                    rw [← h1, htk]; exact flat_take (E := polE) l k
                  have hD : (cs.drop (k * 13)).take ((n - k) * 13) = (l.drop k).flatMap polE.enc := by
                    have h1 : (cs.take (n * 13)).drop (k * 13) = (cs.drop (k * 13)).take ((n - k) * 13) := by rw [List.drop_take]; congr 1; omega
                    rw [← h1, htk]; exact flat_drop (E := polE) l k
                  have hDl : ((l.drop k).flatMap polE.enc).length = (n - k) * 13 := by rw [flat13, List.length_drop, hln]
                  have hDone := all_one (E := polE) polE_one (l.drop k)
                  have hfl : (l.take k ++ p :: l.drop k).flatMap polE.enc = (l.take k).flatMap polE.enc ++ (p.enc ++ (l.drop k).flatMap polE.enc) := by
                    rw [List.flatMap_append, List.flatMap_cons]; rfl
                  rw [hfl] at h
                  have hcap : capQ (.sl i 0 v n c true) = some (.i .i64 c) := rfl
                  have hlim1 : (n + 1) * 80 ≤ lim := by show _ ≤ 70368744177664; omega
                  have hlim2 : n + 1 ≤ lim := by show _ ≤ 70368744177664; omega
                  have s1 : ∃ y, sliceV S 13 (.sl i 0 v n c true) (some (.i .i64 (k : Int))) none none = some y := ⟨_, by simp only [sliceV, bnds_lo (q := .i64) hkn hnc, Bool.true_or, if_true]; rfl⟩
                  obtain ⟨y1, s1⟩ := s1
                  by_cases hkn2 : k = n
                  · subst hkn2
                    have hD0 : (l.drop k).flatMap polE.enc = [] := by rw [List.drop_of_length_le (by omega)]; rfl
                    rw [hD0, List.append_nil] at h
                    by_cases hroom : k + 1 ≤ c
                    · rw [if_pos hroom] at h
                      cases h
                      have ha : appV S 13 80 (.sl i 0 v k c true) p.enc 1 = some (.sl i 0 v (k + 1) c true, S.set i (.cells (splice cs (0 + k * 13) p.enc) v (some 13) true)) := by
                        simp only [appV, hB]
                        rw [if_neg (by omega), if_pos hroom, if_pos ⟨trivial, by omega, hpone⟩]
                      have hsp : splice cs (0 + k * 13) p.enc = (l.take k).flatMap polE.enc ++ p.enc ++ cs.drop ((k + 1) * 13) := by
                        unfold splice
                        rw [Nat.zero_add, hA, hp13, show k * 13 + 13 = (k + 1) * 13 by omega, List.append_assoc]
                      rw [hsp] at ha
                      simp (maxSteps := 1000000) (disch := omega) only [c22, s1, hsy, ha, go_sem, Option.map_none, Option.map_some, ↓reduceIte, Nat.reduceBEq, Nat.reduceAdd, Nat.reduceSub, Nat.reduceEqDiff, Nat.reduceLeDiff, Nat.reduceMul, Nat.reduceLT, Int.reduceLT, Int.reduceLE, Int.reduceAdd, Int.reduceSub, Int.reduceMul, Int.reduceNeg, Int.reduceEq, Int.reduceNe, Int.reduceToNat, decide_true, decide_false, iaddr_i, iaddr_sl_i, not_true_eq_false, not_false_eq_true, reduceCtorEq, ne_eq, forall_const, false_imp_iff, true_imp_iff, implies_true, Int.cast_ofNat_Int, Int.natCast_zero, Int.natCast_one, Int.add_zero, Int.zero_add]
                      exact wkv_same
                    · rw [if_neg hroom] at h
                      cases h
                      have hrw : rowAt S i 0 v (k * 13) = some ((l.take k).flatMap polE.enc) := by rw [rowAt_B, hB, rowB_some, if_pos (by omega), List.drop_zero, hA]
                      have ha : appV S 13 80 (.sl i 0 v k c true) p.enc 1 = some (.sl S.length 0 0 (k + 1) (k + 1) false, S ++ [.cells ((l.take k).flatMap polE.enc ++ p.enc) 0 (some 13) true]) := by
                        simp only [appV, hrw]
                        rw [if_neg (by omega), if_neg hroom, if_pos ⟨hlim1, hlim2⟩, if_pos trivial]
                      simp (maxSteps := 1000000) (disch := omega) only [c22, s1, hsy, ha, go_sem, Option.map_none, Option.map_some, ↓reduceIte, Nat.reduceBEq, Nat.reduceAdd, Nat.reduceSub, Nat.reduceEqDiff, Nat.reduceLeDiff, Nat.reduceMul, Nat.reduceLT, Int.reduceLT, Int.reduceLE, Int.reduceAdd, Int.reduceSub, Int.reduceMul, Int.reduceNeg, Int.reduceEq, Int.reduceNe, Int.reduceToNat, decide_true, decide_false, iaddr_i, iaddr_sl_i, not_true_eq_false, not_false_eq_true, reduceCtorEq, ne_eq, forall_const, false_imp_iff, true_imp_iff, implies_true, Int.cast_ofNat_Int, Int.natCast_zero, Int.natCast_one, Int.add_zero, Int.zero_add]
                      exact wkv_same
                  · have hkI : ¬ (k : Int) = n := by omega
                    by_cases hroom : n + 1 ≤ c
                    · rw [if_pos hroom] at h
                      cases h
                      have hrI : ¬ (n : Int) + 1 > c := by omega
                      have s2 : sliceV S 13 (.sl i 0 v n c true) none (some (.i .i64 ((n : Int) + 1))) none = some (.sl i 0 v (n + 1) c true) := by
                        have := cut_true (S := S) (i := i) (v := v) (sz := 13) (bnds_hi (q := .i64) (len := n) (cap := c) (b := n + 1) hroom) (by omega)
                        rw [Nat.zero_mul] at this; exact this
                      have s3 : ∀ S' : Mem, sliceV S' 13 (.sl i 0 v (n + 1) c true) (some (.i .i64 ((k : Int) + 1))) none none = some (.sl i ((k + 1) * 13) v (n - k) (c - (k + 1)) true) := fun S' => by
                        have := cut_true (S := S') (i := i) (v := v) (sz := 13) (bnds_lo (q := .i64) (len := n + 1) (cap := c) (a := k + 1) (by omega) hroom) (by omega)
                        rw [show n + 1 - (k + 1) = n - k by omega] at this; exact this
                      have s4 : ∀ S' : Mem, sliceV S' 13 (.sl i 0 v (n + 1) c true) (some (.i .i64 (k : Int))) none none = some (.sl i (k * 13) v (n + 1 - k) (c - k) true) := fun S' =>
                        cut_true (bnds_lo (q := .i64) (by omega) hroom) (by omega)
                      have hov : ovlV S (.sl j 0 0 1 1 true) (.sl i ((k + 1) * 13) v (n - k) (c - (k + 1)) true) = some (.b false) := by
                        have hap : apartB (some (.cells p.enc 0 none true)) (some (.cells cs v (some 13) true)) 0 0 v = true := by
                          simp only [apartB, decide_eq_true_eq]
                          exact ⟨trivial, trivial, by simp, Nat.zero_le _, by omega⟩
                        rw [ovlV_sl, hJ, hB, if_pos ⟨Ne.symm hij, hap⟩]
                      have hs76 : srcV S 13 (.sl i (k * 13) v (n + 1 - k) (c - k) true) = some ((cs.drop (k * 13)).take ((n + 1 - k) * 13), n + 1 - k) := by
                        rw [src_sl, hB, rowB_some, if_pos (by omega)]; rfl
                      obtain ⟨M2, hM2⟩ : ∃ M2, M2 = S.set i (.cells (splice cs (k * 13 + 13) ((l.drop k).flatMap polE.enc)) v (some 13) true) := ⟨_, rfl⟩
                      have hcp : copyV S 13 (.sl i ((k + 1) * 13) v (n - k) (c - (k + 1)) true) (.sl i (k * 13) v (n + 1 - k) (c - k) true) = some (n - k, M2) := by
                        simp only [copyV, hs76, hB]
                        have hmin : Nat.min (n + 1 - k) (n - k) = n - k := Nat.min_eq_right (by omega)
                        rw [hmin, List.take_take, Nat.min_eq_left (by omega), hD, if_pos ⟨trivial, by omega, hDone⟩, hM2, show (k + 1) * 13 = k * 13 + 13 by omega]
                      have hB2 : M2[i]? = some (.cells (splice cs (k * 13 + 13) ((l.drop k).flatMap polE.enc)) v (some 13) true) := by rw [hM2]; exact at_set hB
                      have hsy2 : srcV M2 13 (.sl j 0 0 1 1 true) = some (p.enc, 1) := by
                        rw [src_sl, hM2, at_set_ne hij, hrow]; rfl
                      have hspl : (splice cs (k * 13 + 13) ((l.drop k).flatMap polE.enc)).length = c * 13 := by
                        unfold splice
                        rw [List.length_append, List.length_append, List.length_take, List.length_drop, hDl]; omega
                      have hcp2 : copyV M2 13 (.sl i (k * 13) v (n + 1 - k) (c - k) true) (.sl j 0 0 1 1 true) = some (1, S.set i (.cells ((l.take k).flatMap polE.enc ++ (p.enc ++ (l.drop k).flatMap polE.enc) ++ cs.drop ((n + 1) * 13)) v (some 13) true)) := by
                        simp only [copyV, hsy2, hB2]
                        have hmin : Nat.min 1 (n + 1 - k) = 1 := Nat.min_eq_left (by omega)
                        rw [hmin, List.take_of_length_le (by omega : p.enc.length ≤ 1 * 13), if_pos ⟨trivial, by rw [hspl]; omega, hpone⟩, splice2 (by omega) hp13, hM2, List.set_set, hA, hDl, show k * 13 + 13 + (n - k) * 13 = (n + 1) * 13 by omega]
                        simp only [List.append_assoc]
                      simp (maxSteps := 1000000) (disch := omega) only [c22, s1, hsy, hkI, hcap, hrI, s2, s3, s4, hov, hcp, hcp2, go_sem, Option.map_none, Option.map_some, ↓reduceIte, Nat.reduceBEq, Nat.reduceAdd, Nat.reduceSub, Nat.reduceEqDiff, Nat.reduceLeDiff, Nat.reduceMul, Nat.reduceLT, Int.reduceLT, Int.reduceLE, Int.reduceAdd, Int.reduceSub, Int.reduceMul, Int.reduceNeg, Int.reduceEq, Int.reduceNe, Int.reduceToNat, decide_true, decide_false, iaddr_i, iaddr_sl_i, not_true_eq_false, not_false_eq_true, reduceCtorEq, ne_eq, forall_const, false_imp_iff, true_imp_iff, implies_true, Int.cast_ofNat_Int, Int.natCast_zero, Int.natCast_one, Int.add_zero, Int.zero_add]
                      exact wkv_same
                    · rw [if_neg hroom] at h
                      cases h
                      have hrI : (n : Int) + 1 > c := by omega
                      obtain rfl : n = c := by omega
                      have s2 : sliceV S 13 (.sl i 0 v n n true) none (some (.i .i64 (k : Int))) none = some (.sl i 0 v k n true) := by
                        have := cut_true (S := S) (i := i) (v := v) (sz := 13) (bnds_hi (q := .i64) (len := n) (cap := n) (b := k) hkn) (by omega)
                        rw [Nat.zero_mul, Nat.sub_zero, Nat.sub_zero] at this; exact this
                      obtain ⟨Z, hZ⟩ : ∃ Z, Z = zerosV noPol.enc (n + 1 - k) := ⟨_, rfl⟩
                      have hZl : Z.length = (n + 1 - k) * 13 := by rw [hZ, zeros_len]; rfl
                      have hrw : rowAt S i 0 v (k * 13) = some ((l.take k).flatMap polE.enc) := by rw [rowAt_B, hB, rowB_some, if_pos (by omega), List.drop_zero, hA]
                      have hAl : ((l.take k).flatMap polE.enc).length = k * 13 := by rw [flat13, List.length_take]; congr 1; omega
                      obtain ⟨M1, hM1⟩ : ∃ M1, M1 = S ++ [Blk.cells ((l.take k).flatMap polE.enc ++ Z) 0 (some 13) true] := ⟨_, rfl⟩
                      have hz : appzQ S noPol.enc 80 (.sl i 0 v k n true) (.i .i64 ((n : Int) + 1 - k)) = some (.sl S.length 0 0 (n + 1) (n + 1) false, M1) := by
                        have hn : natV (.i .i64 ((n : Int) + 1 - k)) = some (n + 1 - k) := by
                          rw [show (n : Int) + 1 - k = ((n + 1 - k : Nat) : Int) by omega]; exact natV_nat
                        have h13 : noPol.enc.length = 13 := rfl
                        simp only [appzQ, hn, h13]
                        rw [if_pos ⟨by show _ ≤ 70368744177664; omega, by show _ ≤ 70368744177664; omega⟩]
                        simp only [appV, hrw]
                        rw [if_neg (by omega), if_neg (by omega), show k + (n + 1 - k) = n + 1 by omega, if_pos ⟨hlim1, hlim2⟩, if_pos trivial, hM1, hZ]
                      have hN1 : M1[S.length]? = some (.cells ((l.take k).flatMap polE.enc ++ Z) 0 (some 13) true) := by rw [hM1, at_app0]; rfl
                      have s5 : sliceV M1 13 (.sl S.length 0 0 (n + 1) (n + 1) false) (some (.i .i64 (k : Int))) none none = some (.sl S.length (k * 13) 0 (n + 1 - k) (n + 1 - k) false) := by
                        simp only [sliceV, bnds_lo (q := .i64) (show k ≤ n + 1 by omega) (Nat.le_refl (n + 1)), Option.isSome_none, Bool.or_false, Bool.false_eq_true, if_false]
                        rw [if_neg (by omega)]
                        simp only [hN1, Blk.opn, if_true, Nat.zero_add]
                      have hsy1 : srcV M1 13 (.sl j 0 0 1 1 true) = some (p.enc, 1) := by
                        rw [src_sl, hM1, at_old hJ]; rfl
                      obtain ⟨M2, hM2⟩ : ∃ M2, M2 = S ++ [Blk.cells (splice ((l.take k).flatMap polE.enc ++ Z) (k * 13) p.enc) 0 (some 13) true] := ⟨_, rfl⟩
                      have hcp1 : copyV M1 13 (.sl S.length (k * 13) 0 (n + 1 - k) (n + 1 - k) false) (.sl j 0 0 1 1 true) = some (1, M2) := by
                        simp only [copyV, hsy1, hN1]
                        have hmin : Nat.min 1 (n + 1 - k) = 1 := Nat.min_eq_left (by omega)
                        rw [hmin, List.take_of_length_le (by omega : p.enc.length ≤ 1 * 13), if_pos ⟨trivial, by rw [List.length_append, hAl, hZl]; omega, hpone⟩, hM1, set_app0, hM2]
                        rfl
                      have hN2 : M2[S.length]? = some (.cells (splice ((l.take k).flatMap polE.enc ++ Z) (k * 13) p.enc) 0 (some 13) true) := by rw [hM2, at_app0]; rfl
                      have s6 : sliceV M2 13 (.sl S.length 0 0 (n + 1) (n + 1) false) (some (.i .i64 ((k : Int) + 1))) none none = some (.sl S.length ((k + 1) * 13) 0 (n - k) (n - k) false) := by
                        rw [show (k : Int) + 1 = ((k + 1 : Nat) : Int) by omega]
                        simp only [sliceV, bnds_lo (q := .i64) (show k + 1 ≤ n + 1 by omega) (Nat.le_refl (n + 1)), Option.isSome_none, Bool.or_false, Bool.false_eq_true, if_false]
                        rw [if_neg (by omega)]
                        simp only [hN2, Blk.opn, if_true, Nat.zero_add]
                        rw [show n + 1 - (k + 1) = n - k by omega]
                      have s7 : sliceV M2 13 (.sl i 0 v n n true) (some (.i .i64 (k : Int))) none none = some (.sl i (k * 13) v (n - k) (n - k) true) := cut_true (bnds_lo (q := .i64) hkn (Nat.le_refl _)) (by omega)
                      have hs7 : srcV M2 13 (.sl i (k * 13) v (n - k) (n - k) true) = some ((l.drop k).flatMap polE.enc, n - k) := by
                        rw [src_sl, hM2, at_old hB, rowB_some, if_pos (by omega), hD]; rfl
                      have hspl : (splice ((l.take k).flatMap polE.enc ++ Z) (k * 13) p.enc).length = (n + 1) * 13 := by
                        unfold splice
                        rw [List.length_append, List.length_append, List.length_take, List.length_drop, List.length_append, hAl, hZl, hp13]; omega
                      have hcp3 : copyV M2 13 (.sl S.length ((k + 1) * 13) 0 (n - k) (n - k) false) (.sl i (k * 13) v (n - k) (n - k) true) = some (n - k, S ++ [.cells ((l.take k).flatMap polE.enc ++ (p.enc ++ (l.drop k).flatMap polE.enc)) 0 (some 13) true]) := by
                        simp only [copyV, hs7, hN2]
                        have hmin : Nat.min (n - k) (n - k) = n - k := Nat.min_self _
                        rw [hmin, List.take_of_length_le (show ((l.drop k).flatMap polE.enc).length ≤ (n - k) * 13 by omega), if_pos ⟨trivial, by rw [hspl]; omega, hDone⟩, show (k + 1) * 13 = k * 13 + 13 by omega, splice3 (by rw [List.length_append, hAl, hZl]; omega) hp13, hM2, set_app0]
                        have e1 : ((l.take k).flatMap polE.enc ++ Z).take (k * 13) = (l.take k).flatMap polE.enc := by rw [← hAl, List.take_left]
                        have e2 : ((l.take k).flatMap polE.enc ++ Z).drop (k * 13 + 13 + ((l.drop k).flatMap polE.enc).length) = [] := List.drop_of_length_le (by rw [List.length_append, hAl, hZl, hDl]; omega)
                        rw [e1, e2, List.append_nil]; rfl
                      simp only [noPol, Pol.enc] at hz
                      simp (maxSteps := 1000000) (disch := omega) only [c22, s1, hsy, hkI, hcap, hrI, s2, oi_appz, hz, s5, hcp1, s6, s7, hcp3, go_sem, Option.map_none, Option.map_some, ↓reduceIte, Nat.reduceBEq, Nat.reduceAdd, Nat.reduceSub, Nat.reduceEqDiff, Nat.reduceLeDiff, Nat.reduceMul, Nat.reduceLT, Int.reduceLT, Int.reduceLE, Int.reduceAdd, Int.reduceSub, Int.reduceMul, Int.reduceNeg, Int.reduceEq, Int.reduceNe, Int.reduceToNat, decide_true, decide_false, iaddr_i, iaddr_sl_i, not_true_eq_false, not_false_eq_true, reduceCtorEq, ne_eq, forall_const, false_imp_iff, true_imp_iff, implies_true, Int.cast_ofNat_Int, Int.natCast_zero, Int.natCast_one, Int.add_zero, Int.zero_add]
                      exact wkv_same
                · cases h
              · cases h
            · cases h
          · cases h
      · cases h
    · cases h
  · cases h
end Go.Proofs.Ytcoljpgnjiakjaa

namespace Go.Proofs.Ytcoljpgnjiakjaa
open Go.RowKit
set_option linter.unusedSimpArgs false
set_option linter.unusedVariables false
set_option maxRecDepth 10000

def zero13 : List AV := noPol.enc
def delS : Spec := fun args S => match args with
  | [.sl i 0 v n c true, .i .i64 a, .i .i64 b] => match S[i]? with
    | some (.cells cs ver (some 13) true) => match decL polE n (cs.take (n * 13)) with
      | some l => if ver = v ∧ cs.length = c * 13 ∧ n ≤ c ∧ 0 ≤ a ∧ a < (n : Int) ∧ b = a + 1 ∧ n ≤ 900000 then
          some (.sl i 0 v (n - 1) c true, S.set i (.cells ((l.eraseIdx a.toNat).flatMap polE.enc ++ zero13 ++ cs.drop (n * 13)) v (some 13) true)) else none
      | none => none
    | _ => none
  | _ => none
theorem splice_cut {cs mid : List AV} {k n : Nat} (hk : k < n) (hn : n * 13 ≤ cs.length) (hml : mid.length = (n - (k + 1)) * 13) : splice (splice cs (k * 13) mid) ((n - 1) * 13) zero13 = cs.take (k * 13) ++ mid ++ zero13 ++ cs.drop (n * 13) := by
  have hkl : (cs.take (k * 13)).length = k * 13 := by rw [List.length_take]; omega
  have hz : zero13.length = 13 := rfl
  unfold splice
  rw [hml, hz]
  have e1 : k * 13 + (n - (k + 1)) * 13 = (n - 1) * 13 := by omega
  rw [e1]
  have h1 : (cs.take (k * 13) ++ (mid ++ cs.drop ((n - 1) * 13))).take ((n - 1) * 13) = cs.take (k * 13) ++ mid := by
    rw [← List.append_assoc, List.take_append_of_le_length (by rw [List.length_append, hkl, hml]; omega), List.take_of_length_le (by rw [List.length_append, hkl, hml]; omega)]
  have h2 : (cs.take (k * 13) ++ (mid ++ cs.drop ((n - 1) * 13))).drop ((n - 1) * 13 + 13) = cs.drop (n * 13) := by
    rw [← List.append_assoc, List.drop_append, List.drop_of_length_le (by rw [List.length_append, hkl, hml]; omega), List.nil_append, List.length_append, hkl, hml, List.drop_drop]
    congr 1; omega
  rw [h1, h2]
  simp only [List.append_assoc]
theorem cut_true' {S : Mem} {i v len cap a b m sz : Nat} {lo hi mx : Option AV} (h : bnds len cap lo hi mx = some (a, b, m)) : sliceV S sz (.sl i 0 v len cap true) lo hi mx = some (.sl i (cutAt 0 a m sz) v (b - a) (m - a) true) := by
  simp only [sliceV, h, Bool.true_or, if_true]
theorem set_id {S : Mem} {i : Nat} {B : Blk} (h : S[i]? = some B) : S.set i B = S := by
  apply List.ext_getElem?
  intro j
  by_cases hij : i = j
  · subst hij; rw [at_set h, h]
  · rw [at_set_ne hij]
theorem del_ok : SpecOK Try.prog 23 delS := by
  intro args S x S' h
  simp only [delS] at h
  split at h
  · rename_i i v n cap a b
    split at h
    · rename_i cs ver hB
      split at h
      · rename_i l hl
        split at h
        · rename_i hc
          obtain ⟨rfl, hcl, hnc, ha0, han, rfl, hlim⟩ := hc
          cases h
          obtain ⟨k, rfl⟩ := Int.eq_ofNat_of_zero_le ha0
          rw [Int.toNat_natCast]
          have hkn : k < n := by omega
          have hk1 : ((k : Nat) : Int) + 1 = ((k + 1 : Nat) : Int) := by omega
          rw [hk1]
          obtain ⟨hln, htk⟩ := decL_ok _ _ _ hl (by rw [List.length_take]; show min (n * 13) cs.length = n * 13; omega)
          have hA : cs.take (k * 13) = (l.take k).flatMap polE.enc := by
            have h1 : (cs.take (n * 13)).take (k * 13) = cs.take (k * 13) := by rw [List.take_take, Nat.min_eq_left (by omega)]
            rw [← h1, htk]; exact flat_take (E := polE) l k
          have hD : (cs.drop ((k + 1) * 13)).take ((n - (k + 1)) * 13) = (l.drop (k + 1)).flatMap polE.enc := by
            have h1 : (cs.take (n * 13)).drop ((k + 1) * 13) = (cs.drop ((k + 1) * 13)).take ((n - (k + 1)) * 13) := by rw [List.drop_take]; congr 1; omega
            rw [← h1, htk]; exact flat_drop (E := polE) l (k + 1)
          have hDl : ((l.drop (k + 1)).flatMap polE.enc).length = (n - (k + 1)) * 13 := by rw [flat13, List.length_drop, hln]
          have hDone := all_one (E := polE) polE_one (l.drop (k + 1))
          have hfl : (l.eraseIdx k).flatMap polE.enc = (l.take k).flatMap polE.enc ++ (l.drop (k + 1)).flatMap polE.enc := by
            rw [List.eraseIdx_eq_take_drop_succ, List.flatMap_append]
          rw [hfl]
          have s1 : ∃ y, sliceV S 13 (.sl i 0 ver n cap true) (some (.i .i64 (k : Int))) (some (.i .i64 ((k + 1 : Nat) : Int))) (some (.i .i64 (n : Int))) = some y := by
            refine ⟨.sl i (cutAt 0 k n 13) ver (k + 1 - k) (n - k) true, cut_true' ?_⟩
            simp only [bnds, bndV, natV_nat]
            simp [show n ≤ cap from hnc, show k + 1 ≤ n from hkn, show k ≤ n by omega, natV]
          obtain ⟨y1, s1⟩ := s1
          have s2 : sliceV S 13 (.sl i 0 ver n cap true) none (some (.i .i64 (k : Int))) none = some (.sl i 0 ver k cap true) := by
            have := cut_true (S := S) (i := i) (v := ver) (sz := 13) (bnds_hi (q := .i64) (len := n) (cap := cap) (b := k) (by omega)) (by omega)
            rw [Nat.zero_mul, Nat.sub_zero, Nat.sub_zero] at this; exact this
          have hne : ¬ ((k : Nat) : Int) = ((k + 1 : Nat) : Int) := by omega
          obtain ⟨o3, ho3, hr3⟩ : ∃ o3, cutAt 0 (k + 1) cap 13 = o3 ∧ rowB (S[i]?) o3 ver ((n - (k + 1)) * 13) = some ((l.drop (k + 1)).flatMap polE.enc) := by
            refine ⟨_, rfl, ?_⟩
            rw [hB, rowB_some]
            unfold cutAt
            by_cases hcc : cap = k + 1
            · rw [if_pos hcc, if_pos (by omega)]
              rw [show n - (k + 1) = 0 by omega, List.drop_of_length_le (by omega : l.length ≤ k + 1)]; simp
            · rw [if_neg hcc, Nat.zero_add, if_pos (by omega), hD]
          have s3 : sliceV S 13 (.sl i 0 ver n cap true) (some (.i .i64 ((k + 1 : Nat) : Int))) none none = some (.sl i o3 ver (n - (k + 1)) (cap - (k + 1)) true) := by
            rw [cut_true' (bnds_lo (q := .i64) (show k + 1 ≤ n by omega) hnc), ho3]
          have hs3 : srcV S 13 (.sl i o3 ver (n - (k + 1)) (cap - (k + 1)) true) = some ((l.drop (k + 1)).flatMap polE.enc, n - (k + 1)) := by
            rw [src_sl, hr3]; rfl
          obtain ⟨S2, hS2⟩ : ∃ S2, S2 = S.set i (.cells (splice cs (k * 13) ((l.drop (k + 1)).flatMap polE.enc)) ver (some 13) true) := ⟨_, rfl⟩
          have ha : appV S 13 80 (.sl i 0 ver k cap true) ((l.drop (k + 1)).flatMap polE.enc) (n - (k + 1)) = some (.sl i 0 ver (n - 1) cap true, S2) := by
            by_cases h0 : n - (k + 1) = 0
            · have hSS : S2 = S := by
                rw [hS2]
                have e0 : (l.drop (k + 1)).flatMap polE.enc = [] := by rw [List.drop_of_length_le (by omega)]; rfl
                rw [e0]
                have : splice cs (k * 13) [] = cs := by unfold splice; simp
                rw [this]
                exact set_id hB
              rw [hSS, h0, show n - 1 = k by omega]
              simp [appV]
            · simp only [appV, hB]
              rw [if_neg h0, if_pos (by omega), if_pos ⟨trivial, by omega, hDone⟩, hS2, show k + (n - (k + 1)) = n - 1 by omega, Nat.zero_add]
          have hB2 : S2[i]? = some (.cells (splice cs (k * 13) ((l.drop (k + 1)).flatMap polE.enc)) ver (some 13) true) := by rw [hS2]; exact at_set hB
          have s4 : sliceV S2 13 (.sl i 0 ver (n - 1) cap true) (some (.i .i64 ((n - 1 : Nat) : Int))) (some (.i .i64 (n : Int))) none = some (.sl i ((n - 1) * 13) ver 1 (cap - (n - 1)) true) := by
            rw [cut_true (bnds_both (q := .i64) (q' := .i64) (show n - 1 ≤ n by omega) hnc) (by omega), show n - (n - 1) = 1 by omega]
          have hsl : (splice cs (k * 13) ((l.drop (k + 1)).flatMap polE.enc)).length = cap * 13 := by
            unfold splice
            rw [List.length_append, List.length_append, List.length_take, List.length_drop, hDl]; omega
          have hz : zerosV noPol.enc 1 = noPol.enc := by rfl
          have hclr : clearV S2 noPol.enc (.sl i ((n - 1) * 13) ver 1 (cap - (n - 1)) true) = some (.tu [], S.set i (.cells ((l.take k).flatMap polE.enc ++ (l.drop (k + 1)).flatMap polE.enc ++ zero13 ++ cs.drop (n * 13)) ver (some 13) true)) := by
            simp only [clearV, hB2]
            rw [if_neg (by omega), if_pos ⟨trivial, by rw [hsl]; show (n - 1) * 13 + 1 * 13 ≤ cap * 13; omega, by rw [hz]; rfl⟩, hz]
            show some (AV.tu [], S2.set i (.cells (splice _ ((n - 1) * 13) zero13) ver (some 13) true)) = _
            rw [splice_cut hkn (by omega) hDl, hA, hS2, List.set_set]
          simp only [noPol, Pol.enc] at hclr
          refine fn_of_wp f23 rfl (W_sound none_ok mixed _ _ _ _ _ ?_)
          simp (maxSteps := 1000000) (disch := omega) only [c23, s1, s2, s3, hne, hs3, ha, s4, hclr, go_sem, Option.map_none, Option.map_some, ↓reduceIte, Nat.reduceBEq, Nat.reduceAdd, Nat.reduceSub, Nat.reduceEqDiff, Nat.reduceLeDiff, Nat.reduceMul, Nat.reduceLT, Int.reduceLT, Int.reduceLE, Int.reduceAdd, Int.reduceSub, Int.reduceMul, Int.reduceNeg, Int.reduceEq, Int.reduceNe, Int.reduceToNat, decide_true, decide_false, iaddr_i, iaddr_sl_i, not_true_eq_false, not_false_eq_true, reduceCtorEq, ne_eq, forall_const, false_imp_iff, true_imp_iff, implies_true, Int.cast_ofNat_Int, Int.natCast_zero, Int.natCast_one, Int.add_zero, Int.zero_add]
          exact wkv_same
        · cases h
      · cases h
    · cases h
  · cases h
end Go.Proofs.Ytcoljpgnjiakjaa

namespace Go.Proofs.Ytcoljpgnjiakjaa
open Go.RowKit
set_option linter.unusedSimpArgs false
set_option linter.unusedVariables false
set_option maxRecDepth 10000

structure Opv where
  kind : Int
  sub : Int
  pol : Pol
  deriving DecidableEq
def opE : Enc Opv where
  enc o := opC o.kind o.sub o.pol
  dec r := match r with
    | [.i .i64 k, .i .i64 s, .i .i64 0, .i .u64 0, .sn, .i .i64 sub, .i .u8 a, .i .u8 b, .i .u8 c, .i .u8 d, .i .i64 bits, .i .u64 rate, .i .u64 burst, .i .u64 srate, .i .u64 sburst, .i .u64 quota, .i .u64 lease, .i .u64 quantum, .sn] => some ⟨k, s, ⟨sub, a, b, c, d, bits, rate, burst, srate, sburst, quota, lease, quantum⟩⟩
    | _ => none
  sz := 19
  pos := by decide
  len _ := rfl
  de _ := rfl
  ed r a h := by
    split at h
    · injection h with h; subst h; rfl
    · cases h
theorem opE_one (a : Opv) : (opE.enc a).all AV.one = true := rfl
def Ch.op : Ch → Opv
  | .drop s => ⟨5, s, noPol⟩
  | .put p => ⟨4, 0, p⟩
def opOf (k : Int) : Opv := ⟨k, 0, noPol⟩
def opsPath : List Bool := [true, true, false, true, false]
/-- The list that is built: a literal first, then a block of its own. -/
def Lb (S M : Mem) (y : AV) (l : List Opv) : Prop := (l = [opOf 3] ∧ y = .sl S.length 0 0 1 1 true ∧ M[S.length]? = some (.cells (opE.enc (opOf 3)) 0 none true) ∧ S <+: M) ∨ Acc false opE S M y l
theorem Lb.grow {S M : Mem} {y : AV} {l : List Opv} (h : Lb S M y l) (U : Mem) : Lb S (M ++ U) y l := by
  rcases h with ⟨h1, h2, h3, h4⟩ | h
  · exact .inl ⟨h1, h2, at_old h3, ext_more h4 U⟩
  · exact .inr (h.grow U)
theorem Lb.lst {S M : Mem} {y : AV} {l : List Opv} (h : Lb S M y l) : lstV opE M y = some l := by
  rcases h with ⟨rfl, rfl, h3, h4⟩ | h
  · refine lst_lstV (.inr (.inr ⟨_, _, _, _, _, _, rfl, rfl, ?_⟩))
    rw [rowAt_B, h3]; rfl
  · exact h.lst
theorem Lb.app {S M : Mem} {y : AV} {l : List Opv} (h : Lb S M y l) (a : Opv) (hn : l.length ≤ 1000000) :
    ∃ y' M', appV M 19 160 y (opE.enc a) 1 = some (y', M') ∧ Acc false opE S M' y' (l ++ [a]) ∧ ∀ (ib : Nat) (B : Blk), M[ib]? = some B → B.opn = none → M'[ib]? = some B := by
  rcases h with ⟨rfl, rfl, h3, ⟨T, rfl⟩⟩ | h
  · have hc : rowAt (S ++ T) S.length 0 0 (1 * 19) = some (opE.enc (opOf 3)) := by rw [rowAt_B, h3]; rfl
    refine ⟨.sl (S ++ T).length 0 0 2 2 false, (S ++ T) ++ [.cells (opE.enc (opOf 3) ++ opE.enc a) 0 (some 19) true], ?_, ⟨T ++ [.cells (opE.enc (opOf 3) ++ opE.enc a) 0 (some 19) true], by rw [List.append_assoc], .inr (.inr ⟨by simp, T.length, 0, by rw [List.length_append]; rfl, ?_⟩)⟩, fun ib B hB _ => at_old hB⟩
    · simp only [appV, hc]
      rw [if_neg (by omega), if_neg (by omega), if_pos ⟨by decide, by decide⟩, if_pos trivial]
    · rw [List.getElem?_append_right (by omega), Nat.sub_self]; rfl
  · obtain ⟨y', M', h1, h2, h3⟩ := h.app' (bytes := 160) opE_one a (by omega) (by omega)
    exact ⟨y', M', h1, h2, h3⟩
structure Jo (S : Mem) (x y : AV) (env : Env) (l : List Opv) (M : Mem) : Prop where
  hS : S <+: M
  h1 : M[S.length + 2]? = some (.cells [x] 0 none true)
  h2 : M[S.length + 3]? = some (.cells [y] 0 none true)
  hd : M[S.length + 4]? = some (.dfr true)
  hl : M[S.length + 5]? = some (.loop 9 opsPath env .ready none)
  hb : ∃ z, M[S.length + 1]? = some (.cells [z] 0 none true) ∧ Lb S M z l
theorem Jo.grow {S : Mem} {x y : AV} {env : Env} {l : List Opv} {M : Mem} (J : Jo S x y env l M) (L : Mem) : Jo S x y env l (M ++ L) := by
  obtain ⟨z, hz, hL⟩ := J.hb
  exact ⟨ext_more J.hS L, at_old J.h1, at_old J.h2, at_old J.hd, at_old J.hl, z, at_old hz, hL.grow L⟩
theorem Lb.set {S M : Mem} {y : AV} {l : List Opv} (h : Lb S M y l) {ib : Nat} (hi : S.length < ib) {B : Blk} (hB : M[ib]? = some B) (hn : B.opn = none) (B' : Blk) : Lb S (M.set ib B') y l := by
  rcases h with ⟨h1, h2, h3, h4⟩ | h
  · exact .inl ⟨h1, h2, by rw [List.getElem?_set_ne (by omega)]; exact h3, ext_set h4 (by omega) _⟩
  · exact .inr (h.setB (by omega) hB hn B')
end Go.Proofs.Ytcoljpgnjiakjaa

namespace Go.Proofs.Ytcoljpgnjiakjaa
open Go.RowKit
set_option linter.unusedSimpArgs false
set_option linter.unusedVariables false
set_option maxRecDepth 10000

end Go.Proofs.Ytcoljpgnjiakjaa

namespace Go.Proofs.Ytcoljpgnjiakjaa
open Go.RowKit
set_option linter.unusedSimpArgs false
set_option linter.unusedVariables false
set_option maxRecDepth 10000

end Go.Proofs.Ytcoljpgnjiakjaa

namespace Go.Proofs.Ytcoljpgnjiakjaa
open Go.RowKit
set_option linter.unusedSimpArgs false
set_option linter.unusedVariables false
set_option maxRecDepth 10000

/-! ### Plain -/
end Go.Proofs.Ytcoljpgnjiakjaa

namespace Go.Proofs.Ytcoljpgnjiakjaa
open Go.RowKit
set_option linter.unusedSimpArgs false
set_option linter.unusedVariables false
set_option maxRecDepth 10000

theorem src_lst {α : Type} {E : Enc α} {S : Mem} {x : AV} {l : List α} (h : lstV E S x = some l) : srcV S E.sz x = some (l.flatMap E.enc, l.length) := by
  rcases lstV_lst h with ⟨rfl, rfl⟩ | ⟨rfl, rfl⟩ | ⟨i, o, v, len, cap, ex, rfl, rfl, hrow⟩
  · rfl
  · rfl
  · have hrow : rowB (S[i]?) o v (l.length * E.sz) = some (l.flatMap E.enc) := by rw [← rowAt_B]; exact hrow
    rw [src_sl, hrow, srcN_some]
end Go.Proofs.Ytcoljpgnjiakjaa

namespace Go.Proofs.Ytcoljpgnjiakjaa
open Go.RowKit
set_option linter.unusedSimpArgs false
set_option linter.unusedVariables false
set_option maxRecDepth 10000

/-- The list that is built: the empty literal, or a block of its own. -/
def Lm (i : Nat) (M1 M : Mem) (y : AV) (l : List Opv) : Prop := (l = [] ∧ y = .sl i 0 0 0 0 true ∧ M1 <+: M) ∨ Acc true opE M1 M y l
theorem Lm.ext {i : Nat} {M1 M : Mem} {y : AV} {l : List Opv} (h : Lm i M1 M y l) : M1 <+: M := by
  rcases h with ⟨_, _, h⟩ | h
  · exact h
  · exact h.ext
theorem Lm.grow {i : Nat} {M1 M : Mem} {y : AV} {l : List Opv} (h : Lm i M1 M y l) (U : Mem) : Lm i M1 (M ++ U) y l := by
  rcases h with ⟨h1, h2, h⟩ | h
  · exact .inl ⟨h1, h2, ext_more h U⟩
  · exact .inr (h.grow U)
theorem Lm.acc {S : Mem} {M1 M : Mem} {y : AV} {l : List Opv} (hS : S ++ [.cells [] 0 none true] <+: M1) (h : Lm S.length M1 M y l) : Acc true opE S M y l := by
  rcases h with ⟨rfl, rfl, h⟩ | h
  · exact (acc_lit ext_refl).extM (hS.trans h)
  · exact h.base ((ext_app _).trans hS)
theorem Lm.app {i : Nat} {M1 M : Mem} {y : AV} {l : List Opv} (hi : M1[i]? = some (.cells [] 0 none true)) (h : Lm i M1 M y l) (a : Opv) (hn : l.length ≤ 1000000) : ∃ y' M', appV M 19 160 y (opE.enc a) 1 = some (y', M') ∧ Lm i M1 M' y' (l ++ [a]) := by
  rcases h with ⟨rfl, rfl, h⟩ | h
  · have hc : rowAt M i 0 0 (0 * 19) = some [] := by rw [rowAt_B, at_pre h hi]; rfl
    obtain ⟨T, rfl⟩ := h
    refine ⟨.sl (M1 ++ T).length 0 0 1 1 false, (M1 ++ T) ++ [.cells (opE.enc a) 0 (some 19) true], ?_, .inr ⟨T ++ [.cells (opE.enc a) 0 (some 19) true], by rw [List.append_assoc], .inr (.inr ⟨by simp, T.length, 0, by rw [List.length_append]; rfl, ?_⟩)⟩⟩
    · simp only [appV, hc]
      rw [if_neg (by omega), if_neg (by omega), if_pos ⟨by decide, by decide⟩, if_pos trivial]
      rfl
    · rw [List.getElem?_append_right (by omega), Nat.sub_self]
      show some (Blk.cells (opE.enc a) 0 (some 19) true) = some (.cells ([a].flatMap opE.enc) 0 (some 19) true)
      simp
  · obtain ⟨y', M', h1, h2⟩ := h.app (bytes := 160) opE_one a (by omega) (by omega)
    exact ⟨y', M', h1, .inr h2⟩
end Go.Proofs.Ytcoljpgnjiakjaa

namespace Go.Proofs.Ytcoljpgnjiakjaa
open Go.RowKit
set_option linter.unusedSimpArgs false
set_option linter.unusedVariables false
set_option maxRecDepth 10000

/-- A value of one cell. -/
structure Sl where
  v : AV
  h : v.one = true
structure Oq where
  kind : Int
  sub : Int
  m : Int
  n : Int
  x : Sl
  pol : Pol
  y : Sl
def Oq.enc (o : Oq) : List AV := [.i .i64 o.kind, .i .i64 o.sub, .i .i64 o.m, .i .u64 o.n, o.x.v, .i .i64 o.pol.sub, .i .u8 o.pol.a, .i .u8 o.pol.b, .i .u8 o.pol.c, .i .u8 o.pol.d, .i .i64 o.pol.bits, .i .u64 o.pol.rate, .i .u64 o.pol.burst, .i .u64 o.pol.srate, .i .u64 o.pol.sburst, .i .u64 o.pol.quota, .i .u64 o.pol.lease, .i .u64 o.pol.quantum, o.y.v]
def oqE : Enc Oq where
  enc := Oq.enc
  dec r := match r with
    | [.i .i64 k, .i .i64 s, .i .i64 m, .i .u64 n, x, .i .i64 sub, .i .u8 a, .i .u8 b, .i .u8 c, .i .u8 d, .i .i64 bits, .i .u64 rate, .i .u64 burst, .i .u64 srate, .i .u64 sburst, .i .u64 quota, .i .u64 lease, .i .u64 quantum, y] =>
      if h : x.one = true ∧ y.one = true then some ⟨k, s, m, n, ⟨x, h.1⟩, ⟨sub, a, b, c, d, bits, rate, burst, srate, sburst, quota, lease, quantum⟩, ⟨y, h.2⟩⟩ else none
    | _ => none
  sz := 19
  pos := by decide
  len _ := rfl
  de a := by
    obtain ⟨k, s, m, n, ⟨x, hx⟩, p, ⟨y, hy⟩⟩ := a
    simp only [Oq.enc]
    rw [dif_pos ⟨hx, hy⟩]
  ed r a h := by
    split at h
    · split at h
      · injection h with h; subst h; rfl
      · cases h
    · cases h
def putF (p : Pol) : List Pol → List Pol
  | [] => [p]
  | q :: l => if q.sub < p.sub then q :: putF p l else if q.sub = p.sub then p :: l else p :: q :: l
def dropF (n : Int) (l : List Pol) : List Pol := l.filter fun p => decide (p.sub ≠ n)
def stepQ (l : List Pol) (o : Oq) : List Pol := if o.kind = 4 then putF o.pol l else if o.kind = 5 then dropF o.sub l else l
def applyF (l : List Pol) (ops : List Oq) : List Pol := ops.foldl stepQ l
theorem ris_tail {q : Pol} {l : List Pol} (h : Ris (q :: l)) : (∀ p ∈ l, q.sub < p.sub) ∧ Ris l := List.pairwise_cons.1 h
theorem mem_putF {p : Pol} : ∀ {l : List Pol} {r : Pol}, r ∈ putF p l → r = p ∨ r ∈ l := by
  intro l
  induction l with
  | nil => intro r h; left; simpa [putF] using h
  | cons q l ih =>
    intro r h
    simp only [putF] at h
    split at h
    · rcases List.mem_cons.1 h with rfl | h
      · right; exact List.mem_cons_self
      · rcases ih h with h | h
        · exact .inl h
        · exact .inr (List.mem_cons_of_mem _ h)
    · split at h
      · rcases List.mem_cons.1 h with rfl | h
        · exact .inl rfl
        · exact .inr (List.mem_cons_of_mem _ h)
      · rcases List.mem_cons.1 h with rfl | h
        · exact .inl rfl
        · exact .inr h
theorem ris_put {p : Pol} : ∀ {l : List Pol}, Ris l → Ris (putF p l) := by
  intro l
  induction l with
  | nil => intro _; exact List.pairwise_singleton _ _
  | cons q l ih =>
    intro h
    obtain ⟨h1, h2⟩ := ris_tail h
    simp only [putF]
    split
    · rename_i hlt
      refine List.pairwise_cons.2 ⟨fun r hr => ?_, ih h2⟩
      rcases mem_putF hr with rfl | hr
      · exact hlt
      · exact h1 r hr
    · split
      · rename_i hq
        exact List.pairwise_cons.2 ⟨fun r hr => by rw [← hq]; exact h1 r hr, h2⟩
      · rename_i hn hq
        refine List.pairwise_cons.2 ⟨fun r hr => ?_, h⟩
        rcases List.mem_cons.1 hr with rfl | hr
        · omega
        · have := h1 r hr; omega
theorem ris_drop {n : Int} {l : List Pol} (h : Ris l) : Ris (dropF n l) := List.Pairwise.filter _ h
theorem ris_step {o : Oq} {l : List Pol} (h : Ris l) : Ris (stepQ l o) := by
  unfold stepQ
  split
  · exact ris_put h
  · split
    · exact ris_drop h
    · exact h
theorem put_len (p : Pol) : ∀ l : List Pol, (putF p l).length ≤ l.length + 1 := by
  intro l
  induction l with
  | nil => simp [putF]
  | cons q l ih =>
    simp only [putF]
    split
    · simp only [List.length_cons]; omega
    · split <;> simp
theorem step_len {o : Oq} {l : List Pol} : (stepQ l o).length ≤ l.length + 1 := by
  unfold stepQ
  split
  · exact put_len _ _
  · split
    · have : (dropF o.sub l).length ≤ l.length := List.length_filter_le _ _
      omega
    · omega
theorem bidx_cons {q : Pol} {l : List Pol} {n : Int} : bidx (q :: l) n = if q.sub < n then bidx l n + 1 else 0 := by
  unfold bidx
  by_cases h : q.sub < n
  · rw [if_pos h, List.takeWhile_cons_of_pos (by simpa using h)]; rfl
  · rw [if_neg h, List.takeWhile_cons_of_neg (by simpa using h)]; rfl
theorem bfound_cons {q : Pol} {l : List Pol} {n : Int} : bfound (q :: l) n = (decide (q.sub = n) || bfound l n) := by
  unfold bfound; rw [List.any_cons]
theorem bfound_no {l : List Pol} {n : Int} (h : ∀ p ∈ l, n < p.sub) : bfound l n = false := by
  unfold bfound
  rw [List.any_eq_false]
  intro p hp
  have := h p hp
  simp; omega
theorem bidx_le {l : List Pol} {n : Int} : bidx l n ≤ l.length := (List.takeWhile_prefix _).length_le
theorem bidx_lt {n : Int} : ∀ {l : List Pol}, Ris l → bfound l n = true → bidx l n < l.length
  | [], _, h => by cases h
  | q :: l, hr, h => by
    obtain ⟨h1, h2⟩ := ris_tail hr
    rw [bidx_cons]
    split
    · rename_i hlt
      rw [bfound_cons, decide_eq_false (by omega), Bool.false_or] at h
      have := bidx_lt h2 h
      simp only [List.length_cons]; omega
    · simp
theorem put_found {p : Pol} : ∀ {l : List Pol}, Ris l → bfound l p.sub = true → l.set (bidx l p.sub) p = putF p l
  | [], _, h => by cases h
  | q :: l, hr, h => by
    obtain ⟨h1, h2⟩ := ris_tail hr
    rw [bidx_cons, putF]
    by_cases hlt : q.sub < p.sub
    · rw [bfound_cons, decide_eq_false (by omega), Bool.false_or] at h
      rw [if_pos hlt, if_pos hlt, List.set_cons_succ, put_found h2 h]
    · rw [if_neg hlt, if_neg hlt, List.set_cons_zero]
      by_cases he : q.sub = p.sub
      · rw [if_pos he]
      · rw [bfound_cons, decide_eq_false he, Bool.false_or, bfound_no (fun r hr => by have := h1 r hr; omega)] at h
        cases h
theorem put_not {p : Pol} : ∀ {l : List Pol}, Ris l → bfound l p.sub = false → l.take (bidx l p.sub) ++ p :: l.drop (bidx l p.sub) = putF p l
  | [], _, h => rfl
  | q :: l, hr, h => by
    obtain ⟨h1, h2⟩ := ris_tail hr
    rw [bfound_cons, Bool.or_eq_false_iff] at h
    have hne : q.sub ≠ p.sub := of_decide_eq_false h.1
    rw [bidx_cons, putF]
    by_cases hlt : q.sub < p.sub
    · rw [if_pos hlt, if_pos hlt, List.take_succ_cons, List.drop_succ_cons, List.cons_append, put_not h2 h.2]
    · rw [if_neg hlt, if_neg hlt, if_neg hne]; rfl
theorem drop_found {n : Int} : ∀ {l : List Pol}, Ris l → bfound l n = true → l.eraseIdx (bidx l n) = dropF n l
  | [], _, h => by cases h
  | q :: l, hr, h => by
    obtain ⟨h1, h2⟩ := ris_tail hr
    rw [bidx_cons]
    unfold dropF
    by_cases hlt : q.sub < n
    · rw [bfound_cons, decide_eq_false (by omega), Bool.false_or] at h
      rw [if_pos hlt, List.eraseIdx_cons_succ, drop_found h2 h, List.filter_cons_of_pos (by simp; omega)]; rfl
    · rw [if_neg hlt, List.eraseIdx_cons_zero]
      by_cases he : q.sub = n
      · rw [List.filter_cons_of_neg (by simpa using he)]
        symm
        rw [List.filter_eq_self]
        intro p hp
        have := h1 p hp
        simp; omega
      · rw [bfound_cons, decide_eq_false he, Bool.false_or, bfound_no (fun r hr => by have := h1 r hr; omega)] at h
        cases h
theorem drop_not {n : Int} {l : List Pol} (h : bfound l n = false) : dropF n l = l := by
  unfold dropF
  rw [List.filter_eq_self]
  intro p hp
  unfold bfound at h
  rw [List.any_eq_false] at h
  have := h p hp
  simpa using this
theorem ris_of {n : Int} : ∀ {l : List Pol}, risF n l = true → Ris l
  | [], _ => List.Pairwise.nil
  | p :: l, h => List.pairwise_cons.2 ⟨fun q hq => ris_gt (ris_cons h).2 q hq, ris_of (ris_cons h).2⟩

/-! ### States -/
theorem flat_set {l : List Pol} {k : Nat} (hk : k < l.length) (p : Pol) (junk : List AV) : (l.flatMap polE.enc ++ junk).take (k * 13) ++ (p.enc ++ (l.flatMap polE.enc ++ junk).drop (k * 13 + 13)) = (l.set k p).flatMap polE.enc ++ junk := by
  have h1 : (l.flatMap polE.enc).take (k * 13) = (l.take k).flatMap polE.enc := flat_take (E := polE) l k
  have h2 : (l.flatMap polE.enc).drop ((k + 1) * 13) = (l.drop (k + 1)).flatMap polE.enc := flat_drop (E := polE) l (k + 1)
  have hlen := flat13 l
  rw [List.take_append_of_le_length (by omega), List.drop_append_of_le_length (by omega), show k * 13 + 13 = (k + 1) * 13 by omega, h1, h2, List.set_eq_take_append_cons_drop, if_pos hk, List.flatMap_append, List.flatMap_cons]
  show _ = _ ++ (p.enc ++ _) ++ junk
  simp only [List.append_assoc]
/-- The list in a block of its own, with room behind. -/
def Own (M : Mem) (i v cap : Nat) (junk : List AV) (l : List Pol) : Prop := l.length ≤ cap ∧ junk.length = (cap - l.length) * 13 ∧ M[i]? = some (.cells (l.flatMap polE.enc ++ junk) v (some 13) true)
theorem Own.grow {M : Mem} {i v cap : Nat} {junk : List AV} {l : List Pol} (h : Own M i v cap junk l) (U : Mem) : Own (M ++ U) i v cap junk l := ⟨h.1, h.2.1, at_old h.2.2⟩
theorem Own.len {M : Mem} {i v cap : Nat} {junk : List AV} {l : List Pol} (h : Own M i v cap junk l) : (l.flatMap polE.enc ++ junk).length = cap * 13 := by
  obtain ⟨h1, h2, _⟩ := h
  rw [List.length_append, flat13, h2, ← Nat.add_mul]; congr 1; omega
theorem Own.lst {M : Mem} {i v cap : Nat} {junk : List AV} {l : List Pol} {ex : Bool} (h : Own M i v cap junk l) : lstV polE M (.sl i 0 v l.length cap ex) = some l := by
  refine lst_lstV (.inr (.inr ⟨_, _, _, _, _, _, rfl, rfl, ?_⟩))
  rw [rowAt_B, h.2.2, rowB_some, if_pos (by rw [List.length_append, enc_length]; omega), List.drop_zero, ← enc_length, List.take_left]
theorem Own.dec {M : Mem} {i v cap : Nat} {junk : List AV} {l : List Pol} (h : Own M i v cap junk l) : decL polE l.length ((l.flatMap polE.enc ++ junk).take (l.length * 13)) = some l := by
  rw [← flat13, List.take_left]; exact decL_enc l
theorem noX_own {M : Mem} {i v n cap : Nat} {ex : Bool} {cs : List AV} (hB : M[i]? = some (.cells cs v (some 13) true)) : noX M (.sl i 0 v n cap ex) = false := by
  rw [Bool.eq_false_iff]
  intro q
  rcases noX_cases q with h | ⟨i', h, hB'⟩
  · cases h
  · cases h
    rw [hB] at hB'
    cases hB'
/-- An insertion: in the same block, or in a new one. -/
def Moved (M : Mem) (i i' : Nat) (M' : Mem) : Prop := (i' = i ∧ ∃ B, M' = M.set i B) ∨ (M.length ≤ i' ∧ M <+: M')
theorem Own.ins {M : Mem} {i v cap j : Nat} {junk : List AV} {l : List Pol} (h : Own M i v cap junk l) {k : Nat} (hk : k ≤ l.length) (hl : l.length ≤ 900000) (p : Pol) (hJ : M[j]? = some (.cells p.enc 0 none true)) :
    ∃ M' i' v' cap' ex' junk', insS [.sl i 0 v l.length cap true, .i .i64 k, .sl j 0 0 1 1 true] M = some (.sl i' 0 v' (l.take k ++ p :: l.drop k).length cap' ex', M') ∧
      Own M' i' v' cap' junk' (l.take k ++ p :: l.drop k) ∧ Moved M i i' M' := by
  have hB := h.2.2
  have hlen := h.len
  have hd := h.dec
  have h1 := h.1
  have h2 := h.2.1
  have hll : (l.take k ++ p :: l.drop k).length = l.length + 1 := by rw [List.length_append, List.length_cons, List.length_take, List.length_drop]; omega
  have hij : i ≠ j := by
    rintro rfl
    have hq := congrArg (Option.map Blk.opn) (hB.symm.trans hJ)
    simp [Blk.opn] at hq
  have hp : polE.dec p.enc = some p := polE.de p
  have hno : ¬ noX M (.sl i 0 v l.length cap true) = true := by rw [noX_own hB]; simp
  by_cases hroom : l.length + 1 ≤ cap
  · refine ⟨_, i, v, cap, true, junk.drop 13, ?_, ⟨by rw [hll]; exact hroom, by rw [List.length_drop, h2, hll]; omega, at_set hB⟩, .inl ⟨rfl, _, rfl⟩⟩
    simp only [insS, hJ, hp]
    rw [if_neg hno]
    simp only [hB, hd]
    rw [if_pos ⟨trivial, hlen, h1, hij, by omega, by omega, hl⟩, if_pos hroom, Int.toNat_natCast, hll]
    have e1 : (l.flatMap polE.enc ++ junk).drop ((l.length + 1) * 13) = junk.drop 13 := by
      rw [List.drop_append, List.drop_of_length_le (by rw [flat13]; omega), List.nil_append, flat13]; congr 1; omega
    rw [e1]
  · refine ⟨M ++ [.cells ((l.take k ++ p :: l.drop k).flatMap polE.enc) 0 (some 13) true], M.length, 0, l.length + 1, false, [], ?_, ⟨by rw [hll]; exact Nat.le_refl _, by rw [hll]; simp, by rw [at_app0, List.append_nil]; rfl⟩, .inr ⟨Nat.le_refl _, ext_app _⟩⟩
    simp only [insS, hJ, hp]
    rw [if_neg hno]
    simp only [hB, hd]
    rw [if_pos ⟨trivial, hlen, h1, hij, by omega, by omega, hl⟩, if_neg hroom, Int.toNat_natCast, hll]
theorem ins_new {M : Mem} {x : AV} {j : Nat} (h : noX M x = true) (p : Pol) (hJ : M[j]? = some (.cells p.enc 0 none true)) :
    insS [x, .i .i64 0, .sl j 0 0 1 1 true] M = some (.sl M.length 0 0 1 1 false, M ++ [.cells p.enc 0 (some 13) true]) := by
  have hp : polE.dec p.enc = some p := polE.de p
  simp only [insS, hJ, hp]
  rw [if_pos h, if_pos trivial]
theorem Own.del {M : Mem} {i v cap : Nat} {junk : List AV} {l : List Pol} (h : Own M i v cap junk l) {k : Nat} (hk : k < l.length) (hl : l.length ≤ 900000) :
    ∃ M' junk', delS [.sl i 0 v l.length cap true, .i .i64 k, .i .i64 ((k : Int) + 1)] M = some (.sl i 0 v (l.eraseIdx k).length cap true, M') ∧ Own M' i v cap junk' (l.eraseIdx k) ∧ ∃ B, M' = M.set i B := by
  have hB := h.2.2
  have hlen := h.len
  have hd := h.dec
  have h1 := h.1
  have h2 := h.2.1
  have hll : (l.eraseIdx k).length = l.length - 1 := List.length_eraseIdx_of_lt hk
  refine ⟨_, zero13 ++ junk, ?_, ⟨by rw [hll]; omega, ?_, at_set hB⟩, _, rfl⟩
  · simp only [delS, hB, hd]
    rw [if_pos ⟨trivial, hlen, h1, by omega, by omega, trivial, hl⟩, Int.toNat_natCast, hll]
    have e1 : (l.flatMap polE.enc ++ junk).drop (l.length * 13) = junk := by rw [← flat13, List.drop_left]
    rw [e1, List.append_assoc]
  · rw [List.length_append, h2, hll]
    show 13 + _ = _
    omega
theorem Own.store {M : Mem} {i v cap : Nat} {junk : List AV} {l : List Pol} (h : Own M i v cap junk l) {k : Nat} (hk : k < l.length) (p : Pol) :
    Own (M.set i (.cells ((l.flatMap polE.enc ++ junk).take (k * 13) ++ (p.enc ++ (l.flatMap polE.enc ++ junk).drop (k * 13 + 13))) v (some 13) true)) i v cap junk (l.set k p) := by
  obtain ⟨h1, h2, hB⟩ := h
  rw [flat_set hk]
  exact ⟨by rw [List.length_set]; exact h1, by rw [List.length_set]; exact h2, at_set hB⟩
theorem Own.reveal {M : Mem} {i v cap : Nat} {junk : List AV} {l : List Pol} (h : Own M i v cap junk l) {c : Nat} (hc : cap ≤ c) :
    Own (M.set i (.cells (l.flatMap polE.enc ++ junk ++ List.replicate ((c - cap) * 13) .u) v (some 13) true)) i v c (junk ++ List.replicate ((c - cap) * 13) .u) l := by
  obtain ⟨h1, h2, hB⟩ := h
  refine ⟨by omega, ?_, by rw [at_set hB, List.append_assoc]⟩
  rw [List.length_append, List.length_replicate, h2, ← Nat.add_mul]; congr 1; omega
end Go.Proofs.Ytcoljpgnjiakjaa

namespace Go.Proofs.Ytcoljpgnjiakjaa
open Go.RowKit
set_option linter.unusedSimpArgs false
set_option linter.unusedVariables false
set_option maxRecDepth 10000

def cloneS : Spec := fun args S => match args with
  | [.sn] => some (.sn, S)
  | [x] => match lstV polE S x with
    | some l => if l.length ≤ 900000 then some (retX true S l, retM true polE S l) else none
    | none => none
  | _ => none
theorem clone_ok : SpecOK Try.prog 18 cloneS := by
  intro args S x S' h
  simp only [cloneS] at h
  split at h
  · cases h
    refine fn_of_wp f18 rfl (W_sound none_ok mixed _ _ _ _ _ ?_)
    simp (maxSteps := 1000000) (disch := omega) only [c18, go_sem, Option.map_none, Option.map_some, ↓reduceIte, Nat.reduceBEq, Nat.reduceAdd, Nat.reduceSub, Nat.reduceEqDiff, Nat.reduceLeDiff, Nat.reduceMul, Nat.reduceLT, Int.reduceLT, Int.reduceLE, Int.reduceAdd, Int.reduceSub, Int.reduceMul, Int.reduceNeg, Int.reduceEq, Int.reduceNe, Int.reduceToNat, decide_true, decide_false, iaddr_i, iaddr_sl_i, not_true_eq_false, not_false_eq_true, reduceCtorEq, ne_eq, forall_const, false_imp_iff, true_imp_iff, implies_true, Int.cast_ofNat_Int, Int.natCast_zero, Int.natCast_one, Int.add_zero, Int.zero_add]
    exact wkv_same
  · rename_i y hy
    split at h
    · rename_i l hl
      split at h
      · rename_i hlim
        cases h
        have hs : ∀ L, srcV (S ++ L) 13 y = some (l.flatMap polE.enc, l.length) := fun L => src_lst (lstV_grow hl L)
        obtain ⟨X1, M1, hap1, hX1⟩ := (acc_lit (E := polE) (S := S) (M := S) ext_refl).apps (bytes := 80) polE_one l (by simp only [List.length_nil]; omega) (by simp only [List.length_nil]; omega)
        rw [List.nil_append] at hX1
        have hap1 : appV (S ++ [.cells [] 0 none true]) 13 80 (.sl S.length 0 0 0 0 true) (l.flatMap polE.enc) l.length = some (X1, M1) := hap1
        refine fn_of_wp f18 rfl (W_sound none_ok mixed _ _ _ _ _ ?_)
        rcases lstV_lst hl with ⟨rfl, rfl⟩ | ⟨rfl, rfl⟩ | ⟨i, o, v, len, cap, ex, rfl, h1, h3⟩
        · exact absurd rfl hy
        · simp (maxSteps := 1000000) (disch := omega) only [c18, hs, hap1, go_sem, Option.map_none, Option.map_some, ↓reduceIte, Nat.reduceBEq, Nat.reduceAdd, Nat.reduceSub, Nat.reduceEqDiff, Nat.reduceLeDiff, Nat.reduceMul, Nat.reduceLT, Int.reduceLT, Int.reduceLE, Int.reduceAdd, Int.reduceSub, Int.reduceMul, Int.reduceNeg, Int.reduceEq, Int.reduceNe, Int.reduceToNat, decide_true, decide_false, iaddr_i, iaddr_sl_i, not_true_eq_false, not_false_eq_true, reduceCtorEq, ne_eq, forall_const, false_imp_iff, true_imp_iff, implies_true, Int.cast_ofNat_Int, Int.natCast_zero, Int.natCast_one, Int.add_zero, Int.zero_add]
          exact (acc_lit (E := polE) ext_refl).ret polE_flat
        · simp (maxSteps := 1000000) (disch := omega) only [c18, hs, hap1, go_sem, Option.map_none, Option.map_some, ↓reduceIte, Nat.reduceBEq, Nat.reduceAdd, Nat.reduceSub, Nat.reduceEqDiff, Nat.reduceLeDiff, Nat.reduceMul, Nat.reduceLT, Int.reduceLT, Int.reduceLE, Int.reduceAdd, Int.reduceSub, Int.reduceMul, Int.reduceNeg, Int.reduceEq, Int.reduceNe, Int.reduceToNat, decide_true, decide_false, iaddr_i, iaddr_sl_i, not_true_eq_false, not_false_eq_true, reduceCtorEq, ne_eq, forall_const, false_imp_iff, true_imp_iff, implies_true, Int.cast_ofNat_Int, Int.natCast_zero, Int.natCast_one, Int.add_zero, Int.zero_add]
          exact hX1.ret polE_flat
      · cases h
    · cases h
  · cases h
def tch (l : List Pol) (ops : List Oq) : Bool := !l.isEmpty || ops.any fun o => decide (o.kind = 4)
/-- The list: in no block yet, or in a block of its own. -/
def Px (S M : Mem) (x0 : AV) (t : Bool) (x : AV) (l : List Pol) : Prop := S <+: M ∧ ((t = false ∧ l = [] ∧ x = x0 ∧ noX M x0 = true) ∨ (t = true ∧ ∃ i v cap ex junk, S.length ≤ i ∧ x = .sl i 0 v l.length cap ex ∧ Own M i v cap junk l))
def apI (S : Mem) (xo x0 : AV) (ops : List Oq) (l0 : List Pol) : Nat → Env → Mem → List Nat → Prop := fun j e M dl => dl = [] ∧ ∃ (k : Nat) (l : List Pol) (x : AV), j = ops.length - k ∧ k ≤ ops.length ∧ l = applyF l0 (ops.take k) ∧ Px S M x0 (tch l0 (ops.take k)) x l ∧
  e.get 13 = xo ∧ e.get 14 = .i .i64 ops.length ∧ e.get 15 = .i .i64 k ∧ e.get 5 = x
theorem apply_succ {l0 : List Pol} {ops : List Oq} {k : Nat} (hk : k < ops.length) : applyF l0 (ops.take (k + 1)) = stepQ (applyF l0 (ops.take k)) ops[k] := by
  unfold applyF
  rw [List.take_succ_eq_append_getElem hk, List.foldl_append]; rfl
theorem tch_succ {l0 : List Pol} {ops : List Oq} {k : Nat} (hk : k < ops.length) : tch l0 (ops.take (k + 1)) = (tch l0 (ops.take k) || decide (ops[k].kind = 4)) := by
  unfold tch
  rw [List.take_succ_eq_append_getElem hk, List.any_append, Bool.or_assoc]; simp
theorem oAp_ok : OK Try.prog (lamOf Try.prog) (orcOf [(18, cloneS), (19, bsS), (22, insS), (23, delS), (24, sstS)]) := orc_ok (by simpa using ⟨clone_ok, bs_ok, ins_ok, del_ok, sst_ok⟩)
theorem bs_eq {S : Mem} {x : AV} {l : List Pol} (hl : lstV polE S x = some l) (h1 : l.length ≤ 900000) (h2 : Ris l) (n : Int) : bsS [x, .i .i64 n, .f (.func 20) [] []] S = some (.tu [.i .i64 (bidx l n), .b (bfound l n)], S) := by
  simp only [bsS, hl]
  rw [if_pos ⟨rfl, h1, h2⟩]
section
variable {S M : Mem} {xo x0 : AV} {ops : List Oq} {l0 : List Pol} {k : Nat} {E : Env} {Q : Kont}
set_option maxHeartbeats 1000000 in
theorem round_none (hops : lstV oqE S xo = some ops) (hk : k < ops.length) (hlim : ops.length ≤ 400000) (hl : applyF l0 (ops.take k) = []) (ht : tch l0 (ops.take k) = false) (hSM : S <+: M) (hno : noX M x0 = true)
    (g13 : E.get 13 = xo) (g14 : E.get 14 = .i .i64 ops.length) (g15 : E.get 15 = .i .i64 k) (g5 : E.get 5 = x0) : WP Try.prog S false c11l0 E M [] (loopK (ops.length - k) (apI S xo x0 ops l0) Q) := by
  obtain ⟨bi, o, v, cap, ex, rfl⟩ := lst_sl hops hk
  have hro := lstV_row (lst_ext hops hSM) hk []
  rw [List.append_nil] at hro
  have hkI : (k : Int) < ops.length := by omega
  have hk6 : k < 1000000 := by omega
  have hs1 := apply_succ (l0 := l0) hk
  have hs2 := tch_succ (l0 := l0) hk
  rw [hl] at hs1
  rw [ht, Bool.false_or] at hs2
  have hro : rowB (M[bi]?) (o + k * 19) v 19 = some (ops[k]).enc := hro
  generalize ops[k] = q at hro hs1 hs2
  obtain ⟨kind, sub, m, n, ⟨ox, hox⟩, pol, ⟨oy, hoy⟩⟩ := q
  simp only [Oq.enc] at hro
  have hlst : lstV polE M x0 = some [] := by
    rcases noX_cases hno with rfl | ⟨i, rfl, hB⟩
    · rfl
    · refine lst_lstV (.inr (.inr ⟨_, _, _, _, _, _, rfl, rfl, ?_⟩))
      rw [rowAt_B, hB]; rfl
  have hno' : ∀ L, noX (M ++ L) x0 = true := fun L => by
    rcases noX_cases hno with rfl | ⟨i, rfl, hB⟩
    · rfl
    · have hB' := at_old (L := L) hB
      simp only [noX, hB']
  have hbs : ∀ L id, bsS [x0, .i .i64 id, .f (.func 20) [] []] (M ++ L) = some (.tu [.i .i64 0, .b false], M ++ L) := fun L id => by
    have := bs_eq (lstV_grow hlst L) (by simp) List.Pairwise.nil id
    rw [this]; rfl
  refine W_sound oAp_ok mixed _ _ _ _ _ ?_
  by_cases hk4 : kind = 4
  · subst hk4
    have hin := ins_new (hno' [.cells [.i .i64 4, .i .i64 sub, .i .i64 m, .i .u64 n, ox, .i .i64 pol.sub, .i .u8 pol.a, .i .u8 pol.b, .i .u8 pol.c, .i .u8 pol.d, .i .i64 pol.bits, .i .u64 pol.rate, .i .u64 pol.burst, .i .u64 pol.srate, .i .u64 pol.sburst, .i .u64 pol.quota, .i .u64 pol.lease, .i .u64 pol.quantum, oy] 0 none true, .cells pol.enc 0 none true]) pol (j := M.length + 1) (by simp)
    simp only [Pol.enc] at hin
    simp (maxSteps := 1000000) (disch := omega) only [c11l0, g13, g14, g15, g5, hkI, Int.toNat_natCast, hro, List.replicate, hox, hoy, orc_cons, hbs, hin, wrapS hk6, go_sem, Option.map_none, Option.map_some, ↓reduceIte, Nat.reduceBEq, Nat.reduceAdd, Nat.reduceSub, Nat.reduceEqDiff, Nat.reduceLeDiff, Nat.reduceMul, Nat.reduceLT, Int.reduceLT, Int.reduceLE, Int.reduceAdd, Int.reduceSub, Int.reduceMul, Int.reduceNeg, Int.reduceEq, Int.reduceNe, Int.reduceToNat, decide_true, decide_false, iaddr_i, iaddr_sl_i, not_true_eq_false, not_false_eq_true, reduceCtorEq, ne_eq, forall_const, false_imp_iff, true_imp_iff, implies_true, Int.cast_ofNat_Int, Int.natCast_zero, Int.natCast_one, Int.add_zero, Int.zero_add]
    exact ⟨ops.length - (k + 1), by omega, rfl, k + 1, [pol], _, rfl, hk, by rw [hs1]; rfl, ⟨ext_more hSM _, .inr ⟨by rw [hs2]; rfl, M.length + 2, 0, 1, false, [], by have := hSM.length_le; omega, rfl, Nat.le_refl _, rfl, by simp [polE, Pol.enc]⟩⟩, rfl, rfl, rfl, rfl⟩
  · by_cases hk5 : kind = 5
    · subst hk5
      simp (maxSteps := 1000000) (disch := omega) only [c11l0, g13, g14, g15, g5, hkI, Int.toNat_natCast, hro, List.replicate, hox, hoy, orc_cons, hbs, wrapS hk6, go_sem, Option.map_none, Option.map_some, ↓reduceIte, Nat.reduceBEq, Nat.reduceAdd, Nat.reduceSub, Nat.reduceEqDiff, Nat.reduceLeDiff, Nat.reduceMul, Nat.reduceLT, Int.reduceLT, Int.reduceLE, Int.reduceAdd, Int.reduceSub, Int.reduceMul, Int.reduceNeg, Int.reduceEq, Int.reduceNe, Int.reduceToNat, decide_true, decide_false, iaddr_i, iaddr_sl_i, not_true_eq_false, not_false_eq_true, reduceCtorEq, ne_eq, forall_const, false_imp_iff, true_imp_iff, implies_true, Int.cast_ofNat_Int, Int.natCast_zero, Int.natCast_one, Int.add_zero, Int.zero_add]
      exact ⟨ops.length - (k + 1), by omega, rfl, k + 1, [], _, rfl, hk, by rw [hs1]; rfl, ⟨ext_more hSM _, .inl ⟨by rw [hs2]; rfl, rfl, rfl, hno' _⟩⟩, rfl, rfl, rfl, rfl⟩
    · simp (maxSteps := 1000000) (disch := omega) only [c11l0, g13, g14, g15, g5, hkI, Int.toNat_natCast, hro, List.replicate, hox, hoy, orc_cons, hbs, wrapS hk6, hk4, hk5, go_sem, Option.map_none, Option.map_some, ↓reduceIte, Nat.reduceBEq, Nat.reduceAdd, Nat.reduceSub, Nat.reduceEqDiff, Nat.reduceLeDiff, Nat.reduceMul, Nat.reduceLT, Int.reduceLT, Int.reduceLE, Int.reduceAdd, Int.reduceSub, Int.reduceMul, Int.reduceNeg, Int.reduceEq, Int.reduceNe, Int.reduceToNat, decide_true, decide_false, iaddr_i, iaddr_sl_i, not_true_eq_false, not_false_eq_true, reduceCtorEq, ne_eq, forall_const, false_imp_iff, true_imp_iff, implies_true, Int.cast_ofNat_Int, Int.natCast_zero, Int.natCast_one, Int.add_zero, Int.zero_add]
      exact ⟨ops.length - (k + 1), by omega, rfl, k + 1, [], _, rfl, hk, by rw [hs1]; simp only [stepQ]; rw [if_neg hk4, if_neg hk5], ⟨ext_more hSM _, .inl ⟨by rw [hs2]; exact decide_eq_false hk4, rfl, rfl, hno' _⟩⟩, rfl, rfl, rfl, rfl⟩
theorem moved_ext {i i' : Nat} {M' : Mem} (hS : S <+: M) (hi : S.length ≤ i) (h : Moved M i i' M') : S <+: M' ∧ S.length ≤ i' := by
  rcases h with ⟨rfl, B, rfl⟩ | ⟨h1, h2⟩
  · exact ⟨ext_set hS hi B, hi⟩
  · exact ⟨hS.trans h2, Nat.le_trans hS.length_le h1⟩
set_option maxHeartbeats 2000000 in
theorem round_own {l : List Pol} {i v cap : Nat} {junk : List AV} (hops : lstV oqE S xo = some ops) (hk : k < ops.length) (hlim : ops.length ≤ 400000) (hl : applyF l0 (ops.take k) = l) (hr : Ris l) (hll : l.length ≤ 900000) (ht : tch l0 (ops.take k) = true) (hSM : S <+: M) (hi : S.length ≤ i) (hO : Own M i v cap junk l)
    (g13 : E.get 13 = xo) (g14 : E.get 14 = .i .i64 ops.length) (g15 : E.get 15 = .i .i64 k) (g5 : E.get 5 = .sl i 0 v l.length cap true) : WP Try.prog S false c11l0 E M [] (loopK (ops.length - k) (apI S xo x0 ops l0) Q) := by
  obtain ⟨bi, o, v2, cap2, ex2, rfl⟩ := lst_sl hops hk
  have hro := lstV_row (lst_ext hops hSM) hk []
  rw [List.append_nil] at hro
  have hkI : (k : Int) < ops.length := by omega
  have hk6 : k < 1000000 := by omega
  have hs1 := apply_succ (l0 := l0) hk
  have hs2 := tch_succ (l0 := l0) hk
  rw [hl] at hs1
  rw [ht, Bool.true_or] at hs2
  have hro : rowB (M[bi]?) (o + k * 19) v2 19 = some (ops[k]).enc := hro
  generalize ops[k] = q at hro hs1 hs2
  obtain ⟨kind, sub, m, n, ⟨ox, hox⟩, pol, ⟨oy, hoy⟩⟩ := q
  simp only [Oq.enc] at hro
  have hbs : ∀ L id, bsS [.sl i 0 v l.length cap true, .i .i64 id, .f (.func 20) [] []] (M ++ L) = some (.tu [.i .i64 (bidx l id), .b (bfound l id)], M ++ L) := fun L id => bs_eq (hO.grow L).lst hll hr id
  refine W_sound oAp_ok mixed _ _ _ _ _ ?_
  obtain ⟨box, hbox⟩ : ∃ box : Blk, box = .cells [.i .i64 kind, .i .i64 sub, .i .i64 m, .i .u64 n, ox, .i .i64 pol.sub, .i .u8 pol.a, .i .u8 pol.b, .i .u8 pol.c, .i .u8 pol.d, .i .i64 pol.bits, .i .u64 pol.rate, .i .u64 pol.burst, .i .u64 pol.srate, .i .u64 pol.sburst, .i .u64 pol.quota, .i .u64 pol.lease, .i .u64 pol.quantum, oy] 0 none true := ⟨_, rfl⟩
  by_cases hk4 : kind = 4
  · subst hk4
    have hs1 : applyF l0 (ops.take (k + 1)) = putF pol l := hs1
    have hbs4 := fun L => hbs L pol.sub
    cases hf : bfound l pol.sub with
    | true =>
      have hbi := bidx_lt hr hf
      have hput := put_found hr hf
      rw [hput.symm] at hs1
      generalize bidx l pol.sub = ix at hbs4 hbi hs1
      rw [hf] at hbs4
      have hO1 := (hO.grow [box]).store hbi pol
      have hOl := hO.len
      have hB := (hO.grow [box]).2.2
      have hcs : ix * 13 + 13 ≤ (l.flatMap polE.enc ++ junk).length := by rw [hOl]; have := hO.1; omega
      rw [hbox] at hB hO1
      generalize l.flatMap polE.enc ++ junk = cs at hO1 hOl hB hcs
      have hixI : (ix : Int) < l.length := by omega
      simp only [Pol.enc] at hO1
      simp (maxSteps := 1000000) (disch := omega) only [c11l0, g13, g14, g15, g5, hkI, Int.toNat_natCast, hro, List.replicate, hox, hoy, orc_cons, hbs4, hixI, wrapS hk6, go_sem, Option.map_none, Option.map_some, ↓reduceIte, Nat.reduceBEq, Nat.reduceAdd, Nat.reduceSub, Nat.reduceEqDiff, Nat.reduceLeDiff, Nat.reduceMul, Nat.reduceLT, Int.reduceLT, Int.reduceLE, Int.reduceAdd, Int.reduceSub, Int.reduceMul, Int.reduceNeg, Int.reduceEq, Int.reduceNe, Int.reduceToNat, decide_true, decide_false, iaddr_i, iaddr_sl_i, not_true_eq_false, not_false_eq_true, reduceCtorEq, ne_eq, forall_const, false_imp_iff, true_imp_iff, implies_true, Int.cast_ofNat_Int, Int.natCast_zero, Int.natCast_one, Int.add_zero, Int.zero_add]
      rw [hB]
      simp only [stB]
      rw [if_pos ⟨trivial, rfl, hcs, rfl⟩]
      unfold splice
      simp only [List.length_cons, List.length_nil, Nat.zero_add]
      simp (maxSteps := 1000000) (disch := omega) only [go_sem, Option.map_none, Option.map_some, ↓reduceIte, Nat.reduceBEq, Nat.reduceAdd, Nat.reduceSub, Nat.reduceEqDiff, Nat.reduceLeDiff, Nat.reduceMul, Nat.reduceLT, Int.reduceLT, Int.reduceLE, Int.reduceAdd, Int.reduceSub, Int.reduceMul, Int.reduceNeg, Int.reduceEq, Int.reduceNe, Int.reduceToNat, decide_true, decide_false, iaddr_i, iaddr_sl_i, not_true_eq_false, not_false_eq_true, reduceCtorEq, ne_eq, forall_const, false_imp_iff, true_imp_iff, implies_true, Int.cast_ofNat_Int, Int.natCast_zero, Int.natCast_one, Int.add_zero, Int.zero_add]
      refine ⟨ops.length - (k + 1), by omega, rfl, k + 1, _, _, rfl, hk, hs1.symm, ⟨?_, .inr ⟨by rw [hs2], i, v, cap, true, junk, hi, rfl, ?_⟩⟩, rfl, rfl, rfl, ?_⟩
      · exact ext_set (ext_more hSM _) hi _
      · exact hO1
      · rw [List.length_set]; rfl
    | false =>
      have hput := put_not hr hf
      rw [hput.symm] at hs1
      have hbi := bidx_le (l := l) (n := pol.sub)
      generalize bidx l pol.sub = ix at hbs4 hbi hs1
      rw [hf] at hbs4
      obtain ⟨M', i', v', cap', ex', junk', hin, hO', hmv⟩ := (hO.grow [box, .cells pol.enc 0 none true]).ins hbi hll pol (j := M.length + 1) (by simp)
      obtain ⟨hSM', hi'⟩ := moved_ext (ext_more hSM _) hi hmv
      rw [hbox] at hin
      simp only [Pol.enc] at hin
      generalize l.take ix ++ pol :: l.drop ix = l2 at hin hO' hs1
      simp (maxSteps := 1000000) (disch := omega) only [c11l0, g13, g14, g15, g5, hkI, Int.toNat_natCast, hro, List.replicate, hox, hoy, orc_cons, hbs4, hin, wrapS hk6, go_sem, Option.map_none, Option.map_some, ↓reduceIte, Nat.reduceBEq, Nat.reduceAdd, Nat.reduceSub, Nat.reduceEqDiff, Nat.reduceLeDiff, Nat.reduceMul, Nat.reduceLT, Int.reduceLT, Int.reduceLE, Int.reduceAdd, Int.reduceSub, Int.reduceMul, Int.reduceNeg, Int.reduceEq, Int.reduceNe, Int.reduceToNat, decide_true, decide_false, iaddr_i, iaddr_sl_i, not_true_eq_false, not_false_eq_true, reduceCtorEq, ne_eq, forall_const, false_imp_iff, true_imp_iff, implies_true, Int.cast_ofNat_Int, Int.natCast_zero, Int.natCast_one, Int.add_zero, Int.zero_add]
      exact ⟨ops.length - (k + 1), by omega, rfl, k + 1, _, _, rfl, hk, hs1.symm, ⟨hSM', .inr ⟨by rw [hs2], i', v', cap', ex', junk', hi', rfl, hO'⟩⟩, rfl, rfl, rfl, rfl⟩
  · by_cases hk5 : kind = 5
    · subst hk5
      have hs1 : applyF l0 (ops.take (k + 1)) = dropF sub l := hs1
      have hbs4 := fun L => hbs L sub
      cases hf : bfound l sub with
      | true =>
        have hbi := bidx_lt hr hf
        have hput := drop_found hr hf
        rw [hput.symm] at hs1
        generalize bidx l sub = ix at hbs4 hbi hs1
        rw [hf] at hbs4
        obtain ⟨M', junk', hde, hO', B, hM'⟩ := (hO.grow [box]).del hbi hll
        have hSM' : S <+: M' := by rw [hM']; exact ext_set (ext_more hSM _) hi B
        have hwx : wrapV .i64 ((ix : Int) + 1) = (ix : Int) + 1 := by rw [wrap_i64 (by omega) (by omega)]
        rw [hbox] at hde
        simp (maxSteps := 1000000) (disch := omega) only [c11l0, g13, g14, g15, g5, hkI, Int.toNat_natCast, hro, List.replicate, hox, hoy, orc_cons, hbs4, hwx, hde, wrapS hk6, go_sem, Option.map_none, Option.map_some, ↓reduceIte, Nat.reduceBEq, Nat.reduceAdd, Nat.reduceSub, Nat.reduceEqDiff, Nat.reduceLeDiff, Nat.reduceMul, Nat.reduceLT, Int.reduceLT, Int.reduceLE, Int.reduceAdd, Int.reduceSub, Int.reduceMul, Int.reduceNeg, Int.reduceEq, Int.reduceNe, Int.reduceToNat, decide_true, decide_false, iaddr_i, iaddr_sl_i, not_true_eq_false, not_false_eq_true, reduceCtorEq, ne_eq, forall_const, false_imp_iff, true_imp_iff, implies_true, Int.cast_ofNat_Int, Int.natCast_zero, Int.natCast_one, Int.add_zero, Int.zero_add]
        exact ⟨ops.length - (k + 1), by omega, rfl, k + 1, _, _, rfl, hk, hs1.symm, ⟨hSM', .inr ⟨by rw [hs2], i, v, cap, true, junk', hi, rfl, hO'⟩⟩, rfl, rfl, rfl, rfl⟩
      | false =>
        rw [drop_not hf] at hs1
        rw [hf] at hbs4
        simp (maxSteps := 1000000) (disch := omega) only [c11l0, g13, g14, g15, g5, hkI, Int.toNat_natCast, hro, List.replicate, hox, hoy, orc_cons, hbs4, wrapS hk6, go_sem, Option.map_none, Option.map_some, ↓reduceIte, Nat.reduceBEq, Nat.reduceAdd, Nat.reduceSub, Nat.reduceEqDiff, Nat.reduceLeDiff, Nat.reduceMul, Nat.reduceLT, Int.reduceLT, Int.reduceLE, Int.reduceAdd, Int.reduceSub, Int.reduceMul, Int.reduceNeg, Int.reduceEq, Int.reduceNe, Int.reduceToNat, decide_true, decide_false, iaddr_i, iaddr_sl_i, not_true_eq_false, not_false_eq_true, reduceCtorEq, ne_eq, forall_const, false_imp_iff, true_imp_iff, implies_true, Int.cast_ofNat_Int, Int.natCast_zero, Int.natCast_one, Int.add_zero, Int.zero_add]
        exact ⟨ops.length - (k + 1), by omega, rfl, k + 1, _, _, rfl, hk, hs1.symm, ⟨ext_more hSM _, .inr ⟨by rw [hs2], i, v, cap, true, junk, hi, rfl, hO.grow _⟩⟩, rfl, rfl, rfl, rfl⟩
    · have hs1 : applyF l0 (ops.take (k + 1)) = l := by rw [hs1]; simp only [stepQ]; rw [if_neg hk4, if_neg hk5]
      simp (maxSteps := 1000000) (disch := omega) only [c11l0, g13, g14, g15, g5, hkI, Int.toNat_natCast, hro, List.replicate, hox, hoy, orc_cons, hbs, wrapS hk6, hk4, hk5, go_sem, Option.map_none, Option.map_some, ↓reduceIte, Nat.reduceBEq, Nat.reduceAdd, Nat.reduceSub, Nat.reduceEqDiff, Nat.reduceLeDiff, Nat.reduceMul, Nat.reduceLT, Int.reduceLT, Int.reduceLE, Int.reduceAdd, Int.reduceSub, Int.reduceMul, Int.reduceNeg, Int.reduceEq, Int.reduceNe, Int.reduceToNat, decide_true, decide_false, iaddr_i, iaddr_sl_i, not_true_eq_false, not_false_eq_true, reduceCtorEq, ne_eq, forall_const, false_imp_iff, true_imp_iff, implies_true, Int.cast_ofNat_Int, Int.natCast_zero, Int.natCast_one, Int.add_zero, Int.zero_add]
      exact ⟨ops.length - (k + 1), by omega, rfl, k + 1, _, _, rfl, hk, hs1.symm, ⟨ext_more hSM _, .inr ⟨by rw [hs2], i, v, cap, true, junk, hi, rfl, hO.grow _⟩⟩, rfl, rfl, rfl, rfl⟩
end
end Go.Proofs.Ytcoljpgnjiakjaa

namespace Go.Proofs.Ytcoljpgnjiakjaa
open Go.RowKit
set_option linter.unusedSimpArgs false
set_option linter.unusedVariables false
set_option maxRecDepth 10000

theorem ris_apply {l : List Pol} (h : Ris l) : ∀ ops : List Oq, Ris (applyF l ops) := by
  intro ops
  unfold applyF
  induction ops generalizing l with
  | nil => exact h
  | cons o ops ih => exact ih (ris_step h)
theorem apply_len (l : List Pol) : ∀ ops : List Oq, (applyF l ops).length ≤ l.length + ops.length := by
  intro ops
  unfold applyF
  induction ops generalizing l with
  | nil => simp
  | cons o ops ih =>
    have h1 := ih (stepQ l o)
    have h2 := step_len (o := o) (l := l)
    simp only [List.foldl_cons, List.length_cons]; omega
def isSl : AV → Bool
  | .sn => false
  | _ => true
def apX (z t : Bool) (S : Mem) (l : List Pol) : AV := if l = [] ∧ t = true then .se else retX z S l
def apM (z t : Bool) (S : Mem) (l : List Pol) : Mem := if l = [] ∧ t = true then S else retM z polE S l
theorem apM_ext {z t : Bool} {S : Mem} {l : List Pol} : S <+: apM z t S l := by
  unfold apM
  split
  · exact ext_refl
  · exact retM_ext
theorem apX_lst {z t : Bool} {S : Mem} {l : List Pol} : lstV polE (apM z t S l) (apX z t S l) = some l := by
  unfold apM apX
  split
  · rename_i h; rw [h.1]; rfl
  · exact retX_lst
noncomputable def applyS : Spec := fun args S => match args with
  | [x, xo] => match lstV polE S x, lstV oqE S xo with
    | some l, some ops => open Classical in if l.length ≤ 400000 ∧ ops.length ≤ 400000 ∧ Ris l then some (apX (isSl x) (tch l ops) S (applyF l ops), apM (isSl x) (tch l ops) S (applyF l ops)) else none
    | _, _ => none
  | _ => none
theorem apply_eq {S : Mem} {x xo : AV} {l : List Pol} {ops : List Oq} (hl : lstV polE S x = some l) (ho : lstV oqE S xo = some ops) (h1 : l.length ≤ 400000) (h2 : ops.length ≤ 400000) (h3 : Ris l) :
    applyS [x, xo] S = some (apX (isSl x) (tch l ops) S (applyF l ops), apM (isSl x) (tch l ops) S (applyF l ops)) := by
  simp only [applyS, hl, ho]
  rw [if_pos ⟨h1, h2, h3⟩]
theorem px_end {S M : Mem} {x0 x : AV} {z t : Bool} {l : List Pol} (h : Px S M x0 t x l) (hz : (z = false ∧ x0 = .sn) ∨ (z = true ∧ (t = false → x0 = .sl S.length 0 0 0 0 true))) : WkV S (apX z t S l) (apM z t S l) x M := by
  obtain ⟨hSM, ⟨rfl, rfl, rfl, hno⟩ | ⟨rfl, i, v, cap, ex, junk, hi, rfl, hO⟩⟩ := h
  · have e1 : apX z false S [] = retX z S ([] : List Pol) := by unfold apX; rw [if_neg (by simp)]
    have e2 : apM z false S [] = retM z polE S ([] : List Pol) := by unfold apM; rw [if_neg (by simp)]
    rw [e1, e2]
    rcases hz with ⟨rfl, rfl⟩ | ⟨rfl, hx⟩
    · exact wkv_dropP hSM rfl
    · have hx := hx rfl
      subst hx
      refine Acc.ret polE_flat ?_
      rcases noX_cases hno with h | ⟨i, h, hB⟩
      · cases h
      · cases h
        obtain ⟨T, rfl⟩ := hSM
        exact ⟨T, rfl, .inr (.inl ⟨rfl, rfl, 0, rfl, by rw [List.getElem?_append_right (Nat.le_refl _), Nat.sub_self] at hB; exact hB⟩)⟩
  · by_cases hl : l = []
    · subst hl
      have e1 : apX z true S [] = .se := by unfold apX; rw [if_pos ⟨rfl, rfl⟩]
      have e2 : apM z true S [] = S := by unfold apM; rw [if_pos ⟨rfl, rfl⟩]
      rw [e1, e2]
      exact wkv_se1 (wkv_dropP hSM rfl)
    · have e1 : apX z true S l = retX z S l := by unfold apX; rw [if_neg (fun q => hl q.1)]
      have e2 : apM z true S l = retM z polE S l := by unfold apM; rw [if_neg (fun q => hl q.1)]
      rw [e1, e2]
      refine wkv_own (E := polE) polE_flat hSM hi hO.2.2 hl ?_
      have := hO.len
      rw [List.length_append, flat13] at this
      show cap * 13 ≤ l.length * 13 + junk.length
      omega
theorem apply_ok : SpecOK Try.prog 11 applyS := by
  intro args S x S' h
  simp only [applyS] at h
  split at h
  · rename_i s xo
    split at h
    · rename_i l ops hl ho
      split at h
      · rename_i hc
        obtain ⟨h1, h2, h3⟩ := hc
        cases h
        have hclone : ∃ x1 M1, cloneS [s] S = some (x1, M1) ∧ Px S M1 x1 (tch l []) x1 l ∧ ((isSl s = false ∧ x1 = .sn) ∨ (isSl s = true ∧ (tch l [] = false → x1 = .sl S.length 0 0 0 0 true))) := by
          by_cases hs : s = .sn
          · subst hs
            injection hl with hl; subst hl
            exact ⟨_, _, rfl, ⟨ext_refl, .inl ⟨rfl, rfl, rfl, rfl⟩⟩, .inl ⟨rfl, rfl⟩⟩
          · have hss : isSl s = true := by cases s <;> first | rfl | exact absurd rfl hs
            refine ⟨retX true S l, retM true polE S l, ?_, ?_, .inr ⟨hss, ?_⟩⟩
            · have : cloneS [s] S = (match lstV polE S s with
                | some l => if l.length ≤ 900000 then some (retX true S l, retM true polE S l) else none
                | none => none) := by cases s <;> first | rfl | exact absurd rfl hs
              rw [this, hl]
              simp only []
              rw [if_pos (by omega)]
            · refine ⟨retM_ext, ?_⟩
              cases l with
              | nil =>
                refine .inl ⟨rfl, rfl, rfl, ?_⟩
                have : (S ++ [Blk.cells [] 0 none true])[S.length]? = some (.cells [] 0 none true) := by simp
                show noX (S ++ [Blk.cells [] 0 none true]) (.sl S.length 0 0 0 0 true) = true
                simp only [noX, this]
              | cons a l => exact .inr ⟨rfl, S.length, 0, (a :: l).length, false, [], Nat.le_refl _, rfl, Nat.le_refl _, by simp, by simp [retM, polE]⟩
            · intro ht
              cases l with
              | nil => rfl
              | cons a l => cases ht
        obtain ⟨x1, M1, hcl, hP1, hz⟩ := hclone
        refine fn_of_wp f11 rfl (W_sound oAp_ok mixed _ _ _ _ _ ?_)
        simp (maxSteps := 1000000) (disch := omega) only [c11, orc_cons, hcl, lst_len ho, go_sem, Option.map_none, Option.map_some, ↓reduceIte, Nat.reduceBEq, Nat.reduceAdd, Nat.reduceSub, Nat.reduceEqDiff, Nat.reduceLeDiff, Nat.reduceMul, Nat.reduceLT, Int.reduceLT, Int.reduceLE, Int.reduceAdd, Int.reduceSub, Int.reduceMul, Int.reduceNeg, Int.reduceEq, Int.reduceNe, Int.reduceToNat, decide_true, decide_false, iaddr_i, iaddr_sl_i, not_true_eq_false, not_false_eq_true, reduceCtorEq, ne_eq, forall_const, false_imp_iff, true_imp_iff, implies_true, Int.cast_ofNat_Int, Int.natCast_zero, Int.natCast_one, Int.add_zero, Int.zero_add]
        refine wp_loop (apI S xo x1 ops l) (j := ops.length) ⟨rfl, 0, l, x1, rfl, Nat.zero_le _, rfl, hP1, rfl, rfl, rfl, rfl⟩ ?_
        rintro j e M d' ⟨rfl, k, l2, x, rfl, hk, hl2, hP, e13, e14, e15, e5⟩
        have hr2 : Ris l2 := by rw [hl2]; exact ris_apply h3 _
        have hlen2 : l2.length ≤ 800000 := by
          rw [hl2]
          have := apply_len l (ops.take k)
          rw [List.length_take] at this; omega
        by_cases hkn : k < ops.length
        · have k13 : (keepE e [5, 13, 14, 15]).get 13 = xo := by rw [get_keepE, if_pos (by decide), e13]
          have k14 : (keepE e [5, 13, 14, 15]).get 14 = .i .i64 ops.length := by rw [get_keepE, if_pos (by decide), e14]
          have k15 : (keepE e [5, 13, 14, 15]).get 15 = .i .i64 k := by rw [get_keepE, if_pos (by decide), e15]
          have k5 : (keepE e [5, 13, 14, 15]).get 5 = x := by rw [get_keepE, if_pos (by decide), e5]
          obtain ⟨hSM, ⟨ht, rfl, rfl, hno⟩ | ⟨ht, i, v, cap, ex, junk, hi, rfl, hO⟩⟩ := hP
          · exact round_none ho hkn h2 hl2.symm ht hSM hno k13 k14 k15 k5
          · cases ex with
            | true => exact round_own ho hkn h2 hl2.symm hr2 (by omega) ht hSM hi hO k13 k14 k15 k5
            | false =>
              refine WP.reveal k5 hO.2.2 hO.len fun c hc => ?_
              refine round_own ho hkn h2 hl2.symm hr2 (by omega) ht (ext_set hSM hi _) hi (hO.reveal hc) ?_ ?_ ?_ ?_
              · rw [get_put_ne _ _ (by decide)]; exact k13
              · rw [get_put_ne _ _ (by decide)]; exact k14
              · rw [get_put_ne _ _ (by decide)]; exact k15
              · exact get_put_same _ _ _
        · obtain rfl : k = ops.length := by omega
          rw [List.take_length] at hl2 hP
          subst hl2
          have hkI : ¬ ((ops.length : Int) < ops.length) := by omega
          have hlst : lstV polE M x = some (applyF l ops) := by
            obtain ⟨hSM, ⟨ht, h0, rfl, hno⟩ | ⟨ht, i, v, cap, ex, junk, hi, rfl, hO⟩⟩ := hP
            · rw [h0]
              rcases noX_cases hno with rfl | ⟨i, rfl, hB⟩
              · rfl
              · refine lst_lstV (.inr (.inr ⟨_, _, _, _, _, _, rfl, rfl, ?_⟩))
                rw [rowAt_B, hB]; rfl
            · exact hO.lst
          have hss : sstS [x, .f (.func 25) [] []] M = some (.tu [], M) := by
            simp only [sstS, hlst]
            rw [if_pos ⟨rfl, by omega, hr2⟩]
          have hend : WkV S (apX (isSl s) (tch l ops) S (applyF l ops)) (apM (isSl s) (tch l ops) S (applyF l ops)) x M := by
            refine px_end hP ?_
            rcases hz with hz | ⟨hz1, hz2⟩
            · exact .inl hz
            · refine .inr ⟨hz1, fun ht => hz2 ?_⟩
              unfold tch at ht ⊢
              rw [Bool.or_eq_false_iff] at ht ⊢
              exact ⟨ht.1, rfl⟩
          refine W_sound oAp_ok mixed _ _ _ _ _ ?_
          simp (maxSteps := 1000000) (disch := omega) only [c11l0, e13, e14, e15, e5, hkI, orc_cons, hss, go_sem, Option.map_none, Option.map_some, ↓reduceIte, Nat.reduceBEq, Nat.reduceAdd, Nat.reduceSub, Nat.reduceEqDiff, Nat.reduceLeDiff, Nat.reduceMul, Nat.reduceLT, Int.reduceLT, Int.reduceLE, Int.reduceAdd, Int.reduceSub, Int.reduceMul, Int.reduceNeg, Int.reduceEq, Int.reduceNe, Int.reduceToNat, decide_true, decide_false, iaddr_i, iaddr_sl_i, not_true_eq_false, not_false_eq_true, reduceCtorEq, ne_eq, forall_const, false_imp_iff, true_imp_iff, implies_true, Int.cast_ofNat_Int, Int.natCast_zero, Int.natCast_one, Int.add_zero, Int.zero_add]
          exact hend
      · cases h
    · cases h
  · cases h
end Go.Proofs.Ytcoljpgnjiakjaa

namespace Go.Proofs.Ytcoljpgnjiakjaa
open Go.RowKit
set_option linter.unusedSimpArgs false
set_option linter.unusedVariables false
set_option maxRecDepth 10000

def refStep (p : Pol) (id : Int) (st : List Pol × Bool) (q : Pol) : List Pol × Bool :=
  if q.sub = id then (if st.2 = false ∧ id ≤ q.sub then (st.1 ++ [p], true) else st)
  else (if st.2 = false ∧ id ≤ q.sub then (st.1 ++ [p] ++ [q], true) else (st.1 ++ [q], st.2))
theorem ref_done {p : Pol} {id : Int} : ∀ (l : List Pol) (out : List Pol), l.foldl (refStep p id) (out, true) = (out ++ dropF id l, true) := by
  intro l
  induction l with
  | nil => intro out; simp [dropF]
  | cons q l ih =>
    intro out
    rw [List.foldl_cons]
    unfold dropF
    by_cases h : q.sub = id
    · have : refStep p id (out, true) q = (out, true) := by unfold refStep; rw [if_pos h, if_neg (by simp)]
      rw [this, ih, List.filter_cons_of_neg (by simpa using h)]; rfl
    · have : refStep p id (out, true) q = (out ++ [q], true) := by unfold refStep; rw [if_neg h, if_neg (by simp)]
      rw [this, ih, List.filter_cons_of_pos (by simpa using h), List.append_assoc]; rfl
def refEnd (p : Pol) (st : List Pol × Bool) : List Pol := if st.2 = true then st.1 else st.1 ++ [p]
theorem drop_gt {n : Int} {l : List Pol} (h : ∀ p ∈ l, n < p.sub) : dropF n l = l := drop_not (bfound_no h)
theorem ref_put {p : Pol} : ∀ (l : List Pol) (out : List Pol), Ris l → refEnd p (l.foldl (refStep p p.sub) (out, false)) = out ++ putF p l := by
  intro l
  induction l with
  | nil => intro out _; simp [refEnd, putF]
  | cons q l ih =>
    intro out hr
    obtain ⟨h1, h2⟩ := ris_tail hr
    rw [List.foldl_cons, putF]
    by_cases hlt : q.sub < p.sub
    · have : refStep p p.sub (out, false) q = (out ++ [q], false) := by unfold refStep; rw [if_neg (by omega), if_neg (by simp; omega)]
      rw [this, ih _ h2, if_pos hlt, List.append_assoc]; rfl
    · rw [if_neg hlt]
      by_cases he : q.sub = p.sub
      · have : refStep p p.sub (out, false) q = (out ++ [p], true) := by unfold refStep; rw [if_pos he, if_pos ⟨rfl, by omega⟩]
        rw [this, ref_done, if_pos he, drop_gt (fun r hr => by rw [← he]; exact h1 r hr)]
        simp [refEnd]
      · have : refStep p p.sub (out, false) q = (out ++ [p] ++ [q], true) := by unfold refStep; rw [if_neg he, if_pos ⟨rfl, by omega⟩]
        rw [this, ref_done, if_neg he, drop_gt (fun r hr => by have := h1 r hr; omega)]
        simp [refEnd]

/-- The list that is built: the empty literal, or a block of its own. -/
def Lp (i : Nat) (M1 M : Mem) (y : AV) (l : List Pol) : Prop := (l = [] ∧ y = .sl i 0 0 0 0 true ∧ M1 <+: M) ∨ Acc true polE M1 M y l
section
variable {i : Nat} {M1 M : Mem} {y : AV} {l : List Pol}
theorem Lp.ext (h : Lp i M1 M y l) : M1 <+: M := by
  rcases h with ⟨_, _, h⟩ | h
  · exact h
  · exact h.ext
theorem Lp.grow (h : Lp i M1 M y l) (U : Mem) : Lp i M1 (M ++ U) y l := by
  rcases h with ⟨h1, h2, h⟩ | h
  · exact .inl ⟨h1, h2, ext_more h U⟩
  · exact .inr (h.grow U)
theorem Lp.acc {S : Mem} (hS : S ++ [.cells [] 0 none true] <+: M1) (h : Lp S.length M1 M y l) : Acc true polE S M y l := by
  rcases h with ⟨rfl, rfl, h⟩ | h
  · exact (acc_lit ext_refl).extM (hS.trans h)
  · exact h.base ((ext_app _).trans hS)
theorem app_keep {sz bytes : Nat} {x x' : AV} {M M' : Mem} {cs : List AV} (hx : x = .sn ∨ ∃ i v len ex, x = .sl i 0 v len len ex) (ha : appV M sz bytes x cs 1 = some (x', M')) {j : Nat} {B : Blk} (hB : M[j]? = some B) (ho : B.opn = none) : M'[j]? = some B := by
  rcases hx with rfl | ⟨i, v, len, ex, rfl⟩
  · simp only [appV] at ha
    rw [if_neg (by omega)] at ha
    split at ha
    · injection ha with ha; cases ha; exact at_old hB
    · cases ha
  · simp only [appV] at ha
    rw [if_neg (by omega), if_neg (by omega)] at ha
    split at ha
    · split at ha
      · split at ha
        · injection ha with ha; cases ha; exact at_old hB
        · cases ha
      · split at ha
        · rename_i c0 ver op hi
          split at ha
          · rename_i hc
            injection ha with ha; cases ha
            have hij : i ≠ j := by
              rintro rfl
              rw [hi] at hB; cases hB
              have : op = none := ho
              rw [hc.2.2.1] at this; cases this
            rw [at_set_ne hij]; exact hB
          · cases ha
        · cases ha
    · cases ha
theorem Lp.form (h : Lp i M1 M y l) : y = .sn ∨ ∃ i v len ex, y = .sl i 0 v len len ex := by
  rcases h with ⟨_, rfl, _⟩ | ⟨T, rfl, ⟨_, _, rfl⟩ | ⟨_, _, p, rfl, _⟩ | ⟨_, p, v, rfl, _⟩⟩
  · exact .inr ⟨_, _, _, _, rfl⟩
  · exact .inl rfl
  · exact .inr ⟨_, _, _, _, rfl⟩
  · exact .inr ⟨_, _, _, _, rfl⟩
theorem Lp.app (hi : M1[i]? = some (.cells [] 0 none true)) (h : Lp i M1 M y l) (a : Pol) (hn : l.length ≤ 1000000) : ∃ y' M', appV M 13 80 y (polE.enc a) 1 = some (y', M') ∧ Lp i M1 M' y' (l ++ [a]) := by
  rcases h with ⟨rfl, rfl, h⟩ | h
  · have hc : rowAt M i 0 0 (0 * 13) = some [] := by rw [rowAt_B, at_pre h hi]; rfl
    obtain ⟨T, rfl⟩ := h
    refine ⟨.sl (M1 ++ T).length 0 0 1 1 false, (M1 ++ T) ++ [.cells (polE.enc a) 0 (some 13) true], ?_, .inr ⟨T ++ [.cells (polE.enc a) 0 (some 13) true], by rw [List.append_assoc], .inr (.inr ⟨by simp, T.length, 0, by rw [List.length_append]; rfl, ?_⟩)⟩⟩
    · simp only [appV, hc]
      rw [if_neg (by omega), if_neg (by omega), if_pos ⟨by decide, by decide⟩, if_pos trivial]
      rfl
    · rw [List.getElem?_append_right (by omega), Nat.sub_self]
      show some (Blk.cells (polE.enc a) 0 (some 13) true) = some (.cells ([a].flatMap polE.enc) 0 (some 13) true)
      simp
  · obtain ⟨y', M', h1, h2⟩ := h.app (bytes := 80) polE_one a (by omega) (by omega)
    exact ⟨y', M', h1, .inr h2⟩
end
/-- A round within a round. -/
def innI (b i : Nat) (M1 : Mem) (x xo : AV) (l : List Pol) (n k : Nat) (p : Pol) (id : Int) (d0 : Bool) : Nat → Env → Mem → List Nat → Prop := fun j e M dl => dl = [] ∧ ∃ (k2 : Nat) (st : List Pol × Bool) (y : AV), j = l.length - k2 ∧ k2 ≤ l.length ∧
  st = (l.take k2).foldl (refStep p id) ([], d0) ∧ Lp i M1 M y st.1 ∧ e.get 8 = .i .i64 id ∧ e.get 7 = .p b 0 0 ∧ e.get 42 = x ∧ e.get 16 = xo ∧ e.get 17 = .i .i64 n ∧ e.get 18 = .i .i64 k ∧ e.get 43 = .i .i64 l.length ∧ e.get 44 = .i .i64 k2 ∧ e.get 9 = y ∧ e.get 10 = .b st.2
theorem ref_len {p : Pol} {id : Int} : ∀ (l : List Pol) (st : List Pol × Bool), (l.foldl (refStep p id) st).1.length ≤ st.1.length + 2 * l.length := by
  intro l
  induction l with
  | nil => intro st; simp
  | cons q l ih =>
    intro st
    rw [List.foldl_cons]
    have h1 := ih (refStep p id st q)
    have h2 : (refStep p id st q).1.length ≤ st.1.length + 2 := by
      unfold refStep
      split <;> split <;> simp <;> omega
    simp only [List.length_cons]; omega
set_option maxHeartbeats 2000000 in
theorem inner_round {b i : Nat} {M1 M : Mem} {x xo y : AV} {l : List Pol} {n k k2 : Nat} {p : Pol} {id : Int} {d0 : Bool} {st : List Pol × Bool} {E : Env} {Q : Kont} {S : Mem} (hx : lstV polE M1 x = some l) (hll : l.length ≤ 400000) (hb : ∀ L, rowB ((M1 ++ L)[b]?) 5 0 13 = some p.enc) (hi : M1[i]? = some (.cells [] 0 none true))
    (hk : k2 < l.length) (hst : st = (l.take k2).foldl (refStep p id) ([], d0)) (hL : Lp i M1 M y st.1)
    (g8 : E.get 8 = .i .i64 id) (g7 : E.get 7 = .p b 0 0) (g42 : E.get 42 = x) (g16 : E.get 16 = xo) (g17 : E.get 17 = .i .i64 n) (g18 : E.get 18 = .i .i64 k) (g43 : E.get 43 = .i .i64 l.length) (g44 : E.get 44 = .i .i64 k2) (g9 : E.get 9 = y) (g10 : E.get 10 = .b st.2) :
    WP Try.prog S false c16l0 E M [] (loopK (l.length - k2) (innI b i M1 x xo l n k p id d0) Q) := by
  obtain ⟨bi, o, v, cap, ex, rfl⟩ := lst_sl hx hk
  have hM1 := hL.ext
  have hro := lstV_row (lst_ext hx hM1) hk []
  rw [List.append_nil] at hro
  have hkI : (k2 : Int) < l.length := by omega
  have hk6 : k2 < 1000000 := by omega
  have hb' : ∀ L, rowB ((M ++ L)[b]?) 5 0 13 = some p.enc := fun L => by
    obtain ⟨T, rfl⟩ := hM1
    rw [List.append_assoc]; exact hb _
  have hs : (l.take (k2 + 1)).foldl (refStep p id) ([], d0) = refStep p id st l[k2] := by
    rw [List.take_succ_eq_append_getElem hk, List.foldl_append, ← hst]; rfl
  have hlen : st.1.length ≤ 800000 := by
    rw [hst]
    have := ref_len (p := p) (id := id) (l.take k2) ([], d0)
    rw [List.length_take] at this
    simp only [List.length_nil] at this; omega
  have hro : rowB (M[bi]?) (o + k2 * 13) v 13 = some (l[k2]).enc := hro
  generalize l[k2] = q at hro hs
  obtain ⟨out, d⟩ := st
  simp only at hL g10 hlen
  have hap := fun (a : Pol) => (hL.grow [.cells q.enc 0 none true, .cells a.enc 0 none true]).app hi a (by omega)
  refine W_sound none_ok mixed _ _ _ _ _ ?_
  by_cases hq : q.sub = id
  · subst hq
    cases d with
    | false =>
      have hs : _ = (out ++ [p], true) := hs.trans (by unfold refStep; rw [if_pos rfl, if_pos ⟨rfl, Int.le_refl _⟩])
      obtain ⟨y', M', ha, hL'⟩ := hap p
      have hMq : M'[M.length]? = some (.cells q.enc 0 none true) := app_keep hL.form ha (by simp) rfl
      have hce2 : cellB (M'[M.length]?) 0 0 = some (.i .i64 q.sub) := by rw [hMq]; rfl
      simp only [polE, Pol.enc] at ha hro hb'
      simp (maxSteps := 1000000) (disch := omega) only [c16l0, g8, g7, g42, g16, g17, g18, g43, g44, g9, g10, hkI, Int.toNat_natCast, hro, List.replicate, hb', ha, hce2, wrapS hk6, Int.le_refl, go_sem, Option.map_none, Option.map_some, ↓reduceIte, Nat.reduceBEq, Nat.reduceAdd, Nat.reduceSub, Nat.reduceEqDiff, Nat.reduceLeDiff, Nat.reduceMul, Nat.reduceLT, Int.reduceLT, Int.reduceLE, Int.reduceAdd, Int.reduceSub, Int.reduceMul, Int.reduceNeg, Int.reduceEq, Int.reduceNe, Int.reduceToNat, decide_true, decide_false, iaddr_i, iaddr_sl_i, not_true_eq_false, not_false_eq_true, reduceCtorEq, ne_eq, forall_const, false_imp_iff, true_imp_iff, implies_true, Int.cast_ofNat_Int, Int.natCast_zero, Int.natCast_one, Int.add_zero, Int.zero_add]
      exact ⟨l.length - (k2 + 1), by omega, rfl, k2 + 1, _, _, rfl, hk, hs.symm, hL', rfl, rfl, rfl, rfl, rfl, rfl, rfl, rfl, rfl, rfl⟩
    | true =>
      have hs : _ = (out, true) := hs.trans (by unfold refStep; rw [if_pos rfl, if_neg (by simp)])
      simp only [polE, Pol.enc] at hro hb'
      simp (maxSteps := 1000000) (disch := omega) only [c16l0, g8, g7, g42, g16, g17, g18, g43, g44, g9, g10, hkI, Int.toNat_natCast, hro, List.replicate, hb', wrapS hk6, Int.le_refl, go_sem, Option.map_none, Option.map_some, ↓reduceIte, Nat.reduceBEq, Nat.reduceAdd, Nat.reduceSub, Nat.reduceEqDiff, Nat.reduceLeDiff, Nat.reduceMul, Nat.reduceLT, Int.reduceLT, Int.reduceLE, Int.reduceAdd, Int.reduceSub, Int.reduceMul, Int.reduceNeg, Int.reduceEq, Int.reduceNe, Int.reduceToNat, decide_true, decide_false, iaddr_i, iaddr_sl_i, not_true_eq_false, not_false_eq_true, reduceCtorEq, ne_eq, forall_const, false_imp_iff, true_imp_iff, implies_true, Int.cast_ofNat_Int, Int.natCast_zero, Int.natCast_one, Int.add_zero, Int.zero_add]
      exact ⟨l.length - (k2 + 1), by omega, rfl, k2 + 1, _, _, rfl, hk, hs.symm, hL.grow _, rfl, rfl, rfl, rfl, rfl, rfl, rfl, rfl, rfl, rfl⟩
  · by_cases hd : d = false ∧ id ≤ q.sub
    · obtain ⟨rfl, hge⟩ := hd
      have hs : _ = (out ++ [p] ++ [q], true) := hs.trans (by unfold refStep; rw [if_neg hq, if_pos ⟨rfl, hge⟩])
      obtain ⟨y', M', ha, hL'⟩ := hap p
      obtain ⟨y2, M2, ha2, hL2⟩ := (hL'.grow [.cells q.enc 0 none true]).app hi q (by simp; omega)
      have hMq : M'[M.length]? = some (.cells q.enc 0 none true) := app_keep hL.form ha (by simp) rfl
      have hro2 : ∀ L, rowB ((M' ++ L)[M.length]?) 0 0 13 = some q.enc := fun L => by rw [at_old hMq]; rfl
      have hce2 : cellB (M'[M.length]?) 0 0 = some (.i .i64 q.sub) := by rw [hMq]; rfl
      have hro3 := hro2 []
      rw [List.append_nil] at hro3
      simp only [polE, Pol.enc] at ha ha2 hro hb' hro2 hro3
      simp (maxSteps := 1000000) (disch := omega) only [c16l0, g8, g7, g42, g16, g17, g18, g43, g44, g9, g10, hkI, Int.toNat_natCast, hro, List.replicate, hge, hb', ha, hq, ha2, hce2, hro2, hro3, wrapS hk6, go_sem, Option.map_none, Option.map_some, ↓reduceIte, Nat.reduceBEq, Nat.reduceAdd, Nat.reduceSub, Nat.reduceEqDiff, Nat.reduceLeDiff, Nat.reduceMul, Nat.reduceLT, Int.reduceLT, Int.reduceLE, Int.reduceAdd, Int.reduceSub, Int.reduceMul, Int.reduceNeg, Int.reduceEq, Int.reduceNe, Int.reduceToNat, decide_true, decide_false, iaddr_i, iaddr_sl_i, not_true_eq_false, not_false_eq_true, reduceCtorEq, ne_eq, forall_const, false_imp_iff, true_imp_iff, implies_true, Int.cast_ofNat_Int, Int.natCast_zero, Int.natCast_one, Int.add_zero, Int.zero_add]
      exact ⟨l.length - (k2 + 1), by omega, rfl, k2 + 1, _, _, rfl, hk, hs.symm, hL2, rfl, rfl, rfl, rfl, rfl, rfl, rfl, rfl, rfl, rfl⟩
    · have hs : _ = (out ++ [q], d) := hs.trans (by unfold refStep; rw [if_neg hq, if_neg hd])
      obtain ⟨y', M', ha, hL'⟩ := hap q
      have ha1 : ∃ y' M', appV (M ++ [.cells q.enc 0 none true, .cells q.enc 0 none true]) 13 80 y (polE.enc q) 1 = some (y', M') := ⟨_, _, ha⟩
      simp only [polE, Pol.enc] at ha hro hb'
      cases d with
      | true =>
        simp (maxSteps := 1000000) (disch := omega) only [c16l0, g8, g7, g42, g16, g17, g18, g43, g44, g9, g10, hkI, Int.toNat_natCast, hro, List.replicate, hb', ha, hq, wrapS hk6, go_sem, Option.map_none, Option.map_some, ↓reduceIte, Nat.reduceBEq, Nat.reduceAdd, Nat.reduceSub, Nat.reduceEqDiff, Nat.reduceLeDiff, Nat.reduceMul, Nat.reduceLT, Int.reduceLT, Int.reduceLE, Int.reduceAdd, Int.reduceSub, Int.reduceMul, Int.reduceNeg, Int.reduceEq, Int.reduceNe, Int.reduceToNat, decide_true, decide_false, iaddr_i, iaddr_sl_i, not_true_eq_false, not_false_eq_true, reduceCtorEq, ne_eq, forall_const, false_imp_iff, true_imp_iff, implies_true, Int.cast_ofNat_Int, Int.natCast_zero, Int.natCast_one, Int.add_zero, Int.zero_add]
        exact ⟨l.length - (k2 + 1), by omega, rfl, k2 + 1, _, _, rfl, hk, hs.symm, hL', rfl, rfl, rfl, rfl, rfl, rfl, rfl, rfl, rfl, rfl⟩
      | false =>
        have hge : ¬ id ≤ q.sub := fun z => hd ⟨rfl, z⟩
        simp (maxSteps := 1000000) (disch := omega) only [c16l0, g8, g7, g42, g16, g17, g18, g43, g44, g9, g10, hkI, Int.toNat_natCast, hro, List.replicate, hge, hb', ha, hq, wrapS hk6, go_sem, Option.map_none, Option.map_some, ↓reduceIte, Nat.reduceBEq, Nat.reduceAdd, Nat.reduceSub, Nat.reduceEqDiff, Nat.reduceLeDiff, Nat.reduceMul, Nat.reduceLT, Int.reduceLT, Int.reduceLE, Int.reduceAdd, Int.reduceSub, Int.reduceMul, Int.reduceNeg, Int.reduceEq, Int.reduceNe, Int.reduceToNat, decide_true, decide_false, iaddr_i, iaddr_sl_i, not_true_eq_false, not_false_eq_true, reduceCtorEq, ne_eq, forall_const, false_imp_iff, true_imp_iff, implies_true, Int.cast_ofNat_Int, Int.natCast_zero, Int.natCast_one, Int.add_zero, Int.zero_add]
        exact ⟨l.length - (k2 + 1), by omega, rfl, k2 + 1, _, _, rfl, hk, hs.symm, hL', rfl, rfl, rfl, rfl, rfl, rfl, rfl, rfl, rfl, rfl⟩
end Go.Proofs.Ytcoljpgnjiakjaa

namespace Go.Proofs.Ytcoljpgnjiakjaa
open Go.RowKit
set_option linter.unusedSimpArgs false
set_option linter.unusedVariables false
set_option maxRecDepth 10000

noncomputable def rapplyS : Spec := fun args S => match args with
  | [x, xo] => match lstV polE S x, lstV oqE S xo with
    | some l, some ops => open Classical in if l.length ≤ 100000 ∧ ops.length ≤ 100000 ∧ Ris l then some (retX true S (applyF l ops), retM true polE S (applyF l ops)) else none
    | _, _ => none
  | _ => none
theorem rapply_eq {S : Mem} {x xo : AV} {l : List Pol} {ops : List Oq} (hl : lstV polE S x = some l) (ho : lstV oqE S xo = some ops) (h1 : l.length ≤ 100000) (h2 : ops.length ≤ 100000) (h3 : Ris l) :
    rapplyS [x, xo] S = some (retX true S (applyF l ops), retM true polE S (applyF l ops)) := by
  simp only [rapplyS, hl, ho]
  rw [if_pos ⟨h1, h2, h3⟩]
set_option maxHeartbeats 2000000 in
theorem rapply_ok : SpecOK Try.prog 16 rapplyS := by
  intro args S x S' h
  simp only [rapplyS] at h
  split at h
  · rename_i s xo
    split at h
    · rename_i l ops hl ho
      split at h
      · rename_i hc
        obtain ⟨h1, h2, h3⟩ := hc
        cases h
        obtain ⟨X1, M1, hap1, hX1⟩ := (acc_lit (E := polE) (S := S) (M := S) ext_refl).apps (bytes := 80) polE_one l (by simp only [List.length_nil]; omega) (by simp only [List.length_nil]; omega)
        rw [List.nil_append] at hX1
        have hap1 : appV (S ++ [.cells [] 0 none true]) 13 80 (.sl S.length 0 0 0 0 true) (l.flatMap polE.enc) l.length = some (X1, M1) := hap1
        have hs1 : ∀ L, srcV (S ++ L) 13 s = some (l.flatMap polE.enc, l.length) := fun L => src_lst (lstV_grow hl L)
        refine fn_of_wp f16 rfl (W_sound none_ok mixed _ _ _ _ _ ?_)
        simp (maxSteps := 1000000) (disch := omega) only [c16, hs1, hap1, lst_len ho, go_sem, Option.map_none, Option.map_some, ↓reduceIte, Nat.reduceBEq, Nat.reduceAdd, Nat.reduceSub, Nat.reduceEqDiff, Nat.reduceLeDiff, Nat.reduceMul, Nat.reduceLT, Int.reduceLT, Int.reduceLE, Int.reduceAdd, Int.reduceSub, Int.reduceMul, Int.reduceNeg, Int.reduceEq, Int.reduceNe, Int.reduceToNat, decide_true, decide_false, iaddr_i, iaddr_sl_i, not_true_eq_false, not_false_eq_true, reduceCtorEq, ne_eq, forall_const, false_imp_iff, true_imp_iff, implies_true, Int.cast_ofNat_Int, Int.natCast_zero, Int.natCast_one, Int.add_zero, Int.zero_add]
        refine wp_loop (fun j e M dl => dl = [] ∧ ∃ (k : Nat) (y : AV), j = ops.length - k ∧ k ≤ ops.length ∧ Acc true polE S M y (applyF l (ops.take k)) ∧ e.get 16 = xo ∧ e.get 17 = .i .i64 ops.length ∧ e.get 18 = .i .i64 k ∧ e.get 5 = y) (j := ops.length)
          ⟨rfl, 0, X1, rfl, Nat.zero_le _, hX1, rfl, rfl, rfl, rfl⟩ ?_
        rintro j e M d' ⟨rfl, k, y, rfl, hk, hA, e16, e17, e18, e5⟩
        refine W_sound none_ok mixed _ _ _ _ _ ?_
        have hSM := hA.ext
        have hlst := hA.lst
        have hrl : Ris (applyF l (ops.take k)) := ris_apply h3 _
        have hlen2 : (applyF l (ops.take k)).length ≤ 200000 := by
          have := apply_len l (ops.take k)
          rw [List.length_take] at this; omega
        by_cases hkn : k < ops.length
        · obtain ⟨bi, o, v, cap, ex, rfl⟩ := lst_sl ho hkn
          have hro := lstV_row (lst_ext ho hSM) hkn []
          rw [List.append_nil] at hro
          have hkI : (k : Int) < ops.length := by omega
          have hk6 : k < 1000000 := by omega
          have hs := apply_succ (l0 := l) hkn
          generalize applyF l (ops.take k) = l2 at hA hlst hrl hlen2 hs
          have hro : rowB (M[bi]?) (o + k * 19) v 19 = some (ops[k]).enc := hro
          generalize ops[k] = q at hro hs
          obtain ⟨kind, sub, m, n, ⟨ox, hox⟩, pol, ⟨oy, hoy⟩⟩ := q
          simp only [Oq.enc] at hro
          by_cases hk4 : kind = 4
          · subst hk4
            have hs : applyF l (ops.take (k + 1)) = putF pol l2 := hs
            simp (maxSteps := 1000000) (disch := omega) only [c16l1, e16, e17, e18, e5, hkI, Int.toNat_natCast, hro, List.replicate, hox, hoy, lst_len hlst, go_sem, Option.map_none, Option.map_some, ↓reduceIte, Nat.reduceBEq, Nat.reduceAdd, Nat.reduceSub, Nat.reduceEqDiff, Nat.reduceLeDiff, Nat.reduceMul, Nat.reduceLT, Int.reduceLT, Int.reduceLE, Int.reduceAdd, Int.reduceSub, Int.reduceMul, Int.reduceNeg, Int.reduceEq, Int.reduceNe, Int.reduceToNat, decide_true, decide_false, iaddr_i, iaddr_sl_i, not_true_eq_false, not_false_eq_true, reduceCtorEq, ne_eq, forall_const, false_imp_iff, true_imp_iff, implies_true, Int.cast_ofNat_Int, Int.natCast_zero, Int.natCast_one, Int.add_zero, Int.zero_add]
            obtain ⟨box, hbox⟩ : ∃ box : Blk, box = .cells [.i .i64 4, .i .i64 sub, .i .i64 m, .i .u64 n, ox, .i .i64 pol.sub, .i .u8 pol.a, .i .u8 pol.b, .i .u8 pol.c, .i .u8 pol.d, .i .i64 pol.bits, .i .u64 pol.rate, .i .u64 pol.burst, .i .u64 pol.srate, .i .u64 pol.sburst, .i .u64 pol.quota, .i .u64 pol.lease, .i .u64 pol.quantum, oy] 0 none true := ⟨_, rfl⟩
            obtain ⟨M1, hM1⟩ : ∃ M1, M1 = M ++ [box, .cells [] 0 none true] := ⟨_, rfl⟩
            have hbox1 : M1[M.length]? = some box := by rw [hM1]; simp
            have hi : M1[M.length + 1]? = some (.cells [] 0 none true) := by rw [hM1]; simp
            have hb : ∀ L, rowB ((M1 ++ L)[M.length]?) 5 0 13 = some pol.enc := fun L => by rw [at_old hbox1, hbox]; rfl
            have hl1 : lstV polE M1 y = some l2 := by rw [hM1]; exact lstV_grow hlst _
            have hbl : (M ++ [box]).length = M.length + 1 := by simp
            have hpre : (M ++ [box]) ++ [Blk.cells [] 0 none true] <+: M1 := by rw [hM1, List.append_assoc]; exact ext_refl
            have hSb : S <+: M ++ [box] := ext_more hSM _
            rw [← hbox, ← hM1]
            refine wp_loop (innI M.length (M.length + 1) M1 y (.sl bi o v ops.length cap ex) l2 ops.length k pol pol.sub false) (j := l2.length) ⟨rfl, 0, ([], false), _, rfl, Nat.zero_le _, rfl, .inl ⟨rfl, rfl, ext_refl⟩, rfl, rfl, rfl, rfl, rfl, rfl, rfl, rfl, rfl, rfl⟩ ?_
            rintro j2 e2 M2 d2 ⟨rfl, k2, st, y2, rfl, hk2, hst, hL, g8, g7, g42, g16, g17, g18, g43, g44, g9, g10⟩
            by_cases hkl : k2 < l2.length
            · refine inner_round hl1 (by omega) hb hi hkl hst hL ?_ ?_ ?_ ?_ ?_ ?_ ?_ ?_ ?_ ?_ <;> first | (rw [get_keepE, if_pos (by decide)]; assumption) | skip
            · obtain rfl : k2 = l2.length := by omega
              have hkI2 : ¬ ((l2.length : Int) < l2.length) := by omega
              rw [List.take_length] at hst
              have hMM := hL.ext
              have hbM : ∀ L, rowB ((M2 ++ L)[M.length]?) 5 0 13 = some pol.enc := fun L => by
                obtain ⟨T, hT⟩ := hMM
                rw [← hT, List.append_assoc]; exact hb _
              have hbM0 := hbM []
              rw [List.append_nil] at hbM0
              refine W_sound none_ok mixed _ _ _ _ _ ?_
              have hend := ref_put (p := pol) l2 [] hrl
              rw [← hst, List.nil_append] at hend
              obtain ⟨out, d⟩ := st
              have hout : out.length ≤ 900000 := by
                have := ref_len (p := pol) (id := pol.sub) l2 ([], false)
                rw [← hst] at this
                simp only [List.length_nil] at this; omega
              cases d with
              | true =>
                have hend : out = putF pol l2 := by simpa [refEnd] using hend
                have hA2 : Acc true polE S M2 y2 (applyF l (ops.take (k + 1))) := by
                  rw [hs, ← hend]
                  rw [← hbl] at hL
                  exact (hL.acc hpre).base hSb
                simp (maxSteps := 1000000) (disch := omega) only [c16l0, g8, g7, g42, g16, g17, g18, g43, g44, g9, g10, hkI2, wrapS hk6, go_sem, Option.map_none, Option.map_some, ↓reduceIte, Nat.reduceBEq, Nat.reduceAdd, Nat.reduceSub, Nat.reduceEqDiff, Nat.reduceLeDiff, Nat.reduceMul, Nat.reduceLT, Int.reduceLT, Int.reduceLE, Int.reduceAdd, Int.reduceSub, Int.reduceMul, Int.reduceNeg, Int.reduceEq, Int.reduceNe, Int.reduceToNat, decide_true, decide_false, iaddr_i, iaddr_sl_i, not_true_eq_false, not_false_eq_true, reduceCtorEq, ne_eq, forall_const, false_imp_iff, true_imp_iff, implies_true, Int.cast_ofNat_Int, Int.natCast_zero, Int.natCast_one, Int.add_zero, Int.zero_add]
                exact ⟨ops.length - (k + 1), by omega, k + 1, _, rfl, hkn, hA2, rfl, rfl⟩
              | false =>
                have hend : out ++ [pol] = putF pol l2 := by simpa [refEnd] using hend
                obtain ⟨y3, M3, ha, hL3⟩ := (hL.grow [.cells pol.enc 0 none true]).app hi pol (by simp only; omega)
                have hA2 : Acc true polE S M3 y3 (applyF l (ops.take (k + 1))) := by
                  rw [hs, ← hend]
                  rw [← hbl] at hL3
                  exact (hL3.acc hpre).base hSb
                simp only [polE, Pol.enc] at ha hbM hbM0
                simp (maxSteps := 1000000) (disch := omega) only [c16l0, g8, g7, g42, g16, g17, g18, g43, g44, g9, g10, hkI2, hbM, hbM0, ha, wrapS hk6, go_sem, Option.map_none, Option.map_some, ↓reduceIte, Nat.reduceBEq, Nat.reduceAdd, Nat.reduceSub, Nat.reduceEqDiff, Nat.reduceLeDiff, Nat.reduceMul, Nat.reduceLT, Int.reduceLT, Int.reduceLE, Int.reduceAdd, Int.reduceSub, Int.reduceMul, Int.reduceNeg, Int.reduceEq, Int.reduceNe, Int.reduceToNat, decide_true, decide_false, iaddr_i, iaddr_sl_i, not_true_eq_false, not_false_eq_true, reduceCtorEq, ne_eq, forall_const, false_imp_iff, true_imp_iff, implies_true, Int.cast_ofNat_Int, Int.natCast_zero, Int.natCast_one, Int.add_zero, Int.zero_add]
                exact ⟨ops.length - (k + 1), by omega, k + 1, _, rfl, hkn, hA2, rfl, rfl⟩
          · by_cases hk5 : kind = 5
            · subst hk5
              have hs : applyF l (ops.take (k + 1)) = dropF sub l2 := hs
              simp (maxSteps := 1000000) (disch := omega) only [c16l1, e16, e17, e18, e5, hkI, Int.toNat_natCast, hro, List.replicate, hox, hoy, lst_len hlst, go_sem, Option.map_none, Option.map_some, ↓reduceIte, Nat.reduceBEq, Nat.reduceAdd, Nat.reduceSub, Nat.reduceEqDiff, Nat.reduceLeDiff, Nat.reduceMul, Nat.reduceLT, Int.reduceLT, Int.reduceLE, Int.reduceAdd, Int.reduceSub, Int.reduceMul, Int.reduceNeg, Int.reduceEq, Int.reduceNe, Int.reduceToNat, decide_true, decide_false, iaddr_i, iaddr_sl_i, not_true_eq_false, not_false_eq_true, reduceCtorEq, ne_eq, forall_const, false_imp_iff, true_imp_iff, implies_true, Int.cast_ofNat_Int, Int.natCast_zero, Int.natCast_one, Int.add_zero, Int.zero_add]
              obtain ⟨box, hbox⟩ : ∃ box : Blk, box = .cells [.i .i64 5, .i .i64 sub, .i .i64 m, .i .u64 n, ox, .i .i64 pol.sub, .i .u8 pol.a, .i .u8 pol.b, .i .u8 pol.c, .i .u8 pol.d, .i .i64 pol.bits, .i .u64 pol.rate, .i .u64 pol.burst, .i .u64 pol.srate, .i .u64 pol.sburst, .i .u64 pol.quota, .i .u64 pol.lease, .i .u64 pol.quantum, oy] 0 none true := ⟨_, rfl⟩
              obtain ⟨M1, hM1⟩ : ∃ M1, M1 = M ++ [box, .cells [] 0 none true] := ⟨_, rfl⟩
              have hbox1 : M1[M.length]? = some box := by rw [hM1]; simp
              have hi : M1[M.length + 1]? = some (.cells [] 0 none true) := by rw [hM1]; simp
              have hb : ∀ L, rowB ((M1 ++ L)[M.length]?) 5 0 13 = some pol.enc := fun L => by rw [at_old hbox1, hbox]; rfl
              have hl1 : lstV polE M1 y = some l2 := by rw [hM1]; exact lstV_grow hlst _
              have hbl : (M ++ [box]).length = M.length + 1 := by simp
              have hpre : (M ++ [box]) ++ [Blk.cells [] 0 none true] <+: M1 := by rw [hM1, List.append_assoc]; exact ext_refl
              have hSb : S <+: M ++ [box] := ext_more hSM _
              rw [← hbox, ← hM1]
              refine wp_loop (innI M.length (M.length + 1) M1 y (.sl bi o v ops.length cap ex) l2 ops.length k pol sub true) (j := l2.length) ⟨rfl, 0, ([], true), _, rfl, Nat.zero_le _, rfl, .inl ⟨rfl, rfl, ext_refl⟩, rfl, rfl, rfl, rfl, rfl, rfl, rfl, rfl, rfl, rfl⟩ ?_
              rintro j2 e2 M2 d2 ⟨rfl, k2, st, y2, rfl, hk2, hst, hL, g8, g7, g42, g16, g17, g18, g43, g44, g9, g10⟩
              by_cases hkl : k2 < l2.length
              · refine inner_round hl1 (by omega) hb hi hkl hst hL ?_ ?_ ?_ ?_ ?_ ?_ ?_ ?_ ?_ ?_ <;> first | (rw [get_keepE, if_pos (by decide)]; assumption) | skip
              · obtain rfl : k2 = l2.length := by omega
                have hkI2 : ¬ ((l2.length : Int) < l2.length) := by omega
                rw [List.take_length] at hst
                have hMM := hL.ext
                have hbM : ∀ L, rowB ((M2 ++ L)[M.length]?) 5 0 13 = some pol.enc := fun L => by
                  obtain ⟨T, hT⟩ := hMM
                  rw [← hT, List.append_assoc]; exact hb _
                have hbM0 := hbM []
                rw [List.append_nil] at hbM0
                refine W_sound none_ok mixed _ _ _ _ _ ?_
                have hend := ref_done (p := pol) (id := sub) l2 []
                rw [← hst, List.nil_append] at hend
                subst hend
                have hA2 : Acc true polE S M2 y2 (applyF l (ops.take (k + 1))) := by
                  rw [hs]
                  rw [← hbl] at hL
                  exact (hL.acc hpre).base hSb
                simp (maxSteps := 1000000) (disch := omega) only [c16l0, g8, g7, g42, g16, g17, g18, g43, g44, g9, g10, hkI2, wrapS hk6, go_sem, Option.map_none, Option.map_some, ↓reduceIte, Nat.reduceBEq, Nat.reduceAdd, Nat.reduceSub, Nat.reduceEqDiff, Nat.reduceLeDiff, Nat.reduceMul, Nat.reduceLT, Int.reduceLT, Int.reduceLE, Int.reduceAdd, Int.reduceSub, Int.reduceMul, Int.reduceNeg, Int.reduceEq, Int.reduceNe, Int.reduceToNat, decide_true, decide_false, iaddr_i, iaddr_sl_i, not_true_eq_false, not_false_eq_true, reduceCtorEq, ne_eq, forall_const, false_imp_iff, true_imp_iff, implies_true, Int.cast_ofNat_Int, Int.natCast_zero, Int.natCast_one, Int.add_zero, Int.zero_add]
                exact ⟨ops.length - (k + 1), by omega, k + 1, _, rfl, hkn, hA2, rfl, rfl⟩
            · have hs : applyF l (ops.take (k + 1)) = l2 := by rw [hs]; simp only [stepQ]; rw [if_neg hk4, if_neg hk5]
              simp (maxSteps := 1000000) (disch := omega) only [c16l1, e16, e17, e18, e5, hkI, Int.toNat_natCast, hro, List.replicate, hox, hoy, hk4, hk5, wrapS hk6, go_sem, Option.map_none, Option.map_some, ↓reduceIte, Nat.reduceBEq, Nat.reduceAdd, Nat.reduceSub, Nat.reduceEqDiff, Nat.reduceLeDiff, Nat.reduceMul, Nat.reduceLT, Int.reduceLT, Int.reduceLE, Int.reduceAdd, Int.reduceSub, Int.reduceMul, Int.reduceNeg, Int.reduceEq, Int.reduceNe, Int.reduceToNat, decide_true, decide_false, iaddr_i, iaddr_sl_i, not_true_eq_false, not_false_eq_true, reduceCtorEq, ne_eq, forall_const, false_imp_iff, true_imp_iff, implies_true, Int.cast_ofNat_Int, Int.natCast_zero, Int.natCast_one, Int.add_zero, Int.zero_add]
              exact ⟨ops.length - (k + 1), by omega, k + 1, _, rfl, hkn, by rw [hs]; exact hA.grow _, rfl, rfl⟩
        · have hkI : ¬ (k : Int) < ops.length := by omega
          obtain rfl : k = ops.length := by omega
          rw [List.take_length] at hA
          simp (maxSteps := 1000000) (disch := omega) only [c16l1, e16, e17, e18, e5, hkI, go_sem, Option.map_none, Option.map_some, ↓reduceIte, Nat.reduceBEq, Nat.reduceAdd, Nat.reduceSub, Nat.reduceEqDiff, Nat.reduceLeDiff, Nat.reduceMul, Nat.reduceLT, Int.reduceLT, Int.reduceLE, Int.reduceAdd, Int.reduceSub, Int.reduceMul, Int.reduceNeg, Int.reduceEq, Int.reduceNe, Int.reduceToNat, decide_true, decide_false, iaddr_i, iaddr_sl_i, not_true_eq_false, not_false_eq_true, reduceCtorEq, ne_eq, forall_const, false_imp_iff, true_imp_iff, implies_true, Int.cast_ofNat_Int, Int.natCast_zero, Int.natCast_one, Int.add_zero, Int.zero_add]
          exact hA.ret polE_flat
      · cases h
    · cases h
  · cases h
end Go.Proofs.Ytcoljpgnjiakjaa

namespace Go.Proofs.Ytcoljpgnjiakjaa
open Go.RowKit
set_option linter.unusedVariables false
set_option maxRecDepth 100000

section
variable {H : Type} {enc : TypeId × Value → H} {W : World}
abbrev polSh : List CS := [.int .i64, .int .u8, .int .u8, .int .u8, .int .u8, .int .i64, .int .u64, .int .u64, .int .u64, .int .u64, .int .u64, .int .u64, .int .u64]
theorem rowPol {cs : List Value} (h : RowIs enc Try.prog W polSh cs) : ∃ a : Pol, cs.map (absV W) = a.enc := by
  obtain ⟨h1, h2⟩ := h
  match cs, h1 with
  | [x0, x1, x2, x3, x4, x5, x6, x7, x8, x9, x10, x11, x12], _ =>
    obtain ⟨a0, rfl, w0⟩ := h2 0 (by simp) (by simp)
    obtain ⟨a1, rfl, w1⟩ := h2 1 (by simp) (by simp)
    obtain ⟨a2, rfl, w2⟩ := h2 2 (by simp) (by simp)
    obtain ⟨a3, rfl, w3⟩ := h2 3 (by simp) (by simp)
    obtain ⟨a4, rfl, w4⟩ := h2 4 (by simp) (by simp)
    obtain ⟨a5, rfl, w5⟩ := h2 5 (by simp) (by simp)
    obtain ⟨a6, rfl, w6⟩ := h2 6 (by simp) (by simp)
    obtain ⟨a7, rfl, w7⟩ := h2 7 (by simp) (by simp)
    obtain ⟨a8, rfl, w8⟩ := h2 8 (by simp) (by simp)
    obtain ⟨a9, rfl, w9⟩ := h2 9 (by simp) (by simp)
    obtain ⟨a10, rfl, w10⟩ := h2 10 (by simp) (by simp)
    obtain ⟨a11, rfl, w11⟩ := h2 11 (by simp) (by simp)
    obtain ⟨a12, rfl, w12⟩ := h2 12 (by simp) (by simp)
    exact ⟨⟨a0, a1, a2, a3, a4, a5, a6, a7, a8, a9, a10, a11, a12⟩, rfl⟩
theorem cellPols {v : Value} (h : CellIs enc Try.prog W (.slice 28) v) : ∃ l : List Pol, lstV polE (absS W) (absV W v) = some l := by
  have s2 : shapes Try.prog 20 28 = some polSh := by kernel_rfl
  have c2 : Try.prog.cellsOf 28 = 13 := by kernel_rfl
  obtain ⟨l, hl, _⟩ := lst_of (e := Pol.enc) (sz := 13) c2 (by omega) h (fun cs fuel x ht => let ⟨a, h1⟩ := rowPol (shapes_ok 20 fuel 28 cs x _ ht s2); ⟨a, h1, rfl⟩)
    (good := fun _ => True) (fun cs fuel x a ht he => trivial)
  exact ⟨l, lst_lstV (E := polE) hl⟩
theorem argPols {v : Value} {base : Nat} {d : DataW H} {ps : List MemPlace} (o : Value.okWide Try.prog W .any base 29 v) (h : DataW.Trod enc Try.prog W 0 (fun _ => true) true 29 v d ps) :
    ∃ l, lstV polE (absS W) (absA W v) = some l := by
  have s0 : shapes Try.prog 20 29 = some [.slice 28] := by kernel_rfl
  have hv : v.cells.toList = [v] ∧ absA W v = absV W v := by
    cases v with
    | agg cs =>
      unfold Value.okWide at o
      rw [Try.underlying29] at o
      unfold Cell.okWide at o
      rw [Try.underlying29] at o
      unfold Cell.ok at o
      rw [Try.underlying29] at o
      simp at o
    | _ => exact ⟨rfl, rfl⟩
  obtain ⟨h1, h2⟩ := arg_row h s0
  rw [hv.1] at h1 h2
  have hc := h2 0 (by simp) (by simp)
  simp only [List.getElem_cons_zero] at hc
  rw [hv.2]
  exact cellPols hc
end
end Go.Proofs.Ytcoljpgnjiakjaa

namespace Go.Proofs.Ytcoljpgnjiakjaa
open Go.RowKit
set_option linter.unusedVariables false
set_option maxRecDepth 100000

section
variable {H : Type} {enc : TypeId × Value → H} {W : World}
theorem cellOne {e : TypeId} {c : CS} (hs : shapes Try.prog 20 e = some [c]) (hc : Try.prog.cellsOf e = 1) {v : Value} (h : CellIs enc Try.prog W (.slice e) v) : (absV W v).one = true := by
  obtain ⟨l, hl, _⟩ := lst_of (α := AV) (e := fun a => [a]) (sz := 1) hc (by omega) h (fun cs fuel x ht => by
      have h1 := (shapes_ok 20 fuel e cs x _ ht hs).1
      match cs, h1 with
      | [a], _ => exact ⟨absV W a, rfl, rfl⟩)
    (good := fun _ => True) (fun cs fuel x a ht he => trivial)
  rcases hl with ⟨h1, _⟩ | ⟨h1, _⟩ | ⟨i, o, v, len, cap, ex, h1, _, _⟩ <;> rw [h1] <;> rfl
abbrev opSh : List CS := [.int .i64, .int .i64, .int .i64, .int .u64, .slice 5, .int .i64, .int .u8, .int .u8, .int .u8, .int .u8, .int .i64, .int .u64, .int .u64, .int .u64, .int .u64, .int .u64, .int .u64, .int .u64, .slice 4]
theorem rowOp {cs : List Value} (h : RowIs enc Try.prog W opSh cs) : ∃ a : Oq, cs.map (absV W) = a.enc := by
  have c5 : Try.prog.cellsOf 5 = 1 := by kernel_rfl
  have c4 : Try.prog.cellsOf 4 = 1 := by kernel_rfl
  have s5 : shapes Try.prog 20 5 = some [.int .u8] := by kernel_rfl
  have s4 : shapes Try.prog 20 4 = some [.bool] := by kernel_rfl
  obtain ⟨h1, h2⟩ := h
  match cs, h1 with
  | [x0, x1, x2, x3, x4, x5, x6, x7, x8, x9, x10, x11, x12, x13, x14, x15, x16, x17, x18], _ =>
    obtain ⟨a0, rfl, w0⟩ := h2 0 (by simp) (by simp)
    obtain ⟨a1, rfl, w1⟩ := h2 1 (by simp) (by simp)
    obtain ⟨a2, rfl, w2⟩ := h2 2 (by simp) (by simp)
    obtain ⟨a3, rfl, w3⟩ := h2 3 (by simp) (by simp)
    have w4 := cellOne s5 c5 (h2 4 (by simp) (by simp))
    obtain ⟨a5, rfl, w5⟩ := h2 5 (by simp) (by simp)
    obtain ⟨a6, rfl, w6⟩ := h2 6 (by simp) (by simp)
    obtain ⟨a7, rfl, w7⟩ := h2 7 (by simp) (by simp)
    obtain ⟨a8, rfl, w8⟩ := h2 8 (by simp) (by simp)
    obtain ⟨a9, rfl, w9⟩ := h2 9 (by simp) (by simp)
    obtain ⟨a10, rfl, w10⟩ := h2 10 (by simp) (by simp)
    obtain ⟨a11, rfl, w11⟩ := h2 11 (by simp) (by simp)
    obtain ⟨a12, rfl, w12⟩ := h2 12 (by simp) (by simp)
    obtain ⟨a13, rfl, w13⟩ := h2 13 (by simp) (by simp)
    obtain ⟨a14, rfl, w14⟩ := h2 14 (by simp) (by simp)
    obtain ⟨a15, rfl, w15⟩ := h2 15 (by simp) (by simp)
    obtain ⟨a16, rfl, w16⟩ := h2 16 (by simp) (by simp)
    obtain ⟨a17, rfl, w17⟩ := h2 17 (by simp) (by simp)
    have w18 := cellOne s4 c4 (h2 18 (by simp) (by simp))
    exact ⟨⟨a0, a1, a2, a3, ⟨_, w4⟩, ⟨a5, a6, a7, a8, a9, a10, a11, a12, a13, a14, a15, a16, a17⟩, ⟨_, w18⟩⟩, rfl⟩
theorem cellOps {v : Value} (h : CellIs enc Try.prog W (.slice 40) v) : ∃ l : List Oq, lstV oqE (absS W) (absV W v) = some l := by
  have s2 : shapes Try.prog 20 40 = some opSh := by kernel_rfl
  have c2 : Try.prog.cellsOf 40 = 19 := by kernel_rfl
  obtain ⟨l, hl, _⟩ := lst_of (e := Oq.enc) (sz := 19) c2 (by omega) h (fun cs fuel x ht => let ⟨a, h1⟩ := rowOp (shapes_ok 20 fuel 40 cs x _ ht s2); ⟨a, h1, rfl⟩)
    (good := fun _ => True) (fun cs fuel x a ht he => trivial)
  exact ⟨l, lst_lstV (E := oqE) hl⟩
theorem argOps {v : Value} {base : Nat} {d : DataW H} {ps : List MemPlace} (o : Value.okWide Try.prog W .any base 31 v) (h : DataW.Trod enc Try.prog W 0 (fun _ => true) true 31 v d ps) :
    ∃ l, lstV oqE (absS W) (absA W v) = some l := by
  have s0 : shapes Try.prog 20 31 = some [.slice 40] := by kernel_rfl
  have hv : v.cells.toList = [v] ∧ absA W v = absV W v := by
    cases v with
    | agg cs =>
      unfold Value.okWide at o
      rw [Try.underlying31] at o
      unfold Cell.okWide at o
      rw [Try.underlying31] at o
      unfold Cell.ok at o
      rw [Try.underlying31] at o
      simp at o
    | _ => exact ⟨rfl, rfl⟩
  obtain ⟨h1, h2⟩ := arg_row h s0
  rw [hv.1] at h1 h2
  have hc := h2 0 (by simp) (by simp)
  simp only [List.getElem_cons_zero] at hc
  rw [hv.2]
  exact cellOps hc
end
end Go.Proofs.Ytcoljpgnjiakjaa

namespace Go.Proofs.Ytcoljpgnjiakjaa
open Go.RowKit
set_option linter.unusedSimpArgs false
set_option linter.unusedVariables false
set_option maxRecDepth 100000

theorem alive_run : isTrue ((evAll tab 100000 100).fn 8 [] []) = true := by kernel_rfl
def aliveS : Spec := fun args S => match args with
  | [] => some (.b true, S)
  | _ => none
theorem alive_ok : SpecOK Try.prog 8 aliveS := by
  intro args S x S' h
  unfold aliveS at h
  split at h
  · cases h
    exact fnOK_of_below (by kernel_rfl) (fun w => calls_of_ev mixed tab_ok alive_run w) S
  · cases h

end Go.Proofs.Ytcoljpgnjiakjaa

namespace Go.Proofs.Ytcoljpgnjiakjaa
open Go.RowKit
set_option linter.unusedSimpArgs false
set_option linter.unusedVariables false
set_option maxRecDepth 100000

theorem great_no {a b : List Pol} (h : greatF a b = false) : a.length ≤ 30 ∧ b.length ≤ 30 ∧ risF 0 a = true ∧ risF 0 b = true := by
  simpa [greatF, Nat.not_lt, and_assoc] using h
theorem great_eq {S : Mem} {x y : AV} {a b : List Pol} (ha : lstV polE S x = some a) (hb : lstV polE S y = some b) : greatS [x, y] S = some (.b (greatF a b), S) := by
  simp only [greatS, ha, hb]
theorem sameP_eq {S : Mem} {x y : AV} {a b : List Pol} (ha : lstV polE S x = some a) (hb : lstV polE S y = some b) (h1 : a.length ≤ 900000) : samePS [x, y] S = some (.b (decide (a = b)), S) := by
  simp only [samePS, ha, hb]; rw [if_pos h1]
section
variable {H : Type} {enc : TypeId × Value → H}
end
end Go.Proofs.Ytcoljpgnjiakjaa

namespace Go.Proofs.Ytcoljpgnjiakjaa
open Go.RowKit
set_option linter.unusedSimpArgs false
set_option linter.unusedVariables false
set_option maxRecDepth 100000

theorem oDa_ok : OK Try.prog (lamOf Try.prog) (orcOf [(8, aliveS), (12, greatS), (11, applyS), (16, rapplyS), (15, samePS)]) := orc_ok (by simpa using ⟨alive_ok, great_ok, apply_ok, rapply_ok, sameP_ok⟩)
set_option maxHeartbeats 2000000 in
theorem diffapplies_ok (S : Mem) (x xo : AV) (a : List Pol) (ops : List Oq) (ha : lstV polE S x = some a) (ho : lstV oqE S xo = some ops) : FnOK Try.prog 5 [x, xo] S (.b true) S := by
  have g1 := great_eq (b := []) ha (show lstV polE S .sn = some [] from rfl)
  refine fn_of_wp f5 rfl (W_sound oDa_ok mixed _ _ _ _ _ ?_)
  cases h1 : greatF a [] with
  | true =>
    rw [h1] at g1
    simp (maxSteps := 1000000) (disch := omega) only [c5, orc_cons, aliveS, g1, go_sem, Option.map_none, Option.map_some, ↓reduceIte, Nat.reduceBEq, Nat.reduceAdd, Nat.reduceSub, Nat.reduceEqDiff, Nat.reduceLeDiff, Nat.reduceMul, Nat.reduceLT, Int.reduceLT, Int.reduceLE, Int.reduceAdd, Int.reduceSub, Int.reduceMul, Int.reduceNeg, Int.reduceEq, Int.reduceNe, Int.reduceToNat, decide_true, decide_false, iaddr_i, iaddr_sl_i, not_true_eq_false, not_false_eq_true, reduceCtorEq, ne_eq, forall_const, false_imp_iff, true_imp_iff, implies_true, Int.cast_ofNat_Int, Int.natCast_zero, Int.natCast_one, Int.add_zero, Int.zero_add]
    exact wkv_same
  | false =>
    rw [h1] at g1
    obtain ⟨la, _, ra, _⟩ := great_no h1
    by_cases hol : (ops.length : Int) > 60
    · simp (maxSteps := 1000000) (disch := omega) only [c5, orc_cons, aliveS, g1, lst_len ho, hol, go_sem, Option.map_none, Option.map_some, ↓reduceIte, Nat.reduceBEq, Nat.reduceAdd, Nat.reduceSub, Nat.reduceEqDiff, Nat.reduceLeDiff, Nat.reduceMul, Nat.reduceLT, Int.reduceLT, Int.reduceLE, Int.reduceAdd, Int.reduceSub, Int.reduceMul, Int.reduceNeg, Int.reduceEq, Int.reduceNe, Int.reduceToNat, decide_true, decide_false, iaddr_i, iaddr_sl_i, not_true_eq_false, not_false_eq_true, reduceCtorEq, ne_eq, forall_const, false_imp_iff, true_imp_iff, implies_true, Int.cast_ofNat_Int, Int.natCast_zero, Int.natCast_one, Int.add_zero, Int.zero_add]
      exact wkv_same
    · simp (maxSteps := 1000000) (disch := omega) only [c5, orc_cons, aliveS, g1, lst_len ho, hol, go_sem, Option.map_none, Option.map_some, ↓reduceIte, Nat.reduceBEq, Nat.reduceAdd, Nat.reduceSub, Nat.reduceEqDiff, Nat.reduceLeDiff, Nat.reduceMul, Nat.reduceLT, Int.reduceLT, Int.reduceLE, Int.reduceAdd, Int.reduceSub, Int.reduceMul, Int.reduceNeg, Int.reduceEq, Int.reduceNe, Int.reduceToNat, decide_true, decide_false, iaddr_i, iaddr_sl_i, not_true_eq_false, not_false_eq_true, reduceCtorEq, ne_eq, forall_const, false_imp_iff, true_imp_iff, implies_true, Int.cast_ofNat_Int, Int.natCast_zero, Int.natCast_one, Int.add_zero, Int.zero_add]
      refine wp_loop (fun j e M dl => dl = [] ∧ ∃ k : Nat, j = ops.length - k ∧ k ≤ ops.length ∧ S <+: M ∧ e.get 17 = xo ∧ e.get 0 = x ∧ e.get 1 = xo ∧ e.get 18 = .i .i64 ops.length ∧ e.get 19 = .i .i64 k) (j := ops.length)
        ⟨rfl, 0, rfl, Nat.zero_le _, ext_refl, rfl, rfl, rfl, rfl, rfl⟩ ?_
      rintro j e M d' ⟨rfl, k, rfl, hk, hSM, e17, e0, e1, e18, e19⟩
      refine W_sound oDa_ok mixed _ _ _ _ _ ?_
      by_cases hkn : k < ops.length
      · obtain ⟨bi, o, v, cap, ex, rfl⟩ := lst_sl ho hkn
        have hro := lstV_row (lst_ext ho hSM) hkn []
        rw [List.append_nil] at hro
        have hkI : (k : Int) < ops.length := by omega
        have hk6 : k < 1000000 := by omega
        have hro : rowB (M[bi]?) (o + k * 19) v 19 = some (ops[k]).enc := hro
        generalize ops[k] = q at hro
        obtain ⟨kind, sub, m, n, ⟨ox, hox⟩, pol, ⟨oy, hoy⟩⟩ := q
        simp only [Oq.enc] at hro
        by_cases hk4 : kind = 4
        · subst hk4
          by_cases hp : pol.sub < 1
          · simp (maxSteps := 1000000) (disch := omega) only [c5l0, e17, e0, e1, e18, e19, hkI, Int.toNat_natCast, hro, List.replicate, hox, hoy, hp, wrapS hk6, go_sem, Option.map_none, Option.map_some, ↓reduceIte, Nat.reduceBEq, Nat.reduceAdd, Nat.reduceSub, Nat.reduceEqDiff, Nat.reduceLeDiff, Nat.reduceMul, Nat.reduceLT, Int.reduceLT, Int.reduceLE, Int.reduceAdd, Int.reduceSub, Int.reduceMul, Int.reduceNeg, Int.reduceEq, Int.reduceNe, Int.reduceToNat, decide_true, decide_false, iaddr_i, iaddr_sl_i, not_true_eq_false, not_false_eq_true, reduceCtorEq, ne_eq, forall_const, false_imp_iff, true_imp_iff, implies_true, Int.cast_ofNat_Int, Int.natCast_zero, Int.natCast_one, Int.add_zero, Int.zero_add]
            exact wkv_dropP (ext_more hSM _) rfl
          · simp (maxSteps := 1000000) (disch := omega) only [c5l0, e17, e0, e1, e18, e19, hkI, Int.toNat_natCast, hro, List.replicate, hox, hoy, hp, wrapS hk6, go_sem, Option.map_none, Option.map_some, ↓reduceIte, Nat.reduceBEq, Nat.reduceAdd, Nat.reduceSub, Nat.reduceEqDiff, Nat.reduceLeDiff, Nat.reduceMul, Nat.reduceLT, Int.reduceLT, Int.reduceLE, Int.reduceAdd, Int.reduceSub, Int.reduceMul, Int.reduceNeg, Int.reduceEq, Int.reduceNe, Int.reduceToNat, decide_true, decide_false, iaddr_i, iaddr_sl_i, not_true_eq_false, not_false_eq_true, reduceCtorEq, ne_eq, forall_const, false_imp_iff, true_imp_iff, implies_true, Int.cast_ofNat_Int, Int.natCast_zero, Int.natCast_one, Int.add_zero, Int.zero_add]
            exact ⟨ops.length - (k + 1), by omega, k + 1, rfl, hkn, ext_more hSM _, rfl⟩
        · by_cases hk5 : kind = 5
          · subst hk5
            by_cases hp : sub < 1
            · simp (maxSteps := 1000000) (disch := omega) only [c5l0, e17, e0, e1, e18, e19, hkI, Int.toNat_natCast, hro, List.replicate, hox, hoy, hp, wrapS hk6, go_sem, Option.map_none, Option.map_some, ↓reduceIte, Nat.reduceBEq, Nat.reduceAdd, Nat.reduceSub, Nat.reduceEqDiff, Nat.reduceLeDiff, Nat.reduceMul, Nat.reduceLT, Int.reduceLT, Int.reduceLE, Int.reduceAdd, Int.reduceSub, Int.reduceMul, Int.reduceNeg, Int.reduceEq, Int.reduceNe, Int.reduceToNat, decide_true, decide_false, iaddr_i, iaddr_sl_i, not_true_eq_false, not_false_eq_true, reduceCtorEq, ne_eq, forall_const, false_imp_iff, true_imp_iff, implies_true, Int.cast_ofNat_Int, Int.natCast_zero, Int.natCast_one, Int.add_zero, Int.zero_add]
              exact wkv_dropP (ext_more hSM _) rfl
            · simp (maxSteps := 1000000) (disch := omega) only [c5l0, e17, e0, e1, e18, e19, hkI, Int.toNat_natCast, hro, List.replicate, hox, hoy, hp, wrapS hk6, go_sem, Option.map_none, Option.map_some, ↓reduceIte, Nat.reduceBEq, Nat.reduceAdd, Nat.reduceSub, Nat.reduceEqDiff, Nat.reduceLeDiff, Nat.reduceMul, Nat.reduceLT, Int.reduceLT, Int.reduceLE, Int.reduceAdd, Int.reduceSub, Int.reduceMul, Int.reduceNeg, Int.reduceEq, Int.reduceNe, Int.reduceToNat, decide_true, decide_false, iaddr_i, iaddr_sl_i, not_true_eq_false, not_false_eq_true, reduceCtorEq, ne_eq, forall_const, false_imp_iff, true_imp_iff, implies_true, Int.cast_ofNat_Int, Int.natCast_zero, Int.natCast_one, Int.add_zero, Int.zero_add]
              exact ⟨ops.length - (k + 1), by omega, k + 1, rfl, hkn, ext_more hSM _, rfl⟩
          · simp (maxSteps := 1000000) (disch := omega) only [c5l0, e17, e0, e1, e18, e19, hkI, Int.toNat_natCast, hro, List.replicate, hox, hoy, hk4, hk5, wrapS hk6, go_sem, Option.map_none, Option.map_some, ↓reduceIte, Nat.reduceBEq, Nat.reduceAdd, Nat.reduceSub, Nat.reduceEqDiff, Nat.reduceLeDiff, Nat.reduceMul, Nat.reduceLT, Int.reduceLT, Int.reduceLE, Int.reduceAdd, Int.reduceSub, Int.reduceMul, Int.reduceNeg, Int.reduceEq, Int.reduceNe, Int.reduceToNat, decide_true, decide_false, iaddr_i, iaddr_sl_i, not_true_eq_false, not_false_eq_true, reduceCtorEq, ne_eq, forall_const, false_imp_iff, true_imp_iff, implies_true, Int.cast_ofNat_Int, Int.natCast_zero, Int.natCast_one, Int.add_zero, Int.zero_add]
            exact ⟨ops.length - (k + 1), by omega, k + 1, rfl, hkn, ext_more hSM _, rfl⟩
      · have hkI : ¬ (k : Int) < ops.length := by omega
        have haM := lst_ext ha hSM
        have hoM := lst_ext ho hSM
        obtain ⟨X1, M1, hap1, hX1⟩ := (acc_lit (E := polE) (S := M) (M := M) ext_refl).apps (bytes := 80) polE_one a (by simp only [List.length_nil]; omega) (by simp only [List.length_nil]; omega)
        rw [List.nil_append] at hX1
        have hap1 : appV (M ++ [.cells [] 0 none true]) 13 80 (.sl M.length 0 0 0 0 true) (a.flatMap polE.enc) a.length = some (X1, M1) := hap1
        have hs1 : ∀ L, srcV (M ++ L) 13 x = some (a.flatMap polE.enc, a.length) := fun L => src_lst (lstV_grow haM L)
        have hl1 := hX1.lst
        have hMM1 := hX1.ext
        have hris := ris_of ra
        have eA := apply_eq hl1 (lst_ext hoM hMM1) (by omega) (by omega) hris
        have hY1 := apX_lst (z := isSl X1) (t := tch a ops) (S := M1) (l := applyF a ops)
        have hM2 : M1 <+: apM (isSl X1) (tch a ops) M1 (applyF a ops) := apM_ext
        generalize apX (isSl X1) (tch a ops) M1 (applyF a ops) = Y1 at eA hY1
        generalize apM (isSl X1) (tch a ops) M1 (applyF a ops) = M2 at eA hY1 hM2
        have hMM2 := hMM1.trans hM2
        have eB := rapply_eq (lst_ext haM hMM2) (lst_ext hoM hMM2) (by omega) (by omega) hris
        have hY2 := retX_lst (z := true) (E := polE) (S := M2) (l := applyF a ops)
        have hM3 : M2 <+: retM true polE M2 (applyF a ops) := retM_ext
        generalize retX true M2 (applyF a ops) = Y2 at eB hY2
        generalize retM true polE M2 (applyF a ops) = M3 at eB hY2 hM3
        have hlen := apply_len a ops
        have eC := sameP_eq (lst_ext hY1 hM3) hY2 (by omega)
        have eD := sameP_eq (lst_ext hl1 (hM2.trans hM3)) (lst_ext haM (hMM2.trans hM3)) (by omega)
        rw [decide_eq_true rfl] at eC eD
        simp (maxSteps := 1000000) (disch := omega) only [c5l0, e17, e0, e1, e18, e19, hkI, hs1, hap1, orc_cons, eA, eB, eC, eD, go_sem, Option.map_none, Option.map_some, ↓reduceIte, Nat.reduceBEq, Nat.reduceAdd, Nat.reduceSub, Nat.reduceEqDiff, Nat.reduceLeDiff, Nat.reduceMul, Nat.reduceLT, Int.reduceLT, Int.reduceLE, Int.reduceAdd, Int.reduceSub, Int.reduceMul, Int.reduceNeg, Int.reduceEq, Int.reduceNe, Int.reduceToNat, decide_true, decide_false, iaddr_i, iaddr_sl_i, not_true_eq_false, not_false_eq_true, reduceCtorEq, ne_eq, forall_const, false_imp_iff, true_imp_iff, implies_true, Int.cast_ofNat_Int, Int.natCast_zero, Int.natCast_one, Int.add_zero, Int.zero_add]
        exact wkv_dropP (hSM.trans (hMM2.trans hM3)) rfl
section
variable {H : Type} {enc : TypeId × Value → H}
theorem walkDiffApplies (W : World) (v0 v1 : Value) {base : Nat} (o0 : Value.okWide Try.prog W .any base 29 v0) (o1 : Value.okWide Try.prog W .any base 31 v1) {d0 d1 : DataW H} {p0 p1 : List MemPlace}
    (h0 : DataW.Trod enc Try.prog W 0 (fun _ => true) true 29 v0 d0 p0) (h1 : DataW.Trod enc Try.prog W 0 (fun _ => true) true 31 v1 d1 p1) :
    Calls Try.prog 5 #[v0, v1] W fun e w' => e = .returned (.bool true) ∧ Below W.heap.size W w' := by
  obtain ⟨a, ha⟩ := argPols o0 h0
  obtain ⟨b, hb⟩ := argOps o1 h1
  refine calls_of_fnOK (S' := absS W) ?_
  show FnOK Try.prog _ [absA W v0, absA W v1] _ _ _
  exact diffapplies_ok _ _ _ a b ha hb
end
end Go.Proofs.Ytcoljpgnjiakjaa

