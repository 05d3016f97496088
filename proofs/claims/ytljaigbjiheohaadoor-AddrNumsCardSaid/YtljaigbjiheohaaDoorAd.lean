/- Proved here: what the laws of addresses and networks answer: true. No condition. -/
import Derived.Test.YtljaigbjiheohaaDoorAc
import Derived.Test.YtljaigbjiheohaaDoorAl
namespace Go.Proofs.YtljaigbjiheohaaDoor
open Go.RowKit
set_option linter.unusedSimpArgs false
set_option linter.unusedVariables false
set_option maxRecDepth 10000

def aliveS : Spec := fun args S => match args with
  | [] => some (.b true, S)
  | _ => none
theorem alive_ok : SpecOK Tryd.prog 10 aliveS := by
  intro args S x S' h
  simp only [aliveS] at h
  split at h
  · cases h; exact fnOK_of_below (by kernel_rfl) alive S
  · cases h
theorem aliveS_eq (S : Mem) : aliveS [] S = some (.b true, S) := rfl

theorem u32_mask {k : Int} (h0 : 0 ≤ k) (h1 : k ≤ 32) : u32 (4294967296 - pw k) := by rw [← cut_all h0 h1]; exact u32_cutv u32_all
def maskS2 : Spec := fun args S => match args with
  | [.i .i64 k] => some (adr (4294967296 - pw (cl k)), S)
  | _ => none
theorem o15_ok : OK Tryd.prog (lamOf Tryd.prog) (orcOf [(32, maskS), (11, ofS)]) := orc_ok (by simpa using ⟨mask_ok, of_ok⟩)
theorem mask2_ok : SpecOK Tryd.prog 15 maskS2 := by
  intro args S x S' h
  simp only [maskS2] at h
  split at h
  · rename_i k
    cases h
    have hk := cl_bound k
    refine fn_of_wp f15 rfl (W_sound o15_ok mixed _ _ _ _ _ ?_)
    simp (maxSteps := 1000000) (disch := omega) only [c15, orc_cons, maskS_eq, ofS_eq (u32_mask hk.1 hk.2), adr, go_sem, ↓reduceIte, Nat.reduceBEq, Nat.reduceAdd, Nat.reduceSub, Nat.reduceEqDiff, Nat.reduceLeDiff, Nat.reduceMul, Nat.reduceLT, Int.reduceLT, Int.reduceLE, Int.reduceAdd, Int.reduceSub, Int.reduceMul, Int.reduceNeg, Int.reduceEq, Int.reduceNe, Int.reduceToNat, decide_true, decide_false, iaddr_i, iaddr_sl_i, not_true_eq_false, not_false_eq_true, reduceCtorEq, ne_eq, forall_const, false_imp_iff, true_imp_iff, implies_true, Int.cast_ofNat_Int, Int.natCast_zero, Int.natCast_one, Int.add_zero, Int.zero_add]
    exact wkv_drop rfl
  · cases h
theorem maskS2_eq {k : Int} (S : Mem) : maskS2 [.i .i64 k] S = some (adr (4294967296 - pw (cl k)), S) := rfl

theorem o3_ok : OK Tryd.prog (lamOf Tryd.prog) (orcOf [(10, aliveS), (11, ofS), (12, ofS), (13, numS), (14, numS), (15, maskS2), (16, cutS), (17, cutS)]) :=
  orc_ok (by simpa using ⟨alive_ok, of_ok, rof_ok, num_ok, rnum_ok, mask2_ok, rcut_ok, cut_ok⟩)
theorem nums_ok (S : Mem) (n a b c d k : Int) (hn : u32 n) (h : u84 a b c d) : FnOK Tryd.prog 3 [.i .u32 n, .ag [.i .u8 a, .i .u8 b, .i .u8 c, .i .u8 d], .i .i64 k] S (.b true) S := by
  refine fn_of_wp f3 rfl (W_sound o3_ok mixed _ _ _ _ _ ?_)
  have hk := cl_bound k
  have hc := cut_all hk.1 hk.2
  simp (maxSteps := 1000000) (disch := omega) only [c3, orc_cons, aliveS_eq, ofS_eq hn, adr, numS_eq h, maskS2_eq, cutS_eq (u84_b u32_all), num_b u32_all, ofS_eq u32_all, hc, cutS_eq h, net, eq_adr, eq_net, eq_self, and_self, go_sem, ↓reduceIte, Nat.reduceBEq, Nat.reduceAdd, Nat.reduceSub, Nat.reduceEqDiff, Nat.reduceLeDiff, Nat.reduceMul, Nat.reduceLT, Int.reduceLT, Int.reduceLE, Int.reduceAdd, Int.reduceSub, Int.reduceMul, Int.reduceNeg, Int.reduceEq, Int.reduceNe, Int.reduceToNat, decide_true, decide_false, iaddr_i, iaddr_sl_i, not_true_eq_false, not_false_eq_true, reduceCtorEq, ne_eq, forall_const, false_imp_iff, true_imp_iff, implies_true, Int.cast_ofNat_Int, Int.natCast_zero, Int.natCast_one, Int.add_zero, Int.zero_add]
  exact wkv_drop rfl

theorem o4_ok : OK Tryd.prog (lamOf Tryd.prog) (orcOf [(10, aliveS), (18, rightS), (19, rightS), (20, inS), (21, inS), (22, withinS), (23, withinS)]) :=
  orc_ok (by simpa using ⟨alive_ok, right_ok, rright_ok, in_ok, rin_ok, within_ok, rwithin_ok⟩)
theorem nets_ok (S : Mem) (a b c d x y z w j p q r s k : Int) (h : u84 a b c d) (h2 : u84 x y z w) (h3 : u84 p q r s) :
    FnOK Tryd.prog 4 [.ag [.i .u8 a, .i .u8 b, .i .u8 c, .i .u8 d], .ag [.i .u8 x, .i .u8 y, .i .u8 z, .i .u8 w, .i .i64 j], .ag [.i .u8 p, .i .u8 q, .i .u8 r, .i .u8 s, .i .i64 k]] S (.b true) S := by
  refine fn_of_wp f4 rfl (W_sound o4_ok mixed _ _ _ _ _ ?_)
  simp (maxSteps := 1000000) (disch := omega) only [c4, orc_cons, aliveS_eq, rightS_eq h2, inS_eq h h2, withinS_eq h2 h3, eq_self, and_self, go_sem, ↓reduceIte, Nat.reduceBEq, Nat.reduceAdd, Nat.reduceSub, Nat.reduceEqDiff, Nat.reduceLeDiff, Nat.reduceMul, Nat.reduceLT, Int.reduceLT, Int.reduceLE, Int.reduceAdd, Int.reduceSub, Int.reduceMul, Int.reduceNeg, Int.reduceEq, Int.reduceNe, Int.reduceToNat, decide_true, decide_false, iaddr_i, iaddr_sl_i, not_true_eq_false, not_false_eq_true, reduceCtorEq, ne_eq, forall_const, false_imp_iff, true_imp_iff, implies_true, Int.cast_ofNat_Int, Int.natCast_zero, Int.natCast_one, Int.add_zero, Int.zero_add]
  exact wkv_drop rfl

theorem cut_cut {n j k : Int} (h : k ≤ j) (hj : j ≤ 32) : cutv (cutv n j) k = cutv n k := by
  obtain ⟨s, hs, he⟩ := pw_le h hj
  have hp := pw_pos j
  unfold cutv
  rw [he, ← Int.ediv_ediv_of_nonneg (Int.le_of_lt hp), Int.mul_ediv_cancel _ (by omega), ← Int.ediv_ediv_of_nonneg (Int.le_of_lt hp)]
theorem tree1 {a n j m k : Int} (h1 : isin a n j) (h2 : isin a m k) : within n j m k ∨ within m k n j := by
  have bj := right_bound h1.1
  have bk := right_bound h2.1
  rcases Int.le_total k j with h | h
  · left
    refine ⟨h1.1, h, h2.1, ?_⟩
    rw [← h1.2, cut_cut h bj.2, h2.2]
  · right
    refine ⟨h2.1, h, h1.1, ?_⟩
    rw [← h2.2, cut_cut h bk.2, h1.2]
theorem tree2 {a n j m k : Int} (h1 : within n j m k) (h2 : isin a n j) : isin a m k := by
  obtain ⟨hr, hle, hrm, hc⟩ := h1
  refine ⟨hrm, ?_⟩
  rw [← hc, ← h2.2, cut_cut hle (right_bound hr).2]
theorem tree3 {n j m k : Int} (h1 : within n j m k) (h2 : within m k n j) : n = m ∧ j = k := by
  obtain ⟨hr, hle, hrm, hc⟩ := h1
  have : j = k := Int.le_antisymm h2.2.1 hle
  subst this
  exact ⟨by rw [← hc, hr.2], rfl⟩
theorem tree4 {n j : Int} (hn : u32 n) (h : right n j) : within n j n j ∧ isin n n j ∧ within n j (num 0 0 0 0) 0 := by
  have bj := right_bound h
  refine ⟨⟨h, Int.le_refl _, h, h.2⟩, ⟨h, h.2⟩, h, bj.1, ⟨rfl, rfl⟩, ?_⟩
  show n / 4294967296 * 4294967296 = 0
  unfold u32 at hn; omega
theorem num_inj {a b c d x y z w : Int} (h : u84 a b c d) (h2 : u84 x y z w) (e : num a b c d = num x y z w) : a = x ∧ b = y ∧ c = z ∧ d = w := by
  obtain ⟨q1, q2, q3, q4⟩ := b_num h.1 h.2.1 h.2.2.1 h.2.2.2
  obtain ⟨r1, r2, r3, r4⟩ := b_num h2.1 h2.2.1 h2.2.2.1 h2.2.2.2
  rw [e] at q1 q2 q3 q4
  exact ⟨q1.symm.trans r1, q2.symm.trans r2, q3.symm.trans r3, q4.symm.trans r4⟩

theorem o5_ok : OK Tryd.prog (lamOf Tryd.prog) (orcOf [(10, aliveS), (20, inS), (22, withinS), (18, rightS)]) :=
  orc_ok (by simpa using ⟨alive_ok, in_ok, within_ok, right_ok⟩)
set_option maxHeartbeats 4000000 in
theorem tree_ok (S : Mem) (a b c d x y z w j p q r s k : Int) (h : u84 a b c d) (h2 : u84 x y z w) (h3 : u84 p q r s) :
    FnOK Tryd.prog 5 [.ag [.i .u8 a, .i .u8 b, .i .u8 c, .i .u8 d], .ag [.i .u8 x, .i .u8 y, .i .u8 z, .i .u8 w, .i .i64 j], .ag [.i .u8 p, .i .u8 q, .i .u8 r, .i .u8 s, .i .i64 k]] S (.b true) S := by
  have u0 : u84 0 0 0 0 := by decide
  have t1 : isin (num a b c d) (num x y z w) j → isin (num a b c d) (num p q r s) k → ¬ within (num x y z w) j (num p q r s) k → ¬ within (num p q r s) k (num x y z w) j → False := fun h1 h2 h3 h4 => (tree1 h1 h2).elim h3 h4
  have t2 : within (num x y z w) j (num p q r s) k → isin (num a b c d) (num x y z w) j → ¬ isin (num a b c d) (num p q r s) k → False := fun h1 h2 h3 => h3 (tree2 h1 h2)
  have t3 : within (num x y z w) j (num p q r s) k → within (num p q r s) k (num x y z w) j → ¬ (x = p ∧ y = q ∧ z = r ∧ w = s ∧ j = k) → False := fun h1 h2' h3' => by
    obtain ⟨e1, e2⟩ := tree3 h1 h2'
    obtain ⟨r1, r2, r3, r4⟩ := num_inj h2 h3 e1
    exact h3' ⟨r1, r2, r3, r4, e2⟩
  have leaf : ∀ L : Mem, WkV S (.b true) S (.b true) (S ++ L) := fun L => wkv_drop rfl
  by_cases hr : right (num x y z w) j
  · obtain ⟨r1, r2, r3⟩ := tree4 (u84_num h2) hr
    by_cases i1 : isin (num a b c d) (num x y z w) j <;> by_cases i2 : isin (num a b c d) (num p q r s) k <;> by_cases w1 : within (num x y z w) j (num p q r s) k <;> by_cases w2 : within (num p q r s) k (num x y z w) j <;> cases he : decide (¬ (x = p ∧ y = q ∧ z = r ∧ w = s ∧ j = k))
    all_goals first
      | exact (t1 i1 i2 w1 w2).elim
      | exact (t2 w1 i1 i2).elim
      | exact (t3 w1 w2 (of_decide_eq_true he)).elim
      | (refine fn_of_wp f5 rfl (W_sound o5_ok mixed _ _ _ _ _ ?_)
         simp (maxSteps := 1000000) (disch := omega) only [c5, orc_cons, aliveS_eq, inS_eq h h2, inS_eq h h3, inS_eq h2 h2, withinS_eq h2 h3, withinS_eq h3 h2, withinS_eq h2 h2, withinS_eq h2 u0, rightS_eq h2, ne_net, i1, i2, w1, w2, he, hr, r1, r2, r3, go_sem, ↓reduceIte, Nat.reduceBEq, Nat.reduceAdd, Nat.reduceSub, Nat.reduceEqDiff, Nat.reduceLeDiff, Nat.reduceMul, Nat.reduceLT, Int.reduceLT, Int.reduceLE, Int.reduceAdd, Int.reduceSub, Int.reduceMul, Int.reduceNeg, Int.reduceEq, Int.reduceNe, Int.reduceToNat, decide_true, decide_false, iaddr_i, iaddr_sl_i, not_true_eq_false, not_false_eq_true, reduceCtorEq, ne_eq, forall_const, false_imp_iff, true_imp_iff, implies_true, Int.cast_ofNat_Int, Int.natCast_zero, Int.natCast_one, Int.add_zero, Int.zero_add]
         exact leaf _)
  · by_cases i1 : isin (num a b c d) (num x y z w) j <;> by_cases i2 : isin (num a b c d) (num p q r s) k <;> by_cases w1 : within (num x y z w) j (num p q r s) k <;> by_cases w2 : within (num p q r s) k (num x y z w) j <;> cases he : decide (¬ (x = p ∧ y = q ∧ z = r ∧ w = s ∧ j = k))
    all_goals first
      | exact (t1 i1 i2 w1 w2).elim
      | exact (t2 w1 i1 i2).elim
      | exact (t3 w1 w2 (of_decide_eq_true he)).elim
      | (refine fn_of_wp f5 rfl (W_sound o5_ok mixed _ _ _ _ _ ?_)
         simp (maxSteps := 1000000) (disch := omega) only [c5, orc_cons, aliveS_eq, inS_eq h h2, inS_eq h h3, inS_eq h2 h2, withinS_eq h2 h3, withinS_eq h3 h2, withinS_eq h2 h2, withinS_eq h2 u0, rightS_eq h2, ne_net, i1, i2, w1, w2, he, hr, go_sem, ↓reduceIte, Nat.reduceBEq, Nat.reduceAdd, Nat.reduceSub, Nat.reduceEqDiff, Nat.reduceLeDiff, Nat.reduceMul, Nat.reduceLT, Int.reduceLT, Int.reduceLE, Int.reduceAdd, Int.reduceSub, Int.reduceMul, Int.reduceNeg, Int.reduceEq, Int.reduceNe, Int.reduceToNat, decide_true, decide_false, iaddr_i, iaddr_sl_i, not_true_eq_false, not_false_eq_true, reduceCtorEq, ne_eq, forall_const, false_imp_iff, true_imp_iff, implies_true, Int.cast_ofNat_Int, Int.natCast_zero, Int.natCast_one, Int.add_zero, Int.zero_add]
         exact leaf _)
end Go.Proofs.YtljaigbjiheohaaDoor
