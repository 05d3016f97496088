/- Proved here: which networks can be, what lies in them: the program's functions and the document's. No condition. -/
import Derived.Test.YtljaigbjiheohaaDoorAb
namespace Go.Proofs.YtljaigbjiheohaaDoor
open Go.RowKit
set_option linter.unusedSimpArgs false
set_option linter.unusedVariables false
set_option maxRecDepth 10000

theorem cl_id {k : Int} (h0 : 0 ≤ k) (h1 : k ≤ 32) : cl k = k := by unfold cl; omega
theorem adr_eq {n a b c d : Int} (hn : u32 n) (h : u84 a b c d) : (b3 n = a ∧ b2 n = b ∧ b1 n = c ∧ b0 n = d) ↔ n = num a b c d := by
  obtain ⟨q1, q2, q3, q4⟩ := b_num h.1 h.2.1 h.2.2.1 h.2.2.2
  constructor
  · rintro ⟨rfl, rfl, rfl, rfl⟩; exact (num_b hn).symm
  · rintro rfl; exact ⟨q1, q2, q3, q4⟩
theorem net_eq {a b c d k : Int} (h : u84 a b c d) (h0 : 0 ≤ k) (h1 : k ≤ 32) : (b3 (cutv (num a b c d) (cl k)) = a ∧ b2 (cutv (num a b c d) (cl k)) = b ∧ b1 (cutv (num a b c d) (cl k)) = c ∧ b0 (cutv (num a b c d) (cl k)) = d ∧ cl k = k) ↔ right (num a b c d) k := by
  rw [cl_id h0 h1]
  have := adr_eq (u32_cutv (k := k) (u84_num h)) h
  unfold right
  rw [cl_id h0 h1]
  constructor
  · rintro ⟨q1, q2, q3, q4, _⟩; exact ⟨rfl, this.1 ⟨q1, q2, q3, q4⟩⟩
  · rintro ⟨_, q⟩
    obtain ⟨q1, q2, q3, q4⟩ := this.2 q
    exact ⟨q1, q2, q3, q4, rfl⟩

theorem wkv_b {S L : Mem} {p q : Prop} [Decidable p] [Decidable q] (h : p ↔ q) : WkV S (.b (decide p)) S (.b (decide q)) (S ++ L) := by
  rw [show decide p = decide q by rw [decide_eq_decide]; exact h]
  exact wkv_drop rfl
theorem wkv_f {S L : Mem} {p : Prop} [Decidable p] (h : ¬ p) : WkV S (.b (decide p)) S (.b false) (S ++ L) := by
  rw [show decide p = false by simpa using h]
  exact wkv_drop rfl
theorem wkv_t {S L : Mem} {p : Prop} [Decidable p] (h : p) : WkV S (.b (decide p)) S (.b true) (S ++ L) := by
  rw [show decide p = true by simpa using h]
  exact wkv_drop rfl
theorem right_bound {n k : Int} (h : right n k) : 0 ≤ k ∧ k ≤ 32 := by
  have := cl_bound k; rw [h.1] at this; exact this

def rightS : Spec := fun args S => match args with
  | [.ag [.i .u8 a, .i .u8 b, .i .u8 c, .i .u8 d, .i .i64 k]] => if u84 a b c d then some (.b (decide (right (num a b c d) k)), S) else none
  | _ => none
theorem rightS_eq {a b c d k : Int} (h : u84 a b c d) (S : Mem) : rightS [.ag [.i .u8 a, .i .u8 b, .i .u8 c, .i .u8 d, .i .i64 k]] S = some (.b (decide (right (num a b c d) k)), S) := by simp only [rightS, if_pos h]
theorem o18_ok : OK Tryd.prog (lamOf Tryd.prog) (orcOf [(17, cutS)]) := orc_ok (by simpa using cut_ok)
theorem o19_ok : OK Tryd.prog (lamOf Tryd.prog) (orcOf [(16, cutS), (33, clS)]) := orc_ok (by simpa using ⟨rcut_ok, bounded_ok⟩)
theorem right_ok : SpecOK Tryd.prog 18 rightS := by
  intro args S x S' h
  simp only [rightS] at h
  split at h
  · rename_i a b c d k
    split at h
    · rename_i hn
      cases h
      refine fn_of_wp f18 rfl (W_sound o18_ok mixed _ _ _ _ _ ?_)
      simp (maxSteps := 1000000) (disch := omega) only [c18, orc_cons, cutS_eq hn, net, eq_net, go_sem, ↓reduceIte, Nat.reduceBEq, Nat.reduceAdd, Nat.reduceSub, Nat.reduceEqDiff, Nat.reduceLeDiff, Nat.reduceMul, Nat.reduceLT, Int.reduceLT, Int.reduceLE, Int.reduceAdd, Int.reduceSub, Int.reduceMul, Int.reduceNeg, Int.reduceEq, Int.reduceNe, Int.reduceToNat, decide_true, decide_false, iaddr_i, iaddr_sl_i, not_true_eq_false, not_false_eq_true, reduceCtorEq, ne_eq, forall_const, false_imp_iff, true_imp_iff, implies_true, Int.cast_ofNat_Int, Int.natCast_zero, Int.natCast_one, Int.add_zero, Int.zero_add]
      refine ⟨fun h0 => ⟨fun h1 => wkv_b (net_eq hn h0 h1).symm, fun h1 => wkv_f fun hr => ?_⟩, fun h0 => wkv_f fun hr => ?_⟩
      · exact h1 (right_bound hr).2
      · exact h0 (right_bound hr).1
    · cases h
  · cases h
theorem rright_ok : SpecOK Tryd.prog 19 rightS := by
  intro args S x S' h
  simp only [rightS] at h
  split at h
  · rename_i a b c d k
    split at h
    · rename_i hn
      cases h
      refine fn_of_wp f19 rfl (W_sound o19_ok mixed _ _ _ _ _ ?_)
      simp (maxSteps := 1000000) (disch := omega) only [c19, orc_cons, cutS_eq hn, clS_eq, net, eq_net, go_sem, ↓reduceIte, Nat.reduceBEq, Nat.reduceAdd, Nat.reduceSub, Nat.reduceEqDiff, Nat.reduceLeDiff, Nat.reduceMul, Nat.reduceLT, Int.reduceLT, Int.reduceLE, Int.reduceAdd, Int.reduceSub, Int.reduceMul, Int.reduceNeg, Int.reduceEq, Int.reduceNe, Int.reduceToNat, decide_true, decide_false, iaddr_i, iaddr_sl_i, not_true_eq_false, not_false_eq_true, reduceCtorEq, ne_eq, forall_const, false_imp_iff, true_imp_iff, implies_true, Int.cast_ofNat_Int, Int.natCast_zero, Int.natCast_one, Int.add_zero, Int.zero_add]
      refine ⟨fun h0 => ?_, fun h0 => wkv_f fun hr => h0 hr.1⟩
      have hk := cl_bound k
      rw [h0] at hk
      exact wkv_b (net_eq hn hk.1 hk.2).symm
    · cases h
  · cases h

/-- The address n lies in the network of m and k. -/
def isin (n m k : Int) : Prop := right m k ∧ cutv n k = m
instance (n m k : Int) : Decidable (isin n m k) := by unfold isin; infer_instance
def inS : Spec := fun args S => match args with
  | [.ag [.i .u8 a, .i .u8 b, .i .u8 c, .i .u8 d], .ag [.i .u8 x, .i .u8 y, .i .u8 z, .i .u8 w, .i .i64 k]] => if u84 a b c d ∧ u84 x y z w then some (.b (decide (isin (num a b c d) (num x y z w) k)), S) else none
  | _ => none
theorem inS_eq {a b c d x y z w k : Int} (h : u84 a b c d) (h2 : u84 x y z w) (S : Mem) : inS [.ag [.i .u8 a, .i .u8 b, .i .u8 c, .i .u8 d], .ag [.i .u8 x, .i .u8 y, .i .u8 z, .i .u8 w, .i .i64 k]] S = some (.b (decide (isin (num a b c d) (num x y z w) k)), S) := by simp only [inS, if_pos (And.intro h h2)]
theorem o20_ok : OK Tryd.prog (lamOf Tryd.prog) (orcOf [(18, rightS), (17, cutS)]) := orc_ok (by simpa using ⟨right_ok, cut_ok⟩)
theorem o21_ok : OK Tryd.prog (lamOf Tryd.prog) (orcOf [(19, rightS), (16, cutS)]) := orc_ok (by simpa using ⟨rright_ok, rcut_ok⟩)
theorem in_ok : SpecOK Tryd.prog 20 inS := by
  intro args S x S' h
  simp only [inS] at h
  split at h
  · rename_i a b c d x y z w k
    split at h
    · rename_i hn
      cases h
      obtain ⟨h1, h2⟩ := hn
      refine fn_of_wp f20 rfl (W_sound o20_ok mixed _ _ _ _ _ ?_)
      simp (maxSteps := 1000000) (disch := omega) only [c20, orc_cons, rightS_eq h2, cutS_eq h1, net, eq_net, go_sem, ↓reduceIte, Nat.reduceBEq, Nat.reduceAdd, Nat.reduceSub, Nat.reduceEqDiff, Nat.reduceLeDiff, Nat.reduceMul, Nat.reduceLT, Int.reduceLT, Int.reduceLE, Int.reduceAdd, Int.reduceSub, Int.reduceMul, Int.reduceNeg, Int.reduceEq, Int.reduceNe, Int.reduceToNat, decide_true, decide_false, iaddr_i, iaddr_sl_i, not_true_eq_false, not_false_eq_true, reduceCtorEq, ne_eq, forall_const, false_imp_iff, true_imp_iff, implies_true, Int.cast_ofNat_Int, Int.natCast_zero, Int.natCast_one, Int.add_zero, Int.zero_add]
      refine ⟨fun hr => wkv_b ?_, fun hr => wkv_f fun hi => hr hi.1⟩
      have hk := right_bound hr
      have := adr_eq (u32_cutv (k := k) (u84_num h1)) h2
      rw [cl_id hk.1 hk.2]
      unfold isin
      constructor
      · rintro ⟨_, q⟩; obtain ⟨q1, q2, q3, q4⟩ := this.2 q; exact ⟨q1, q2, q3, q4, rfl⟩
      · rintro ⟨q1, q2, q3, q4, _⟩; exact ⟨hr, this.1 ⟨q1, q2, q3, q4⟩⟩
    · cases h
  · cases h
theorem rin_ok : SpecOK Tryd.prog 21 inS := by
  intro args S x S' h
  simp only [inS] at h
  split at h
  · rename_i a b c d x y z w k
    split at h
    · rename_i hn
      cases h
      obtain ⟨h1, h2⟩ := hn
      refine fn_of_wp f21 rfl (W_sound o21_ok mixed _ _ _ _ _ ?_)
      simp (maxSteps := 1000000) (disch := omega) only [c21, orc_cons, rightS_eq h2, cutS_eq h1, net, eq_adr, go_sem, ↓reduceIte, Nat.reduceBEq, Nat.reduceAdd, Nat.reduceSub, Nat.reduceEqDiff, Nat.reduceLeDiff, Nat.reduceMul, Nat.reduceLT, Int.reduceLT, Int.reduceLE, Int.reduceAdd, Int.reduceSub, Int.reduceMul, Int.reduceNeg, Int.reduceEq, Int.reduceNe, Int.reduceToNat, decide_true, decide_false, iaddr_i, iaddr_sl_i, not_true_eq_false, not_false_eq_true, reduceCtorEq, ne_eq, forall_const, false_imp_iff, true_imp_iff, implies_true, Int.cast_ofNat_Int, Int.natCast_zero, Int.natCast_one, Int.add_zero, Int.zero_add]
      refine ⟨fun hr => wkv_b ?_, fun hr => wkv_f fun hi => hr hi.1⟩
      have hk := right_bound hr
      have := adr_eq (u32_cutv (k := k) (u84_num h1)) h2
      rw [cl_id hk.1 hk.2]
      unfold isin
      constructor
      · rintro ⟨_, q⟩; exact this.2 q
      · intro q; exact ⟨hr, this.1 q⟩
    · cases h
  · cases h

def withinS : Spec := fun args S => match args with
  | [.ag [.i .u8 a, .i .u8 b, .i .u8 c, .i .u8 d, .i .i64 j], .ag [.i .u8 x, .i .u8 y, .i .u8 z, .i .u8 w, .i .i64 k]] => if u84 a b c d ∧ u84 x y z w then some (.b (decide (within (num a b c d) j (num x y z w) k)), S) else none
  | _ => none
theorem withinS_eq {a b c d x y z w j k : Int} (h : u84 a b c d) (h2 : u84 x y z w) (S : Mem) : withinS [.ag [.i .u8 a, .i .u8 b, .i .u8 c, .i .u8 d, .i .i64 j], .ag [.i .u8 x, .i .u8 y, .i .u8 z, .i .u8 w, .i .i64 k]] S = some (.b (decide (within (num a b c d) j (num x y z w) k)), S) := by simp only [withinS, if_pos (And.intro h h2)]
theorem o22_ok : OK Tryd.prog (lamOf Tryd.prog) (orcOf [(18, rightS), (20, inS)]) := orc_ok (by simpa using ⟨right_ok, in_ok⟩)
theorem o23_ok : OK Tryd.prog (lamOf Tryd.prog) (orcOf [(19, rightS), (21, inS), (14, numS), (12, ofS), (16, cutS)]) := orc_ok (by simpa using ⟨rright_ok, rin_ok, rnum_ok, rof_ok, rcut_ok⟩)
theorem within_ok : SpecOK Tryd.prog 22 withinS := by
  intro args S x S' h
  simp only [withinS] at h
  split at h
  · rename_i a b c d j x y z w k
    split at h
    · rename_i hn
      cases h
      obtain ⟨h1, h2⟩ := hn
      refine fn_of_wp f22 rfl (W_sound o22_ok mixed _ _ _ _ _ ?_)
      simp (maxSteps := 1000000) (disch := omega) only [c22, orc_cons, rightS_eq h1, inS_eq h1 h2, go_sem, ↓reduceIte, Nat.reduceBEq, Nat.reduceAdd, Nat.reduceSub, Nat.reduceEqDiff, Nat.reduceLeDiff, Nat.reduceMul, Nat.reduceLT, Int.reduceLT, Int.reduceLE, Int.reduceAdd, Int.reduceSub, Int.reduceMul, Int.reduceNeg, Int.reduceEq, Int.reduceNe, Int.reduceToNat, decide_true, decide_false, iaddr_i, iaddr_sl_i, not_true_eq_false, not_false_eq_true, reduceCtorEq, ne_eq, forall_const, false_imp_iff, true_imp_iff, implies_true, Int.cast_ofNat_Int, Int.natCast_zero, Int.natCast_one, Int.add_zero, Int.zero_add]
      refine ⟨fun hr => ⟨fun hk => wkv_b ⟨fun q => ⟨q.2.2.1, q.2.2.2⟩, fun q => ⟨hr, hk, q.1, q.2⟩⟩, fun hk => wkv_f fun q => hk q.2.1⟩, fun hr => wkv_f fun q => hr q.1⟩
    · cases h
  · cases h
theorem u32_all : u32 4294967295 := by decide
theorem pw_dvd {k : Int} (h0 : 0 ≤ k) (h1 : k ≤ 32) : ∃ s : Int, 0 < s ∧ 4294967296 = pw k * s := by
  refine ⟨p2 k, p2_pos k, ?_⟩
  unfold pw p2
  rw [← Int.natCast_mul, ← Nat.pow_add, show (32 - k).toNat + k.toNat = 32 by omega]
  rfl
theorem pw_le {j k : Int} (h : k ≤ j) (hj : j ≤ 32) : ∃ s : Int, 0 < s ∧ pw k = pw j * s := by
  refine ⟨p2 (j - k), p2_pos _, ?_⟩
  unfold pw p2
  rw [← Int.natCast_mul, ← Nat.pow_add, show (32 - j).toNat + (j - k).toNat = (32 - k).toNat by omega]
theorem right_mul {n j : Int} (h : right n j) : ∃ t, n = pw j * t := ⟨n / pw j, by have := h.2; unfold cutv at this; rw [Int.mul_comm]; exact this.symm⟩
theorem cut_all {j : Int} (h0 : 0 ≤ j) (h1 : j ≤ 32) : cutv 4294967295 j = 4294967296 - pw j := by
  obtain ⟨s, hs, he⟩ := pw_dvd h0 h1
  have hp := pw_pos j
  have hq : (4294967295 : Int) / pw j = s - 1 := by
    rw [show (4294967295 : Int) = pw j - 1 + pw j * (s - 1) by rw [Int.mul_sub, ← he]; omega, Int.add_mul_ediv_left _ _ (by omega), Int.ediv_eq_zero_of_lt (by omega) (by omega)]
    omega
  unfold cutv
  rw [hq, Int.sub_mul, Int.mul_comm s, ← he]; omega
theorem last_u32 {n j : Int} (hn : u32 n) (h : right n j) : u32 (n + pw j - 1) := by
  have hk := right_bound h
  obtain ⟨s, hs, he⟩ := pw_dvd hk.1 hk.2
  obtain ⟨t, rfl⟩ := right_mul h
  have hp := pw_pos j
  have h1 : t < s := by
    apply Int.lt_of_mul_lt_mul_left (a := pw j) _ (Int.le_of_lt hp)
    have := hn.2; omega
  have h2 : pw j * (t + 1) ≤ pw j * s := Int.mul_le_mul_of_nonneg_left (by omega) (Int.le_of_lt hp)
  rw [Int.mul_add, Int.mul_one] at h2
  have := hn.1
  unfold u32; omega
theorem within_iff {n j m k : Int} (hn : u32 n) (hj : right n j) (hk : right m k) : within n j m k ↔ isin n m k ∧ isin (n + pw j - 1) m k := by
  have bj := right_bound hj
  have bk := right_bound hk
  have hp := pw_pos j
  have hpk := pw_pos k
  constructor
  · rintro ⟨_, hle, _, hc⟩
    refine ⟨⟨hk, hc⟩, hk, ?_⟩
    obtain ⟨s, hs, he⟩ := pw_le hle bj.2
    obtain ⟨t, ht⟩ := right_mul hj
    have e1 : (n + pw j - 1) / pw k = n / pw k := by
      rw [he, ← Int.ediv_ediv_of_nonneg (Int.le_of_lt hp), ← Int.ediv_ediv_of_nonneg (Int.le_of_lt hp), ht]
      rw [show pw j * t + pw j - 1 = pw j - 1 + pw j * t by omega, Int.add_mul_ediv_left _ _ (by omega), Int.ediv_eq_zero_of_lt (a := pw j - 1) (b := pw j) (by omega) (by omega), Int.zero_add, Int.mul_ediv_cancel_left _ (by omega)]
    unfold cutv at hc ⊢
    rw [e1]; exact hc
  · rintro ⟨h1, h2⟩
    refine ⟨hj, ?_, hk, h1.2⟩
    apply Int.not_lt.1
    intro hlt
    obtain ⟨s, hs, he⟩ := pw_le (show j ≤ k by omega) bk.2
    have hs2 : 2 ≤ s := by
      unfold pw at he
      by_cases h : s = 1
      · subst h
        rw [Int.mul_one] at he
        have := Nat.pow_lt_pow_right (a := 2) (by omega) (show (32 - k).toNat < (32 - j).toNat by omega)
        omega
      · omega
    have h3 : pw k * 2 ≤ pw j := by rw [he]; exact Int.mul_le_mul_of_nonneg_left hs2 (Int.le_of_lt hpk)
    have e1 : cutv n k = cutv (n + pw j - 1) k := by rw [h1.2, h2.2]
    unfold cutv at e1
    have e2 := Int.eq_of_mul_eq_mul_right (by omega) e1
    have e3 : (n + 1 * pw k) / pw k = n / pw k + 1 := Int.add_mul_ediv_right n 1 (by omega)
    have e4 : (n + 1 * pw k) / pw k ≤ (n + pw j - 1) / pw k := Int.ediv_le_ediv hpk (by omega)
    omega
theorem rwithin_ok : SpecOK Tryd.prog 23 withinS := by
  intro args S x S' h
  simp only [withinS] at h
  split at h
  · rename_i a b c d j x y z w k
    split at h
    · rename_i hn
      cases h
      obtain ⟨h1, h2⟩ := hn
      refine fn_of_wp f23 rfl (W_sound o23_ok mixed _ _ _ _ _ ?_)
      have hN := u84_num h1
      by_cases hr1 : right (num a b c d) j
      · by_cases hr2 : right (num x y z w) k
        · have bj := right_bound hr1
          have hl := last_u32 hN hr1
          have hp := pw_pos j
          have hw := within_iff hN hr1 hr2
          have hp2 : pw j ≤ 4294967296 := by have := cut_all bj.1 bj.2; have := u32_cutv (k := j) u32_all; unfold u32 at this; omega
          have e1 : wrapV .u32 (4294967295 - cutv 4294967295 (cl j)) = pw j - 1 := by
            rw [cl_id bj.1 bj.2, cut_all bj.1 bj.2]; show _ % 4294967296 = _; omega
          have e2 : wrapV .u32 (num a b c d + (pw j - 1)) = num a b c d + pw j - 1 := by
            unfold u32 at hl; show _ % 4294967296 = _; omega
          simp (maxSteps := 1000000) (disch := omega) only [c23, orc_cons, rightS_eq h1, rightS_eq h2, numS_eq h1, ofS_eq u32_all, ofS_eq hl, adr, cutS_eq (u84_b u32_all), net, numS_eq (u84_b (u32_cutv u32_all)), num_b u32_all, num_b (u32_cutv u32_all), inS_eq h1 h2, inS_eq (u84_b hl) h2, num_b hl, hr1, hr2, e1, e2, go_sem, ↓reduceIte, Nat.reduceBEq, Nat.reduceAdd, Nat.reduceSub, Nat.reduceEqDiff, Nat.reduceLeDiff, Nat.reduceMul, Nat.reduceLT, Int.reduceLT, Int.reduceLE, Int.reduceAdd, Int.reduceSub, Int.reduceMul, Int.reduceNeg, Int.reduceEq, Int.reduceNe, Int.reduceToNat, decide_true, decide_false, iaddr_i, iaddr_sl_i, not_true_eq_false, not_false_eq_true, reduceCtorEq, ne_eq, forall_const, false_imp_iff, true_imp_iff, implies_true, Int.cast_ofNat_Int, Int.natCast_zero, Int.natCast_one, Int.add_zero, Int.zero_add]
          refine ⟨fun hi => wkv_b (hw.trans ⟨fun q => q.2, fun q => ⟨hi, q⟩⟩), fun hi => wkv_f fun q => hi (hw.1 q).1⟩
        · simp (maxSteps := 1000000) (disch := omega) only [c23, orc_cons, rightS_eq h1, rightS_eq h2, hr1, hr2, go_sem, ↓reduceIte, Nat.reduceBEq, Nat.reduceAdd, Nat.reduceSub, Nat.reduceEqDiff, Nat.reduceLeDiff, Nat.reduceMul, Nat.reduceLT, Int.reduceLT, Int.reduceLE, Int.reduceAdd, Int.reduceSub, Int.reduceMul, Int.reduceNeg, Int.reduceEq, Int.reduceNe, Int.reduceToNat, decide_true, decide_false, iaddr_i, iaddr_sl_i, not_true_eq_false, not_false_eq_true, reduceCtorEq, ne_eq, forall_const, false_imp_iff, true_imp_iff, implies_true, Int.cast_ofNat_Int, Int.natCast_zero, Int.natCast_one, Int.add_zero, Int.zero_add]
          exact wkv_f fun q => hr2 q.2.2.1
      · simp (maxSteps := 1000000) (disch := omega) only [c23, orc_cons, rightS_eq h1, rightS_eq h2, hr1, go_sem, ↓reduceIte, Nat.reduceBEq, Nat.reduceAdd, Nat.reduceSub, Nat.reduceEqDiff, Nat.reduceLeDiff, Nat.reduceMul, Nat.reduceLT, Int.reduceLT, Int.reduceLE, Int.reduceAdd, Int.reduceSub, Int.reduceMul, Int.reduceNeg, Int.reduceEq, Int.reduceNe, Int.reduceToNat, decide_true, decide_false, iaddr_i, iaddr_sl_i, not_true_eq_false, not_false_eq_true, reduceCtorEq, ne_eq, forall_const, false_imp_iff, true_imp_iff, implies_true, Int.cast_ofNat_Int, Int.natCast_zero, Int.natCast_one, Int.add_zero, Int.zero_add]
        exact wkv_f fun q => hr1 q.1
    · cases h
  · cases h
end Go.Proofs.YtljaigbjiheohaaDoor
