/- Proved here: what the functions on addresses compute, the document's too. No condition. -/
import Derived.Test.YtljaigbjiheohaaDoorAa
namespace Go.Proofs.YtljaigbjiheohaaDoor
open Go.RowKit
set_option linter.unusedSimpArgs false
set_option linter.unusedVariables false
set_option maxRecDepth 10000

theorem none_ok : OK Tryd.prog (lamOf Tryd.prog) (orcOf []) := orc_ok (l := []) (fun p hp => by cases hp)

def u84 (a b c d : Int) : Prop := u8 a ∧ u8 b ∧ u8 c ∧ u8 d
instance (a b c d : Int) : Decidable (u84 a b c d) := by unfold u84; infer_instance
theorem u84_b {n : Int} (h : u32 n) : u84 (b3 n) (b2 n) (b1 n) (b0 n) := ⟨u8_b3 h, u8_b2 n, u8_b1 n, u8_b0 n⟩
theorem u84_num {a b c d : Int} (h : u84 a b c d) : u32 (num a b c d) := u32_num h.1 h.2.1 h.2.2.1 h.2.2.2

def ofS : Spec := fun args S => match args with
  | [.i .u32 n] => if u32 n then some (adr n, S) else none
  | _ => none
theorem ofS_eq {n : Int} (h : u32 n) (S : Mem) : ofS [.i .u32 n] S = some (adr n, S) := by simp only [ofS, if_pos h]
theorem of_ok : SpecOK Tryd.prog 11 ofS := by
  intro args S x S' h
  simp only [ofS] at h
  split at h
  · rename_i n
    split at h
    · rename_i hn
      cases h
      unfold u32 at hn
      refine fn_of_wp f11 rfl (W_sound none_ok mixed _ _ _ _ _ ?_)
      simp (maxSteps := 1000000) (disch := omega) only [c11, shr_24, shr_16, shr_8, wrap_mod, go_sem, ↓reduceIte, Nat.reduceBEq, Nat.reduceAdd, Nat.reduceSub, Nat.reduceEqDiff, Nat.reduceLeDiff, Nat.reduceMul, Nat.reduceLT, Int.reduceLT, Int.reduceLE, Int.reduceAdd, Int.reduceSub, Int.reduceMul, Int.reduceNeg, Int.reduceEq, Int.reduceNe, Int.reduceToNat, decide_true, decide_false, iaddr_i, iaddr_sl_i, not_true_eq_false, not_false_eq_true, reduceCtorEq, ne_eq, forall_const, false_imp_iff, true_imp_iff, implies_true, Int.cast_ofNat_Int, Int.natCast_zero, Int.natCast_one, Int.add_zero, Int.zero_add]
      rw [show adr n = AV.ag [AV.i IntKind.u8 (n / 16777216 % 256), AV.i IntKind.u8 (n / 65536 % 256), AV.i IntKind.u8 (n / 256 % 256), AV.i IntKind.u8 (n % 256)] by rw [show n / 16777216 % 256 = n / 16777216 by omega]; rfl]
      exact wkv_drop rfl
    · cases h
  · cases h
theorem rof_ok : SpecOK Tryd.prog 12 ofS := by
  intro args S x S' h
  simp only [ofS] at h
  split at h
  · rename_i n
    split at h
    · rename_i hn
      cases h
      unfold u32 at hn
      refine fn_of_wp f12 rfl (W_sound none_ok mixed _ _ _ _ _ ?_)
      simp (maxSteps := 1000000) (disch := omega) only [c12, go_sem, ↓reduceIte, Nat.reduceBEq, Nat.reduceAdd, Nat.reduceSub, Nat.reduceEqDiff, Nat.reduceLeDiff, Nat.reduceMul, Nat.reduceLT, Int.reduceLT, Int.reduceLE, Int.reduceAdd, Int.reduceSub, Int.reduceMul, Int.reduceNeg, Int.reduceEq, Int.reduceNe, Int.reduceToNat, decide_true, decide_false, iaddr_i, iaddr_sl_i, not_true_eq_false, not_false_eq_true, reduceCtorEq, ne_eq, forall_const, false_imp_iff, true_imp_iff, implies_true, Int.cast_ofNat_Int, Int.natCast_zero, Int.natCast_one, Int.add_zero, Int.zero_add]
      exact wkv_drop rfl
    · cases h
  · cases h

def numS : Spec := fun args S => match args with
  | [.ag [.i .u8 a, .i .u8 b, .i .u8 c, .i .u8 d]] => if u84 a b c d then some (.i .u32 (num a b c d), S) else none
  | _ => none
theorem numS_eq {a b c d : Int} (h : u84 a b c d) (S : Mem) : numS [.ag [.i .u8 a, .i .u8 b, .i .u8 c, .i .u8 d]] S = some (.i .u32 (num a b c d), S) := by simp only [numS, if_pos h]
theorem num_ok : SpecOK Tryd.prog 13 numS := by
  intro args S x S' h
  simp only [numS] at h
  split at h
  · rename_i a b c d
    split at h
    · rename_i hn
      cases h
      obtain ⟨ha, hb, hc, hd⟩ := hn
      unfold u8 at ha hb hc hd
      refine fn_of_wp f13 rfl (W_sound none_ok mixed _ _ _ _ _ ?_)
      simp (maxSteps := 1000000) (disch := omega) only [c13, go_sem, ↓reduceIte, Nat.reduceBEq, Nat.reduceAdd, Nat.reduceSub, Nat.reduceEqDiff, Nat.reduceLeDiff, Nat.reduceMul, Nat.reduceLT, Int.reduceLT, Int.reduceLE, Int.reduceAdd, Int.reduceSub, Int.reduceMul, Int.reduceNeg, Int.reduceEq, Int.reduceNe, Int.reduceToNat, decide_true, decide_false, iaddr_i, iaddr_sl_i, not_true_eq_false, not_false_eq_true, reduceCtorEq, ne_eq, forall_const, false_imp_iff, true_imp_iff, implies_true, Int.cast_ofNat_Int, Int.natCast_zero, Int.natCast_one, Int.add_zero, Int.zero_add]
      refine wp_unroll none_ok mixed 5 ?_
      simp (maxSteps := 1000000) (disch := omega) only [c13l0, shl_8, bin_or, ixa_ag, go_sem, ↓reduceIte, Nat.reduceBEq, Nat.reduceAdd, Nat.reduceSub, Nat.reduceEqDiff, Nat.reduceLeDiff, Nat.reduceMul, Nat.reduceLT, Int.reduceLT, Int.reduceLE, Int.reduceAdd, Int.reduceSub, Int.reduceMul, Int.reduceNeg, Int.reduceEq, Int.reduceNe, Int.reduceToNat, decide_true, decide_false, iaddr_i, iaddr_sl_i, not_true_eq_false, not_false_eq_true, reduceCtorEq, ne_eq, forall_const, false_imp_iff, true_imp_iff, implies_true, Int.cast_ofNat_Int, Int.natCast_zero, Int.natCast_one, Int.add_zero, Int.zero_add]
      exact wkv_drop rfl
    · cases h
  · cases h
theorem rnum_ok : SpecOK Tryd.prog 14 numS := by
  intro args S x S' h
  simp only [numS] at h
  split at h
  · rename_i a b c d
    split at h
    · rename_i hn
      cases h
      obtain ⟨ha, hb, hc, hd⟩ := hn
      unfold u8 at ha hb hc hd
      refine fn_of_wp f14 rfl (W_sound none_ok mixed _ _ _ _ _ ?_)
      simp (maxSteps := 1000000) (disch := omega) only [c14, go_sem, ↓reduceIte, Nat.reduceBEq, Nat.reduceAdd, Nat.reduceSub, Nat.reduceEqDiff, Nat.reduceLeDiff, Nat.reduceMul, Nat.reduceLT, Int.reduceLT, Int.reduceLE, Int.reduceAdd, Int.reduceSub, Int.reduceMul, Int.reduceNeg, Int.reduceEq, Int.reduceNe, Int.reduceToNat, decide_true, decide_false, iaddr_i, iaddr_sl_i, not_true_eq_false, not_false_eq_true, reduceCtorEq, ne_eq, forall_const, false_imp_iff, true_imp_iff, implies_true, Int.cast_ofNat_Int, Int.natCast_zero, Int.natCast_one, Int.add_zero, Int.zero_add]
      rw [show num a b c d = a * 16777216 + b * 65536 + c * 256 + d by unfold num; omega]
      exact wkv_drop rfl
    · cases h
  · cases h

def maskS : Spec := fun args S => match args with
  | [.i .i64 k] => some (.i .u32 (4294967296 - pw (cl k)), S)
  | _ => none
theorem mask_ok : SpecOK Tryd.prog 32 maskS := by
  intro args S x S' h
  simp only [maskS] at h
  split at h
  · rename_i k
    cases h
    refine fn_of_wp f32 rfl (W_sound none_ok mixed _ _ _ _ _ ?_)
    have hk := cl_bound k
    simp (maxSteps := 1000000) (disch := omega) only [c32, show max 0 (min k 32) = cl k from rfl, shl_mask (cl_bound k).1 (cl_bound k).2, go_sem, ↓reduceIte, Nat.reduceBEq, Nat.reduceAdd, Nat.reduceSub, Nat.reduceEqDiff, Nat.reduceLeDiff, Nat.reduceMul, Nat.reduceLT, Int.reduceLT, Int.reduceLE, Int.reduceAdd, Int.reduceSub, Int.reduceMul, Int.reduceNeg, Int.reduceEq, Int.reduceNe, Int.reduceToNat, decide_true, decide_false, iaddr_i, iaddr_sl_i, not_true_eq_false, not_false_eq_true, reduceCtorEq, ne_eq, forall_const, false_imp_iff, true_imp_iff, implies_true, Int.cast_ofNat_Int, Int.natCast_zero, Int.natCast_one, Int.add_zero, Int.zero_add]
    exact wkv_same
  · cases h
def clS : Spec := fun args S => match args with
  | [.i .i64 k] => some (.i .i64 (cl k), S)
  | _ => none
theorem bounded_ok : SpecOK Tryd.prog 33 clS := by
  intro args S x S' h
  simp only [clS] at h
  split at h
  · rename_i k
    cases h
    refine fn_of_wp f33 rfl (W_sound none_ok mixed _ _ _ _ _ ?_)
    simp (maxSteps := 1000000) (disch := omega) only [c33, go_sem, ↓reduceIte, Nat.reduceBEq, Nat.reduceAdd, Nat.reduceSub, Nat.reduceEqDiff, Nat.reduceLeDiff, Nat.reduceMul, Nat.reduceLT, Int.reduceLT, Int.reduceLE, Int.reduceAdd, Int.reduceSub, Int.reduceMul, Int.reduceNeg, Int.reduceEq, Int.reduceNe, Int.reduceToNat, decide_true, decide_false, iaddr_i, iaddr_sl_i, not_true_eq_false, not_false_eq_true, reduceCtorEq, ne_eq, forall_const, false_imp_iff, true_imp_iff, implies_true, Int.cast_ofNat_Int, Int.natCast_zero, Int.natCast_one, Int.add_zero, Int.zero_add]
    refine ⟨fun h => ?_, fun h => ⟨fun h2 => ?_, fun h2 => ?_⟩⟩ <;> refine wkv_eq wkv_same ?_ rfl <;> congr 1 <;> unfold cl <;> omega
  · cases h

theorem maskS_eq {k : Int} (S : Mem) : maskS [.i .i64 k] S = some (.i .u32 (4294967296 - pw (cl k)), S) := rfl
theorem clS_eq {k : Int} (S : Mem) : clS [.i .i64 k] S = some (.i .i64 (cl k), S) := rfl
def cutS : Spec := fun args S => match args with
  | [.ag [.i .u8 a, .i .u8 b, .i .u8 c, .i .u8 d], .i .i64 k] => if u84 a b c d then some (net (cutv (num a b c d) (cl k)) (cl k), S) else none
  | _ => none
theorem cutS_eq {a b c d k : Int} (h : u84 a b c d) (S : Mem) : cutS [.ag [.i .u8 a, .i .u8 b, .i .u8 c, .i .u8 d], .i .i64 k] S = some (net (cutv (num a b c d) (cl k)) (cl k), S) := by simp only [cutS, if_pos h]
theorem o17_ok : OK Tryd.prog (lamOf Tryd.prog) (orcOf [(13, numS), (32, maskS), (11, ofS)]) := orc_ok (by simpa using ⟨num_ok, mask_ok, of_ok⟩)
theorem cut_ok : SpecOK Tryd.prog 17 cutS := by
  intro args S x S' h
  simp only [cutS] at h
  split at h
  · rename_i a b c d k
    split at h
    · rename_i hn
      cases h
      have hk := cl_bound k
      have h32 := u84_num hn
      refine fn_of_wp f17 rfl (W_sound o17_ok mixed _ _ _ _ _ ?_)
      simp (maxSteps := 1000000) (disch := omega) only [c17, orc_cons, numS_eq hn, maskS_eq, bin_and h32 hk.1 hk.2, ofS_eq (u32_cutv h32), show max 0 (min k 32) = cl k from rfl, adr, go_sem, ↓reduceIte, Nat.reduceBEq, Nat.reduceAdd, Nat.reduceSub, Nat.reduceEqDiff, Nat.reduceLeDiff, Nat.reduceMul, Nat.reduceLT, Int.reduceLT, Int.reduceLE, Int.reduceAdd, Int.reduceSub, Int.reduceMul, Int.reduceNeg, Int.reduceEq, Int.reduceNe, Int.reduceToNat, decide_true, decide_false, iaddr_i, iaddr_sl_i, not_true_eq_false, not_false_eq_true, reduceCtorEq, ne_eq, forall_const, false_imp_iff, true_imp_iff, implies_true, Int.cast_ofNat_Int, Int.natCast_zero, Int.natCast_one, Int.add_zero, Int.zero_add]
      exact wkv_drop rfl
    · cases h
  · cases h

def p2 (t : Int) : Int := ((2 ^ t.toNat : Nat) : Int)
theorem p2_zero : p2 0 = 1 := rfl
theorem p2_succ {t : Int} (h : 0 ≤ t) : p2 (t + 1) = p2 t * 2 := by
  unfold p2
  rw [show (t + 1).toNat = t.toNat + 1 by omega, Nat.pow_succ]
  omega
theorem p2_pos (t : Int) : 0 < p2 t := by unfold p2; exact Int.natCast_pos.2 (Nat.two_pow_pos _)
theorem pw_p2 (k : Int) : pw k = p2 (32 - k) := rfl
theorem div_p2 {n t : Int} (h : 0 ≤ t) : n / p2 t / 2 = n / p2 (t + 1) := by
  rw [p2_succ h, Int.ediv_ediv_of_nonneg (Int.le_of_lt (p2_pos t))]
theorem p2_mono {s t : Int} (h : s ≤ t) : p2 s ≤ p2 t := by
  unfold p2
  exact_mod_cast Nat.pow_le_pow_right (by omega) (by omega)
theorem mul_p2_le {n s t : Int} (h : u32 n) (hs : s ≤ t) : 0 ≤ n / p2 t * p2 s ∧ n / p2 t * p2 s ≤ n := by
  have h1 : 0 ≤ n / p2 t := Int.ediv_nonneg h.1 (Int.le_of_lt (p2_pos t))
  have h2 := Int.ediv_mul_le n (show p2 t ≠ 0 by have := p2_pos t; omega)
  have h3 := Int.mul_le_mul_of_nonneg_left (p2_mono hs) h1
  exact ⟨Int.mul_nonneg h1 (Int.le_of_lt (p2_pos s)), Int.le_trans h3 h2⟩

theorem o16_ok : OK Tryd.prog (lamOf Tryd.prog) (orcOf [(14, numS), (33, clS), (12, ofS)]) := orc_ok (by simpa using ⟨rnum_ok, bounded_ok, rof_ok⟩)
theorem rcut_ok : SpecOK Tryd.prog 16 cutS := by
  intro args S x S' h
  simp only [cutS] at h
  split at h
  · rename_i a b c d k
    split at h
    · rename_i hn
      cases h
      have hk := cl_bound k
      have h32 := u84_num hn
      refine fn_of_wp f16 rfl (W_sound o16_ok mixed _ _ _ _ _ ?_)
      simp (maxSteps := 1000000) (disch := omega) only [c16, orc_cons, numS_eq hn, clS_eq, go_sem, ↓reduceIte, Nat.reduceBEq, Nat.reduceAdd, Nat.reduceSub, Nat.reduceEqDiff, Nat.reduceLeDiff, Nat.reduceMul, Nat.reduceLT, Int.reduceLT, Int.reduceLE, Int.reduceAdd, Int.reduceSub, Int.reduceMul, Int.reduceNeg, Int.reduceEq, Int.reduceNe, Int.reduceToNat, decide_true, decide_false, iaddr_i, iaddr_sl_i, not_true_eq_false, not_false_eq_true, reduceCtorEq, ne_eq, forall_const, false_imp_iff, true_imp_iff, implies_true, Int.cast_ofNat_Int, Int.natCast_zero, Int.natCast_one, Int.add_zero, Int.zero_add]
      generalize hN : num a b c d = N at *
      generalize hK : cl k = K at *
      refine wp_loop (fun j e M dl => dl = [] ∧ ∃ i : Int, K ≤ i ∧ i ≤ 32 ∧ j = (32 - i).toNat ∧ M = S ++ [Blk.cells [AV.i IntKind.u8 a, AV.i IntKind.u8 b, AV.i IntKind.u8 c, AV.i IntKind.u8 d] 0 none true,
        Blk.cells [AV.i IntKind.u8 0, AV.i IntKind.u8 0, AV.i IntKind.u8 0, AV.i IntKind.u8 0, AV.i IntKind.i64 0] 0 none true] ∧
        e.get 4 = .p (S.length + 1) 0 0 ∧ e.get 6 = .i .i64 K ∧ e.get 7 = .i .i64 i ∧ e.get 5 = .i .u32 (N / p2 (i - K))) (j := (32 - K).toNat)
        ⟨rfl, K, Int.le_refl _, hk.2, rfl, rfl, rfl, rfl, rfl, by rw [Int.sub_self, p2_zero, Int.ediv_one]; rfl⟩ ?_
      rintro j e M d' ⟨rfl, i, hi1, hi2, rfl, rfl, h4, h6, h7, h5⟩
      refine W_sound o16_ok mixed _ _ _ _ _ ?_
      have hq := mul_p2_le (s := 0) h32 (show (0 : Int) ≤ i - K by omega)
      rw [p2_zero, Int.mul_one] at hq
      unfold u32 at h32
      by_cases hi : i < 32
      · simp (maxSteps := 1000000) (disch := omega) only [c16l0, h4, h5, h6, h7, hi, go_sem, ↓reduceIte, Nat.reduceBEq, Nat.reduceAdd, Nat.reduceSub, Nat.reduceEqDiff, Nat.reduceLeDiff, Nat.reduceMul, Nat.reduceLT, Int.reduceLT, Int.reduceLE, Int.reduceAdd, Int.reduceSub, Int.reduceMul, Int.reduceNeg, Int.reduceEq, Int.reduceNe, Int.reduceToNat, decide_true, decide_false, iaddr_i, iaddr_sl_i, not_true_eq_false, not_false_eq_true, reduceCtorEq, ne_eq, forall_const, false_imp_iff, true_imp_iff, implies_true, Int.cast_ofNat_Int, Int.natCast_zero, Int.natCast_one, Int.add_zero, Int.zero_add]
        exact ⟨(32 - (i + 1)).toNat, by omega, i + 1, by omega, by omega, rfl, rfl, by rw [show i + 1 - K = (i - K) + 1 by omega, ← div_p2 (by omega)]⟩
      · obtain rfl : i = 32 := by omega
        simp (maxSteps := 1000000) (disch := omega) only [c16l0, h4, h5, h6, h7, go_sem, ↓reduceIte, Nat.reduceBEq, Nat.reduceAdd, Nat.reduceSub, Nat.reduceEqDiff, Nat.reduceLeDiff, Nat.reduceMul, Nat.reduceLT, Int.reduceLT, Int.reduceLE, Int.reduceAdd, Int.reduceSub, Int.reduceMul, Int.reduceNeg, Int.reduceEq, Int.reduceNe, Int.reduceToNat, decide_true, decide_false, iaddr_i, iaddr_sl_i, not_true_eq_false, not_false_eq_true, reduceCtorEq, ne_eq, forall_const, false_imp_iff, true_imp_iff, implies_true, Int.cast_ofNat_Int, Int.natCast_zero, Int.natCast_one, Int.add_zero, Int.zero_add]
        refine wp_loop (fun j e M dl => dl = [] ∧ ∃ i : Int, K ≤ i ∧ i ≤ 32 ∧ j = (32 - i).toNat ∧ M = S ++ [Blk.cells [AV.i IntKind.u8 a, AV.i IntKind.u8 b, AV.i IntKind.u8 c, AV.i IntKind.u8 d] 0 none true,
          Blk.cells [AV.i IntKind.u8 0, AV.i IntKind.u8 0, AV.i IntKind.u8 0, AV.i IntKind.u8 0, AV.i IntKind.i64 0] 0 none true] ∧
          e.get 4 = .p (S.length + 1) 0 0 ∧ e.get 6 = .i .i64 K ∧ e.get 8 = .i .i64 i ∧ e.get 5 = .i .u32 (N / p2 (32 - K) * p2 (i - K))) (j := (32 - K).toNat)
          ⟨rfl, K, Int.le_refl _, hk.2, rfl, rfl, rfl, rfl, rfl, by rw [Int.sub_self, p2_zero, Int.mul_one]; rfl⟩ ?_
        rintro j e M d' ⟨rfl, i, hi1, hi2, rfl, rfl, h4, h6, h8, h5⟩
        refine W_sound o16_ok mixed _ _ _ _ _ ?_
        have hn2 : u32 N := h32
        have hq := mul_p2_le hn2 (show i - K ≤ 32 - K by omega)
        by_cases hi : i < 32
        · have hq2 := mul_p2_le hn2 (show i - K + 1 ≤ 32 - K by omega)
          rw [p2_succ (by omega), ← Int.mul_assoc] at hq2
          simp (maxSteps := 1000000) (disch := omega) only [c16l1, h4, h5, h6, h8, hi, go_sem, ↓reduceIte, Nat.reduceBEq, Nat.reduceAdd, Nat.reduceSub, Nat.reduceEqDiff, Nat.reduceLeDiff, Nat.reduceMul, Nat.reduceLT, Int.reduceLT, Int.reduceLE, Int.reduceAdd, Int.reduceSub, Int.reduceMul, Int.reduceNeg, Int.reduceEq, Int.reduceNe, Int.reduceToNat, decide_true, decide_false, iaddr_i, iaddr_sl_i, not_true_eq_false, not_false_eq_true, reduceCtorEq, ne_eq, forall_const, false_imp_iff, true_imp_iff, implies_true, Int.cast_ofNat_Int, Int.natCast_zero, Int.natCast_one, Int.add_zero, Int.zero_add]
          exact ⟨(32 - (i + 1)).toNat, by omega, i + 1, by omega, by omega, rfl, rfl, by rw [show i + 1 - K = (i - K) + 1 by omega, p2_succ (by omega), Int.mul_assoc]⟩
        · obtain rfl : i = 32 := by omega
          have hr : u32 (N / p2 (32 - K) * p2 (32 - K)) := by unfold u32; omega
          simp (maxSteps := 1000000) (disch := omega) only [c16l1, h4, h5, h6, h8, orc_cons, ofS_eq hr, adr, net, go_sem, ↓reduceIte, Nat.reduceBEq, Nat.reduceAdd, Nat.reduceSub, Nat.reduceEqDiff, Nat.reduceLeDiff, Nat.reduceMul, Nat.reduceLT, Int.reduceLT, Int.reduceLE, Int.reduceAdd, Int.reduceSub, Int.reduceMul, Int.reduceNeg, Int.reduceEq, Int.reduceNe, Int.reduceToNat, decide_true, decide_false, iaddr_i, iaddr_sl_i, not_true_eq_false, not_false_eq_true, reduceCtorEq, ne_eq, forall_const, false_imp_iff, true_imp_iff, implies_true, Int.cast_ofNat_Int, Int.natCast_zero, Int.natCast_one, Int.add_zero, Int.zero_add]
          unfold cutv
          rw [pw_p2]
          exact wkv_drop rfl
    · cases h
  · cases h
end Go.Proofs.YtljaigbjiheohaaDoor
