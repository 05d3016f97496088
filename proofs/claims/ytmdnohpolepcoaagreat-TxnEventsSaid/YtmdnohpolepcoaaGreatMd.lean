/- Proved here: what the law of this claim leans on (an evaluator of the model's code, contracts of functions). No condition. -/
import Derived.Test.YtmdnohpolepcoaaGreatQCode
import Derived.Test.YtmdnohpolepcoaaGreatMc
import Derived.Shelf.SlIterI.Nil
import Derived.Shelf.SortM.Plain
import Derived.Shelf.SortM.SortNone
import Derived.Test.YtmdnohpolepcoaaGreatProg
namespace Go.Proofs.YtmdnohpolepcoaaGreat
open Go.RowKit
attribute [go_sem] Option.map_none Option.map_some decide_true decide_false iaddr_i iaddr_sl_i not_true_eq_false not_false_eq_true ne_eq forall_const false_imp_iff true_imp_iff implies_true Int.cast_ofNat_Int Int.natCast_zero Int.natCast_one Int.add_zero Int.zero_add Nat.reduceBEq Nat.reduceAdd Nat.reduceSub Nat.reduceEqDiff Nat.reduceLeDiff Nat.reduceMul Nat.reduceLT Int.reduceLT Int.reduceLE Int.reduceAdd Int.reduceSub Int.reduceMul Int.reduceNeg Int.reduceEq Int.reduceNe Int.reduceToNat reduceCtorEq
attribute [go_sem ↓] reduceIte
end Go.Proofs.YtmdnohpolepcoaaGreat
namespace Go.Proofs.YtmdnohpolepcoaaGreat
open Go.RowKit
set_option linter.unusedSimpArgs false
set_option linter.unusedVariables false
set_option maxRecDepth 10000

/-! ### Plain -/
def u8 (n : Int) : Prop := 0 ≤ n ∧ n ≤ 255
instance (n : Int) : Decidable (u8 n) := by unfold u8; infer_instance
def u32 (n : Int) : Prop := 0 ≤ n ∧ n ≤ 4294967295
instance (n : Int) : Decidable (u32 n) := by unfold u32; infer_instance
def num (a b c d : Int) : Int := ((a * 256 + b) * 256 + c) * 256 + d
def b3 (n : Int) : Int := n / 16777216
def b2 (n : Int) : Int := n / 65536 % 256
def b1 (n : Int) : Int := n / 256 % 256
def b0 (n : Int) : Int := n % 256
def cl (k : Int) : Int := max 0 (min k 32)
def pw (k : Int) : Int := ((2 ^ (32 - k).toNat : Nat) : Int)
def cutv (n k : Int) : Int := n / pw k * pw k

theorem num_b {n : Int} (h : u32 n) : num (b3 n) (b2 n) (b1 n) (b0 n) = n := by unfold num b3 b2 b1 b0 u32 at *; omega
theorem u32_num {a b c d : Int} (ha : u8 a) (hb : u8 b) (hc : u8 c) (hd : u8 d) : u32 (num a b c d) := by unfold num u8 u32 at *; omega
theorem b_num {a b c d : Int} (ha : u8 a) (hb : u8 b) (hc : u8 c) (hd : u8 d) : b3 (num a b c d) = a ∧ b2 (num a b c d) = b ∧ b1 (num a b c d) = c ∧ b0 (num a b c d) = d := by
  unfold num b3 b2 b1 b0 u8 at *; omega
theorem cl_bound (k : Int) : 0 ≤ cl k ∧ cl k ≤ 32 := by unfold cl; omega
theorem pw_pos (k : Int) : 0 < pw k := by unfold pw; exact Int.natCast_pos.2 (Nat.two_pow_pos _)
theorem cutv_le {n k : Int} : cutv n k ≤ n := Int.ediv_mul_le n (by have := pw_pos k; omega)
theorem u32_cutv {n k : Int} (h : u32 n) : u32 (cutv n k) := by
  have h1 : cutv n k ≤ n := cutv_le
  have h2 : 0 ≤ n / pw k := Int.ediv_nonneg h.1 (Int.le_of_lt (pw_pos k))
  have h3 : 0 ≤ cutv n k := Int.mul_nonneg h2 (Int.le_of_lt (pw_pos k))
  unfold u32 at *; omega

/-! ### Bits -/
theorem or_low {a c : Int} (ha : 0 ≤ a) (ha2 : a ≤ 4294967295) (hm : a % 256 = 0) (hc : 0 ≤ c) (hc2 : c ≤ 255) : bitsV .u32 .or a c = some (a + c) := by
  obtain ⟨x, rfl⟩ := Int.eq_ofNat_of_zero_le ha
  obtain ⟨y, rfl⟩ := Int.eq_ofNat_of_zero_le hc
  have hx : x < 4294967296 := by omega
  have e1 : (BitVec.ofInt IntKind.u32.bits (x : Int)).toNat = x := by show (BitVec.ofInt 32 (x : Int)).toNat = x; simp [BitVec.toNat_ofInt]; omega
  have e2 : (BitVec.ofInt IntKind.u32.bits (y : Int)).toNat = y := by show (BitVec.ofInt 32 (y : Int)).toNat = y; simp [BitVec.toNat_ofInt]; omega
  have e3 : Nat.lor x y = x + y := by
    have := Nat.shiftLeft_add_eq_or_of_lt (show y < 2 ^ 8 by omega) (x / 256)
    have hs : (x / 256) <<< 8 = x := by rw [Nat.shiftLeft_eq]; omega
    rw [hs] at this
    exact this.symm
  simp only [bitsV, e1, e2, e3, wrapV]
  congr 1
  omega

theorem nat_and_mask {n j : Nat} (hn : n < 2 ^ 32) (hj : j ≤ 32) : n &&& (2 ^ 32 - 2 ^ j) = n / 2 ^ j * 2 ^ j := by
  have h1 : n / 2 ^ j * 2 ^ j = (n >>> j) <<< j := by rw [Nat.shiftLeft_eq, Nat.shiftRight_eq_div_pow]
  rw [h1]
  apply Nat.eq_of_testBit_eq
  intro i
  have h2 : 2 ^ 32 - 2 ^ j = 2 ^ 32 - ((2 ^ j - 1) + 1) := by have := Nat.two_pow_pos j; omega
  have h3 : 2 ^ j - 1 < 2 ^ 32 := by have := Nat.pow_le_pow_right (n := 2) (by omega) hj; have := Nat.two_pow_pos j; omega
  rw [h2, Nat.testBit_and, Nat.testBit_two_pow_sub_succ h3, Nat.testBit_two_pow_sub_one, Nat.testBit_shiftLeft, Nat.testBit_shiftRight]
  by_cases hi : i < j
  · simp [hi]; omega
  · have hji : j ≤ i := by omega
    rw [show j + (i - j) = i by omega]
    by_cases h32 : i < 32
    · simp [hi, hji, h32]
    · have : n.testBit i = false := Nat.testBit_lt_two_pow (Nat.lt_of_lt_of_le hn (Nat.pow_le_pow_right (by omega) (by omega)))
      simp [this]

theorem and_mask {n k : Int} (h : u32 n) (h0 : 0 ≤ k) (h1 : k ≤ 32) : bitsV .u32 .and n (4294967296 - pw k) = some (cutv n k) := by
  obtain ⟨x, rfl⟩ := Int.eq_ofNat_of_zero_le h.1
  unfold cutv pw
  generalize hj : (32 - k).toNat = j
  have hj2 : j ≤ 32 := by omega
  have hp := Nat.pow_le_pow_right (n := 2) (by omega) hj2
  have hp0 := Nat.two_pow_pos j
  have hx : x < 2 ^ 32 := by have := h.2; omega
  have e1 : (BitVec.ofInt IntKind.u32.bits (x : Int)).toNat = x := by show (BitVec.ofInt 32 (x : Int)).toNat = x; simp [BitVec.toNat_ofInt]; omega
  have e2 : (BitVec.ofInt IntKind.u32.bits (4294967296 - ((2 ^ j : Nat) : Int))).toNat = 2 ^ 32 - 2 ^ j := by
    show (BitVec.ofInt 32 _).toNat = _
    rw [show (4294967296 : Int) - ((2 ^ j : Nat) : Int) = ((2 ^ 32 - 2 ^ j : Nat) : Int) by omega]
    simp only [BitVec.toNat_ofInt]
    omega
  simp only [bitsV, e1, e2, wrapV]
  rw [show Nat.land x (2 ^ 32 - 2 ^ j) = x &&& (2 ^ 32 - 2 ^ j) from rfl, nat_and_mask hx hj2]
  congr 1
  have := Nat.div_mul_le_self x (2 ^ j)
  rw [← Int.natCast_ediv, ← Int.natCast_mul]
  omega

theorem shl_mask {k : Int} (h0 : 0 ≤ k) (h1 : k ≤ 32) : shiftV .shl .u32 4294967295 (32 - k) = some (.i .u32 (4294967296 - pw k)) := by
  unfold shiftV pw
  rw [if_neg (by omega)]
  have hb : IntKind.u32.bits = 32 := rfl
  simp only [hb, wrapV]
  rw [Nat.min_eq_left (by omega)]
  congr 2
  generalize hj : (32 - k).toNat = j
  have hp := Nat.pow_le_pow_right (n := 2) (by omega) (show j ≤ 32 by omega)
  have hp0 := Nat.two_pow_pos j
  omega

/-! ### Rules -/
theorem shr_24 {n : Int} (h : 0 ≤ n) : shiftV .shr .u32 n 24 = some (.i .u32 (n / 16777216)) := by
  simp only [shiftV, IntKind.bits]
  rw [if_neg (by omega), Int.fdiv_eq_ediv_of_nonneg _ (Int.natCast_nonneg _)]; rfl
theorem shr_16 {n : Int} (h : 0 ≤ n) : shiftV .shr .u32 n 16 = some (.i .u32 (n / 65536)) := by
  simp only [shiftV, IntKind.bits]
  rw [if_neg (by omega), Int.fdiv_eq_ediv_of_nonneg _ (Int.natCast_nonneg _)]; rfl
theorem shr_8 {n : Int} (h : 0 ≤ n) : shiftV .shr .u32 n 8 = some (.i .u32 (n / 256)) := by
  simp only [shiftV, IntKind.bits]
  rw [if_neg (by omega), Int.fdiv_eq_ediv_of_nonneg _ (Int.natCast_nonneg _)]; rfl
theorem shl_8 {n : Int} (h : 0 ≤ n) (h2 : n ≤ 16777215) : shiftV .shl .u32 n 8 = some (.i .u32 (n * 256)) := by
  simp only [shiftV, IntKind.bits, wrapV]
  rw [if_neg (by omega)]
  congr 2
  show n * 256 % 4294967296 = _
  omega
theorem wrap_mod {n : Int} : wrapV .u8 n = n % 256 := rfl
theorem bin_or {cst : Bool} {a c : Int} (ha : 0 ≤ a) (ha2 : a ≤ 4294967295) (hm : a % 256 = 0) (hc : 0 ≤ c) (hc2 : c ≤ 255) : binV .int cst .or (.i .u32 a) (.i .u32 c) = some (.i .u32 (a + c)) := by
  rw [bin_i rfl]
  simp only [intV, or_low ha ha2 hm hc hc2, Option.map_some]
theorem bin_and {cst : Bool} {n k : Int} (h : u32 n) (h0 : 0 ≤ k) (h1 : k ≤ 32) : binV .int cst .and (.i .u32 n) (.i .u32 (4294967296 - pw k)) = some (.i .u32 (cutv n k)) := by
  rw [bin_i rfl]
  simp only [intV, and_mask h h0 h1, Option.map_some]
theorem ixa_ag {l : Nat} {cs : List AV} {q : IntKind} {n : Int} (h0 : 0 ≤ n) (h1 : n < l) : ixaV l 1 none (.ag cs) (.i q n) = cs[n.toNat]? := by
  have hn : natV (.i q n) = some n.toNat := natV_i h0
  simp only [ixaV, hn]
  rw [if_pos (by omega)]
  simp [partV]

/-! ### Cells -/
def adr (n : Int) : AV := .ag [.i .u8 (b3 n), .i .u8 (b2 n), .i .u8 (b1 n), .i .u8 (b0 n)]
def net (n k : Int) : AV := .ag [.i .u8 (b3 n), .i .u8 (b2 n), .i .u8 (b1 n), .i .u8 (b0 n), .i .i64 k]
def right (n k : Int) : Prop := cl k = k ∧ cutv n k = n
instance (n k : Int) : Decidable (right n k) := by unfold right; infer_instance
def within (n j m k : Int) : Prop := right n j ∧ k ≤ j ∧ right m k ∧ cutv n k = m
instance (n j m k : Int) : Decidable (within n j m k) := by unfold within; infer_instance
theorem eq_net {a b c d x y z w j k : Int} : eqAgV false [.int, .int, .int, .int, .int] (.ag [.i .u8 a, .i .u8 b, .i .u8 c, .i .u8 d, .i .i64 j]) (.ag [.i .u8 x, .i .u8 y, .i .u8 z, .i .u8 w, .i .i64 k]) = some (.b (decide (a = x ∧ b = y ∧ c = z ∧ d = w ∧ j = k))) := by
  simp [eqAgV, eqCells, eqCell, Bool.beq_eq_decide_eq]
end Go.Proofs.YtmdnohpolepcoaaGreat

namespace Go.Proofs.YtmdnohpolepcoaaGreat
open Go.RowKit
set_option linter.unusedSimpArgs false
set_option linter.unusedVariables false
set_option maxRecDepth 10000

theorem none_ok : OK Tryz.prog (lamOf Tryz.prog) (orcOf []) := orc_ok (l := []) (fun p hp => by cases hp)

def u84 (a b c d : Int) : Prop := u8 a ∧ u8 b ∧ u8 c ∧ u8 d
instance (a b c d : Int) : Decidable (u84 a b c d) := by unfold u84; infer_instance
theorem u84_num {a b c d : Int} (h : u84 a b c d) : u32 (num a b c d) := u32_num h.1 h.2.1 h.2.2.1 h.2.2.2

def ofS : Spec := fun args S => match args with
  | [.i .u32 n] => if u32 n then some (adr n, S) else none
  | _ => none
theorem ofS_eq {n : Int} (h : u32 n) (S : Mem) : ofS [.i .u32 n] S = some (adr n, S) := by simp only [ofS, if_pos h]
theorem of_ok : SpecOK Tryz.prog 77 ofS := by
  intro args S x S' h
  simp only [ofS] at h
  split at h
  · rename_i n
    split at h
    · rename_i hn
      cases h
      unfold u32 at hn
      refine fn_of_wp f77 rfl (W_sound none_ok mixed _ _ _ _ _ ?_)
      simp (maxSteps := 1000000) (disch := omega) only [c77, shr_24, shr_16, shr_8, wrap_mod, go_sem]
      rw [show adr n = AV.ag [AV.i IntKind.u8 (n / 16777216 % 256), AV.i IntKind.u8 (n / 65536 % 256), AV.i IntKind.u8 (n / 256 % 256), AV.i IntKind.u8 (n % 256)] by rw [show n / 16777216 % 256 = n / 16777216 by omega]; rfl]
      exact wkv_drop rfl
    · cases h
  · cases h
theorem rof_ok : SpecOK Tryz.prog 88 ofS := by
  intro args S x S' h
  simp only [ofS] at h
  split at h
  · rename_i n
    split at h
    · rename_i hn
      cases h
      unfold u32 at hn
      refine fn_of_wp f88 rfl (W_sound none_ok mixed _ _ _ _ _ ?_)
      simp (maxSteps := 1000000) (disch := omega) only [c88, go_sem]
      exact wkv_drop rfl
    · cases h
  · cases h

def numS : Spec := fun args S => match args with
  | [.ag [.i .u8 a, .i .u8 b, .i .u8 c, .i .u8 d]] => if u84 a b c d then some (.i .u32 (num a b c d), S) else none
  | _ => none
theorem numS_eq {a b c d : Int} (h : u84 a b c d) (S : Mem) : numS [.ag [.i .u8 a, .i .u8 b, .i .u8 c, .i .u8 d]] S = some (.i .u32 (num a b c d), S) := by simp only [numS, if_pos h]
theorem num_ok : SpecOK Tryz.prog 78 numS := by
  intro args S x S' h
  simp only [numS] at h
  split at h
  · rename_i a b c d
    split at h
    · rename_i hn
      cases h
      obtain ⟨ha, hb, hc, hd⟩ := hn
      unfold u8 at ha hb hc hd
      refine fn_of_wp f78 rfl (W_sound none_ok mixed _ _ _ _ _ ?_)
      simp (maxSteps := 1000000) (disch := omega) only [c78, go_sem]
      refine wp_unroll none_ok mixed 5 ?_
      simp (maxSteps := 1000000) (disch := omega) only [c78l0, shl_8, bin_or, ixa_ag, go_sem]
      exact wkv_drop rfl
    · cases h
  · cases h
theorem rnum_ok : SpecOK Tryz.prog 87 numS := by
  intro args S x S' h
  simp only [numS] at h
  split at h
  · rename_i a b c d
    split at h
    · rename_i hn
      cases h
      obtain ⟨ha, hb, hc, hd⟩ := hn
      unfold u8 at ha hb hc hd
      refine fn_of_wp f87 rfl (W_sound none_ok mixed _ _ _ _ _ ?_)
      simp (maxSteps := 1000000) (disch := omega) only [c87, go_sem]
      rw [show num a b c d = a * 16777216 + b * 65536 + c * 256 + d by unfold num; omega]
      exact wkv_drop rfl
    · cases h
  · cases h

def maskS : Spec := fun args S => match args with
  | [.i .i64 k] => some (.i .u32 (4294967296 - pw (cl k)), S)
  | _ => none
theorem mask_ok : SpecOK Tryz.prog 79 maskS := by
  intro args S x S' h
  simp only [maskS] at h
  split at h
  · rename_i k
    cases h
    refine fn_of_wp f79 rfl (W_sound none_ok mixed _ _ _ _ _ ?_)
    have hk := cl_bound k
    simp (maxSteps := 1000000) (disch := omega) only [c79, show max 0 (min k 32) = cl k from rfl, shl_mask (cl_bound k).1 (cl_bound k).2, go_sem]
    exact wkv_same
  · cases h
def clS : Spec := fun args S => match args with
  | [.i .i64 k] => some (.i .i64 (cl k), S)
  | _ => none
theorem bounded_ok : SpecOK Tryz.prog 62 clS := by
  intro args S x S' h
  simp only [clS] at h
  split at h
  · rename_i k
    cases h
    refine fn_of_wp f62 rfl (W_sound none_ok mixed _ _ _ _ _ ?_)
    simp (maxSteps := 1000000) (disch := omega) only [c62, go_sem]
    refine ⟨fun h => ?_, fun h => ⟨fun h2 => ?_, fun h2 => ?_⟩⟩ <;> refine wkv_eq wkv_same ?_ rfl <;> congr 1 <;> unfold cl <;> omega
  · cases h

theorem maskS_eq {k : Int} (S : Mem) : maskS [.i .i64 k] S = some (.i .u32 (4294967296 - pw (cl k)), S) := rfl
theorem clS_eq {k : Int} (S : Mem) : clS [.i .i64 k] S = some (.i .i64 (cl k), S) := rfl
def cutS : Spec := fun args S => match args with
  | [.ag [.i .u8 a, .i .u8 b, .i .u8 c, .i .u8 d], .i .i64 k] => if u84 a b c d then some (net (cutv (num a b c d) (cl k)) (cl k), S) else none
  | _ => none
theorem cutS_eq {a b c d k : Int} (h : u84 a b c d) (S : Mem) : cutS [.ag [.i .u8 a, .i .u8 b, .i .u8 c, .i .u8 d], .i .i64 k] S = some (net (cutv (num a b c d) (cl k)) (cl k), S) := by simp only [cutS, if_pos h]
theorem o17_ok : OK Tryz.prog (lamOf Tryz.prog) (orcOf [(78, numS), (79, maskS), (77, ofS)]) := orc_ok (by simpa using ⟨num_ok, mask_ok, of_ok⟩)
theorem cut_ok : SpecOK Tryz.prog 48 cutS := by
  intro args S x S' h
  simp only [cutS] at h
  split at h
  · rename_i a b c d k
    split at h
    · rename_i hn
      cases h
      have hk := cl_bound k
      have h32 := u84_num hn
      refine fn_of_wp f48 rfl (W_sound o17_ok mixed _ _ _ _ _ ?_)
      simp (maxSteps := 1000000) (disch := omega) only [c48, orc_cons, numS_eq hn, maskS_eq, bin_and h32 hk.1 hk.2, ofS_eq (u32_cutv h32), show max 0 (min k 32) = cl k from rfl, adr, go_sem]
      exact wkv_drop rfl
    · cases h
  · cases h

def p2 (t : Int) : Int := ((2 ^ t.toNat : Nat) : Int)
theorem p2_zero : p2 0 = 1 := rfl
theorem p2_succ {t : Int} (h : 0 ≤ t) : p2 (t + 1) = p2 t * 2 := by
  unfold p2
  rw [show (t + 1).toNat = t.toNat + 1 by omega, Nat.pow_succ]
  omega
theorem p2_pos (t : Int) : 0 < p2 t := by unfold p2; exact Int.natCast_pos.2 (Nat.two_pow_pos _)
theorem pw_p2 (k : Int) : pw k = p2 (32 - k) := rfl
theorem div_p2 {n t : Int} (h : 0 ≤ t) : n / p2 t / 2 = n / p2 (t + 1) := by
  rw [p2_succ h, Int.ediv_ediv_of_nonneg (Int.le_of_lt (p2_pos t))]
theorem p2_mono {s t : Int} (h : s ≤ t) : p2 s ≤ p2 t := by
  unfold p2
  exact_mod_cast Nat.pow_le_pow_right (by omega) (by omega)
theorem mul_p2_le {n s t : Int} (h : u32 n) (hs : s ≤ t) : 0 ≤ n / p2 t * p2 s ∧ n / p2 t * p2 s ≤ n := by
  have h1 : 0 ≤ n / p2 t := Int.ediv_nonneg h.1 (Int.le_of_lt (p2_pos t))
  have h2 := Int.ediv_mul_le n (show p2 t ≠ 0 by have := p2_pos t; omega)
  have h3 := Int.mul_le_mul_of_nonneg_left (p2_mono hs) h1
  exact ⟨Int.mul_nonneg h1 (Int.le_of_lt (p2_pos s)), Int.le_trans h3 h2⟩

theorem o16_ok : OK Tryz.prog (lamOf Tryz.prog) (orcOf [(87, numS), (62, clS), (88, ofS)]) := orc_ok (by simpa using ⟨rnum_ok, bounded_ok, rof_ok⟩)
theorem rcut_ok : SpecOK Tryz.prog 63 cutS := by
  intro args S x S' h
  simp only [cutS] at h
  split at h
  · rename_i a b c d k
    split at h
    · rename_i hn
      cases h
      have hk := cl_bound k
      have h32 := u84_num hn
      refine fn_of_wp f63 rfl (W_sound o16_ok mixed _ _ _ _ _ ?_)
      simp (maxSteps := 1000000) (disch := omega) only [c63, orc_cons, numS_eq hn, clS_eq, go_sem]
      generalize hN : num a b c d = N at *
      generalize hK : cl k = K at *
      refine wp_loop (fun j e M dl => dl = [] ∧ ∃ i : Int, K ≤ i ∧ i ≤ 32 ∧ j = (32 - i).toNat ∧ M = S ++ [Blk.cells [AV.i IntKind.u8 a, AV.i IntKind.u8 b, AV.i IntKind.u8 c, AV.i IntKind.u8 d] 0 none true,
        Blk.cells [AV.i IntKind.u8 0, AV.i IntKind.u8 0, AV.i IntKind.u8 0, AV.i IntKind.u8 0, AV.i IntKind.i64 0] 0 none true] ∧
        e.get 4 = .p (S.length + 1) 0 0 ∧ e.get 6 = .i .i64 K ∧ e.get 7 = .i .i64 i ∧ e.get 5 = .i .u32 (N / p2 (i - K))) (j := (32 - K).toNat)
        ⟨rfl, K, Int.le_refl _, hk.2, rfl, rfl, rfl, rfl, rfl, by rw [Int.sub_self, p2_zero, Int.ediv_one]; rfl⟩ ?_
      rintro j e M d' ⟨rfl, i, hi1, hi2, rfl, rfl, h4, h6, h7, h5⟩
      refine W_sound o16_ok mixed _ _ _ _ _ ?_
      have hq := mul_p2_le (s := 0) h32 (show (0 : Int) ≤ i - K by omega)
      rw [p2_zero, Int.mul_one] at hq
      unfold u32 at h32
      by_cases hi : i < 32
      · simp (maxSteps := 1000000) (disch := omega) only [c63l0, h4, h5, h6, h7, hi, go_sem]
        exact ⟨(32 - (i + 1)).toNat, by omega, i + 1, by omega, by omega, rfl, rfl, by rw [show i + 1 - K = (i - K) + 1 by omega, ← div_p2 (by omega)]⟩
      · obtain rfl : i = 32 := by omega
        simp (maxSteps := 1000000) (disch := omega) only [c63l0, h4, h5, h6, h7, go_sem]
        refine wp_loop (fun j e M dl => dl = [] ∧ ∃ i : Int, K ≤ i ∧ i ≤ 32 ∧ j = (32 - i).toNat ∧ M = S ++ [Blk.cells [AV.i IntKind.u8 a, AV.i IntKind.u8 b, AV.i IntKind.u8 c, AV.i IntKind.u8 d] 0 none true,
          Blk.cells [AV.i IntKind.u8 0, AV.i IntKind.u8 0, AV.i IntKind.u8 0, AV.i IntKind.u8 0, AV.i IntKind.i64 0] 0 none true] ∧
          e.get 4 = .p (S.length + 1) 0 0 ∧ e.get 6 = .i .i64 K ∧ e.get 8 = .i .i64 i ∧ e.get 5 = .i .u32 (N / p2 (32 - K) * p2 (i - K))) (j := (32 - K).toNat)
          ⟨rfl, K, Int.le_refl _, hk.2, rfl, rfl, rfl, rfl, rfl, by rw [Int.sub_self, p2_zero, Int.mul_one]; rfl⟩ ?_
        rintro j e M d' ⟨rfl, i, hi1, hi2, rfl, rfl, h4, h6, h8, h5⟩
        refine W_sound o16_ok mixed _ _ _ _ _ ?_
        have hn2 : u32 N := h32
        have hq := mul_p2_le hn2 (show i - K ≤ 32 - K by omega)
        by_cases hi : i < 32
        · have hq2 := mul_p2_le hn2 (show i - K + 1 ≤ 32 - K by omega)
          rw [p2_succ (by omega), ← Int.mul_assoc] at hq2
          simp (maxSteps := 1000000) (disch := omega) only [c63l1, h4, h5, h6, h8, hi, go_sem]
          exact ⟨(32 - (i + 1)).toNat, by omega, i + 1, by omega, by omega, rfl, rfl, by rw [show i + 1 - K = (i - K) + 1 by omega, p2_succ (by omega), Int.mul_assoc]⟩
        · obtain rfl : i = 32 := by omega
          have hr : u32 (N / p2 (32 - K) * p2 (32 - K)) := by unfold u32; omega
          simp (maxSteps := 1000000) (disch := omega) only [c63l1, h4, h5, h6, h8, orc_cons, ofS_eq hr, adr, net, go_sem]
          unfold cutv
          rw [pw_p2]
          exact wkv_drop rfl
    · cases h
  · cases h
end Go.Proofs.YtmdnohpolepcoaaGreat

namespace Go.Proofs.YtmdnohpolepcoaaGreat
open Go.RowKit
set_option linter.unusedSimpArgs false
set_option linter.unusedVariables false
set_option maxRecDepth 10000

theorem cl_id {k : Int} (h0 : 0 ≤ k) (h1 : k ≤ 32) : cl k = k := by unfold cl; omega
theorem adr_eq {n a b c d : Int} (hn : u32 n) (h : u84 a b c d) : (b3 n = a ∧ b2 n = b ∧ b1 n = c ∧ b0 n = d) ↔ n = num a b c d := by
  obtain ⟨q1, q2, q3, q4⟩ := b_num h.1 h.2.1 h.2.2.1 h.2.2.2
  constructor
  · rintro ⟨rfl, rfl, rfl, rfl⟩; exact (num_b hn).symm
  · rintro rfl; exact ⟨q1, q2, q3, q4⟩
theorem net_eq {a b c d k : Int} (h : u84 a b c d) (h0 : 0 ≤ k) (h1 : k ≤ 32) : (b3 (cutv (num a b c d) (cl k)) = a ∧ b2 (cutv (num a b c d) (cl k)) = b ∧ b1 (cutv (num a b c d) (cl k)) = c ∧ b0 (cutv (num a b c d) (cl k)) = d ∧ cl k = k) ↔ right (num a b c d) k := by
  rw [cl_id h0 h1]
  have := adr_eq (u32_cutv (k := k) (u84_num h)) h
  unfold right
  rw [cl_id h0 h1]
  constructor
  · rintro ⟨q1, q2, q3, q4, _⟩; exact ⟨rfl, this.1 ⟨q1, q2, q3, q4⟩⟩
  · rintro ⟨_, q⟩
    obtain ⟨q1, q2, q3, q4⟩ := this.2 q
    exact ⟨q1, q2, q3, q4, rfl⟩

theorem wkv_b {S L : Mem} {p q : Prop} [Decidable p] [Decidable q] (h : p ↔ q) : WkV S (.b (decide p)) S (.b (decide q)) (S ++ L) := by
  rw [show decide p = decide q by rw [decide_eq_decide]; exact h]
  exact wkv_drop rfl
theorem wkv_f {S L : Mem} {p : Prop} [Decidable p] (h : ¬ p) : WkV S (.b (decide p)) S (.b false) (S ++ L) := by
  rw [show decide p = false by simpa using h]
  exact wkv_drop rfl
theorem right_bound {n k : Int} (h : right n k) : 0 ≤ k ∧ k ≤ 32 := by
  have := cl_bound k; rw [h.1] at this; exact this

def rightS : Spec := fun args S => match args with
  | [.ag [.i .u8 a, .i .u8 b, .i .u8 c, .i .u8 d, .i .i64 k]] => if u84 a b c d then some (.b (decide (right (num a b c d) k)), S) else none
  | _ => none
theorem rightS_eq {a b c d k : Int} (h : u84 a b c d) (S : Mem) : rightS [.ag [.i .u8 a, .i .u8 b, .i .u8 c, .i .u8 d, .i .i64 k]] S = some (.b (decide (right (num a b c d) k)), S) := by simp only [rightS, if_pos h]
theorem o18_ok : OK Tryz.prog (lamOf Tryz.prog) (orcOf [(48, cutS)]) := orc_ok (by simpa using cut_ok)
theorem o19_ok : OK Tryz.prog (lamOf Tryz.prog) (orcOf [(63, cutS), (62, clS)]) := orc_ok (by simpa using ⟨rcut_ok, bounded_ok⟩)
theorem right_ok : SpecOK Tryz.prog 33 rightS := by
  intro args S x S' h
  simp only [rightS] at h
  split at h
  · rename_i a b c d k
    split at h
    · rename_i hn
      cases h
      refine fn_of_wp f33 rfl (W_sound o18_ok mixed _ _ _ _ _ ?_)
      simp (maxSteps := 1000000) (disch := omega) only [c33, orc_cons, cutS_eq hn, net, eq_net, go_sem]
      refine ⟨fun h0 => ⟨fun h1 => wkv_b (net_eq hn h0 h1).symm, fun h1 => wkv_f fun hr => ?_⟩, fun h0 => wkv_f fun hr => ?_⟩
      · exact h1 (right_bound hr).2
      · exact h0 (right_bound hr).1
    · cases h
  · cases h
theorem rright_ok : SpecOK Tryz.prog 40 rightS := by
  intro args S x S' h
  simp only [rightS] at h
  split at h
  · rename_i a b c d k
    split at h
    · rename_i hn
      cases h
      refine fn_of_wp f40 rfl (W_sound o19_ok mixed _ _ _ _ _ ?_)
      simp (maxSteps := 1000000) (disch := omega) only [c40, orc_cons, cutS_eq hn, clS_eq, net, eq_net, go_sem]
      refine ⟨fun h0 => ?_, fun h0 => wkv_f fun hr => h0 hr.1⟩
      have hk := cl_bound k
      rw [h0] at hk
      exact wkv_b (net_eq hn hk.1 hk.2).symm
    · cases h
  · cases h

end Go.Proofs.YtmdnohpolepcoaaGreat

namespace Go.Proofs.YtmdnohpolepcoaaGreat
open Go.RowKit
set_option linter.unusedSimpArgs false
set_option linter.unusedVariables false
set_option maxRecDepth 10000

/-- Where the first is that it holds of. -/
def idx {α : Type} (p : α → Bool) (l : List α) : Int := match l.findIdx? p with
  | some k => k
  | none => -1
theorem idx_ge {α : Type} (p : α → Bool) (l : List α) : (0 ≤ idx p l) = (l.any p = true) := by
  unfold idx
  cases h : l.findIdx? p with
  | some k =>
    have := List.findIdx?_eq_some_iff_getElem.1 h
    obtain ⟨hk, hp, _⟩ := this
    simp only [eq_iff_iff]
    exact ⟨fun _ => List.any_eq_true.2 ⟨l[k], List.getElem_mem hk, hp⟩, fun _ => by omega⟩
  | none =>
    have := List.findIdx?_eq_none_iff.1 h
    simp only [eq_iff_iff]
    refine ⟨fun h => by omega, fun h => ?_⟩
    obtain ⟨x, hx, hp⟩ := List.any_eq_true.1 h
    rw [this x hx] at hp; cases hp
theorem idx_at {α : Type} {p : α → Bool} {l : List α} {k : Nat} (hk : k < l.length) (hp : p l[k] = true) (hn : ∀ j (h : j < k), p (l[j]'(by omega)) = false) : idx p l = k := by
  unfold idx
  rw [List.findIdx?_eq_some_iff_getElem.2 ⟨hk, hp, fun j hj => by simpa using hn j hj⟩]
theorem idx_none {α : Type} {p : α → Bool} {l : List α} (h : ∀ j (hj : j < l.length), p l[j] = false) : idx p l = -1 := by
  unfold idx
  rw [List.findIdx?_eq_none_iff.2 fun x hx => by obtain ⟨j, hj, rfl⟩ := List.getElem_of_mem hx; exact h j hj]

def aboveS : Spec := fun args S => match args with
  | [.i .u64 n] => some (.b (decide (281474976710656 < n)), S)
  | _ => none
def belowS : Spec := fun args S => match args with
  | [.i .u64 n] => some (.b (decide (n < 1500)), S)
  | _ => none
theorem above_ok : SpecOK Tryz.prog 31 aboveS := by
  intro args S x S' h
  simp only [aboveS] at h
  split at h
  · cases h
    refine fn_of_wp f31 rfl (W_sound none_ok mixed _ _ _ _ _ ?_)
    simp (maxSteps := 1000000) (disch := omega) only [c31, go_sem]
    exact wkv_same
  · cases h
theorem below_ok : SpecOK Tryz.prog 32 belowS := by
  intro args S x S' h
  simp only [belowS] at h
  split at h
  · cases h
    refine fn_of_wp f32 rfl (W_sound none_ok mixed _ _ _ _ _ ?_)
    simp (maxSteps := 1000000) (disch := omega) only [c32, go_sem]
    exact wkv_same
  · cases h

/-- What a function value says of a number. -/
def predU (f : AV) : Option (Int → Bool) := match f with
  | .f (.func g) [] [] => if g = 31 then some (fun n => decide (281474976710656 < n)) else if g = 32 then some (fun n => decide (n < 1500)) else none
  | _ => none
theorem oU_ok : OK Tryz.prog (lamOf Tryz.prog) (orcOf [(31, aboveS), (32, belowS)]) := orc_ok (by simpa using ⟨above_ok, below_ok⟩)
theorem predU_call {f : AV} {p : Int → Bool} (h : predU f = some p) : ∃ g, f = .f (.func g) [] [] ∧ ∀ n S, (orcOf [(31, aboveS), (32, belowS)]).fn g [.i .u64 n] S = some (.b (p n), S) := by
  unfold predU at h
  split at h
  · rename_i g
    split at h
    · rename_i hg; subst hg; injection h with h; subst h; exact ⟨_, rfl, fun n S => rfl⟩
    · split at h
      · rename_i hg; subst hg; injection h with h; subst h; exact ⟨_, rfl, fun n S => rfl⟩
      · cases h
  · cases h

def idxUS : Spec := fun args S => match args with
  | [x, f] => match lstV (intE .u64) S x, predU f with
    | some l, some p => if l.length ≤ 1000000 then some (.i .i64 (idx p l), S) else none
    | _, _ => none
  | _ => none
theorem idxU_ok : SpecOK Tryz.prog 49 idxUS := by
  intro args S x S' h
  simp only [idxUS] at h
  split at h
  · rename_i s f
    split at h
    · rename_i l p hl hp
      split at h
      · rename_i hlim
        cases h
        obtain ⟨g, rfl, hg⟩ := predU_call hp
        refine fn_of_wp f49 rfl (W_sound oU_ok mixed _ _ _ _ _ ?_)
        simp (maxSteps := 1000000) (disch := omega) only [c49, lst_len hl, go_sem]
        refine wp_loop (fun j e M dl => dl = [] ∧ ∃ k : Nat, j = l.length - k ∧ k ≤ l.length ∧ M = S ∧ (∀ i (hi : i < k) (hl : i < l.length), p l[i] = false) ∧
          e.get 0 = s ∧ e.get 1 = .f (.func g) [] [] ∧ e.get 7 = .i .i64 l.length ∧ e.get 8 = .i .i64 k) (j := l.length) ⟨rfl, 0, rfl, Nat.zero_le _, rfl, fun i hi => absurd hi (Nat.not_lt_zero _), rfl, rfl, rfl, rfl⟩ ?_
        rintro j e M d' ⟨rfl, k, rfl, hk, rfl, hn, h0, h1, h7, h8⟩
        refine W_sound oU_ok mixed _ _ _ _ _ ?_
        by_cases hkl : k < l.length
        · obtain ⟨bi, o, v, cap, ex, rfl⟩ := lst_sl hl hkl
          have hc := lstV_cell hl rfl (fun a => rfl) hkl []
          rw [List.append_nil] at hc
          have hkI : (k : Int) < l.length := by omega
          simp (maxSteps := 1000000) (disch := omega) only [c49l0, h0, h1, h7, h8, hkI, Int.toNat_natCast, Nat.mul_one, hc, hg, go_sem]
          cases hpk : p l[k] with
          | true =>
            refine ⟨fun _ => ?_, fun h => by cases h⟩
            rw [idx_at hkl hpk fun j hj => hn j hj (by omega)]
            exact wkv_same
          | false =>
            refine ⟨(fun h => by cases h), fun _ => ⟨l.length - (k + 1), by omega, k + 1, rfl, hkl, fun i hi hil => ?_, rfl⟩⟩
            by_cases hik : i = k
            · subst hik; exact hpk
            · exact hn i (by omega) hil
        · have hkI : ¬ (k : Int) < l.length := by omega
          simp (maxSteps := 1000000) (disch := omega) only [c49l0, h0, h1, h7, h8, hkI, go_sem]
          rw [idx_none fun j hj => hn j (by omega) hj]
          exact wkv_same
      · cases h
    · cases h
  · cases h

def hasUS : Spec := fun args S => match args with
  | [x, f] => match lstV (intE .u64) S x, predU f with
    | some l, some p => if l.length ≤ 1000000 then some (.b (l.any p), S) else none
    | _, _ => none
  | _ => none
theorem oI_ok : OK Tryz.prog (lamOf Tryz.prog) (orcOf [(49, idxUS)]) := orc_ok (by simpa using idxU_ok)
theorem hasU_ok : SpecOK Tryz.prog 34 hasUS := by
  intro args S x S' h
  simp only [hasUS] at h
  split at h
  · rename_i s f
    split at h
    · rename_i l p hl hp
      split at h
      · rename_i hlim
        cases h
        have hi : idxUS [s, f] S = some (.i .i64 (idx p l), S) := by simp only [idxUS, hl, hp, if_pos hlim]
        refine fn_of_wp f34 rfl (W_sound oI_ok mixed _ _ _ _ _ ?_)
        simp (maxSteps := 1000000) (disch := omega) only [c34, orc_cons, hi, go_sem]
        refine wkv_eq wkv_same ?_ rfl
        congr 1
        have := idx_ge p l
        cases h : l.any p
        · rw [h] at this; simp [this]
        · rw [h] at this; simp [this]
      · cases h
    · cases h
  · cases h
end Go.Proofs.YtmdnohpolepcoaaGreat

namespace Go.Proofs.YtmdnohpolepcoaaGreat
open Go.RowKit
set_option linter.unusedSimpArgs false
set_option linter.unusedVariables false
set_option maxRecDepth 10000

/-- A policy. -/
structure Pol where
  sub : Int
  a : Int
  b : Int
  c : Int
  d : Int
  bits : Int
  rate : Int
  burst : Int
  srate : Int
  sburst : Int
  quota : Int
  lease : Int
  quantum : Int
  deriving DecidableEq

def Pol.enc (p : Pol) : List AV := [.i .i64 p.sub, .i .u8 p.a, .i .u8 p.b, .i .u8 p.c, .i .u8 p.d, .i .i64 p.bits, .i .u64 p.rate, .i .u64 p.burst, .i .u64 p.srate, .i .u64 p.sburst, .i .u64 p.quota, .i .u64 p.lease, .i .u64 p.quantum]
def Pol.fits (p : Pol) : Prop := u84 p.a p.b p.c p.d
instance (p : Pol) : Decidable p.fits := by unfold Pol.fits; infer_instance
def Pol.nums (p : Pol) : List Int := [p.lease, p.quantum, p.rate, p.burst, p.srate, p.sburst, p.quota]
def Pol.right (p : Pol) : Prop := 1 ≤ p.sub ∧ p.sub ≤ 255 ∧ Go.Proofs.YtmdnohpolepcoaaGreat.right (num p.a p.b p.c p.d) p.bits ∧ (∀ n ∈ p.nums, n ≤ 281474976710656) ∧ 1500 ≤ p.lease ∧ 1500 ≤ p.quantum
instance (p : Pol) : Decidable p.right := by unfold Pol.right; infer_instance

def polS : Spec := fun args S => match args with
  | [.ag [.i .i64 sub, .i .u8 a, .i .u8 b, .i .u8 c, .i .u8 d, .i .i64 bits, .i .u64 rate, .i .u64 burst, .i .u64 srate, .i .u64 sburst, .i .u64 quota, .i .u64 lease, .i .u64 quantum]] =>
    if u84 a b c d then some (.b (decide (Pol.right ⟨sub, a, b, c, d, bits, rate, burst, srate, sburst, quota, lease, quantum⟩)), S) else none
  | _ => none
theorem polS_eq {p : Pol} (h : p.fits) (S : Mem) : polS [.ag p.enc] S = some (.b (decide p.right), S) := by
  have h : u84 p.a p.b p.c p.d := h
  simp only [polS, Pol.enc, if_pos h]
theorem lstU_sl {S : Mem} {i o v len cap : Nat} {ex : Bool} : lstV (intE .u64) S (.sl i o v len cap ex) = match rowB (S[i]?) o v len with
    | some xs => decL (intE .u64) len xs
    | none => none := by
  simp only [lstV, show (intE .u64).sz = 1 from rfl, Nat.mul_one, rowAt_B]
  first | done | (cases rowB (S[i]?) o v len <;> rfl)
theorem decU_nil {xs : List AV} : decL (intE .u64) 0 xs = some [] := rfl
theorem decU_cons {n : Nat} {a : Int} {r : List AV} : decL (intE .u64) (n + 1) (.i .u64 a :: r) = (decL (intE .u64) n r).map (a :: ·) := by
  have h1 : (AV.i .u64 a :: r).take (intE .u64).sz = [.i .u64 a] := rfl
  have h2 : (AV.i .u64 a :: r).drop (intE .u64).sz = r := rfl
  have h3 : (intE .u64).dec [.i .u64 a] = some a := rfl
  simp only [decL, h1, h2, h3]
  cases decL (intE .u64) n r <;> rfl
theorem decU7 {a b c d e f g : Int} : decL (intE .u64) 7 [.i .u64 a, .i .u64 b, .i .u64 c, .i .u64 d, .i .u64 e, .i .u64 f, .i .u64 g] = some [a, b, c, d, e, f, g] := by
  simp only [decU_cons, decU_nil, Option.map_some]
theorem decU2 {a b : Int} : decL (intE .u64) 2 [.i .u64 a, .i .u64 b] = some [a, b] := by
  simp only [decU_cons, decU_nil, Option.map_some]
theorem predU1 : predU (.f (.func 31) [] []) = some (fun n => decide (281474976710656 < n)) := rfl
theorem predU2 : predU (.f (.func 32) [] []) = some (fun n => decide (n < 1500)) := rfl
theorem oP_ok : OK Tryz.prog (lamOf Tryz.prog) (orcOf [(33, rightS), (34, hasUS)]) := orc_ok (by simpa using ⟨right_ok, hasU_ok⟩)
theorem pol_ok : SpecOK Tryz.prog 20 polS := by
  intro args S x S' h
  simp only [polS] at h
  split at h
  · rename_i sub a b c d bits rate burst srate sburst quota lease quantum
    split at h
    · rename_i hn
      cases h
      refine fn_of_wp f20 rfl (W_sound oP_ok mixed _ _ _ _ _ ?_)
      simp (maxSteps := 1000000) (disch := omega) only [c20, orc_cons, rightS_eq hn, List.replicate_succ, List.replicate_zero, hasUS, lstU_sl, decU7, decU2, predU1, predU2, un_not_b, go_sem]
      refine ⟨fun h1 => ⟨fun h2 => ⟨fun h3 => wkv_f fun q => (by simpa using h3 : ¬ Go.Proofs.YtmdnohpolepcoaaGreat.right (num a b c d) bits) q.2.2.1, fun h3 => ⟨fun h4 => wkv_f fun q => ?_, fun h4 => ?_⟩⟩, fun h2 => wkv_f fun q => ?_⟩, fun h1 => wkv_f fun q => ?_⟩
      · obtain ⟨n, hn1, hn2⟩ := List.any_eq_true.1 h4
        have h5 := q.2.2.2.1 n hn1
        have h6 := of_decide_eq_true hn2
        omega
      · have h5 : ∀ n ∈ [lease, quantum, rate, burst, srate, sburst, quota], n ≤ 281474976710656 := fun n hm => by
          have := List.any_eq_false.1 h4 n hm
          simpa using this
        have h6 : decide (Pol.right ⟨sub, a, b, c, d, bits, rate, burst, srate, sburst, quota, lease, quantum⟩) = !([lease, quantum].any fun n => decide (n < 1500)) := by
          rw [Bool.eq_iff_iff, decide_eq_true_iff]
          simp only [List.any_cons, List.any_nil, Bool.or_false, Bool.not_eq_true', Bool.or_eq_false_iff, decide_eq_false_iff_not]
          constructor
          · intro q; have q1 := q.2.2.2.2.1; have q2 := q.2.2.2.2.2; simp only at q1 q2; omega
          · intro q; exact ⟨by simp only; omega, by simp only; omega, by simpa using h3, h5, by simp only; omega, by simp only; omega⟩
        rw [h6]
        exact wkv_drop rfl
      · have := q.2.1; simp only at this; omega
      · have := q.1; simp only at this; omega
    · cases h
  · cases h
end Go.Proofs.YtmdnohpolepcoaaGreat

namespace Go.Proofs.YtmdnohpolepcoaaGreat
open Go.RowKit
set_option linter.unusedSimpArgs false
set_option linter.unusedVariables false
set_option maxRecDepth 10000

theorem oR_ok : OK Tryz.prog (lamOf Tryz.prog) (orcOf [(40, rightS)]) := orc_ok (by simpa using rright_ok)
theorem rpol_ok : SpecOK Tryz.prog 22 polS := by
  intro args S x S' h
  simp only [polS] at h
  split at h
  · rename_i sub a b c d bits rate burst srate sburst quota lease quantum
    split at h
    · rename_i hn
      cases h
      have key : ∀ P : Prop, (Pol.right ⟨sub, a, b, c, d, bits, rate, burst, srate, sburst, quota, lease, quantum⟩ ↔ (1 ≤ sub ∧ sub ≤ 255 ∧ Go.Proofs.YtmdnohpolepcoaaGreat.right (num a b c d) bits ∧ (lease ≤ 281474976710656 ∧ quantum ≤ 281474976710656 ∧ rate ≤ 281474976710656 ∧ burst ≤ 281474976710656 ∧ srate ≤ 281474976710656 ∧ sburst ≤ 281474976710656 ∧ quota ≤ 281474976710656) ∧ 1500 ≤ lease ∧ 1500 ≤ quantum)) := fun _ => by
        simp only [Pol.right, Pol.nums, List.forall_mem_cons, List.not_mem_nil, false_imp_iff, implies_true, and_true]
      have key := key True
      refine fn_of_wp f22 rfl (W_sound oR_ok mixed _ _ _ _ _ ?_)
      simp (maxSteps := 1000000) (disch := omega) only [c22, orc_cons, rightS_eq hn, List.replicate_succ, List.replicate_zero, go_sem]
      refine ⟨fun h1 => ⟨fun h2 => ⟨fun h3 => wkv_f fun q => (by simpa using h3 : ¬ Go.Proofs.YtmdnohpolepcoaaGreat.right (num a b c d) bits) q.2.2.1, fun h3 => ?_⟩, fun h2 => wkv_f fun q => by have := (key.1 q).2.1; omega⟩, fun h1 => wkv_f fun q => by have := (key.1 q).1; omega⟩
      refine wp_unroll oR_ok mixed 8 ?_
      simp (maxSteps := 1000000) (disch := omega) only [c22l0, ixa_ag, go_sem]
      refine ⟨fun h => wkv_f fun q => by have := (key.1 q).2.2.2.1; omega, fun r1 => ?_⟩
      refine ⟨fun h => wkv_f fun q => by have := (key.1 q).2.2.2.1; omega, fun r2 => ?_⟩
      refine ⟨fun h => wkv_f fun q => by have := (key.1 q).2.2.2.1; omega, fun r3 => ?_⟩
      refine ⟨fun h => wkv_f fun q => by have := (key.1 q).2.2.2.1; omega, fun r4 => ?_⟩
      refine ⟨fun h => wkv_f fun q => by have := (key.1 q).2.2.2.1; omega, fun r5 => ?_⟩
      refine ⟨fun h => wkv_f fun q => by have := (key.1 q).2.2.2.1; omega, fun r6 => ?_⟩
      refine ⟨fun h => wkv_f fun q => by have := (key.1 q).2.2.2.1; omega, fun r7 => ?_⟩
      refine ⟨fun l1 => wkv_b ⟨fun q => (key.1 q).2.2.2.2.2, fun l2 => key.2 ⟨by omega, by omega, Decidable.not_not.1 h3, by omega, l1, l2⟩⟩, fun l1 => wkv_f fun q => l1 (key.1 q).2.2.2.2.1⟩
    · cases h
  · cases h
end Go.Proofs.YtmdnohpolepcoaaGreat

namespace Go.Proofs.YtmdnohpolepcoaaGreat
open Go.RowKit
set_option linter.unusedSimpArgs false
set_option linter.unusedVariables false
set_option maxRecDepth 10000

def polE : Enc Pol where
  enc := Pol.enc
  dec r := match r with
    | [.i .i64 sub, .i .u8 a, .i .u8 b, .i .u8 c, .i .u8 d, .i .i64 bits, .i .u64 rate, .i .u64 burst, .i .u64 srate, .i .u64 sburst, .i .u64 quota, .i .u64 lease, .i .u64 quantum] => some ⟨sub, a, b, c, d, bits, rate, burst, srate, sburst, quota, lease, quantum⟩
    | _ => none
  sz := 13
  pos := by decide
  len _ := rfl
  de _ := rfl
  ed r a h := by
    split at h
    · injection h with h; subst h; rfl
    · cases h

/-- The network of a policy. -/
def Pol.net (p : Pol) : Int × Int × Int × Int × Int := (p.a, p.b, p.c, p.d, p.bits)

/-- Up to the k-th each can be, beside those ahead of it. -/
def okTo (l : List Pol) (k : Nat) : Prop := ∀ i (h : i < l.length), i < k → (l[i].right ∧ ∀ j (hj : j < i), (l[j]'(by omega)).sub < l[i].sub ∧ (l[j]'(by omega)).net ≠ l[i].net)
def Pols (l : List Pol) : Prop := l.length ≤ 8 ∧ okTo l l.length
noncomputable instance (l : List Pol) : Decidable (Pols l) := Classical.propDecidable _
noncomputable def allE (l : List Pol) : Int := if Pols l then 0 else 111

theorem okTo_zero (l : List Pol) : okTo l 0 := fun i h hk => absurd hk (Nat.not_lt_zero _)
theorem okTo_succ {l : List Pol} {k : Nat} (hk : k < l.length) (h : okTo l k) (hr : l[k].right) (hj : ∀ j (hj : j < k), (l[j]'(by omega)).sub < l[k].sub ∧ (l[j]'(by omega)).net ≠ l[k].net) : okTo l (k + 1) := fun i hi hik => by
  by_cases e : i = k
  · subst e; exact ⟨hr, hj⟩
  · exact h i hi (by omega)
theorem okTo_at {l : List Pol} (h : okTo l l.length) {k : Nat} (hk : k < l.length) : l[k].right ∧ ∀ j (hj : j < k), (l[j]'(by omega)).sub < l[k].sub ∧ (l[j]'(by omega)).net ≠ l[k].net := h k hk hk
/-- It is enough that each is above the one just ahead of it. -/
theorem okTo_rise {l : List Pol} {k : Nat} (hk : k < l.length) (h : okTo l k) (h1 : ∀ h0 : 0 < k, (l[k - 1]'(by omega)).sub < l[k].sub) : ∀ j (hj : j < k), (l[j]'(by omega)).sub < l[k].sub := fun j hj => by
  have h2 := h1 (by omega)
  by_cases e : j = k - 1
  · subst e; exact h2
  · have := ((h (k - 1) (by omega) (by omega)).2 j (by omega)).1
    omega
end Go.Proofs.YtmdnohpolepcoaaGreat

namespace Go.Proofs.YtmdnohpolepcoaaGreat
open Go.RowKit
set_option linter.unusedSimpArgs false
set_option linter.unusedVariables false
set_option maxRecDepth 10000

noncomputable def allS : Spec := fun args S => match args with
  | [x] => match lstV polE S x with
    | some l => if l.all (fun p => decide p.fits) = true ∧ (l = [] ∨ openS S 13 x = true) then some (.i .i64 (allE l), S) else none
    | none => none
  | _ => none
theorem oA_ok : OK Tryz.prog (lamOf Tryz.prog) (orcOf [(22, polS)]) := orc_ok (by simpa using rpol_ok)
theorem rall_ok : SpecOK Tryz.prog 15 allS := by
  intro args S x S' h
  simp only [allS] at h
  split at h
  · rename_i s
    split at h
    · rename_i l hl
      split at h
      · rename_i hc
        cases h
        obtain ⟨hfit, hop⟩ := hc
        have hfit : ∀ k (hk : k < l.length), l[k].fits := fun k hk => of_decide_eq_true (List.all_eq_true.1 hfit _ (List.getElem_mem hk))
        refine fn_of_wp f15 rfl (W_sound oA_ok mixed _ _ _ _ _ ?_)
        simp (maxSteps := 1000000) (disch := omega) only [c15, lst_len hl, go_sem]
        refine ⟨fun h8 => ?_, fun h8 => ?_⟩
        · rw [show allE l = 111 by unfold allE; rw [if_neg fun q => by have := q.1; omega]]
          exact wkv_same
        · refine wp_loop (fun j e M dl => dl = [] ∧ ∃ k : Nat, j = l.length - k ∧ k ≤ l.length ∧ M = S ∧ okTo l k ∧ e.get 0 = s ∧ e.get 9 = .i .i64 l.length ∧ e.get 10 = .i .i64 k) (j := l.length) ⟨rfl, 0, rfl, Nat.zero_le _, rfl, okTo_zero l, rfl, rfl, rfl⟩ ?_
          rintro j e M d' ⟨rfl, k, rfl, hk, rfl, hok, h0, h9, h10⟩
          refine W_sound oA_ok mixed _ _ _ _ _ ?_
          by_cases hkl : k < l.length
          · obtain ⟨bi, o, v, cap, ex, rfl⟩ := lst_sl hl hkl
            have hrow := lstV_row hl hkl []
            rw [List.append_nil] at hrow
            have hrow : rowB (M[bi]?) (o + k * 13) v 13 = some l[k].enc := hrow
            have hkI : (k : Int) < l.length := by omega
            have hop := hop.resolve_left (fun q => by subst q; simp at hkl)
            have hkc : k ≤ cap := Nat.le_trans hk (openS_le hop)
            simp (maxSteps := 1000000) (disch := omega) only [c15l2, h0, h9, h10, hkI, Int.toNat_natCast, hrow, orc_cons, polS_eq (hfit k hkl), Option.map_none, Option.map_some, slice_hi hkc hop, go_sem]
            refine ⟨fun hr => ?_, fun hr => ?_⟩
            · rw [show allE l = 111 by unfold allE; rw [if_neg fun q => hr (okTo_at q.2 hkl).1]]
              exact wkv_same
            · have fk : cellB (M[bi]?) (o + k * 13 + 0) v = some (.i .i64 l[k].sub) := by have := lstV_field hl hkl (f := 0) (x := .i .i64 l[k].sub) rfl []; rwa [List.append_nil] at this
              have nk : rowB (M[bi]?) (o + k * 13 + 1) v 5 = some [.i .u8 l[k].a, .i .u8 l[k].b, .i .u8 l[k].c, .i .u8 l[k].d, .i .i64 l[k].bits] := by have := lstV_part hl hkl (f := 1) (n := 5) (by decide) []; rwa [List.append_nil] at this
              refine wp_loop (fun jj e N dl => dl = [] ∧ ∃ j : Nat, jj = k - j ∧ j ≤ k ∧ N = M ∧ (∀ j' (hj : j' < j) (hj2 : j' < l.length), l[j'].sub < l[k].sub ∧ l[j'].net ≠ l[k].net) ∧
                e.get 0 = .sl bi o v l.length cap ex ∧ e.get 3 = .i .i64 k ∧ e.get 9 = .i .i64 l.length ∧ e.get 10 = .i .i64 k ∧ e.get 22 = .i .i64 k ∧ e.get 23 = .i .i64 j) (j := k)
                ⟨rfl, 0, rfl, Nat.zero_le _, rfl, fun j' hj => absurd hj (Nat.not_lt_zero _), rfl, rfl, rfl, rfl, rfl, rfl⟩ ?_
              rintro jj e N d' ⟨rfl, j, rfl, hj, rfl, hlow, h0, h3, h9, h10, h22, h23⟩
              refine W_sound oA_ok mixed _ _ _ _ _ ?_
              by_cases hjk : j < k
              · have hjl : j < l.length := by omega
                have fj : cellB (N[bi]?) (o + j * 13 + 0) v = some (.i .i64 l[j].sub) := by have := lstV_field hl hjl (f := 0) (x := .i .i64 l[j].sub) rfl []; rwa [List.append_nil] at this
                have nj : rowB (N[bi]?) (o + j * 13 + 1) v 5 = some [.i .u8 l[j].a, .i .u8 l[j].b, .i .u8 l[j].c, .i .u8 l[j].d, .i .i64 l[j].bits] := by have := lstV_part hl hjl (f := 1) (n := 5) (by decide) []; rwa [List.append_nil] at this
                have hjI : (j : Int) < k := by omega
                rw [Nat.add_zero] at fk fj
                simp (maxSteps := 1000000) (disch := omega) only [c15l1, h0, h3, h9, h10, h22, h23, hjI, Int.toNat_natCast, fk, fj, nk, nj, Nat.add_zero, eq_net, go_sem]
                have bad : (l[k].sub ≤ l[j].sub ∨ l[j].net = l[k].net) → allE l = 111 := fun hb => by
                  unfold allE
                  rw [if_neg fun q => ?_]
                  have := (okTo_at q.2 hkl).2 j hjk
                  rcases hb with hb | hb
                  · omega
                  · exact this.2 hb
                refine ⟨fun hs => ⟨fun hn => ?_, fun hn => ?_⟩, fun hs => ?_⟩
                · rw [bad (.inr (by unfold Pol.net; rw [hn.1, hn.2.1, hn.2.2.1, hn.2.2.2.1, hn.2.2.2.2]))]
                  exact wkv_same
                · refine ⟨k - (j + 1), by omega, j + 1, rfl, hjk, fun j' hj' hj2 => ?_, rfl⟩
                  by_cases e : j' = j
                  · subst e
                    exact ⟨by omega, fun q => hn (by simpa [Pol.net] using q)⟩
                  · exact hlow j' (by omega) hj2
                · rw [bad (.inl hs)]
                  exact wkv_same
              · have hjI : ¬ (j : Int) < k := by omega
                simp (maxSteps := 1000000) (disch := omega) only [c15l1, h0, h3, h9, h10, h22, h23, hjI, go_sem]
                exact ⟨l.length - (k + 1), by omega, k + 1, rfl, hkl, okTo_succ hkl hok (Decidable.not_not.1 hr) fun j' hj' => hlow j' (by omega) (by omega), rfl⟩
          · have hkI : ¬ (k : Int) < l.length := by omega
            simp (maxSteps := 1000000) (disch := omega) only [c15l2, h0, h9, h10, hkI, go_sem]
            rw [show allE l = 0 by unfold allE; rw [if_pos ⟨by omega, by rwa [show k = l.length by omega] at hok⟩]]
            exact wkv_same
      · cases h
    · cases h
  · cases h
end Go.Proofs.YtmdnohpolepcoaaGreat

namespace Go.Proofs.YtmdnohpolepcoaaGreat
open Go.RowKit
set_option linter.unusedSimpArgs false
set_option linter.unusedVariables false
set_option maxRecDepth 10000

def netL (n : Int × Int × Int × Int × Int) : List AV := [.i .u8 n.1, .i .u8 n.2.1, .i .u8 n.2.2.1, .i .u8 n.2.2.2.1, .i .i64 n.2.2.2.2]
def netK : List TK := [.int, .int, .int, .int, .int]
theorem eq_netL {a b : Int × Int × Int × Int × Int} : eqCells netK (netL a) (netL b) = some (decide (a = b)) := by
  obtain ⟨a1, a2, a3, a4, a5⟩ := a
  obtain ⟨b1, b2, b3, b4, b5⟩ := b
  simp [eqCells, eqCell, netK, netL, Bool.beq_eq_decide_eq]
theorem key_netL {a : Int × Int × Int × Int × Int} : keyC true netK (.ag (netL a)) = some (netL a) := by
  simp [keyC, netK, netL]

/-- The entries of nets, each counted once. -/
def ents (b : Nat) : List (Int × Int × Int × Int × Int) → List (AV × AV × Nat)
  | [] => []
  | n :: r => (.ag (netL n), .i .i64 1, b) :: ents (b + 1) r
theorem ents_length : ∀ (b : Nat) (l : List (Int × Int × Int × Int × Int)), (ents b l).length = l.length
  | _, [] => rfl
  | b, n :: r => by simp [ents, ents_length (b + 1) r]
theorem ents_append : ∀ (b : Nat) (l : List (Int × Int × Int × Int × Int)) (n : Int × Int × Int × Int × Int), ents b (l ++ [n]) = ents b l ++ [(.ag (netL n), .i .i64 1, b + l.length)]
  | b, [], n => by simp [ents]
  | b, m :: r, n => by
    simp only [List.cons_append, ents, ents_append (b + 1) r n, List.length_cons]
    rw [show b + 1 + r.length = b + (r.length + 1) by omega]
theorem ents_at : ∀ (b : Nat) (l : List (Int × Int × Int × Int × Int)) (j : Nat) (hj : j < l.length), (ents b l)[j]? = some (.ag (netL l[j]), .i .i64 1, b + j)
  | b, n :: r, 0, _ => rfl
  | b, n :: r, j + 1, h => by
    simp only [ents, List.getElem?_cons_succ, ents_at (b + 1) r j (by simpa using h), List.getElem_cons_succ]
    rw [show b + 1 + j = b + (j + 1) by omega]
theorem find_none : ∀ (b i : Nat) (l : List (Int × Int × Int × Int × Int)) (n : Int × Int × Int × Int × Int), n ∉ l → findK true netK (netL n) (ents b l) i = some none
  | b, i, [], n, _ => rfl
  | b, i, m :: r, n, h => by
    simp only [List.mem_cons, not_or] at h
    simp only [ents, findK, key_netL, eq_netL, decide_eq_false h.1]
    exact find_none (b + 1) (i + 1) r n h.2
theorem find_some : ∀ (b i : Nat) (l : List (Int × Int × Int × Int × Int)) (n : Int × Int × Int × Int × Int), n ∈ l → ∃ j, j < l.length ∧ l[j]? = some n ∧ findK true netK (netL n) (ents b l) i = some (some (i + j))
  | b, i, m :: r, n, h => by
    by_cases e : n = m
    · subst e
      exact ⟨0, by simp, rfl, by simp only [ents, findK, key_netL, eq_netL, decide_true]; rfl⟩
    · obtain ⟨j, h1, h2, h3⟩ := find_some (b + 1) (i + 1) r n (by simpa [e] using h)
      refine ⟨j + 1, by simpa using h1, by simpa using h2, ?_⟩
      simp only [ents, findK, key_netL, eq_netL, decide_eq_false e]
      rw [h3, show i + 1 + j = i + (j + 1) by omega]
end Go.Proofs.YtmdnohpolepcoaaGreat

namespace Go.Proofs.YtmdnohpolepcoaaGreat
open Go.RowKit
set_option linter.unusedSimpArgs false
set_option linter.unusedVariables false
set_option maxRecDepth 10000

abbrev Net5 := Int × Int × Int × Int × Int
/-! ### Rules -/
def lookM (B : Option Blk) (n : Net5) (z : AV) : Option AV := match B with
  | some (.map es _) => match findK true netK (netL n) es 0 with
    | some r => some (valAt es z r)
    | none => none
  | _ => none
theorem mlook_eq {S : Mem} {i : Nat} {z : AV} {a b c d e : Int} : mlookV S true [.int, .int, .int, .int, .int] z false (.m i) (.ag [.i .u8 a, .i .u8 b, .i .u8 c, .i .u8 d, .i .i64 e]) = lookM (S[i]?) (a, b, c, d, e) z := by
  have hk : keyC true [.int, .int, .int, .int, .int] (.ag [.i .u8 a, .i .u8 b, .i .u8 c, .i .u8 d, .i .i64 e]) = some (netL (a, b, c, d, e)) := rfl
  simp only [mlookV, hk, mapOf, lookM]
  cases S[i]? with
  | none => rfl
  | some B => cases B <;> first | rfl | (simp only [netK]; cases findK true [.int, .int, .int, .int, .int] (netL (a, b, c, d, e)) _ 0 <;> rfl)
def entM (B : Option Blk) (n : Net5) (z : AV) (i : Nat) (S : Mem) : Option (AV × Mem) := match B with
  | some (.map es cl) => match findK true netK (netL n) es 0 with
    | some (some j) => match es[j]? with
      | some e => some (.tu [e.2.1, .i .i64 e.2.2], S.set i (.map (es.set j (.ag (netL n), e.2.1, e.2.2)) cl))
      | none => none
    | some none => some (.tu [z, .i .i64 cl], S.set i (.map (es ++ [(.ag (netL n), z, cl)]) (cl + 1)))
    | none => none
  | _ => none
theorem mentry_eq {S : Mem} {i : Nat} {z : AV} {a b c d e : Int} : mentryV S true [.int, .int, .int, .int, .int] z (.m i) (.ag [.i .u8 a, .i .u8 b, .i .u8 c, .i .u8 d, .i .i64 e]) = entM (S[i]?) (a, b, c, d, e) z i S := by
  have hk : keyC true [.int, .int, .int, .int, .int] (.ag [.i .u8 a, .i .u8 b, .i .u8 c, .i .u8 d, .i .i64 e]) = some (netL (a, b, c, d, e)) := rfl
  simp only [mentryV, hk, entM]
  rfl
def stoM (B : Option Blk) (born : Int) (v : AV) (i : Nat) (S : Mem) : Option Mem := match B with
  | some (.map es cl) => match es.findIdx? (fun e => ((e.2.2 : Nat) : Int) == born) with
    | some j => match es[j]? with
      | some e => some (S.set i (.map (es.set j (e.1, v, e.2.2)) cl))
      | none => none
    | none => none
  | _ => none
theorem mstore_eq {S : Mem} {i : Nat} {q : IntKind} {born : Int} {v : AV} : mstoreV S (.m i) (.i q born) v = stoM (S[i]?) born v i S := rfl

theorem lookM_none {es : List (AV × AV × Nat)} {cl : Nat} {n : Net5} {z : AV} (h : findK true netK (netL n) es 0 = some none) : lookM (some (.map es cl)) n z = some z := by
  simp only [lookM, h, valAt]
theorem lookM_some {es : List (AV × AV × Nat)} {cl j : Nat} {n : Net5} {z v k : AV} {b : Nat} (h : findK true netK (netL n) es 0 = some (some j)) (he : es[j]? = some (k, v, b)) : lookM (some (.map es cl)) n z = some v := by
  simp only [lookM, h, valAt, he]
theorem entM_none {es : List (AV × AV × Nat)} {cl i : Nat} {n : Net5} {z : AV} {S : Mem} (h : findK true netK (netL n) es 0 = some none) : entM (some (.map es cl)) n z i S = some (.tu [z, .i .i64 cl], S.set i (.map (es ++ [(.ag (netL n), z, cl)]) (cl + 1))) := by
  simp only [entM, h]
theorem entM_some {es : List (AV × AV × Nat)} {cl i j b : Nat} {n : Net5} {z v k : AV} {S : Mem} (h : findK true netK (netL n) es 0 = some (some j)) (he : es[j]? = some (k, v, b)) :
    entM (some (.map es cl)) n z i S = some (.tu [v, .i .i64 b], S.set i (.map (es.set j (.ag (netL n), v, b)) cl)) := by
  simp only [entM, h, he]
theorem born_new : ∀ (b : Nat) (l : List Net5) (k : AV) (v : AV), (ents b l ++ [(k, v, b + l.length)]).findIdx? (fun e => ((e.2.2 : Nat) : Int) == ((b + l.length : Nat) : Int)) = some l.length
  | b, [], k, v => by simp [ents, List.findIdx?_cons]
  | b, n :: r, k, v => by
    have := born_new (b + 1) r k v
    rw [show b + 1 + r.length = b + (n :: r).length by simp; omega] at this
    simp only [ents, List.cons_append, List.findIdx?_cons, this]
    have hne : (((b : Nat) : Int) == ((b + (n :: r).length : Nat) : Int)) = false := by rw [beq_eq_false_iff_ne]; simp; omega
    rw [hne]; rfl

theorem stoM_new {L : List Net5} {n : Net5} {cl i k : Nat} {z v : AV} {S : Mem} (hk : L.length = k) : stoM (some (.map (ents 0 L ++ [(.ag (netL n), z, k)]) cl)) (k : Int) v i S = some (S.set i (.map (ents 0 L ++ [(.ag (netL n), v, k)]) cl)) := by
  subst hk
  have h1 := born_new 0 L (.ag (netL n)) z
  simp only [Nat.zero_add] at h1
  have hl : (ents 0 L).length = L.length := ents_length 0 L
  have h2 : (ents 0 L ++ [(AV.ag (netL n), z, L.length)])[L.length]? = some (AV.ag (netL n), z, L.length) := by
    rw [List.getElem?_append_right (by omega), hl]; simp
  have h3 : (ents 0 L ++ [(AV.ag (netL n), z, L.length)]).set L.length (AV.ag (netL n), v, L.length) = ents 0 L ++ [(AV.ag (netL n), v, L.length)] := by
    rw [List.set_append, if_neg (by omega), hl]; simp
  simp only [stoM, h1, h2, h3]
theorem stoM_old {L : List Net5} {n : Net5} {cl i j : Nat} {z v : AV} {S : Mem} (hj : j < L.length) : stoM (some (.map ((ents 0 L).set j (.ag (netL n), z, j)) cl)) (j : Int) v i S = some (S.set i (.map ((ents 0 L).set j (.ag (netL n), v, j)) cl)) := by
  have hl : (ents 0 L).length = L.length := ents_length 0 L
  have h1 : ((ents 0 L).set j (AV.ag (netL n), z, j)).findIdx? (fun e => ((e.2.2 : Nat) : Int) == (j : Int)) = some j := by
    rw [List.findIdx?_eq_some_iff_getElem]
    refine ⟨by simpa [hl] using hj, by simp, fun i hi => ?_⟩
    have h2 := ents_at 0 L i (by omega)
    rw [Nat.zero_add] at h2
    obtain ⟨h3, h4⟩ := List.getElem?_eq_some_iff.1 h2
    rw [List.getElem_set_ne (by omega), h4]
    simp; omega
  have h2 : ((ents 0 L).set j (AV.ag (netL n), z, j))[j]? = some (AV.ag (netL n), z, j) := by simp [hl, hj]
  simp only [stoM, h1, h2, List.set_set]
theorem ents_new {L : List Net5} {n : Net5} {k : Nat} (hk : L.length = k) : ents 0 L ++ [(.ag (netL n), .i .i64 1, k)] = ents 0 (L ++ [n]) := by
  rw [ents_append, Nat.zero_add, hk]
theorem look_new {L : List Net5} {n : Net5} {cl : Nat} {z : AV} (hn : n ∈ L) : lookM (some (.map (ents 0 L) cl)) n z = some (.i .i64 1) := by
  obtain ⟨j, h1, h2, h3⟩ := find_some 0 0 L n hn
  rw [Nat.zero_add] at h3
  exact lookM_some h3 (ents_at 0 L j h1)
end Go.Proofs.YtmdnohpolepcoaaGreat

namespace Go.Proofs.YtmdnohpolepcoaaGreat
open Go.RowKit
set_option linter.unusedSimpArgs false
set_option linter.unusedVariables false
set_option maxRecDepth 10000

def nets (l : List Pol) (k : Nat) : List Net5 := (l.take k).map Pol.net

theorem find_new : ∀ (b i : Nat) (l : List Net5) (n : Net5) (z : AV) (c : Nat), n ∉ l → findK true netK (netL n) (ents b l ++ [(.ag (netL n), z, c)]) i = some (some (i + l.length))
  | b, i, [], n, z, c, _ => by simp only [ents, List.nil_append, findK, key_netL, eq_netL, decide_true]; rfl
  | b, i, m :: r, n, z, c, h => by
    simp only [List.mem_cons, not_or] at h
    simp only [ents, List.cons_append, findK, key_netL, eq_netL, decide_eq_false h.1]
    rw [find_new (b + 1) (i + 1) r n z c h.2, List.length_cons, show i + 1 + r.length = i + (r.length + 1) by omega]
theorem look_app {L : List Net5} {n : Net5} {z v : AV} {c cl : Nat} (hn : n ∉ L) : lookM (some (.map (ents 0 L ++ [(.ag (netL n), v, c)]) cl)) n z = some v := by
  have h := find_new 0 0 L n v c hn
  rw [Nat.zero_add] at h
  refine lookM_some h (k := .ag (netL n)) (b := c) ?_
  have hl : (ents 0 L).length = L.length := ents_length 0 L
  rw [List.getElem?_append_right (by omega), hl]; simp

/-- The count of a network goes up by one: whichever way its look-up and its entry stand. -/
theorem d0_new {O : Orc} {e : Env} {S : Mem} {i b : Nat} {a1 a2 a3 a4 a5 : Int} {L : List Net5} {cl : Nat} (h3 : e.get 3 = .m i) (h5 : e.get 5 = .p b 0 0) (hb : rowB (S[b]?) 1 0 5 = some [.i .u8 a1, .i .u8 a2, .i .u8 a3, .i .u8 a4, .i .i64 a5])
    (hS : S[i]? = some (.map (ents 0 L) cl)) (hcl : L.length = cl) (hn : (a1, a2, a3, a4, a5) ∉ L) (hib : i ≠ b) :
    ∃ e', evDraw O c50d0 [] e S = some (e', S.set i (.map (ents 0 (L ++ [(a1, a2, a3, a4, a5)])) (cl + 1))) ∧ ∀ t, t < 17 → e'.get t = e.get t := by
  have hf := find_none 0 0 L _ hn
  have hlt : i < S.length := (List.getElem?_eq_some_iff.1 hS).1
  have hS2 : ∀ B : Blk, (S.set i B)[i]? = some B := fun B => at_set hS
  have hB2 : ∀ B : Blk, (S.set i B)[b]? = S[b]? := fun B => at_set_ne hib
  refine ⟨(23, .i .i64 cl) :: (22, .tu [.i .i64 0, .i .i64 cl]) :: (21, .i .i64 1) :: (20, .i .i64 0) :: (19, .ag [.i .u8 a1, .i .u8 a2, .i .u8 a3, .i .u8 a4, .i .i64 a5]) :: (18, .p b 1 0) :: (17, .m i) :: e, ?_, ?_⟩
  · simp only [evDraw, c50d0, evStages, evNs, evOpt, evOne, wantV_none, evOp, evIO, X.ev, h3, h5, get_put, faddr_p, ld_row, hb, agV_some, mlook_eq, hS, lookM_none hf, mentry_eq, entM_none hf, bin_add, Nat.zero_add, ↓reduceIte, Nat.reduceEqDiff, ext_tu, List.getElem?_cons_succ, List.getElem?_cons_zero, mstore_eq, hS2, stoM_new hcl, ents_new hcl, List.set_set, Int.zero_add, wrap_i64 (n := 1) (by omega) (by omega), keepE_nil, List.nil_append, chkStages, List.all_cons, List.all_nil, chkN, Nat.reduceAdd, Nat.le_refl, hB2, chkOpt, IOp.use, ROp.use, IO'.use, X.use, likeOn_cons, likeOn_nil, List.append_nil, dstL_none, dstL_some, look_app hn, eqv_m, eqv_p, eqv_i, eqv_ag, eqvL_cons, eqvL_nil, eqv_tu, Bool.and_true, putE, get_ite, Nat.reduceLeDiff, List.cons_append]
  · intro t ht
    simp only [get_ite]
    rw [if_neg (by omega), if_neg (by omega), if_neg (by omega), if_neg (by omega), if_neg (by omega), if_neg (by omega), if_neg (by omega)]
theorem d0_old {O : Orc} {e : Env} {S : Mem} {i b : Nat} {a1 a2 a3 a4 a5 : Int} {L : List Net5} {cl : Nat} (h3 : e.get 3 = .m i) (h5 : e.get 5 = .p b 0 0) (hb : rowB (S[b]?) 1 0 5 = some [.i .u8 a1, .i .u8 a2, .i .u8 a3, .i .u8 a4, .i .i64 a5])
    (hS : S[i]? = some (.map (ents 0 L) cl)) (hn : (a1, a2, a3, a4, a5) ∈ L) (hib : i ≠ b) :
    ∃ e' es, evDraw O c50d0 [] e S = some (e', S.set i (.map es cl)) ∧ (∀ t, t < 17 → e'.get t = e.get t) ∧ lookM (some (.map es cl)) (a1, a2, a3, a4, a5) (.i .i64 0) = some (.i .i64 2) := by
  obtain ⟨j, hj, hj2, hf⟩ := find_some 0 0 L _ hn
  rw [Nat.zero_add] at hf
  have hj3 : L[j] = (a1, a2, a3, a4, a5) := by rw [List.getElem?_eq_getElem hj] at hj2; injection hj2
  have hat := ents_at 0 L j hj
  rw [hj3, Nat.zero_add] at hat
  have hS2 : ∀ B : Blk, (S.set i B)[i]? = some B := fun B => at_set hS
  have hB2 : ∀ B : Blk, (S.set i B)[b]? = S[b]? := fun B => at_set_ne hib
  have hset : (ents 0 L).set j (.ag (netL (a1, a2, a3, a4, a5)), .i .i64 1, j) = ents 0 L := by
    obtain ⟨h1, h2⟩ := List.getElem?_eq_some_iff.1 hat
    rw [← h2, List.set_getElem_self]
  have hfin : findK true netK (netL (a1, a2, a3, a4, a5)) ((ents 0 L).set j (.ag (netL (a1, a2, a3, a4, a5)), .i .i64 2, j)) 0 = some (some j) := by
    have key : ∀ (b i j : Nat) (L : List Net5) (n : Net5) (v : AV) (c : Nat), findK true netK (netL n) (ents b L) i = some (some (i + j)) → L[j]? = some n → findK true netK (netL n) ((ents b L).set j (.ag (netL n), v, c)) i = some (some (i + j)) := by
      intro b i j L n v c
      induction L generalizing b i j with
      | nil => intro _ h; simp at h
      | cons m r ih =>
        intro h1 h2
        simp only [ents, findK, key_netL, eq_netL] at h1
        cases j with
        | zero =>
          simp only [ents, List.set_cons_zero, findK, key_netL, eq_netL, decide_true]
          rfl
        | succ j =>
          by_cases e : n = m
          · subst e; simp at h1
          · simp only [decide_eq_false e] at h1
            simp only [ents, List.set_cons_succ, findK, key_netL, eq_netL, decide_eq_false e]
            rw [show i + (j + 1) = i + 1 + j by omega] at h1 ⊢
            exact ih _ _ _ h1 (by simpa using h2)
    have := key 0 0 j L (a1, a2, a3, a4, a5) (.i .i64 2) j (by rw [Nat.zero_add]; exact hf) hj2
    rwa [Nat.zero_add] at this
  have hl1 := lookM_some (cl := cl) (z := .i .i64 0) hf hat
  have hst := stoM_old (n := (a1, a2, a3, a4, a5)) (cl := cl) (i := i) (z := .i .i64 1) (v := .i .i64 2) (S := S.set i (.map (ents 0 L) cl)) hj
  rw [hset] at hst
  refine ⟨(23, .i .i64 j) :: (22, .tu [.i .i64 1, .i .i64 j]) :: (21, .i .i64 2) :: (20, .i .i64 1) :: (19, .ag [.i .u8 a1, .i .u8 a2, .i .u8 a3, .i .u8 a4, .i .i64 a5]) :: (18, .p b 1 0) :: (17, .m i) :: e, (ents 0 L).set j (.ag (netL (a1, a2, a3, a4, a5)), .i .i64 2, j), ?_, ?_, ?_⟩
  · simp only [evDraw, c50d0, evStages, evNs, evOpt, evOne, wantV_none, evOp, evIO, X.ev, h3, h5, get_put, faddr_p, ld_row, hb, agV_some, mlook_eq, hS, hl1, mentry_eq, entM_some hf hat, hset, bin_add, Nat.zero_add, ↓reduceIte, Nat.reduceEqDiff, ext_tu, List.getElem?_cons_succ, List.getElem?_cons_zero, mstore_eq, hS2, hst, List.set_set, Int.reduceAdd, wrap_i64 (n := 2) (by omega) (by omega), keepE_nil, List.nil_append, chkStages, List.all_cons, List.all_nil, chkN, Nat.reduceAdd, Nat.le_refl, hB2, chkOpt, IOp.use, ROp.use, IO'.use, X.use, likeOn_cons, likeOn_nil, List.append_nil, dstL_none, dstL_some, eqv_m, eqv_p, eqv_i, eqv_ag, eqvL_cons, eqvL_nil, eqv_tu, Bool.and_true, putE, get_ite, Nat.reduceLeDiff, List.cons_append]
  · intro t ht
    simp only [get_ite]
    rw [if_neg (by omega), if_neg (by omega), if_neg (by omega), if_neg (by omega), if_neg (by omega), if_neg (by omega), if_neg (by omega)]
  · refine lookM_some hfin (k := .ag (netL (a1, a2, a3, a4, a5))) (b := j) ?_
    have hl : (ents 0 L).length = L.length := ents_length 0 L
    simp [hl, hj]

noncomputable def allPS : Spec := fun args S => match args with
  | [x] => match lstV polE S x with
    | some l => if l.all (fun p => decide p.fits) = true then some (.i .i64 (allE l), S) else none
    | none => none
  | _ => none
theorem oQ_ok : OK Tryz.prog (lamOf Tryz.prog) (orcOf [(20, polS)]) := orc_ok (by simpa using pol_ok)
theorem all_ok : SpecOK Tryz.prog 50 allPS := by
  intro args S x S' h
  simp only [allPS] at h
  split at h
  · rename_i s
    split at h
    · rename_i l hl
      split at h
      · rename_i hfit
        cases h
        have hfit : ∀ k (hk : k < l.length), l[k].fits := fun k hk => of_decide_eq_true (List.all_eq_true.1 hfit _ (List.getElem_mem hk))
        refine fn_of_wp f50 rfl (W_sound oQ_ok mixed _ _ _ _ _ ?_)
        simp (maxSteps := 1000000) (disch := omega) only [c50, lst_len hl, go_sem]
        refine ⟨fun h8 => ?_, fun h8 => ?_⟩
        · rw [show allE l = 111 by unfold allE; rw [if_neg fun q => by have := q.1; omega]]
          exact wkv_same
        · refine wp_loop (fun j e M dl => dl = [] ∧ ∃ (k : Nat) (T : Mem), j = l.length - k ∧ k ≤ l.length ∧ M = S ++ (.map (ents 0 (nets l k)) k :: T) ∧ okTo l k ∧ e.get 0 = s ∧ e.get 3 = .m S.length ∧ e.get 10 = s ∧ e.get 11 = .i .i64 l.length ∧ e.get 12 = .i .i64 k) (j := l.length) ?_ ?_
          · exact ⟨rfl, 0, [], rfl, Nat.zero_le _, rfl, okTo_zero l, rfl, rfl, rfl, rfl, rfl⟩
          rintro j e M d' ⟨rfl, k, T, rfl, hk, rfl, hok, h0, h3, h10, h11, h12⟩
          by_cases hkl : k < l.length
          · obtain ⟨bi, o, v, cap, ex, rfl⟩ := lst_sl hl hkl
            have hrow := lstV_row hl hkl
            have hrow : ∀ L, rowB ((S ++ L)[bi]?) (o + k * 13) v 13 = some l[k].enc := hrow
            have hkI : (k : Int) < l.length := by omega
            have hlk : (nets l k).length = k := by unfold nets; rw [List.length_map, List.length_take]; omega
            refine wp_seq (W_sound oQ_ok mixed _ _ _ _ _ ?_)
            simp (maxSteps := 1000000) (disch := omega) only [h11, h12, hkI, go_sem]
            refine wp_live (wp_seq (W_sound oQ_ok mixed _ _ _ _ _ ?_))
            simp (maxSteps := 1000000) (disch := omega) only [go_sem]
            refine wp_live (wp_seq (wp_block (wp_seq (W_sound oQ_ok mixed _ _ _ _ _ ?_))))
            simp (maxSteps := 1000000) (disch := omega) only [h0, h3, h10, h11, h12, hkI, Int.toNat_natCast, hrow, Pol.enc, go_sem]
            have hnet : rowB (((S ++ (.map (ents 0 (nets l k)) k :: (T ++ [.cells l[k].enc 0 none true])) : Mem))[S.length + (T.length + 1)]?) 1 0 5 = some [.i .u8 l[k].a, .i .u8 l[k].b, .i .u8 l[k].c, .i .u8 l[k].d, .i .i64 l[k].bits] := by rw [at_app, List.getElem?_cons_succ, at_app0]; rfl
            have hmap : (S ++ (.map (ents 0 (nets l k)) k :: (T ++ [.cells l[k].enc 0 none true])) : Mem)[S.length]? = some (.map (ents 0 (nets l k)) k) := by rw [at_app0]; rfl
            have hN : nets l (k + 1) = nets l k ++ [l[k].net] := by unfold nets; rw [List.take_succ_eq_append_getElem hkl, List.map_append]; rfl
            have bad : (¬ l[k].right ∨ l[k].net ∈ nets l k ∨ ∃ h0 : 0 < k, l[k].sub ≤ (l[k - 1]'(by omega)).sub) → allE l = 111 := fun hb => by
              unfold allE
              rw [if_neg fun q => ?_]
              have q2 := okTo_at q.2 hkl
              rcases hb with hb | hb | ⟨h0, hb⟩
              · exact hb q2.1
              · unfold nets at hb
                obtain ⟨p, hp, hpn⟩ := List.mem_map.1 hb
                obtain ⟨j, hj, rfl⟩ := List.getElem_of_mem hp
                rw [List.getElem_take] at hpn
                exact (q2.2 j (by rw [List.length_take] at hj; omega)).2 hpn
              · have := (q2.2 (k - 1) (by omega)).1; omega
            have fk : ∀ L, cellB ((S ++ L)[bi]?) (o + (k - 1) * 13 + 0) v = some (.i .i64 (l[k - 1]'(by omega)).sub) := lstV_field hl (show k - 1 < l.length by omega) (f := 0) (x := .i .i64 (l[k - 1]'(by omega)).sub) rfl
            simp only [Nat.add_zero] at fk
            have hk1 : 0 < k → wrapV .i64 ((k : Int) - 1) = ((k - 1 : Nat) : Int) := fun h => by rw [wrap_i64 (by omega) (by omega)]; omega
            have hia : 0 < k → iaddrV none 13 (.sl bi o v l.length cap ex) (.i .i64 ((k - 1 : Nat) : Int)) = some (.p bi (o + (k - 1) * 13) v) := fun h => iaddr_sl (by omega)
            have hu : u84 l[k].a l[k].b l[k].c l[k].d := hfit k hkl
            have hpos : (0 < (k : Int)) = (0 < k) := by simp
            by_cases hm : l[k].net ∈ nets l k
            · obtain ⟨e', es, hev, hge, hlo⟩ := d0_old (O := orcOf [(20, polS)]) (e := keepE [(4, AV.i .i64 k), (5, AV.p (List.length S + (T.length + 1)) 0 0), (16, AV.ag l[k].enc), (15, AV.p bi (o + k * 13) v), (14, AV.i .i64 k), (3, AV.m (List.length S)), (0, AV.sl bi o v l.length cap ex), (10, AV.sl bi o v l.length cap ex), (11, AV.i .i64 l.length), (12, AV.i .i64 k)] [3, 0, 10, 11, 12, 5, 4]) rfl rfl hnet hmap hm (by omega)
              refine wp_live (wp_seq (wp_draw oQ_ok mixed hev ?_))
              have g0 := hge 0 (by omega); have g3 := hge 3 (by omega); have g4 := hge 4 (by omega); have g5 := hge 5 (by omega); have g10 := hge 10 (by omega); have g11 := hge 11 (by omega); have g12 := hge 12 (by omega)
              simp (maxSteps := 1000000) (disch := omega) only [go_sem] at g0 g3 g4 g5 g10 g11 g12
              refine W_sound oQ_ok mixed _ _ _ _ _ ?_
              rw [bad (.inr (.inl hm))]
              simp (maxSteps := 1000000) (disch := omega) only [g0, g3, g4, g5, g10, g11, g12, Pol.enc, orc_cons, polS, hu, mlook_eq, hlo, go_sem]
              exact ⟨fun _ => wkv_drop rfl, fun _ => wkv_drop rfl⟩
            · obtain ⟨e', hev, hge⟩ := d0_new (O := orcOf [(20, polS)]) (e := keepE [(4, AV.i .i64 k), (5, AV.p (List.length S + (T.length + 1)) 0 0), (16, AV.ag l[k].enc), (15, AV.p bi (o + k * 13) v), (14, AV.i .i64 k), (3, AV.m (List.length S)), (0, AV.sl bi o v l.length cap ex), (10, AV.sl bi o v l.length cap ex), (11, AV.i .i64 l.length), (12, AV.i .i64 k)] [3, 0, 10, 11, 12, 5, 4]) rfl rfl hnet hmap hlk hm (by omega)
              refine wp_live (wp_seq (wp_draw oQ_ok mixed hev ?_))
              have g0 := hge 0 (by omega); have g3 := hge 3 (by omega); have g4 := hge 4 (by omega); have g5 := hge 5 (by omega); have g10 := hge 10 (by omega); have g11 := hge 11 (by omega); have g12 := hge 12 (by omega)
              simp (maxSteps := 1000000) (disch := omega) only [go_sem] at g0 g3 g4 g5 g10 g11 g12
              have hlo : lookM (some (.map (ents 0 (nets l k ++ [(l[k].a, l[k].b, l[k].c, l[k].d, l[k].bits)])) (k + 1))) (l[k].a, l[k].b, l[k].c, l[k].d, l[k].bits) (.i .i64 0) = some (.i .i64 1) := look_new (by simp)
              have hw : wrapV .i64 ((k : Int) + 1) = ((k + 1 : Nat) : Int) := by rw [wrap_i64 (by omega) (by omega)]; omega
              have fin : l[k].right → (∀ h0 : 0 < k, (l[k - 1]'(by omega)).sub < l[k].sub) → okTo l (k + 1) := fun hr hs => by
                refine okTo_succ hkl hok hr fun j hj => ⟨okTo_rise hkl hok hs j hj, fun hne => hm ?_⟩
                unfold nets
                exact List.mem_map.2 ⟨l[j]'(by omega), by rw [List.mem_take_iff_getElem]; exact ⟨j, by omega, rfl⟩, hne⟩
              refine W_sound oQ_ok mixed _ _ _ _ _ ?_
              by_cases h0k : 0 < k
              · simp (maxSteps := 1000000) (disch := omega) only [g0, g3, g4, g5, g10, g11, g12, Pol.enc, orc_cons, polS, hu, mlook_eq, hlo, h0k, hpos, hk1, hia, fk, go_sem]
                refine ⟨fun hr => ⟨fun hs => ?_, fun hs => W_sound oQ_ok mixed _ _ _ _ _ ?_⟩, fun hr => ?_⟩
                · rw [bad (.inr (.inr ⟨h0k, hs⟩))]; exact wkv_drop rfl
                · simp (maxSteps := 1000000) (disch := omega) only [hw, go_sem]
                  exact ⟨l.length - (k + 1), by omega, k + 1, _, rfl, by omega, (by rw [hN]; rfl), fin (Decidable.not_not.1 hr) (fun _ => by omega), rfl⟩
                · rw [bad (.inl (fun q => hr q))]; exact wkv_drop rfl
              · simp (maxSteps := 1000000) (disch := omega) only [g0, g3, g4, g5, g10, g11, g12, Pol.enc, orc_cons, polS, hu, mlook_eq, hlo, h0k, hpos, go_sem]
                refine ⟨fun hr => W_sound oQ_ok mixed _ _ _ _ _ ?_, fun hr => ?_⟩
                · simp (maxSteps := 1000000) (disch := omega) only [hw, go_sem]
                  exact ⟨l.length - (k + 1), by omega, k + 1, _, rfl, by omega, (by rw [hN]; rfl), fin (Decidable.not_not.1 hr) (fun h => absurd h h0k), rfl⟩
                · rw [bad (.inl (fun q => hr q))]; exact wkv_drop rfl
          · have hkI : ¬ (k : Int) < l.length := by omega
            refine W_sound oQ_ok mixed _ _ _ _ _ ?_
            simp (maxSteps := 1000000) (disch := omega) only [c50l2, h0, h3, h10, h11, h12, hkI, go_sem]
            rw [show allE l = 0 by unfold allE; rw [if_pos ⟨by omega, by rwa [show k = l.length by omega] at hok⟩]]
            exact wkv_drop rfl
      · cases h
    · cases h
  · cases h
end Go.Proofs.YtmdnohpolepcoaaGreat

namespace Go.Proofs.YtmdnohpolepcoaaGreat
open Go.RowKit
set_option linter.unusedSimpArgs false
set_option linter.unusedVariables false
set_option maxRecDepth 10000


structure Ent where
  pol : Pol
  granted : Int
  deriving DecidableEq
def Ent.enc (x : Ent) : List AV := [.i .i64 x.pol.sub, .i .u8 x.pol.a, .i .u8 x.pol.b, .i .u8 x.pol.c, .i .u8 x.pol.d, .i .i64 x.pol.bits, .i .u64 x.pol.rate, .i .u64 x.pol.burst, .i .u64 x.pol.srate, .i .u64 x.pol.sburst, .i .u64 x.pol.quota, .i .u64 x.pol.lease, .i .u64 x.pol.quantum, .i .u64 x.granted]
def entE : Enc Ent where
  enc := Ent.enc
  dec r := match r with
    | [.i .i64 sub, .i .u8 a, .i .u8 b, .i .u8 c, .i .u8 d, .i .i64 bits, .i .u64 rate, .i .u64 burst, .i .u64 srate, .i .u64 sburst, .i .u64 quota, .i .u64 lease, .i .u64 quantum, .i .u64 granted] => some ⟨⟨sub, a, b, c, d, bits, rate, burst, srate, sburst, quota, lease, quantum⟩, granted⟩
    | _ => none
  sz := 14
  pos := by decide
  len _ := rfl
  de _ := rfl
  ed r a h := by
    split at h
    · injection h with h; subst h; rfl
    · cases h
theorem entE_one (a : Ent) : (entE.enc a).all AV.one = true := rfl
theorem entE_flat : ∀ (n : Nat) (a : Ent), ∀ c ∈ entE.enc a, AV.Flat n c := by
  intro n a
  simp only [entE, Ent.enc, List.forall_mem_cons, List.not_mem_nil, false_imp_iff, implies_true, and_true, Flat_i, and_self]
theorem polE_one (a : Pol) : (polE.enc a).all AV.one = true := rfl
theorem polE_flat : ∀ (n : Nat) (a : Pol), ∀ c ∈ polE.enc a, AV.Flat n c := by
  intro n a
  simp only [polE, Pol.enc, List.forall_mem_cons, List.not_mem_nil, false_imp_iff, implies_true, and_true, Flat_i, and_self]
theorem ne_pol {a b : Pol} : eqAgV true [.int, .int, .int, .int, .int, .int, .int, .int, .int, .int, .int, .int, .int] (.ag (polE.enc a)) (.ag (polE.enc b)) = some (.b (decide (¬ a = b))) := by
  obtain ⟨a1, a2, a3, a4, a5, a6, a7, a8, a9, a10, a11, a12, a13⟩ := a
  obtain ⟨b1, b2, b3, b4, b5, b6, b7, b8, b9, b10, b11, b12, b13⟩ := b
  simp [eqAgV, eqCells, eqCell, polE, Pol.enc, Bool.beq_eq_decide_eq, and_assoc]

/-! ### The closures -/
def moreS : Spec := fun args S => match args with
  | [.ag cs] => match entE.dec cs with
    | some x => some (.b (decide (281474976710656 < x.granted)), S)
    | none => none
  | _ => none
theorem more_ok : SpecOK Tryz.prog 53 moreS := by
  intro args S x S' h
  simp only [moreS] at h
  split at h
  · split at h
    · rename_i cs x hx
      cases h
      obtain rfl := entE.ed _ _ hx
      refine fn_of_wp f53 rfl (W_sound none_ok mixed _ _ _ _ _ ?_)
      simp (maxSteps := 1000000) (disch := omega) only [c53, entE, Ent.enc, go_sem]
      exact wkv_drop rfl
    · cases h
  · cases h
def subIsS : Spec := fun args S => match args with
  | [.ag cs, .p i o v] => match entE.dec cs, cellB (S[i]?) o v with
    | some x, some (.i .i64 n) => some (.b (decide (x.pol.sub = n)), S)
    | _, _ => none
  | _ => none
theorem subIs_ok : SpecOK Tryz.prog 47 subIsS := by
  intro args S x S' h
  simp only [subIsS] at h
  split at h
  · rename_i cs i o v
    split at h
    · rename_i x n hx hn
      cases h
      obtain rfl := entE.ed _ _ hx
      have hi : i < S.length := by
        rcases Nat.lt_or_ge i S.length with h | h
        · exact h
        · rw [List.getElem?_eq_none h] at hn; simp [cellB] at hn
      have hc : ∀ L : Mem, cellB ((S ++ L)[i]?) o v = some (.i .i64 n) := fun L => by rw [List.getElem?_append_left hi]; exact hn
      refine fn_of_wp f47 rfl (W_sound none_ok mixed _ _ _ _ _ ?_)
      simp (maxSteps := 1000000) (disch := omega) only [c47, entE, Ent.enc, hc, go_sem]
      exact wkv_drop rfl
    · cases h
  · cases h
def predE (f : AV) (S : Mem) : Option (Ent → Bool) := match f with
  | .f (.func g) [] [] => if g = 53 then some (fun x => decide (281474976710656 < x.granted)) else none
  | .f (.func g) [] [.p i o v] => if g = 47 then match cellB (S[i]?) o v with
    | some (.i .i64 n) => some (fun x => decide (x.pol.sub = n))
    | _ => none else none
  | _ => none
def entO : Orc := orcOf [(53, moreS), (47, subIsS)]
theorem entO_ok : OK Tryz.prog (lamOf Tryz.prog) entO := orc_ok (by simpa using ⟨more_ok, subIs_ok⟩)
theorem predE_call {f : AV} {S : Mem} {p : Ent → Bool} (h : predE f S = some p) : ∃ g b, f = .f (.func g) [] b ∧ ∀ x, entO.fn g (.ag (entE.enc x) :: b) S = some (.b (p x), S) := by
  unfold predE at h
  split at h
  · split at h
    · rename_i hg; subst hg; injection h with h; subst h; exact ⟨_, [], rfl, fun x => rfl⟩
    · cases h
  · split at h
    · rename_i hg; subst hg
      split at h
      · rename_i n hc
        injection h with h; subst h
        refine ⟨_, _, rfl, fun x => ?_⟩
        have he : entO.fn 47 = subIsS := by funext a S; rfl
        rw [he]
        simp only [subIsS, entE.de, hc]
      · cases h
    · cases h
  · cases h
theorem predE_more {S : Mem} : predE (.f (.func 53) [] []) S = some (fun x => decide (281474976710656 < x.granted)) := rfl
theorem predE_sub {S : Mem} {i o v : Nat} {n : Int} (h : cellB (S[i]?) o v = some (.i .i64 n)) : predE (.f (.func 47) [] [.p i o v]) S = some (fun x => decide (x.pol.sub = n)) := by
  simp only [predE, if_true, h]

def idxES : Spec := fun args S => match args with
  | [x, f] => match lstV entE S x, predE f S with
    | some l, some p => if l.length ≤ 1000000 then some (.i .i64 (idx p l), S) else none
    | _, _ => none
  | _ => none
theorem idxE_ok : SpecOK Tryz.prog 46 idxES := by
  intro args S x S' h
  simp only [idxES] at h
  split at h
  · rename_i s f
    split at h
    · rename_i l p hl hp
      split at h
      · rename_i hlim
        cases h
        obtain ⟨g, b, rfl, hg⟩ := predE_call hp
        refine fn_of_wp f46 rfl (W_sound entO_ok mixed _ _ _ _ _ ?_)
        simp (maxSteps := 1000000) (disch := omega) only [c46, lst_len hl, go_sem]
        refine wp_loop (fun j e M dl => dl = [] ∧ ∃ k : Nat, j = l.length - k ∧ k ≤ l.length ∧ M = S ∧ (∀ i (hi : i < k) (hl : i < l.length), p l[i] = false) ∧
          e.get 0 = s ∧ e.get 1 = .f (.func g) [] b ∧ e.get 7 = .i .i64 l.length ∧ e.get 8 = .i .i64 k) (j := l.length) ⟨rfl, 0, rfl, Nat.zero_le _, rfl, fun i hi => absurd hi (Nat.not_lt_zero _), rfl, rfl, rfl, rfl⟩ ?_
        rintro j e M d' ⟨rfl, k, rfl, hk, rfl, hn, h0, h1, h7, h8⟩
        refine W_sound entO_ok mixed _ _ _ _ _ ?_
        by_cases hkl : k < l.length
        · obtain ⟨bi, o, v, cap, ex, rfl⟩ := lst_sl hl hkl
          have hc := lstV_row hl hkl []
          rw [List.append_nil] at hc
          have hc : rowB (M[bi]?) (o + k * 14) v 14 = some (entE.enc l[k]) := hc
          have hkI : (k : Int) < l.length := by omega
          simp (maxSteps := 1000000) (disch := omega) only [c46l0, h0, h1, h7, h8, hkI, Int.toNat_natCast, Nat.mul_one, hc, hg, go_sem]
          cases hpk : p l[k] with
          | true =>
            refine ⟨fun _ => ?_, fun h => by cases h⟩
            rw [idx_at hkl hpk fun j hj => hn j hj (by omega)]
            exact wkv_same
          | false =>
            refine ⟨(fun h => by cases h), fun _ => ⟨l.length - (k + 1), by omega, k + 1, rfl, hkl, fun i hi hil => ?_, rfl⟩⟩
            by_cases hik : i = k
            · subst hik; exact hpk
            · exact hn i (by omega) hil
        · have hkI : ¬ (k : Int) < l.length := by omega
          simp (maxSteps := 1000000) (disch := omega) only [c46l0, h0, h1, h7, h8, hkI, go_sem]
          rw [idx_none fun j hj => hn j (by omega) hj]
          exact wkv_same
      · cases h
    · cases h
  · cases h
theorem idxE_eq {S : Mem} {x f : AV} {l p} (hl : lstV entE S x = some l) (hp : predE f S = some p) (hn : l.length ≤ 1000000) : idxES [x, f] S = some (.i .i64 (idx p l), S) := by
  simp only [idxES, hl, hp, if_pos hn]

def hasES : Spec := fun args S => match args with
  | [x, f] => match lstV entE S x, predE f S with
    | some l, some p => if l.length ≤ 1000000 then some (.b (l.any p), S) else none
    | _, _ => none
  | _ => none
theorem oHasE_ok : OK Tryz.prog (lamOf Tryz.prog) (orcOf [(46, idxES)]) := orc_ok (by simpa using idxE_ok)
theorem hasE_ok : SpecOK Tryz.prog 52 hasES := by
  intro args S x S' h
  simp only [hasES] at h
  split at h
  · rename_i s f
    split at h
    · rename_i l p hl hp
      split at h
      · rename_i hlim
        cases h
        have hi := idxE_eq hl hp hlim
        refine fn_of_wp f52 rfl (W_sound oHasE_ok mixed _ _ _ _ _ ?_)
        simp (maxSteps := 1000000) (disch := omega) only [c52, orc_cons, hi, go_sem]
        refine wkv_eq wkv_same ?_ rfl
        congr 1
        have := idx_ge p l
        cases h : l.any p
        · rw [h] at this; simp [this]
        · rw [h] at this; simp [this]
      · cases h
    · cases h
  · cases h
theorem hasE_eq {S : Mem} {x f : AV} {l p} (hl : lstV entE S x = some l) (hp : predE f S = some p) (hn : l.length ≤ 1000000) : hasES [x, f] S = some (.b (l.any p), S) := by
  simp only [hasES, hl, hp, if_pos hn]

def eqlPS : Spec := fun args S => match args with
  | [x, y] => match lstV polE S x, lstV polE S y with
    | some l, some m => if l.length ≤ 1000000 then some (.b (decide (l = m)), S) else none
    | _, _ => none
  | _ => none
theorem eqlP_ok : SpecOK Tryz.prog 83 eqlPS := by
  intro args S x S' h
  simp only [eqlPS] at h
  split at h
  · rename_i s t
    split at h
    · rename_i l m hl hm
      split at h
      · rename_i hlim
        cases h
        refine fn_of_wp f83 rfl (W_sound none_ok mixed _ _ _ _ _ ?_)
        simp (maxSteps := 1000000) (disch := omega) only [c83, lst_len hl, lst_len hm, go_sem]
        refine ⟨fun hne => wkv_fP ext_refl fun q => hne (by rw [q]), fun he => ?_⟩
        have he : l.length = m.length := by omega
        refine wp_loop (fun j e M dl => dl = [] ∧ ∃ k : Nat, j = l.length - k ∧ k ≤ l.length ∧ M = S ∧ (∀ i (hi : i < k) (h1 : i < l.length) (h2 : i < m.length), l[i] = m[i]) ∧
          e.get 0 = s ∧ e.get 1 = t ∧ e.get 12 = .i .i64 l.length ∧ e.get 13 = .i .i64 k) (j := l.length) ⟨rfl, 0, rfl, Nat.zero_le _, rfl, fun i hi => absurd hi (Nat.not_lt_zero _), rfl, rfl, rfl, rfl⟩ ?_
        rintro j e M d' ⟨rfl, k, rfl, hk, rfl, hn, h0, h1, h12, h13⟩
        refine W_sound none_ok mixed _ _ _ _ _ ?_
        by_cases hkl : k < l.length
        · obtain ⟨bi, o, v, cap, ex, rfl⟩ := lst_sl hl hkl
          obtain ⟨bj, o2, v2, cap2, ex2, rfl⟩ := lst_sl hm (show k < m.length by omega)
          have hkI : (k : Int) < l.length := by omega
          have hkm : k < m.length := by omega
          have ha := lstV_row hl hkl []
          have hb := lstV_row hm (show k < m.length by omega) []
          rw [List.append_nil] at ha hb
          have ha : rowB (M[bi]?) (o + k * 13) v 13 = some (polE.enc l[k]) := ha
          have hb : rowB (M[bj]?) (o2 + k * 13) v2 13 = some (polE.enc (m[k]'(by omega))) := hb
          simp (maxSteps := 1000000) (disch := omega) only [c83l1, h0, h1, h12, h13, hkI, Int.toNat_natCast, ha, hb, ne_pol, go_sem]
          refine ⟨fun hd => wkv_fP ext_refl fun q => hd (by subst q; rfl), fun hd => ⟨l.length - (k + 1), by omega, k + 1, rfl, hkl, fun i hi h1 h2 => ?_, rfl⟩⟩
          by_cases hik : i = k
          · subst hik; exact Decidable.not_not.1 hd
          · exact hn i (by omega) h1 h2
        · have hkI : ¬ (k : Int) < l.length := by omega
          simp (maxSteps := 1000000) (disch := omega) only [c83l1, h0, h1, h12, h13, hkI, go_sem]
          exact wkv_tP ext_refl (List.ext_getElem he fun i h1 h2 => hn i (by omega) h1 h2)
      · cases h
    · cases h
  · cases h
theorem eqlP_eq {S : Mem} {x y : AV} {l m} (hl : lstV polE S x = some l) (hm : lstV polE S y = some m) (hn : l.length ≤ 1000000) : eqlPS [x, y] S = some (.b (decide (l = m)), S) := by
  simp only [eqlPS, hl, hm, if_pos hn]

def eqlIS : Spec := fun args S => match args with
  | [x, y] => match lstV (intE .i64) S x, lstV (intE .i64) S y with
    | some l, some m => if l.length ≤ 1000000 then some (.b (decide (l = m)), S) else none
    | _, _ => none
  | _ => none
theorem eqlI_ok : SpecOK Tryz.prog 84 eqlIS := by
  intro args S x S' h
  simp only [eqlIS] at h
  split at h
  · rename_i s t
    split at h
    · rename_i l m hl hm
      split at h
      · rename_i hlim
        cases h
        refine fn_of_wp f84 rfl (W_sound none_ok mixed _ _ _ _ _ ?_)
        simp (maxSteps := 1000000) (disch := omega) only [c84, lst_len hl, lst_len hm, go_sem]
        refine ⟨fun hne => wkv_fP ext_refl fun q => hne (by rw [q]), fun he => ?_⟩
        have he : l.length = m.length := by omega
        refine wp_loop (fun j e M dl => dl = [] ∧ ∃ k : Nat, j = l.length - k ∧ k ≤ l.length ∧ M = S ∧ (∀ i (hi : i < k) (h1 : i < l.length) (h2 : i < m.length), l[i] = m[i]) ∧
          e.get 0 = s ∧ e.get 1 = t ∧ e.get 12 = .i .i64 l.length ∧ e.get 13 = .i .i64 k) (j := l.length) ⟨rfl, 0, rfl, Nat.zero_le _, rfl, fun i hi => absurd hi (Nat.not_lt_zero _), rfl, rfl, rfl, rfl⟩ ?_
        rintro j e M d' ⟨rfl, k, rfl, hk, rfl, hn, h0, h1, h12, h13⟩
        refine W_sound none_ok mixed _ _ _ _ _ ?_
        by_cases hkl : k < l.length
        · obtain ⟨bi, o, v, cap, ex, rfl⟩ := lst_sl hl hkl
          obtain ⟨bj, o2, v2, cap2, ex2, rfl⟩ := lst_sl hm (show k < m.length by omega)
          have hkI : (k : Int) < l.length := by omega
          have hkm : k < m.length := by omega
          have ha := lstV_cell hl rfl (fun a => rfl) hkl []
          have hb := lstV_cell hm rfl (fun a => rfl) (show k < m.length by omega) []
          rw [List.append_nil] at ha hb
          simp (maxSteps := 1000000) (disch := omega) only [c84l1, h0, h1, h12, h13, hkI, Int.toNat_natCast, Nat.mul_one, ha, hb, go_sem]
          refine ⟨fun hd => wkv_fP ext_refl fun q => hd (by subst q; rfl), fun hd => ⟨l.length - (k + 1), by omega, k + 1, rfl, hkl, fun i hi h1 h2 => ?_, rfl⟩⟩
          by_cases hik : i = k
          · subst hik; exact Decidable.not_not.1 hd
          · exact hn i (by omega) h1 h2
        · have hkI : ¬ (k : Int) < l.length := by omega
          simp (maxSteps := 1000000) (disch := omega) only [c84l1, h0, h1, h12, h13, hkI, go_sem]
          exact wkv_tP ext_refl (List.ext_getElem he fun i h1 h2 => hn i (by omega) h1 h2)
      · cases h
    · cases h
  · cases h
theorem eqlI_eq {S : Mem} {x y : AV} {l m} (hl : lstV (intE .i64) S x = some l) (hm : lstV (intE .i64) S y = some m) (hn : l.length ≤ 1000000) : eqlIS [x, y] S = some (.b (decide (l = m)), S) := by
  simp only [eqlIS, hl, hm, if_pos hn]
end Go.Proofs.YtmdnohpolepcoaaGreat

namespace Go.Proofs.YtmdnohpolepcoaaGreat
open Go.RowKit
set_option linter.unusedSimpArgs false
set_option linter.unusedVariables false
set_option maxRecDepth 10000

/-! ### place -/
def hasSub (n : Int) : Ent → Bool := fun x => decide (x.pol.sub = n)
def placeS : Spec := fun args S => match args with
  | [x, .i .i64 n] => match lstV entE S x with
    | some l => if l.length ≤ 1000000 then some (.i .i64 (idx (hasSub n) l), S) else none
    | none => none
  | _ => none
theorem oPlace_ok : OK Tryz.prog (lamOf Tryz.prog) (orcOf [(46, idxES)]) := orc_ok (by simpa using idxE_ok)
theorem place_ok : SpecOK Tryz.prog 30 placeS := by
  intro args S x S' h
  simp only [placeS] at h
  split at h
  · rename_i s n
    split at h
    · rename_i l hl
      split at h
      · rename_i hlim
        cases h
        have hc : idxES [s, .f (.func 47) [] [.p S.length 0 0]] (S ++ [.cells [.i .i64 n] 0 none true]) = some (.i .i64 (idx (hasSub n) l), S ++ [.cells [.i .i64 n] 0 none true]) :=
          idxE_eq (lstV_grow hl _) (predE_sub (by rw [at_app0]; rfl)) hlim
        refine fn_of_wp f30 rfl (W_sound oPlace_ok mixed _ _ _ _ _ ?_)
        simp (maxSteps := 1000000) (disch := omega) only [c30, orc_cons, hc, go_sem]
        exact wkv_drop rfl
      · cases h
    · cases h
  · cases h
theorem place_eq {S : Mem} {x : AV} {l : List Ent} (hl : lstV entE S x = some l) (n : Int) (h : l.length ≤ 1000000) : placeS [x, .i .i64 n] S = some (.i .i64 (idx (hasSub n) l), S) := by
  simp only [placeS, hl, if_pos h]

/-! ### policies -/
def polsOf (l : List Ent) : List Pol := l.map Ent.pol
def policiesS : Spec := fun args S => match args with
  | [x] => match lstV entE S x with
    | some l => if l.length ≤ 1000000 then some (retX false S (polsOf l), retM false polE S (polsOf l)) else none
    | none => none
  | _ => none
theorem policies_ok : SpecOK Tryz.prog 51 policiesS := by
  intro args S x S' h
  simp only [policiesS] at h
  split at h
  · rename_i s
    split at h
    · rename_i l hl
      split at h
      · rename_i hlim
        cases h
        refine fn_of_wp f51 rfl (W_sound none_ok mixed _ _ _ _ _ ?_)
        simp (maxSteps := 1000000) (disch := omega) only [c51, lst_len hl, go_sem]
        refine wp_loop (fun j e M dl => dl = [] ∧ ∃ (k : Nat) (x : AV), j = l.length - k ∧ k ≤ l.length ∧ Acc false polE S M x (polsOf (l.take k)) ∧
          e.get 6 = s ∧ e.get 7 = .i .i64 l.length ∧ e.get 8 = .i .i64 k ∧ e.get 3 = x) (j := l.length) ⟨rfl, 0, .sn, rfl, Nat.zero_le _, acc_nil ext_refl, rfl, rfl, rfl, rfl⟩ ?_
        rintro j e M d' ⟨rfl, k, x, rfl, hk, hx, h6, h7, h8, h3⟩
        refine W_sound none_ok mixed _ _ _ _ _ ?_
        by_cases hkl : k < l.length
        · obtain ⟨bi, o, v, cap, ex, rfl⟩ := lst_sl hl hkl
          have hM := lst_ext hl hx.ext
          have hr : ∀ L, rowB ((M ++ L)[bi]?) (o + k * 14) v 14 = some (entE.enc l[k]) := lstV_row hM hkl
          have hr0 := hr []
          rw [List.append_nil] at hr0
          have hkI : (k : Int) < l.length := by omega
          have hw : wrapV .i64 ((k : Int) + 1) = ((k + 1 : Nat) : Int) := by rw [wrap_i64 (by omega) (by omega)]; omega
          have hlen : (polsOf (l.take k)).length = k := by unfold polsOf; rw [List.length_map, List.length_take]; omega
          obtain ⟨x', M', ha, hx'⟩ := Acc.app (bytes := 80) polE_one (hx.grow [.cells (entE.enc l[k]) 0 none true, .cells (polE.enc l[k].pol) 0 none true]) l[k].pol (by rw [hlen]; omega) (by rw [hlen]; omega)
          simp only [entE, polE, Ent.enc, Pol.enc] at hr0 ha
          simp (maxSteps := 1000000) (disch := omega) only [c51l0, h3, h6, h7, h8, hkI, Int.toNat_natCast, hr0, src_sl, srcN_some, ha, hw, List.replicate, go_sem]
          refine ⟨l.length - (k + 1), by omega, k + 1, x', rfl, hkl, ?_, rfl, rfl⟩
          rw [show polsOf (l.take (k + 1)) = polsOf (l.take k) ++ [l[k].pol] by unfold polsOf; rw [List.take_succ_eq_append_getElem hkl, List.map_append]; rfl]
          exact hx'
        · have hkI : ¬ (k : Int) < l.length := by omega
          simp (maxSteps := 1000000) (disch := omega) only [c51l0, h3, h6, h7, h8, hkI, go_sem]
          rw [List.take_of_length_le (by omega)] at hx
          exact hx.ret polE_flat
      · cases h
    · cases h
  · cases h
theorem policies_eq {S : Mem} {x : AV} {l : List Ent} (hl : lstV entE S x = some l) (h : l.length ≤ 1000000) : policiesS [x] S = some (retX false S (polsOf l), retM false polE S (polsOf l)) := by
  simp only [policiesS, hl, if_pos h]

/-! ### slices.Clone -/
def nz : AV → Bool
  | .sn => false
  | _ => true
def cloneES : Spec := fun args S => match args with
  | [x] => match lstV entE S x with
    | some l => if l.length ≤ 1000000 then some (retX (nz x) S l, retM (nz x) entE S l) else none
    | none => none
  | _ => none
theorem cloneE_ok : SpecOK Tryz.prog 35 cloneES := by
  intro args S x S' h
  simp only [cloneES] at h
  split at h
  · rename_i s
    split at h
    · rename_i l hl
      split at h
      · rename_i hlim
        cases h
        refine fn_of_wp f35 rfl (W_sound none_ok mixed _ _ _ _ _ ?_)
        rcases lstV_lst hl with ⟨rfl, rfl⟩ | ⟨rfl, rfl⟩ | ⟨i, o, v, len, cap, ex, rfl, rfl, hrow⟩
        · simp (maxSteps := 1000000) (disch := omega) only [c35, bin_sleql_nn, go_sem]
          exact wkv_same
        · simp (maxSteps := 1000000) (disch := omega) only [c35, bin_sleql_en, zerosV_zero, go_sem]
          exact (acc_lit ext_refl).ret entE_flat
        · have hrow2 : ∀ L, rowB ((S ++ L)[i]?) o v (l.length * 14) = some (l.flatMap entE.enc) := fun L => by
            rw [← rowAt_B]; exact rowAt_grow L hrow
          obtain ⟨x', M', ha, hx'⟩ := Acc.apps (bytes := 88) (z := true) (E := entE) (S := S) entE_one (acc_lit ext_refl) l (by simp only [List.length_nil]; omega) (by simp only [List.length_nil]; omega)
          rw [List.nil_append] at hx'
          have ha : appV (S ++ [.cells [] 0 none true]) 14 88 (.sl S.length 0 0 0 0 true) (l.flatMap entE.enc) l.length = some (x', M') := ha
          simp (maxSteps := 1000000) (disch := omega) only [c35, bin_sleql_sn, zerosV_zero, src_sl, srcN_some, hrow2, ha, go_sem]
          exact hx'.ret entE_flat
      · cases h
    · cases h
  · cases h
theorem cloneE_eq {S : Mem} {x : AV} {l : List Ent} (hl : lstV entE S x = some l) (h : l.length ≤ 1000000) : cloneES [x] S = some (retX (nz x) S l, retM (nz x) entE S l) := by
  simp only [cloneES, hl, if_pos h]

/-! ### book.Right -/
structure Bk where
  period : Int
  entries : List Ent
  deriving DecidableEq
def Bk.ok (b : Bk) : Prop := 1 ≤ b.period ∧ b.period ≤ 281474976710656 ∧ Pols (polsOf b.entries) ∧ ∀ x ∈ b.entries, x.granted ≤ 281474976710656
noncomputable instance (b : Bk) : Decidable b.ok := Classical.propDecidable _
def Bk.fits (b : Bk) : Prop := b.entries.length ≤ 1000000 ∧ ∀ x ∈ b.entries, x.pol.fits
instance (b : Bk) : Decidable b.fits := by unfold Bk.fits; infer_instance
def bookOf (S : Mem) (cs : List AV) : Option Bk := match cs with
  | [.i .u64 p, x] => match lstV entE S x with
    | some l => some ⟨p, l⟩
    | none => none
  | _ => none
theorem bookOf_ok {S : Mem} {cs : List AV} {b : Bk} (h : bookOf S cs = some b) : ∃ x, cs = [.i .u64 b.period, x] ∧ lstV entE S x = some b.entries := by
  unfold bookOf at h
  split at h
  · split at h
    · rename_i hl; cases h; exact ⟨_, rfl, hl⟩
    · cases h
  · cases h
theorem bookOf_mk {S : Mem} {x : AV} {p : Int} {l : List Ent} (h : lstV entE S x = some l) : bookOf S [.i .u64 p, x] = some ⟨p, l⟩ := by
  simp only [bookOf, h]
noncomputable def brightS : Spec := fun args S => match args with
  | [.ag cs] => match bookOf S cs with
    | some b => if b.fits then some (.b (decide b.ok), S) else none
    | none => none
  | _ => none
theorem allPS_eq {S : Mem} {x : AV} {l : List Pol} (hl : lstV polE S x = some l) (hf : ∀ p ∈ l, p.fits) : allPS [x] S = some (.i .i64 (allE l), S) := by
  have : l.all (fun p => decide p.fits) = true := List.all_eq_true.2 fun p hp => decide_eq_true (hf p hp)
  simp only [allPS, hl, if_pos this]
theorem allE_zero {l : List Pol} : (allE l = 0) = Pols l := by
  unfold allE; split
  · simpa
  · simpa
theorem oBr_ok : OK Tryz.prog (lamOf Tryz.prog) (orcOf [(51, policiesS), (50, allPS), (52, hasES)]) := orc_ok (by simpa using ⟨policies_ok, all_ok, hasE_ok⟩)
theorem bright_ok : SpecOK Tryz.prog 36 brightS := by
  intro args S x S' h
  simp only [brightS] at h
  split at h
  · rename_i cs
    split at h
    · rename_i b hb
      split at h
      · rename_i hf
        cases h
        obtain ⟨s, rfl, hl⟩ := bookOf_ok hb
        obtain ⟨p, l⟩ := b
        have hl1 : lstV entE (S ++ [.cells [.i .u64 p, s] 0 none true]) s = some l := lstV_grow hl _
        have hp := policies_eq hl1 hf.1
        have hq := allPS_eq (retX_lst (z := false) (E := polE) (S := S ++ [.cells [.i .u64 p, s] 0 none true]) (l := polsOf l)) (fun q hq => by
          obtain ⟨x, hx, rfl⟩ := List.mem_map.1 hq; exact hf.2 x hx)
        have hext : S <+: retM false polE (S ++ [.cells [.i .u64 p, s] 0 none true]) (polsOf l) := (ext_app _).trans retM_ext
        have hl2 : lstV entE (retM false polE (S ++ [.cells [.i .u64 p, s] 0 none true]) (polsOf l)) s = some l := lst_ext hl1 retM_ext
        have hh := hasE_eq hl2 (predE_more) hf.1
        have hcell : cellB ((retM false polE (S ++ [.cells [.i .u64 p, s] 0 none true]) (polsOf l))[S.length]?) 1 0 = some s := by
          obtain ⟨T, hT⟩ := (retM_ext (z := false) (E := polE) (S := S ++ [.cells [.i .u64 p, s] 0 none true]) (l := polsOf l))
          rw [← hT, List.append_assoc, at_app0]; rfl
        refine fn_of_wp f36 rfl (W_sound oBr_ok mixed _ _ _ _ _ ?_)
        simp (maxSteps := 1000000) (disch := omega) only [c36, lst_len hl, orc_cons, hp, hq, hh, hcell, un_not_b, go_sem]
        have hlp : (polsOf l).length = l.length := by unfold polsOf; simp
        refine ⟨fun h1 => ⟨fun h2 => ⟨fun h3 => ⟨fun h4 => ?_, fun h4 => ?_⟩, fun h3 => ?_⟩, fun h2 => ?_⟩, fun h1 => ?_⟩
        · exact wkv_fP hext fun q => h4 (by rw [allE_zero]; exact q.2.2.1)
        · rw [Decidable.not_not, allE_zero] at h4
          refine wkv_eqP hext ?_ rfl
          congr 1
          rw [Bool.eq_iff_iff, decide_eq_true_iff, Bool.not_eq_true', List.any_eq_false]
          refine ⟨fun q x hx => ?_, fun q => ⟨(by show (1 : Int) ≤ p; omega), (by show p ≤ _; omega), h4, fun x hx => ?_⟩⟩
          · have := q.2.2.2 x hx; simp only [decide_eq_true_eq]; omega
          · have := q x hx; simp only [decide_eq_true_eq] at this; omega
        · refine wkv_f fun q => ?_
          have := q.2.2.1.1; simp only at this; omega
        · exact wkv_f fun q => by have := q.2.1; simp only at this; omega
        · exact wkv_f fun q => by have := q.1; simp only at this; omega
      · cases h
    · cases h
  · cases h
noncomputable def Bk.fin (o : Option Bk) : Option Bk := match o with
  | some b => if b.ok then some b else none
  | none => none
def bookR (z : Bool) (S : Mem) (b : Bk) (err : Int) : AV × Mem := (.tu [.ag [.i .u64 b.period, retX z S b.entries], .i .i64 err], retM z entE S b.entries)
theorem bright_eq {S : Mem} {cs : List AV} {b : Bk} (h : bookOf S cs = some b) (hf : b.fits) : brightS [.ag cs] S = some (.b (decide b.ok), S) := by
  simp only [brightS, h, if_pos hf]
theorem idx_eq_some {α : Type} {p : α → Bool} {l : List α} {k : Nat} (h : l.findIdx? p = some k) : idx p l = k := by unfold idx; rw [h]
theorem idx_eq_none {α : Type} {p : α → Bool} {l : List α} (h : l.findIdx? p = none) : idx p l = -1 := by unfold idx; rw [h]
end Go.Proofs.YtmdnohpolepcoaaGreat

namespace Go.Proofs.YtmdnohpolepcoaaGreat
open Go.RowKit
set_option linter.unusedSimpArgs false
set_option linter.unusedVariables false
set_option maxRecDepth 10000

def fndIS : Spec := fun args S => match args with
  | [x, .i .i64 n] => match lstV (intE .i64) S x with
    | some l => if l.length ≤ 1000000 then some (.i .i64 (idx (fun y => decide (n = y)) l), S) else none
    | _ => none
  | _ => none
theorem fndI_ok : SpecOK Tryz.prog 95 fndIS := by
  intro args S x S' h
  simp only [fndIS] at h
  split at h
  · rename_i s n
    split at h
    · rename_i l hl
      split at h
      · rename_i hlim
        cases h
        refine fn_of_wp f95 rfl (W_sound none_ok mixed _ _ _ _ _ ?_)
        simp (maxSteps := 1000000) (disch := omega) only [c95, lst_len hl, go_sem]
        refine wp_loop (fun j e M dl => dl = [] ∧ ∃ k : Nat, j = l.length - k ∧ k ≤ l.length ∧ M = S ∧ (∀ i (hi : i < k) (hl : i < l.length), decide (n = l[i]) = false) ∧
          e.get 0 = s ∧ e.get 1 = .i .i64 n ∧ e.get 7 = .i .i64 l.length ∧ e.get 8 = .i .i64 k) (j := l.length) ⟨rfl, 0, rfl, Nat.zero_le _, rfl, fun i hi => absurd hi (Nat.not_lt_zero _), rfl, rfl, rfl, rfl⟩ ?_
        rintro j e M d' ⟨rfl, k, rfl, hk, rfl, hn, h0, h1, h7, h8⟩
        refine W_sound none_ok mixed _ _ _ _ _ ?_
        by_cases hkl : k < l.length
        · obtain ⟨bi, o, v, cap, ex, rfl⟩ := lst_sl hl hkl
          have hc := lstV_cell hl rfl (fun a => rfl) hkl []
          rw [List.append_nil] at hc
          have hkI : (k : Int) < l.length := by omega
          simp (maxSteps := 1000000) (disch := omega) only [c95l0, h0, h1, h7, h8, hkI, Int.toNat_natCast, Nat.mul_one, hc, go_sem]
          refine ⟨fun hp => ?_, fun hp => ⟨l.length - (k + 1), by omega, k + 1, rfl, hkl, fun i hi hil => ?_, rfl⟩⟩
          · rw [idx_at hkl (decide_eq_true hp) fun j hj => hn j hj (by omega)]
            exact wkv_same
          · by_cases hik : i = k
            · subst hik; exact decide_eq_false hp
            · exact hn i (by omega) hil
        · have hkI : ¬ (k : Int) < l.length := by omega
          simp (maxSteps := 1000000) (disch := omega) only [c95l0, h0, h1, h7, h8, hkI, go_sem]
          rw [idx_none fun j hj => hn j (by omega) hj]
          exact wkv_same
      · cases h
    · cases h
  · cases h
theorem fndI_eq {S : Mem} {x : AV} {l} (hl : lstV (intE .i64) S x = some l) (n : Int) (hn : l.length ≤ 1000000) : fndIS [x, .i .i64 n] S = some (.i .i64 (idx (fun y => decide (n = y)) l), S) := by
  simp only [fndIS, hl, if_pos hn]
def inIS : Spec := fun args S => match args with
  | [x, .i .i64 n] => match lstV (intE .i64) S x with
    | some l => if l.length ≤ 1000000 then some (.b (decide (n ∈ l)), S) else none
    | _ => none
  | _ => none
theorem oInI_ok : OK Tryz.prog (lamOf Tryz.prog) (orcOf [(95, fndIS)]) := orc_ok (by simpa using fndI_ok)
theorem inI_ok : SpecOK Tryz.prog 82 inIS := by
  intro args S x S' h
  simp only [inIS] at h
  split at h
  · rename_i s n
    split at h
    · rename_i l hl
      split at h
      · rename_i hlim
        cases h
        have hi := fndI_eq hl n hlim
        refine fn_of_wp f82 rfl (W_sound oInI_ok mixed _ _ _ _ _ ?_)
        simp (maxSteps := 1000000) (disch := omega) only [c82, orc_cons, hi, go_sem]
        refine wkv_bP ext_refl ?_
        rw [idx_ge, List.any_eq_true]
        exact ⟨fun hm => ⟨n, hm, by simp⟩, fun ⟨y, hy, hp⟩ => by rw [decide_eq_true_eq] at hp; rw [hp]; exact hy⟩
      · cases h
    · cases h
  · cases h
theorem inI_eq {S : Mem} {x : AV} {l} (hl : lstV (intE .i64) S x = some l) (n : Int) (hn : l.length ≤ 1000000) : inIS [x, .i .i64 n] S = some (.b (decide (n ∈ l)), S) := by
  simp only [inIS, hl, if_pos hn]

structure Evt where
  kind : Int
  sub : Int
  puts : List Pol
  drops : List Int
  granted : Int
  period : Int
  deriving DecidableEq
def evtOf (S : Mem) (cs : List AV) : Option Evt := match cs with
  | [.i .i64 k, .i .i64 s, xp, xd, .i .u64 g, .i .u64 p] => match lstV polE S xp, lstV (intE .i64) S xd with
    | some ps, some ds => some ⟨k, s, ps, ds, g, p⟩
    | _, _ => none
  | _ => none
theorem evtOf_ok {S : Mem} {cs : List AV} {e : Evt} (h : evtOf S cs = some e) : ∃ xp xd, cs = [.i .i64 e.kind, .i .i64 e.sub, xp, xd, .i .u64 e.granted, .i .u64 e.period] ∧ lstV polE S xp = some e.puts ∧ lstV (intE .i64) S xd = some e.drops := by
  unfold evtOf at h
  split at h
  · split at h
    · rename_i h1 h2; cases h; exact ⟨_, _, rfl, h1, h2⟩
    · cases h
  · cases h
theorem evtOf_mk {S : Mem} {xp xd : AV} {k s g p : Int} {ps : List Pol} {ds : List Int} (h1 : lstV polE S xp = some ps) (h2 : lstV (intE .i64) S xd = some ds) : evtOf S [.i .i64 k, .i .i64 s, xp, xd, .i .u64 g, .i .u64 p] = some ⟨k, s, ps, ds, g, p⟩ := by
  simp only [evtOf, h1, h2]
def Evt.fits (e : Evt) : Prop := e.puts.length ≤ 1000000 ∧ e.drops.length ≤ 1000000 ∧ ∀ p ∈ e.puts, p.fits
instance (e : Evt) : Decidable e.fits := by unfold Evt.fits; infer_instance

/-! ### Same -/
def esameS : Spec := fun args S => match args with
  | [.ag c1, .ag c2] => match evtOf S c1, evtOf S c2 with
    | some a, some b => if a.fits then some (.b (decide (a = b)), S) else none
    | _, _ => none
  | _ => none
theorem oSame_ok : OK Tryz.prog (lamOf Tryz.prog) (orcOf [(83, eqlPS), (84, eqlIS)]) := orc_ok (by simpa using ⟨eqlP_ok, eqlI_ok⟩)
theorem esame_ok : SpecOK Tryz.prog 55 esameS := by
  intro args S x S' h
  simp only [esameS] at h
  split at h
  · rename_i c1 c2
    split at h
    · rename_i a b ha hb
      split at h
      · rename_i hf
        cases h
        obtain ⟨p1, d1, rfl, hp1, hd1⟩ := evtOf_ok ha
        obtain ⟨p2, d2, rfl, hp2, hd2⟩ := evtOf_ok hb
        have e1 := fun L => eqlP_eq (lstV_grow hp1 L) (lstV_grow hp2 L) hf.1
        have e2 := fun L => eqlI_eq (lstV_grow hd1 L) (lstV_grow hd2 L) hf.2.1
        refine fn_of_wp f55 rfl (W_sound oSame_ok mixed _ _ _ _ _ ?_)
        simp (maxSteps := 1000000) (disch := omega) only [c55, orc_cons, e1, e2, go_sem]
        obtain ⟨k1, s1, ps1, ds1, g1, q1⟩ := a
        obtain ⟨k2, s2, ps2, ds2, g2, q2⟩ := b
        simp only [Evt.mk.injEq]
        refine ⟨fun h1 => ⟨fun h2 => ⟨fun h3 => ⟨fun h4 => ⟨fun h5 => wkv_b ?_, fun h5 => wkv_f ?_⟩, fun h4 => wkv_f ?_⟩, fun h3 => wkv_f ?_⟩, fun h2 => wkv_f ?_⟩, fun h1 => wkv_f ?_⟩
        · exact ⟨fun q => q.2.2.2.1, fun q => ⟨h1, h2, h5, q, h3, h4⟩⟩
        · exact fun q => h5 q.2.2.1
        · exact fun q => h4 q.2.2.2.2.2
        · exact fun q => h3 q.2.2.2.2.1
        · exact fun q => h2 q.2.1
        · exact fun q => h1 q.1
      · cases h
    · cases h
  · cases h
theorem esame_eq {S : Mem} {c1 c2 : List AV} {a b : Evt} (ha : evtOf S c1 = some a) (hb : evtOf S c2 = some b) (hf : a.fits) : esameS [.ag c1, .ag c2] S = some (.b (decide (a = b)), S) := by
  simp only [esameS, ha, hb, if_pos hf]

/-! ### sub, value -/
def subOk (n : Int) : Prop := 1 ≤ n ∧ n ≤ 255
instance (n : Int) : Decidable (subOk n) := by unfold subOk; infer_instance
def valOk (n : Int) : Prop := 1 ≤ n ∧ n ≤ 281474976710656
instance (n : Int) : Decidable (valOk n) := by unfold valOk; infer_instance
def subS : Spec := fun args S => match args with
  | [.i .i64 n] => some (.b (decide (subOk n)), S)
  | _ => none
def valueS : Spec := fun args S => match args with
  | [.i .u64 n] => some (.b (decide (valOk n)), S)
  | _ => none
theorem sub_ok : SpecOK Tryz.prog 56 subS := by
  intro args S x S' h
  simp only [subS] at h
  split at h
  · cases h
    refine fn_of_wp f56 rfl (W_sound none_ok mixed _ _ _ _ _ ?_)
    simp (maxSteps := 1000000) (disch := omega) only [c56, go_sem]
    exact ⟨fun h1 => wkv_bP ext_refl ⟨fun q => q.2, fun q => ⟨h1, q⟩⟩, fun h1 => wkv_fP ext_refl fun q => h1 q.1⟩
  · cases h
theorem value_ok : SpecOK Tryz.prog 57 valueS := by
  intro args S x S' h
  simp only [valueS] at h
  split at h
  · cases h
    refine fn_of_wp f57 rfl (W_sound none_ok mixed _ _ _ _ _ ?_)
    simp (maxSteps := 1000000) (disch := omega) only [c57, go_sem]
    exact ⟨fun h1 => wkv_bP ext_refl ⟨fun q => q.2, fun q => ⟨h1, q⟩⟩, fun h1 => wkv_fP ext_refl fun q => h1 q.1⟩
  · cases h

/-! ### drops -/
def inDropsS : Spec := fun args S => match args with
  | [.ag cs, .p i o v] => match polE.dec cs, cellB (S[i]?) o v with
    | some p, some x => match lstV (intE .i64) S x with
      | some l => if l.length ≤ 1000000 then some (.b (decide (p.sub ∈ l)), S) else none
      | none => none
    | _, _ => none
  | _ => none
theorem cell_lt {S : Mem} {i o v : Nat} {x : AV} (h : cellB (S[i]?) o v = some x) : ∀ L : Mem, cellB ((S ++ L)[i]?) o v = some x := fun L => by
  have hi : i < S.length := by
    rcases Nat.lt_or_ge i S.length with h' | h'
    · exact h'
    · rw [List.getElem?_eq_none h'] at h; simp [cellB] at h
  rw [List.getElem?_append_left hi]; exact h
theorem oInD_ok : OK Tryz.prog (lamOf Tryz.prog) (orcOf [(82, inIS)]) := orc_ok (by simpa using inI_ok)
theorem inDrops_ok : SpecOK Tryz.prog 81 inDropsS := by
  intro args S x S' h
  simp only [inDropsS] at h
  split at h
  · rename_i cs i o v
    split at h
    · rename_i p s hp hs
      split at h
      · rename_i l hl
        split at h
        · rename_i hlim
          cases h
          obtain rfl := polE.ed _ _ hp
          have hc := cell_lt hs
          have hi := fun L => inI_eq (lstV_grow hl L) p.sub hlim
          refine fn_of_wp f81 rfl (W_sound oInD_ok mixed _ _ _ _ _ ?_)
          simp (maxSteps := 1000000) (disch := omega) only [c81, polE, Pol.enc, hc, orc_cons, hi, go_sem]
          exact wkv_drop rfl
        · cases h
      · cases h
    · cases h
  · cases h
def predP (f : AV) (S : Mem) : Option (Pol → Bool) := match f with
  | .f (.func g) [] [.p i o v] => if g = 81 then match cellB (S[i]?) o v with
    | some x => match lstV (intE .i64) S x with
      | some l => if l.length ≤ 1000000 then some (fun p => decide (p.sub ∈ l)) else none
      | none => none
    | none => none else none
  | _ => none
def polO : Orc := orcOf [(81, inDropsS)]
theorem polO_ok : OK Tryz.prog (lamOf Tryz.prog) polO := orc_ok (by simpa using inDrops_ok)
theorem predP_call {f : AV} {S : Mem} {p : Pol → Bool} (h : predP f S = some p) : ∃ g b, f = .f (.func g) [] b ∧ ∀ x, polO.fn g (.ag (polE.enc x) :: b) S = some (.b (p x), S) := by
  unfold predP at h
  split at h
  · split at h
    · rename_i hg; subst hg
      split at h
      · rename_i s hs
        split at h
        · rename_i l hl
          split at h
          · rename_i hlim
            injection h with h; subst h
            refine ⟨_, _, rfl, fun x => ?_⟩
            have he : polO.fn 81 = inDropsS := by funext a S; rfl
            rw [he]
            simp only [inDropsS, polE.de, hs, hl, if_pos hlim]
          · cases h
        · cases h
      · cases h
    · cases h
  · cases h
theorem predP_drops {S : Mem} {i o v : Nat} {x : AV} {l : List Int} (h : cellB (S[i]?) o v = some x) (hl : lstV (intE .i64) S x = some l) (hn : l.length ≤ 1000000) : predP (.f (.func 81) [] [.p i o v]) S = some (fun p => decide (p.sub ∈ l)) := by
  simp only [predP, if_true, h, hl, if_pos hn]

def idxPS : Spec := fun args S => match args with
  | [x, f] => match lstV polE S x, predP f S with
    | some l, some p => if l.length ≤ 1000000 then some (.i .i64 (idx p l), S) else none
    | _, _ => none
  | _ => none
theorem idxP_ok : SpecOK Tryz.prog 94 idxPS := by
  intro args S x S' h
  simp only [idxPS] at h
  split at h
  · rename_i s f
    split at h
    · rename_i l p hl hp
      split at h
      · rename_i hlim
        cases h
        obtain ⟨g, b, rfl, hg⟩ := predP_call hp
        refine fn_of_wp f94 rfl (W_sound polO_ok mixed _ _ _ _ _ ?_)
        simp (maxSteps := 1000000) (disch := omega) only [c94, lst_len hl, go_sem]
        refine wp_loop (fun j e M dl => dl = [] ∧ ∃ k : Nat, j = l.length - k ∧ k ≤ l.length ∧ M = S ∧ (∀ i (hi : i < k) (hl : i < l.length), p l[i] = false) ∧
          e.get 0 = s ∧ e.get 1 = .f (.func g) [] b ∧ e.get 7 = .i .i64 l.length ∧ e.get 8 = .i .i64 k) (j := l.length) ⟨rfl, 0, rfl, Nat.zero_le _, rfl, fun i hi => absurd hi (Nat.not_lt_zero _), rfl, rfl, rfl, rfl⟩ ?_
        rintro j e M d' ⟨rfl, k, rfl, hk, rfl, hn, h0, h1, h7, h8⟩
        refine W_sound polO_ok mixed _ _ _ _ _ ?_
        by_cases hkl : k < l.length
        · obtain ⟨bi, o, v, cap, ex, rfl⟩ := lst_sl hl hkl
          have hc := lstV_row hl hkl []
          rw [List.append_nil] at hc
          have hc : rowB (M[bi]?) (o + k * 13) v 13 = some (polE.enc l[k]) := hc
          have hkI : (k : Int) < l.length := by omega
          simp (maxSteps := 1000000) (disch := omega) only [c94l0, h0, h1, h7, h8, hkI, Int.toNat_natCast, Nat.mul_one, hc, hg, go_sem]
          cases hpk : p l[k] with
          | true =>
            refine ⟨fun _ => ?_, fun h => by cases h⟩
            rw [idx_at hkl hpk fun j hj => hn j hj (by omega)]
            exact wkv_same
          | false =>
            refine ⟨(fun h => by cases h), fun _ => ⟨l.length - (k + 1), by omega, k + 1, rfl, hkl, fun i hi hil => ?_, rfl⟩⟩
            by_cases hik : i = k
            · subst hik; exact hpk
            · exact hn i (by omega) hil
        · have hkI : ¬ (k : Int) < l.length := by omega
          simp (maxSteps := 1000000) (disch := omega) only [c94l0, h0, h1, h7, h8, hkI, go_sem]
          rw [idx_none fun j hj => hn j (by omega) hj]
          exact wkv_same
      · cases h
    · cases h
  · cases h
theorem idxP_eq {S : Mem} {x f : AV} {l p} (hl : lstV polE S x = some l) (hp : predP f S = some p) (hn : l.length ≤ 1000000) : idxPS [x, f] S = some (.i .i64 (idx p l), S) := by
  simp only [idxPS, hl, hp, if_pos hn]

def hasPS : Spec := fun args S => match args with
  | [x, f] => match lstV polE S x, predP f S with
    | some l, some p => if l.length ≤ 1000000 then some (.b (l.any p), S) else none
    | _, _ => none
  | _ => none
theorem oHasP_ok : OK Tryz.prog (lamOf Tryz.prog) (orcOf [(94, idxPS)]) := orc_ok (by simpa using idxP_ok)
theorem hasP_ok : SpecOK Tryz.prog 80 hasPS := by
  intro args S x S' h
  simp only [hasPS] at h
  split at h
  · rename_i s f
    split at h
    · rename_i l p hl hp
      split at h
      · rename_i hlim
        cases h
        have hi := idxP_eq hl hp hlim
        refine fn_of_wp f80 rfl (W_sound oHasP_ok mixed _ _ _ _ _ ?_)
        simp (maxSteps := 1000000) (disch := omega) only [c80, orc_cons, hi, go_sem]
        refine wkv_eq wkv_same ?_ rfl
        congr 1
        have := idx_ge p l
        cases h : l.any p
        · rw [h] at this; simp [this]
        · rw [h] at this; simp [this]
      · cases h
    · cases h
  · cases h
theorem hasP_eq {S : Mem} {x f : AV} {l p} (hl : lstV polE S x = some l) (hp : predP f S = some p) (hn : l.length ≤ 1000000) : hasPS [x, f] S = some (.b (l.any p), S) := by
  simp only [hasPS, hl, hp, if_pos hn]

/-- They rise, from 1 to 255. -/
def riseTo (l : List Int) (k : Nat) : Prop := ∀ i (h : i < l.length), i < k → subOk l[i] ∧ ∀ h0 : 0 < i, l[i - 1] < l[i]
def dropsOk (l : List Int) (ps : List Pol) : Prop := l.length ≤ 8 ∧ riseTo l l.length ∧ ∀ p ∈ ps, p.sub ∉ l
noncomputable instance (l : List Int) (ps : List Pol) : Decidable (dropsOk l ps) := Classical.propDecidable _
noncomputable def dropsS : Spec := fun args S => match args with
  | [x, y] => match lstV (intE .i64) S x, lstV polE S y with
    | some l, some ps => if l.length ≤ 1000000 ∧ ps.length ≤ 1000000 then some (.b (decide (dropsOk l ps)), S) else none
    | _, _ => none
  | _ => none
theorem oDr_ok : OK Tryz.prog (lamOf Tryz.prog) (orcOf [(56, subS), (80, hasPS)]) := orc_ok (by simpa using ⟨sub_ok, hasP_ok⟩)
theorem drops_ok : SpecOK Tryz.prog 54 dropsS := by
  intro args S x S' h
  simp only [dropsS] at h
  split at h
  · rename_i s t
    split at h
    · rename_i l ps hl hps
      split at h
      · rename_i hlim
        cases h
        refine fn_of_wp f54 rfl (W_sound oDr_ok mixed _ _ _ _ _ ?_)
        simp (maxSteps := 1000000) (disch := omega) only [c54, lst_len hl, lst_len hps, lst_cells hl, go_sem]
        refine ⟨fun h8 => wkv_f fun q => by have := q.1; omega, fun h8 => ?_⟩
        refine wp_loop (fun j e M dl => dl = [] ∧ ∃ k : Nat, j = l.length - k ∧ k ≤ l.length ∧ M = S ++ [.cells [s] 0 none true] ∧ riseTo l k ∧
          e.get 2 = .p S.length 0 0 ∧ e.get 10 = s ∧ e.get 1 = t ∧ e.get 11 = .i .i64 l.length ∧ e.get 12 = .i .i64 k) (j := l.length) ⟨rfl, 0, rfl, Nat.zero_le _, rfl, fun i _ hi => absurd hi (Nat.not_lt_zero _), rfl, rfl, rfl, rfl, rfl⟩ ?_
        rintro j e M d' ⟨rfl, k, rfl, hk, rfl, hn, h2, h10, h1, h11, h12⟩
        refine W_sound oDr_ok mixed _ _ _ _ _ ?_
        by_cases hkl : k < l.length
        · obtain ⟨bi, o, v, cap, ex, rfl⟩ := lst_sl hl hkl
          have hc := lstV_cell hl rfl (fun a => rfl) hkl
          have hkI : (k : Int) < l.length := by omega
          have hpos : (0 < (k : Int)) = (0 < k) := by simp
          have hw : wrapV .i64 ((k : Int) + 1) = ((k + 1 : Nat) : Int) := by rw [wrap_i64 (by omega) (by omega)]; omega
          have more : subOk l[k] → (∀ h0 : 0 < k, (l[k - 1]'(by omega)) < l[k]) → riseTo l (k + 1) := fun a b i hi hik => by
            by_cases e : i = k
            · subst e; exact ⟨a, b⟩
            · exact hn i hi (by omega)
          by_cases h0k : 0 < k
          · have hp : ∀ L, cellB ((S ++ L)[bi]?) (o + (k - 1)) v = some (.i .i64 (l[k - 1]'(by omega))) := lstV_cell hl rfl (fun a => rfl) (show k - 1 < l.length by omega)
            have hk1 : wrapV .i64 ((k : Int) - 1) = ((k - 1 : Nat) : Int) := by rw [wrap_i64 (by omega) (by omega)]; omega
            simp (maxSteps := 1000000) (disch := omega) only [c54l0, h1, h2, h10, h11, h12, hkI, Int.toNat_natCast, Nat.mul_one, hc, hp, orc_cons, subS, hpos, h0k, hk1, hw, go_sem]
            refine ⟨fun hs => ⟨fun hb => wkv_f fun q => ?_, fun hb => ⟨l.length - (k + 1), by omega, k + 1, rfl, hkl, more (Decidable.not_not.1 hs) fun _ => by omega, rfl⟩⟩, fun hs => wkv_f fun q => hs (q.2.1 k hkl hkl).1⟩
            have := (q.2.1 k hkl hkl).2 h0k
            omega
          · simp (maxSteps := 1000000) (disch := omega) only [c54l0, h1, h2, h10, h11, h12, hkI, Int.toNat_natCast, Nat.mul_one, hc, orc_cons, subS, hpos, h0k, hw, go_sem]
            exact ⟨fun hs => ⟨l.length - (k + 1), by omega, k + 1, rfl, hkl, more (Decidable.not_not.1 hs) fun h => absurd h h0k, rfl⟩, fun hs => wkv_f fun q => hs (q.2.1 k hkl hkl).1⟩
        · have hkI : ¬ (k : Int) < l.length := by omega
          have hh := hasP_eq (lstV_grow hps [.cells [s] 0 none true]) (predP_drops (i := S.length) (o := 0) (v := 0) (by rw [at_app0]; rfl) (lstV_grow hl _) hlim.1) hlim.2
          simp (maxSteps := 1000000) (disch := omega) only [c54l0, h1, h2, h10, h11, h12, hkI, orc_cons, hh, un_not_b, go_sem]
          refine wkv_eqP (ext_app _) ?_ rfl
          congr 1
          rw [Bool.eq_iff_iff, decide_eq_true_iff, Bool.not_eq_true', List.any_eq_false]
          refine ⟨fun q p hp => by simpa using q.2.2 p hp, fun q => ⟨by omega, (by rwa [show k = l.length by omega] at hn), fun p hp => by simpa using q p hp⟩⟩
      · cases h
    · cases h
  · cases h
theorem drops_eq {S : Mem} {x y : AV} {l : List Int} {ps : List Pol} (h1 : lstV (intE .i64) S x = some l) (h2 : lstV polE S y = some ps) (hl : l.length ≤ 1000000) (hp : ps.length ≤ 1000000) : dropsS [x, y] S = some (.b (decide (dropsOk l ps)), S) := by
  simp only [dropsS, h1, h2, if_pos (And.intro hl hp)]
end Go.Proofs.YtmdnohpolepcoaaGreat

namespace Go.Proofs.YtmdnohpolepcoaaGreat
open Go.RowKit
set_option linter.unusedSimpArgs false
set_option linter.unusedVariables false
set_option maxRecDepth 10000

/-! ### event.Right -/
def Evt.right (e : Evt) : Prop :=
  (e.kind = 1 ∧ 0 < e.puts.length + e.drops.length ∧ Pols e.puts ∧ dropsOk e.drops e.puts ∧ e = ⟨e.kind, 0, e.puts, e.drops, 0, 0⟩) ∨
  (e.kind = 2 ∧ subOk e.sub ∧ valOk e.granted ∧ e = ⟨e.kind, e.sub, [], [], e.granted, 0⟩) ∨
  (e.kind = 3 ∧ valOk e.period ∧ e = ⟨e.kind, 0, [], [], 0, e.period⟩)
noncomputable instance (e : Evt) : Decidable e.right := Classical.propDecidable _
noncomputable def erightS : Spec := fun args S => match args with
  | [.ag cs] => match evtOf S cs with
    | some e => if e.fits then some (.b (decide e.right), S) else none
    | none => none
  | _ => none
theorem oEr_ok : OK Tryz.prog (lamOf Tryz.prog) (orcOf [(50, allPS), (54, dropsS), (55, esameS), (56, subS), (57, valueS)]) := orc_ok (by simpa using ⟨all_ok, drops_ok, esame_ok, sub_ok, value_ok⟩)
theorem eright_ok : SpecOK Tryz.prog 37 erightS := by
  intro args S x S' h
  simp only [erightS] at h
  split at h
  · rename_i cs
    split at h
    · rename_i ev hev
      split at h
      · rename_i hf
        cases h
        obtain ⟨xp, xd, rfl, hp, hd⟩ := evtOf_ok hev
        obtain ⟨k, s, ps, ds, g, q⟩ := ev
        obtain ⟨hf1, hf2, hf3⟩ := hf
        simp only at hp hd hf1 hf2 hf3
        have a1 := fun L => allPS_eq (lstV_grow hp L) hf3
        have a2 := fun L => drops_eq (lstV_grow hd L) (lstV_grow hp L) hf2 hf1
        have me := fun L => evtOf_mk (k := k) (s := s) (g := g) (p := q) (lstV_grow hp L) (lstV_grow hd L)
        have b1 := fun L => esame_eq (me L) (evtOf_mk (k := k) (s := 0) (g := 0) (p := 0) (lstV_grow hp L) (lstV_grow hd L)) ⟨hf1, hf2, hf3⟩
        have b2 := fun L => esame_eq (me L) (evtOf_mk (S := S ++ L) (k := k) (s := s) (g := g) (p := 0) (xp := .sn) (xd := .sn) (ps := []) (ds := []) rfl rfl) ⟨hf1, hf2, hf3⟩
        have b3 := fun L => esame_eq (me L) (evtOf_mk (S := S ++ L) (k := k) (s := 0) (g := 0) (p := q) (xp := .sn) (xd := .sn) (ps := []) (ds := []) rfl rfl) ⟨hf1, hf2, hf3⟩
        have w1 : wrapV .i64 ((ps.length : Int) + ds.length) = ps.length + ds.length := wrap_i64 (by omega) (by omega)
        refine fn_of_wp f37 rfl (W_sound oEr_ok mixed _ _ _ _ _ ?_)
        simp (maxSteps := 1000000) (disch := omega) only [c37, orc_cons, lst_len hp, lst_len hd, lst_cells hp, lst_cells hd, lst_one hp, lst_one hd, a1, a2, b1, b2, b3, w1, subS, valueS, go_sem]
        refine ⟨fun h1 => ?_, fun h1 => ⟨fun h2 => ?_, fun h2 => ⟨fun h3 => ?_, fun h3 => wkv_f ?_⟩⟩⟩
        · have key : Evt.right ⟨k, s, ps, ds, g, q⟩ ↔ (0 < ps.length + ds.length ∧ Pols ps ∧ dropsOk ds ps ∧ (⟨k, s, ps, ds, g, q⟩ : Evt) = ⟨k, 0, ps, ds, 0, 0⟩) := by
            subst h1
            simp [Evt.right]
          refine ⟨fun g1 => ⟨fun g2 => ⟨fun g3 => wkv_b ?_, fun g3 => wkv_f fun z => g3 (key.1 z).2.2.1⟩, fun g2 => wkv_f fun z => g2 (by rw [allE_zero]; exact (key.1 z).2.1)⟩, fun g1 => wkv_f fun z => g1 (by have := (key.1 z).1; omega)⟩
          rw [key]
          rw [allE_zero] at g2
          exact ⟨fun z => z.2.2.2, fun z => ⟨by omega, g2, g3, z⟩⟩
        · have key : Evt.right ⟨k, s, ps, ds, g, q⟩ ↔ (subOk s ∧ valOk g ∧ (⟨k, s, ps, ds, g, q⟩ : Evt) = ⟨k, s, [], [], g, 0⟩) := by
            subst h2
            simp [Evt.right]
          refine ⟨fun g1 => ⟨fun g2 => wkv_b ?_, fun g2 => wkv_f fun z => g2 (key.1 z).2.1⟩, fun g1 => wkv_f fun z => g1 (key.1 z).1⟩
          rw [key]
          exact ⟨fun z => z.2.2, fun z => ⟨g1, g2, z⟩⟩
        · have key : Evt.right ⟨k, s, ps, ds, g, q⟩ ↔ (valOk q ∧ (⟨k, s, ps, ds, g, q⟩ : Evt) = ⟨k, 0, [], [], 0, q⟩) := by
            subst h3
            simp [Evt.right]
          refine ⟨fun g1 => wkv_b ?_, fun g1 => wkv_f fun z => g1 (key.1 z).1⟩
          rw [key]
          exact ⟨fun z => z.2, fun z => ⟨g1, z⟩⟩
        · rintro (z | z | z)
          · exact h1 z.1
          · exact h2 z.1
          · exact h3 z.1
      · cases h
    · cases h
  · cases h
theorem eright_eq {S : Mem} {cs : List AV} {e : Evt} (h : evtOf S cs = some e) (hf : e.fits) : erightS [.ag cs] S = some (.b (decide e.right), S) := by
  simp only [erightS, h, if_pos hf]

/-! ### lease -/
def Ent.grant (a : Ent) (g : Int) : Ent := ⟨a.pol, g⟩
def setOwn {α : Type} (E : Enc α) (S : Mem) (x : AV) (l : List α) : Mem := match x with
  | .sl b _ _ _ _ _ => match S[b]? with
    | some (.cells _ v op r) => S.set b (.cells (l.flatMap E.enc) v op r)
    | _ => S
  | _ => S
theorem setOwn_eq {α : Type} {E : Enc α} {S : Mem} {b o v n c v' : Nat} {ex r : Bool} {op : Option Nat} {cs : List AV} {l : List α} (h : S[b]? = some (.cells cs v' op r)) : setOwn E S (.sl b o v n c ex) l = S.set b (.cells (l.flatMap E.enc) v' op r) := by
  simp only [setOwn, h]
/-- The entries behind a lease. -/
def leased (l : List Ent) (sub granted : Int) : Option (List Ent) := match l.findIdx? (hasSub sub) with
  | some k => match l[k]? with
    | some a => if a.granted ≤ granted ∧ granted ≤ a.pol.quota then some (l.set k (a.grant granted)) else none
    | none => none
  | none => none
def leaseS : Spec := fun args S => match args with
  | [x, .ag ce] => match lstV entE S x, evtOf S ce with
    | some l, some e => if l.length ≤ 1000000 then match leased l e.sub e.granted with
      | some l' => if ownV entE S x = some l then some (.tu [x, .b true], setOwn entE S x l') else none
      | none => some (.tu [.sn, .b false], S)
      else none
    | _, _ => none
  | _ => none
theorem Flat_sl {n i o v l c : Nat} {x : Bool} (h : i < n) : AV.Flat n (.sl i o v l c x) := fun g => by rw [ren, if_pos h]
theorem Flat_tu {n : Nat} {cs : List AV} (h : ∀ x ∈ cs, AV.Flat n x) : AV.Flat n (.tu cs) := fun g => by
  rw [ren_tu, renL_eq]; congr 1
  exact (List.map_congr_left (g := id) fun x hx => h x hx g).trans (List.map_id _)
theorem oLe_ok : OK Tryz.prog (lamOf Tryz.prog) (orcOf [(30, placeS)]) := orc_ok (by simpa using place_ok)
theorem lease_ok : SpecOK Tryz.prog 39 leaseS := by
  intro args S x S' h
  simp only [leaseS] at h
  split at h
  · rename_i s ce
    split at h
    · rename_i l ev hl hev
      split at h
      · rename_i hlim
        obtain ⟨xp, xd, rfl, hp, hd⟩ := evtOf_ok hev
        obtain ⟨k, sub, ps, ds, g, q⟩ := ev
        simp only at hp hd h
        have pl := fun L => place_eq (lstV_grow hl L) sub hlim
        refine fn_of_wp f39 rfl (W_sound oLe_ok mixed _ _ _ _ _ ?_)
        cases hi : l.findIdx? (hasSub sub) with
        | none =>
          have hle : leased l sub g = none := by simp only [leased, hi]
          rw [hle] at h
          cases h
          simp (maxSteps := 1000000) (disch := omega) only [c39, orc_cons, pl, idx_eq_none hi, go_sem]
          exact wkv_drop rfl
        | some j =>
          obtain ⟨hj, _, _⟩ := List.findIdx?_eq_some_iff_getElem.1 hi
          obtain ⟨bi, o, v, cap, ex, rfl⟩ := lst_sl hl hj
          have hle : leased l sub g = if l[j].granted ≤ g ∧ g ≤ l[j].pol.quota then some (l.set j (l[j].grant g)) else none := by
            simp only [leased, hi, List.getElem?_eq_getElem hj]
          have fg : ∀ L, cellB ((S ++ L)[bi]?) (o + j * 14 + 13) v = some (.i .u64 l[j].granted) := lstV_field hl hj (f := 13) (x := .i .u64 l[j].granted) rfl
          have fq : ∀ L, cellB ((S ++ L)[bi]?) (o + j * 14 + 10) v = some (.i .u64 l[j].pol.quota) := lstV_field hl hj (f := 10) (x := .i .u64 l[j].pol.quota) rfl
          have hj0 : ¬ ((j : Int) < 0) := by omega
          simp (maxSteps := 1000000) (disch := omega) only [c39, orc_cons, pl, idx_eq_some hi, hj0, Int.toNat_natCast, fg, fq, go_sem]
          refine ⟨fun h1 => ⟨fun h2 => ?_, fun h2 => ?_⟩, fun h1 => ?_⟩
          · rw [hle, if_neg (by omega)] at h
            cases h
            exact wkv_drop rfl
          · rw [hle, if_pos (by omega)] at h
            simp only at h
            split at h
            · rename_i hown
              cases h
              obtain ⟨b', v', ex', op, hx, hB⟩ := ownV_ok hown
              injection hx with e1 e2 e3 e4 e5 e6
              subst e1 e2 e3 e5 e6
              have hb : bi < S.length := (List.getElem?_eq_some_iff.1 hB).1
              have hsp := splice_at (E := entE) l hj (l[j].grant g) (f := 13) (ys := [.i .u64 g]) (by simp [entE]) rfl
              have hsp : splice (l.flatMap entE.enc) (j * 14 + 13) [.i .u64 g] = (l.set j (l[j].grant g)).flatMap entE.enc := hsp
              rw [at_old hB, setOwn_eq hB]
              simp only [stB, hsp, enc_length]
              rw [if_pos ⟨trivial, rfl, by show 0 + j * 14 + 13 + 1 ≤ l.length * 14; omega, rfl⟩]
              simp (maxSteps := 1000000) (disch := omega) only [set_old hB, go_sem]
              have hsp : (l.flatMap entE.enc).take (j * 14 + 13) ++ AV.i .u64 g :: (l.flatMap entE.enc).drop (j * 14 + 13 + 1) = (l.set j (l[j].grant g)).flatMap entE.enc := hsp
              rw [hsp]
              exact wkv_drop' (List.length_set ..) (set_closed (bflat_list entE_flat _ _ _ _)) (Flat_tu (by simp [Flat_sl hb, Flat_b]))
            · cases h
          · rw [hle, if_neg (by omega)] at h
            cases h
            exact wkv_drop rfl
      · cases h
    · cases h
  · cases h
theorem lease_eq {S : Mem} {x : AV} {ce : List AV} {l : List Ent} {e : Evt} (hl : lstV entE S x = some l) (he : evtOf S ce = some e) (hn : l.length ≤ 1000000) (ho : ownV entE S x = some l) :
    leaseS [x, .ag ce] S = match leased l e.sub e.granted with
      | some l' => some (.tu [x, .b true], setOwn entE S x l')
      | none => some (.tu [.sn, .b false], S) := by
  simp only [leaseS, hl, he, if_pos hn, if_pos ho]
end Go.Proofs.YtmdnohpolepcoaaGreat

namespace Go.Proofs.YtmdnohpolepcoaaGreat
open Go.RowKit
set_option linter.unusedSimpArgs false
set_option linter.unusedVariables false
set_option maxRecDepth 10000

/-! ### Same -/
def noEnt : Ent := ⟨⟨0, 0, 0, 0, 0, 0, 0, 0, 0, 0, 0, 0, 0⟩, 0⟩
def foundV (o : Option Ent) : AV := match o with
  | some a => .tu [.ag (entE.enc a), .b true]
  | none => .tu [.ag (entE.enc noEnt), .b false]
def findS : Spec := fun args S => match args with
  | [.ag cb, .i .i64 n] => match bookOf S cb with
    | some b => if b.entries.length ≤ 1000000 then some (foundV (b.entries.find? (hasSub n)), S) else none
    | none => none
  | _ => none
theorem find_of_idx {α : Type} {p : α → Bool} {l : List α} : l.find? p = match l.findIdx? p with
    | some k => l[k]?
    | none => none := by
  induction l with
  | nil => rfl
  | cons a l ih =>
    simp only [List.find?_cons, List.findIdx?_cons]
    cases h : p a with
    | true => simp
    | false =>
      simp only [Bool.false_eq_true, if_false, ih]
      cases l.findIdx? p <;> rfl
theorem oFi_ok : OK Tryz.prog (lamOf Tryz.prog) (orcOf [(30, placeS)]) := orc_ok (by simpa using place_ok)
theorem bfind_ok : SpecOK Tryz.prog 19 findS := by
  intro args S x S' h
  simp only [findS] at h
  split at h
  · rename_i cb n
    split at h
    · rename_i b hb
      split at h
      · rename_i hf
        cases h
        obtain ⟨s, rfl, hl⟩ := bookOf_ok hb
        obtain ⟨p, l⟩ := b
        simp only at hl hf
        have pl := fun L => place_eq (lstV_grow hl L) n hf
        refine fn_of_wp f19 rfl (W_sound oFi_ok mixed _ _ _ _ _ ?_)
        rw [show (Bk.mk p l).entries = l from rfl, find_of_idx]
        cases hi : l.findIdx? (hasSub n) with
        | none =>
          simp (maxSteps := 1000000) (disch := omega) only [c19, orc_cons, pl, idx_eq_none hi, go_sem]
          exact wkv_drop rfl
        | some j =>
          obtain ⟨hj, _, _⟩ := List.findIdx?_eq_some_iff_getElem.1 hi
          obtain ⟨bi, o, v, cap, ex, rfl⟩ := lst_sl hl hj
          have hr : ∀ L, rowB ((S ++ L)[bi]?) (o + j * 14) v 14 = some l[j].enc := lstV_row hl hj
          have hj0 : ¬ ((j : Int) < 0) := by omega
          simp (maxSteps := 1000000) (disch := omega) only [c19, orc_cons, pl, idx_eq_some hi, hj0, Int.toNat_natCast, hr, Ent.enc, go_sem]
          rw [List.getElem?_eq_getElem hj]
          exact wkv_drop rfl
      · cases h
    · cases h
  · cases h
theorem rfind_ok : SpecOK Tryz.prog 24 findS := by
  intro args S x S' h
  simp only [findS] at h
  split at h
  · rename_i cb n
    split at h
    · rename_i b hb
      split at h
      · rename_i hf
        cases h
        obtain ⟨s, rfl, hl⟩ := bookOf_ok hb
        obtain ⟨p, l⟩ := b
        simp only at hl hf
        refine fn_of_wp f24 rfl (W_sound none_ok mixed _ _ _ _ _ ?_)
        simp (maxSteps := 1000000) (disch := omega) only [c24, lst_len hl, List.replicate, go_sem]
        refine wp_loop (fun j e M dl => dl = [] ∧ ∃ (k : Nat) (T : Mem), j = l.length - k ∧ k ≤ l.length ∧ M = S ++ (.cells [.i .u64 p, s] 0 none true :: .cells noEnt.enc 0 none true :: T) ∧ (∀ i (hi : i < k) (h1 : i < l.length), hasSub n l[i] = false) ∧
          e.get 4 = .p (S.length + 1) 0 0 ∧ e.get 1 = .i .i64 n ∧ e.get 9 = s ∧ e.get 10 = .i .i64 l.length ∧ e.get 11 = .i .i64 k) (j := l.length) ⟨rfl, 0, [], rfl, Nat.zero_le _, rfl, fun i hi => absurd hi (Nat.not_lt_zero _), rfl, rfl, rfl, rfl, rfl⟩ ?_
        rintro j e M d' ⟨rfl, k, T, rfl, hk, rfl, hn, h4, h1, h9, h10, h11⟩
        refine W_sound none_ok mixed _ _ _ _ _ ?_
        by_cases hkl : k < l.length
        · obtain ⟨bi, o, v, cap, ex, rfl⟩ := lst_sl hl hkl
          have hr : ∀ L, rowB ((S ++ L)[bi]?) (o + k * 14) v 14 = some l[k].enc := lstV_row hl hkl
          have hkI : (k : Int) < l.length := by omega
          have hw1 : wrapV .i64 ((k : Int) + 1) = ((k + 1 : Nat) : Int) := by rw [wrap_i64 (by omega) (by omega)]; omega
          simp (maxSteps := 1000000) (disch := omega) only [c24l0, h4, h1, h9, h10, h11, hkI, Int.toNat_natCast, hr, Ent.enc, noEnt, hw1, List.replicate, go_sem]
          refine ⟨fun he => ?_, fun he => ⟨l.length - (k + 1), by omega, k + 1, _, rfl, hkl, rfl, fun i hi g1 => ?_, rfl⟩⟩
          · rw [show l.find? (hasSub n) = some l[k] by
              rw [find_of_idx, List.findIdx?_eq_some_iff_getElem.2 ⟨hkl, by simpa [hasSub] using he, fun j hj => by rw [hn j hj (by omega)]; simp⟩]; exact List.getElem?_eq_getElem hkl]
            exact wkv_drop rfl
          · by_cases hik : i = k
            · subst hik; simpa [hasSub] using he
            · exact hn i (by omega) g1
        · have hkI : ¬ (k : Int) < l.length := by omega
          simp (maxSteps := 1000000) (disch := omega) only [c24l0, h4, h1, h9, h10, h11, hkI, Ent.enc, noEnt, List.replicate, go_sem]
          rw [show l.find? (hasSub n) = none by
            rw [List.find?_eq_none]
            intro y hy
            obtain ⟨i, hi, rfl⟩ := List.getElem_of_mem hy
            rw [hn i (by omega) hi]; simp]
          exact wkv_drop rfl
      · cases h
    · cases h
  · cases h
theorem find_eq {S : Mem} {cb : List AV} {b : Bk} (hb : bookOf S cb = some b) (n : Int) (hf : b.entries.length ≤ 1000000) : findS [.ag cb, .i .i64 n] S = some (foundV (b.entries.find? (hasSub n)), S) := by
  simp only [findS, hb, if_pos hf]

/-! ### The document's Right -/
theorem allS_eq {S : Mem} {x : AV} {l : List Pol} (hl : lstV polE S x = some l) (hf : ∀ p ∈ l, p.fits) (ho : l = [] ∨ openS S 13 x = true) : allS [x] S = some (.i .i64 (allE l), S) := by
  have : l.all (fun p => decide p.fits) = true := List.all_eq_true.2 fun p hp => decide_eq_true (hf p hp)
  simp only [allS, hl, if_pos (And.intro this ho)]
theorem oRr_ok : OK Tryz.prog (lamOf Tryz.prog) (orcOf [(15, allS)]) := orc_ok (by simpa using rall_ok)
theorem rbright_ok : SpecOK Tryz.prog 5 brightS := by
  intro args S x S' h
  simp only [brightS] at h
  split at h
  · rename_i cs
    split at h
    · rename_i b hb
      split at h
      · rename_i hf
        cases h
        obtain ⟨s, rfl, hl⟩ := bookOf_ok hb
        obtain ⟨p, l⟩ := b
        simp only at hl
        have hlim := hf.1
        simp only at hlim
        refine fn_of_wp f5 rfl (W_sound oRr_ok mixed _ _ _ _ _ ?_)
        simp (maxSteps := 1000000) (disch := omega) only [c5, lst_len hl, go_sem]
        refine ⟨fun h1 => ⟨fun h2 => ⟨fun h3 => ?_, fun h3 => ?_⟩, fun h2 => ?_⟩, fun h1 => ?_⟩
        · refine wkv_f fun q => ?_
          have := q.2.2.1.1; unfold polsOf at this; simp at this; omega
        rotate_left
        · exact wkv_f fun q => by have := q.2.1; simp only at this; omega
        · exact wkv_f fun q => by have := q.1; simp only at this; omega
        have h0 : Acc true polE S (S ++ [.cells [.i .u64 p, s] 0 none true, .cells [] 0 none true]) (.sl (S.length + 1) 0 0 0 0 true) [] := by
          have := acc_lit (E := polE) (M := S ++ [.cells [.i .u64 p, s] 0 none true]) (ext_app (S := S) _)
          simpa using this
        refine wp_loop (fun j e M dl => dl = [] ∧ ∃ (k : Nat) (x : AV), j = l.length - k ∧ k ≤ l.length ∧ Acc true polE S M x (polsOf (l.take k)) ∧ (∀ i (hi : i < k) (h1 : i < l.length), l[i].granted ≤ 281474976710656) ∧
          e.get 22 = s ∧ e.get 23 = .i .i64 l.length ∧ e.get 24 = .i .i64 k ∧ e.get 3 = x) (j := l.length) ⟨rfl, 0, _, rfl, Nat.zero_le _, h0, fun i hi => absurd hi (Nat.not_lt_zero _), rfl, rfl, rfl, rfl⟩ ?_
        rintro j e M d' ⟨rfl, k, x, rfl, hk, hx, hn, h22, h23, h24, h3⟩
        refine W_sound oRr_ok mixed _ _ _ _ _ ?_
        have hM := lst_ext hl hx.ext
        by_cases hkl : k < l.length
        · obtain ⟨bi, o, v, cap, ex, rfl⟩ := lst_sl hl hkl
          have hr : ∀ L, rowB ((M ++ L)[bi]?) (o + k * 14) v 14 = some (entE.enc l[k]) := lstV_row hM hkl
          have hr0 := hr []
          rw [List.append_nil] at hr0
          have hkI : (k : Int) < l.length := by omega
          have hw : wrapV .i64 ((k : Int) + 1) = ((k + 1 : Nat) : Int) := by rw [wrap_i64 (by omega) (by omega)]; omega
          have hlen : (polsOf (l.take k)).length = k := by unfold polsOf; rw [List.length_map, List.length_take]; omega
          obtain ⟨x', M', ha, hx'⟩ := Acc.app (bytes := 80) polE_one (hx.grow [.cells (entE.enc l[k]) 0 none true, .cells (polE.enc l[k].pol) 0 none true]) l[k].pol (by rw [hlen]; omega) (by rw [hlen]; omega)
          simp only [entE, polE, Ent.enc, Pol.enc] at hr0 ha
          simp (maxSteps := 1000000) (disch := omega) only [c5l0, h3, h22, h23, h24, hkI, Int.toNat_natCast, hr0, src_sl, srcN_some, ha, hw, List.replicate, go_sem]
          refine ⟨fun hg => ?_, fun hg => ⟨l.length - (k + 1), by omega, k + 1, x', rfl, hkl, ?_, fun i hi g1 => ?_, rfl, rfl⟩⟩
          · refine wkv_fP (ext_more hx.ext _) fun q => ?_
            have := q.2.2.2 l[k] (List.getElem_mem hkl); omega
          · rw [show polsOf (l.take (k + 1)) = polsOf (l.take k) ++ [l[k].pol] by unfold polsOf; rw [List.take_succ_eq_append_getElem hkl, List.map_append]; rfl]
            exact hx'
          · by_cases hik : i = k
            · subst hik; omega
            · exact hn i (by omega) g1
        · have hkI : ¬ (k : Int) < l.length := by omega
          rw [List.take_of_length_le (by omega)] at hx
          have ha := allS_eq hx.lst (fun q hq => by obtain ⟨y, hy, rfl⟩ := List.mem_map.1 hq; exact hf.2 y hy) (by
            by_cases e : polsOf l = []
            · exact .inl e
            · exact .inr (hx.opens e))
          simp (maxSteps := 1000000) (disch := omega) only [c5l0, h3, h22, h23, h24, hkI, orc_cons, ha, go_sem]
          refine wkv_bP hx.ext ?_
          rw [allE_zero]
          refine ⟨fun q => q.2.2.1, fun q => ⟨by show (1 : Int) ≤ p; omega, by show p ≤ _; omega, q, fun y hy => ?_⟩⟩
          obtain ⟨i, hi, rfl⟩ := List.getElem_of_mem hy
          exact hn i (by have : i < l.length := hi; omega) hi
      · cases h
    · cases h
  · cases h
end Go.Proofs.YtmdnohpolepcoaaGreat

namespace Go.Proofs.YtmdnohpolepcoaaGreat
open Go.RowKit
set_option linter.unusedSimpArgs false
set_option linter.unusedVariables false
set_option maxRecDepth 10000

/-! ### Plain -/
def i64 (n : Int) : Prop := -9223372036854775808 ≤ n ∧ n ≤ 9223372036854775807
def u64 (n : Int) : Prop := 0 ≤ n ∧ n ≤ 18446744073709551615
instance (n : Int) : Decidable (i64 n) := by unfold i64; infer_instance
instance (n : Int) : Decidable (u64 n) := by unfold u64; infer_instance
def b8 (l : List Int) : List AV := l.map (.i .u8)
theorem src_lst {α : Type} {E : Enc α} {S : Mem} {x : AV} {l : List α} (h : lstV E S x = some l) : srcV S E.sz x = some (l.flatMap E.enc, l.length) := by
  rcases lstV_lst h with ⟨rfl, rfl⟩ | ⟨rfl, rfl⟩ | ⟨i, o, v, len, cap, ex, rfl, rfl, hrow⟩
  · rfl
  · rfl
  · have hrow : rowB (S[i]?) o v (l.length * E.sz) = some (l.flatMap E.enc) := by rw [← rowAt_B]; exact hrow
    rw [src_sl, hrow, srcN_some]
end Go.Proofs.YtmdnohpolepcoaaGreat

namespace Go.Proofs.YtmdnohpolepcoaaGreat
open Go.RowKit
set_option linter.unusedSimpArgs false
set_option linter.unusedVariables false
set_option maxRecDepth 10000

/-! ### Bits -/
end Go.Proofs.YtmdnohpolepcoaaGreat

namespace Go.Proofs.YtmdnohpolepcoaaGreat
open Go.RowKit
set_option linter.unusedSimpArgs false
set_option linter.unusedVariables false
set_option maxRecDepth 10000

/-! ### Slicing -/
section
variable {α : Type} {E : Enc α} {S M : Mem}
/-- It can be sliced. -/
def openQ (S : Mem) (size : Nat) : AV → Bool
  | .sl i _ _ len cap ex => decide (len ≤ cap) && (ex || (match S[i]? with | some B => B.opn == some size | none => false))
  | _ => true
theorem openQ_grow {size : Nat} {x : AV} (h : openQ S size x = true) (T : Mem) : openQ (S ++ T) size x = true := by
  unfold openQ at h ⊢
  split
  · rename_i i _ _ len cap ex
    simp only [Bool.and_eq_true, decide_eq_true_eq, Bool.or_eq_true] at h ⊢
    refine ⟨h.1, h.2.imp id fun h2 => ?_⟩
    split at h2
    · rename_i B hB
      rw [at_old hB]; exact h2
    · cases h2
  · rfl
theorem openQ_ext {size : Nat} {x : AV} (h : openQ S size x = true) (hM : S <+: M) : openQ M size x = true := by
  obtain ⟨T, rfl⟩ := hM
  exact openQ_grow h T
theorem slice_lst {x : AV} {l : List α} (h : lstV E S x = some l) (ho : openQ S E.sz x = true) {lo hi : Option AV} {a b : Nat} (hb : ∀ cap, l.length ≤ cap → bnds l.length cap lo hi none = some (a, b, cap)) (hab : a ≤ b) (hbl : b ≤ l.length) :
    ∃ x', sliceV S E.sz x lo hi none = some x' ∧ lstV E S x' = some ((l.drop a).take (b - a)) ∧ openQ S E.sz x' = true := by
  rcases lstV_lst h with ⟨rfl, rfl⟩ | ⟨rfl, rfl⟩ | ⟨i, o, v, len, cap, ex, rfl, rfl, hr⟩
  · have := hb 0 (Nat.le_refl _)
    exact ⟨.sn, by simp only [sliceV]; rw [show bnds 0 0 lo hi none = _ from this], by simp [lstV], rfl⟩
  · have := hb 0 (Nat.le_refl _)
    exact ⟨.se, by simp only [sliceV, Option.isSome_none]; rw [show bnds 0 0 lo hi none = _ from this]; simp, by simp [lstV], rfl⟩
  · simp only [openQ, Bool.and_eq_true, decide_eq_true_eq, Bool.or_eq_true] at ho
    obtain ⟨hlc, ho⟩ := ho
    have hle : a * E.sz + (b - a) * E.sz ≤ l.length * E.sz := by rw [← Nat.add_mul]; exact Nat.mul_le_mul_right _ (by omega)
    have hr2 := row_part hr hle
    rw [flat_drop, flat_take] at hr2
    have hlen : ((l.drop a).take (b - a)).length = b - a := by rw [List.length_take, List.length_drop]; omega
    have hnil : a = cap → (l.drop a).take (b - a) = [] := fun e => List.eq_nil_of_length_eq_zero (by omega)
    have hrow0 : ∀ o', o' = o → a = cap → rowAt S i o' v ((b - a) * E.sz) = some (((l.drop a).take (b - a)).flatMap E.enc) := fun o' e1 e2 => by
      subst e1
      rw [hnil e2, show (b - a) * E.sz = 0 by rw [show b - a = 0 by omega, Nat.zero_mul]]
      have := row_part hr (k := 0) (m := 0) (by omega)
      rw [Nat.add_zero] at this
      rw [this]; simp
    simp only [sliceV, hb cap hlc, Option.isSome_none, Bool.or_false]
    cases ex with
    | true =>
      simp only [if_true]
      refine ⟨_, rfl, ?_, ?_⟩
      · unfold cutAt
        refine lst_lstV (.inr (.inr ⟨_, _, _, _, _, _, rfl, hlen, ?_⟩))
        split
        · rename_i e; exact hrow0 _ rfl e.symm
        · exact hr2
      · simp [openQ]; omega
    | false =>
      simp only [Bool.false_eq_true, if_false, false_or] at ho ⊢
      by_cases e : a = cap
      · rw [if_pos e]
        exact ⟨.se, rfl, by rw [hnil e]; rfl, rfl⟩
      · rw [if_neg e]
        split at ho
        · rename_i B hB
          have hop : B.opn = some E.sz := by simpa using ho
          simp only [hB, if_pos hop]
          refine ⟨_, rfl, lst_lstV (.inr (.inr ⟨_, _, _, _, _, _, rfl, hlen, hr2⟩)), ?_⟩
          simp only [openQ, hB, hop, beq_self_eq_true, Bool.or_true, Bool.and_true, decide_eq_true_eq]; omega
        · cases ho
theorem bnds_hi {q : IntKind} {len cap b : Nat} (h : b ≤ cap) : bnds len cap none (some (.i q (b : Int))) none = some (0, b, cap) := by
  simp [bnds, bndV, natV, h]
theorem bnds_lo {q : IntKind} {len cap a : Nat} (h : a ≤ len) (h2 : len ≤ cap) : bnds len cap (some (.i q (a : Int))) none none = some (a, len, cap) := by
  simp [bnds, bndV, natV, h, h2]
theorem bnds_both {q q' : IntKind} {len cap a b : Nat} (h : a ≤ b) (h2 : b ≤ cap) : bnds len cap (some (.i q (a : Int))) (some (.i q' (b : Int))) none = some (a, b, cap) := by
  simp [bnds, bndV, natV, h, h2]
theorem take_lst {x : AV} {l : List α} (h : lstV E S x = some l) (ho : openQ S E.sz x = true) {q : IntKind} {b : Nat} (hb : b ≤ l.length) : ∃ x', sliceV S E.sz x none (some (.i q (b : Int))) none = some x' ∧ lstV E S x' = some (l.take b) ∧ openQ S E.sz x' = true := by
  have := slice_lst h ho (lo := none) (hi := some (.i q (b : Int))) (a := 0) (b := b) (fun cap hc => bnds_hi (by omega)) (Nat.zero_le _) hb
  simpa using this
theorem drop_lst {x : AV} {l : List α} (h : lstV E S x = some l) (ho : openQ S E.sz x = true) {q : IntKind} {a : Nat} (ha : a ≤ l.length) : ∃ x', sliceV S E.sz x (some (.i q (a : Int))) none none = some x' ∧ lstV E S x' = some (l.drop a) ∧ openQ S E.sz x' = true := by
  have := slice_lst h ho (lo := some (.i q (a : Int))) (hi := none) (a := a) (b := l.length) (fun cap hc => bnds_lo ha hc) ha (Nat.le_refl _)
  rwa [List.take_of_length_le (by rw [List.length_drop]; omega)] at this
end

/-! ### bits.Len64 -/
theorem p7 (k : Nat) : 2 ^ (7 * k) = 128 ^ k := by rw [Nat.pow_mul]
end Go.Proofs.YtmdnohpolepcoaaGreat

namespace Go.Proofs.YtmdnohpolepcoaaGreat
open Go.RowKit
set_option linter.unusedSimpArgs false
set_option linter.unusedVariables false
set_option maxRecDepth 10000

theorem openQ_S {S : Mem} {size : Nat} {x : AV} {α : Type} {E : Enc α} {l : List α} (h : openQ S size x = true) (hl : lstV E S x = some l) (hne : l ≠ []) : openS S size x = true := by
  obtain ⟨i, o, v, cap, ex, rfl⟩ := lst_sl hl (List.length_pos_iff.2 hne)
  have := List.length_pos_iff.2 hne
  simp only [openQ, openS, Bool.and_eq_true, decide_eq_true_eq] at h ⊢
  exact ⟨⟨by omega, h.1⟩, h.2⟩
noncomputable def rerightS : Spec := fun args S => match args with
  | [.ag cs] => match evtOf S cs with
    | some e => if e.fits ∧ openQ S 13 (cs.getD 2 .u) = true then some (.b (decide e.right), S) else none
    | none => none
  | _ => none
theorem right3 {s g q : Int} {ps : List Pol} {ds : List Int} : Evt.right ⟨3, s, ps, ds, g, q⟩ ↔ (1 ≤ q ∧ q ≤ 281474976710656 ∧ s = 0 ∧ g = 0 ∧ ps.length = 0 ∧ ds.length = 0) := by
  simp [Evt.right, valOk]
  constructor
  · rintro ⟨⟨h1, h2⟩, rfl, rfl, rfl, rfl⟩; exact ⟨h1, h2, rfl, rfl, rfl, rfl⟩
  · rintro ⟨h1, h2, rfl, rfl, rfl, rfl⟩; exact ⟨⟨h1, h2⟩, rfl, rfl, rfl, rfl⟩
theorem right2 {s g q : Int} {ps : List Pol} {ds : List Int} : Evt.right ⟨2, s, ps, ds, g, q⟩ ↔ (1 ≤ s ∧ s ≤ 255 ∧ 1 ≤ g ∧ g ≤ 281474976710656 ∧ q = 0 ∧ ps.length = 0 ∧ ds.length = 0) := by
  simp [Evt.right, valOk, subOk]
  constructor
  · rintro ⟨⟨h1, h2⟩, ⟨h3, h4⟩, rfl, rfl, rfl⟩; exact ⟨h1, h2, h3, h4, rfl, rfl, rfl⟩
  · rintro ⟨h1, h2, h3, h4, rfl, rfl, rfl⟩; exact ⟨⟨h1, h2⟩, ⟨h3, h4⟩, rfl, rfl, rfl⟩
theorem right1 {s g q : Int} {ps : List Pol} {ds : List Int} : Evt.right ⟨1, s, ps, ds, g, q⟩ ↔ (s = 0 ∧ g = 0 ∧ q = 0 ∧ ds.length ≤ 8 ∧ Pols ps ∧ riseTo ds ds.length ∧ (∀ p ∈ ps, p.sub ∉ ds) ∧ 0 < ps.length + ds.length) := by
  simp [Evt.right, dropsOk]
  constructor
  · rintro ⟨h1, h2, ⟨h3, h4, h5⟩, rfl, rfl, rfl⟩; exact ⟨rfl, rfl, rfl, h3, h2, h4, h5, h1⟩
  · rintro ⟨rfl, rfl, rfl, h3, h2, h4, h5, h1⟩; exact ⟨h1, h2, ⟨h3, h4, h5⟩, rfl, rfl, rfl⟩
theorem right0 {k s g q : Int} {ps : List Pol} {ds : List Int} (h1 : k ≠ 1) (h2 : k ≠ 2) (h3 : k ≠ 3) : ¬ Evt.right ⟨k, s, ps, ds, g, q⟩ := by
  rintro (h | h | h)
  · exact h1 h.1
  · exact h2 h.1
  · exact h3 h.1
theorem oRe_ok : OK Tryz.prog (lamOf Tryz.prog) (orcOf [(15, allS)]) := orc_ok (by simpa using rall_ok)
theorem reright_ok : SpecOK Tryz.prog 41 rerightS := by
  intro args S x S' h
  simp only [rerightS] at h
  split at h
  · rename_i cs
    split at h
    · rename_i ev hev
      split at h
      · rename_i hf
        cases h
        obtain ⟨xp, xd, rfl, hp, hd⟩ := evtOf_ok hev
        obtain ⟨k, s, ps, ds, g, q⟩ := ev
        obtain ⟨⟨hf1, hf2, hf3⟩, hop⟩ := hf
        simp only at hp hd hf1 hf2 hf3
        have hop : openQ S 13 xp = true := hop
        refine fn_of_wp f41 rfl (W_sound oRe_ok mixed _ _ _ _ _ ?_)
        by_cases k3 : k = 3
        · subst k3
          simp (maxSteps := 1000000) (disch := omega) only [c41, lst_len hp, lst_len hd, lst_cells hp, lst_cells hd, go_sem]
          rw [show decide (Evt.right ⟨3, s, ps, ds, g, q⟩) = decide (1 ≤ q ∧ q ≤ 281474976710656 ∧ s = 0 ∧ g = 0 ∧ ps.length = 0 ∧ ds.length = 0) from decide_eq_decide.2 right3]
          repeat' (apply And.intro <;> intro _)
          all_goals first | exact wkv_f (by omega) | exact wkv_b (by omega)
        by_cases k2 : k = 2
        · subst k2
          simp (maxSteps := 1000000) (disch := omega) only [c41, lst_len hp, lst_len hd, lst_cells hp, lst_cells hd, go_sem]
          rw [show decide (Evt.right ⟨2, s, ps, ds, g, q⟩) = decide (1 ≤ s ∧ s ≤ 255 ∧ 1 ≤ g ∧ g ≤ 281474976710656 ∧ q = 0 ∧ ps.length = 0 ∧ ds.length = 0) from decide_eq_decide.2 right2]
          repeat' (apply And.intro <;> intro _)
          all_goals first | exact wkv_f (by omega) | exact wkv_b (by omega)
        by_cases k1 : k = 1
        · subst k1
          have a1 : ∀ L, allS [xp] (S ++ L) = some (.i .i64 (allE ps), S ++ L) := fun L => allS_eq (lstV_grow hp L) hf3 (by
            by_cases hne : ps = []
            · exact .inl hne
            · exact .inr (openQ_S (openQ_grow hop L) (lstV_grow hp L) hne))
          by_cases hs : s = 0
          rotate_left
          · simp (maxSteps := 1000000) (disch := omega) only [c41, lst_len hp, lst_len hd, lst_cells hp, lst_cells hd, hs, go_sem]
            exact wkv_f fun h => hs (right1.1 h).1
          by_cases hg : g = 0
          rotate_left
          · simp (maxSteps := 1000000) (disch := omega) only [c41, lst_len hp, lst_len hd, lst_cells hp, lst_cells hd, hs, hg, go_sem]
            exact wkv_f fun h => hg (right1.1 h).2.1
          by_cases hq : q = 0
          rotate_left
          · simp (maxSteps := 1000000) (disch := omega) only [c41, lst_len hp, lst_len hd, lst_cells hp, lst_cells hd, hs, hg, hq, go_sem]
            exact wkv_f fun h => hq (right1.1 h).2.2.1
          by_cases hd8 : ds.length ≤ 8
          rotate_left
          · have hdI : (8 : Int) < ds.length := by omega
            simp (maxSteps := 1000000) (disch := omega) only [c41, lst_len hp, lst_len hd, lst_cells hp, lst_cells hd, hs, hg, hq, hdI, go_sem]
            exact wkv_f fun h => hd8 (right1.1 h).2.2.2.1
          have hdI : ¬ (8 : Int) < ds.length := by omega
          by_cases hP : Pols ps
          rotate_left
          · have hA : ¬ allE ps = 0 := by rw [allE_zero]; exact hP
            simp (maxSteps := 1000000) (disch := omega) only [c41, lst_len hp, lst_len hd, lst_cells hp, lst_cells hd, hs, hg, hq, hdI, orc_cons, a1, hA, go_sem]
            exact wkv_f fun h => hP (right1.1 h).2.2.2.2.1
          have hA : allE ps = 0 := by rw [allE_zero]; exact hP
          rw [hA] at a1
          subst hs hg hq
          simp (maxSteps := 1000000) (disch := omega) only [c41, lst_len hp, lst_len hd, lst_cells hp, lst_cells hd, hdI, orc_cons, a1, go_sem]
          refine wp_loop (fun j e M dl => dl = [] ∧ ∃ (i : Nat) (last : Int), j = ds.length - i ∧ i ≤ ds.length ∧ S <+: M ∧ M[S.length]? = some (.cells [.i .i64 1, .i .i64 0, xp, xd, .i .u64 0, .i .u64 0] 0 none true) ∧
            riseTo ds i ∧ (∀ p ∈ ps, p.sub ∉ ds.take i) ∧ (i = 0 → last = 0) ∧ (∀ h : 0 < i, ∀ h2 : i ≤ ds.length, last = ds[i - 1]) ∧
            e.get 1 = .p S.length 0 0 ∧ e.get 110 = xd ∧ e.get 111 = .i .i64 ds.length ∧ e.get 112 = .i .i64 i ∧ e.get 3 = .i .i64 last) (j := ds.length)
            ⟨rfl, 0, 0, rfl, Nat.zero_le _, ext_app _, by rw [at_app0]; rfl, fun i h hi => absurd hi (Nat.not_lt_zero _), by simp, fun _ => rfl, fun h => absurd h (Nat.lt_irrefl _), rfl, rfl, rfl, rfl, rfl⟩ ?_
          rintro j e M d' ⟨rfl, i, last, rfl, hi, hSM, hat, hrise, hnot, hl0, hl1, h1, h110, h111, h112, h3⟩
          refine W_sound oRe_ok mixed _ _ _ _ _ ?_
          by_cases hil : i < ds.length
          · obtain ⟨bi, o, v, cap, ex, rfl⟩ := lst_sl hd hil
            have hdM := lst_ext hd hSM
            have hc := lstV_cell hdM rfl (fun a => rfl) hil []
            rw [List.append_nil] at hc
            have hiI : (i : Int) < ds.length := by omega
            have hrise1 := fun (h : riseTo ds ds.length) => h i hil hil
            by_cases hA1 : ds[i] ≤ last
            · simp (maxSteps := 1000000) (disch := omega) only [c41l1, h1, h110, h111, h112, h3, hiI, Int.toNat_natCast, Nat.mul_one, hc, hA1, go_sem]
              refine wkv_fP hSM fun h => ?_
              obtain ⟨g1, g2⟩ := hrise1 (right1.1 h).2.2.2.2.2.1
              rcases Nat.eq_zero_or_pos i with hi0 | hi0
              · have := hl0 hi0; have := g1.1; omega
              · have := g2 hi0; rw [← hl1 hi0 hi] at this; omega
            by_cases hA2 : 255 < ds[i]
            · simp (maxSteps := 1000000) (disch := omega) only [c41l1, h1, h110, h111, h112, h3, hiI, Int.toNat_natCast, Nat.mul_one, hc, hA1, hA2, go_sem]
              refine wkv_fP hSM fun h => ?_
              obtain ⟨g1, g2⟩ := hrise1 (right1.1 h).2.2.2.2.2.1
              have := g1.2; omega
            simp (maxSteps := 1000000) (disch := omega) only [c41l1, h1, h110, h111, h112, h3, hiI, Int.toNat_natCast, Nat.mul_one, hc, hA1, hA2, hat, lst_len hp, go_sem]
            refine wp_loop (fun j e M' dl => dl = [] ∧ ∃ (n : Nat), j = ps.length - n ∧ n ≤ ps.length ∧ S <+: M' ∧ M'[S.length]? = some (.cells [.i .i64 1, .i .i64 0, xp, .sl bi o v ds.length cap ex, .i .u64 0, .i .u64 0] 0 none true) ∧
              (∀ p ∈ ps.take n, p.sub ≠ ds[i]) ∧
              e.get 1 = .p S.length 0 0 ∧ e.get 110 = .sl bi o v ds.length cap ex ∧ e.get 111 = .i .i64 ds.length ∧ e.get 112 = .i .i64 i ∧ e.get 3 = .i .i64 ds[i] ∧ e.get 5 = .i .i64 ds[i] ∧ e.get 125 = xp ∧ e.get 126 = .i .i64 ps.length ∧ e.get 127 = .i .i64 n) (j := ps.length)
              ⟨rfl, 0, rfl, Nat.zero_le _, hSM, hat, by simp, rfl, rfl, rfl, rfl, rfl, rfl, rfl, rfl, rfl⟩ ?_
            rintro j e M' d' ⟨rfl, n, rfl, hn, hSM', hat', hno, h1, h110, h111, h112, h3, h5, h125, h126, h127⟩
            refine W_sound oRe_ok mixed _ _ _ _ _ ?_
            have hwi : wrapV .i64 ((i : Int) + 1) = ((i + 1 : Nat) : Int) := by rw [wrap_i64 (by omega) (by omega)]; omega
            by_cases hnl : n < ps.length
            · obtain ⟨pi, po, pv, pcap, pex, rfl⟩ := lst_sl hp hnl
              have hrow := lstV_row (lst_ext hp hSM') hnl []
              rw [List.append_nil] at hrow
              have hrow : rowB (M'[pi]?) (po + n * 13) pv 13 = some (polE.enc ps[n]) := hrow
              have hnI : (n : Int) < ps.length := by omega
              have hwn : wrapV .i64 ((n : Int) + 1) = ((n + 1 : Nat) : Int) := by rw [wrap_i64 (by omega) (by omega)]; omega
              have hmem : ps[n] ∈ ps := List.getElem_mem hnl
              have htk := List.take_succ_eq_append_getElem hnl
              generalize hpv : ps[n] = p at hrow hmem htk
              simp only [polE, Pol.enc] at hrow
              by_cases hsub : p.sub = ds[i]
              · simp (maxSteps := 1000000) (disch := omega) only [c41l0, h1, h110, h111, h112, h3, h5, h125, h126, h127, hnI, Int.toNat_natCast, hrow, List.replicate, hsub, go_sem]
                refine wkv_fP (ext_more hSM' _) fun h => ?_
                exact (right1.1 h).2.2.2.2.2.2.1 p hmem (by rw [hsub]; exact List.getElem_mem hil)
              · simp (maxSteps := 1000000) (disch := omega) only [c41l0, h1, h110, h111, h112, h3, h5, h125, h126, h127, hnI, Int.toNat_natCast, hrow, List.replicate, hsub, hwn, go_sem]
                refine ⟨ps.length - (n + 1), by omega, n + 1, rfl, hnl, ext_more hSM' _, at_old hat', fun p' hp' => ?_, rfl⟩
                rw [htk] at hp'
                rcases List.mem_append.1 hp' with hp' | hp'
                · exact hno p' hp'
                · rw [List.mem_singleton.1 hp']; exact hsub
            · have hnI : ¬ (n : Int) < ps.length := by omega
              rw [List.take_of_length_le (by omega)] at hno
              simp (maxSteps := 1000000) (disch := omega) only [c41l0, h1, h110, h111, h112, h3, h5, h125, h126, h127, hnI, hwi, go_sem]
              refine ⟨ds.length - (i + 1), by omega, i + 1, ds[i], rfl, hil, hSM', hat', ?_, ?_, fun h => absurd h (Nat.succ_ne_zero i), fun _ _ => rfl, rfl, rfl⟩
              · intro m hm hmi
                by_cases e : m = i
                · subst e
                  refine ⟨⟨?_, by omega⟩, fun h0 => ?_⟩
                  · rcases Nat.eq_zero_or_pos m with hi0 | hi0
                    · have := hl0 hi0; omega
                    · have g2 := hl1 hi0 hi
                      have g3 := (hrise (m - 1) (by omega) (by omega)).1.1
                      omega
                  · have g2 := hl1 h0 hi; omega
                · exact hrise m hm (by omega)
              · intro p' hp' hmem
                rw [List.take_succ_eq_append_getElem hil] at hmem
                rcases List.mem_append.1 hmem with hm | hm
                · exact hnot p' hp' hm
                · exact hno p' hp' (List.mem_singleton.1 hm)
          · have hiI : ¬ (i : Int) < ds.length := by omega
            obtain rfl : i = ds.length := by omega
            simp (maxSteps := 1000000) (disch := omega) only [c41l1, h1, h110, h111, h112, h3, hiI, hat, lst_len hp, lst_len hd, go_sem]
            rw [List.take_length] at hnot
            have key : Evt.right ⟨1, 0, ps, ds, 0, 0⟩ ↔ 0 < ps.length + ds.length := right1.trans ⟨fun h => h.2.2.2.2.2.2.2, fun h => ⟨rfl, rfl, rfl, hd8, hP, hrise, hnot, h⟩⟩
            exact ⟨fun h1 => wkv_bP hSM (key.trans (by omega)), fun h1 => wkv_tP hSM (key.2 (by omega))⟩
        · simp (maxSteps := 1000000) (disch := omega) only [c41, lst_len hp, lst_len hd, lst_cells hp, lst_cells hd, k1, k2, k3, go_sem]
          exact wkv_f (right0 k1 k2 k3)
      · cases h
    · cases h
  · cases h
end Go.Proofs.YtmdnohpolepcoaaGreat

namespace Go.Proofs.YtmdnohpolepcoaaGreat
open Go.RowKit
set_option linter.unusedSimpArgs false
set_option linter.unusedVariables false
set_option maxRecDepth 10000

def Pol.good (p : Pol) : Prop := i64 p.sub ∧ u84 p.a p.b p.c p.d ∧ i64 p.bits ∧ u64 p.rate ∧ u64 p.burst ∧ u64 p.srate ∧ u64 p.sburst ∧ u64 p.quota ∧ u64 p.lease ∧ u64 p.quantum
instance (p : Pol) : Decidable p.good := by unfold Pol.good; infer_instance
def Ent.good (x : Ent) : Prop := x.pol.good ∧ u64 x.granted
instance (x : Ent) : Decidable x.good := by unfold Ent.good; infer_instance
theorem Pol.good.fits {p : Pol} (h : p.good) : p.fits := h.2.1
def Bk.good (b : Bk) : Prop := u64 b.period ∧ b.entries.length ≤ 1000000 ∧ ∀ x ∈ b.entries, x.good
instance (b : Bk) : Decidable b.good := by unfold Bk.good; infer_instance
theorem Bk.good.fits {b : Bk} (h : b.good) : b.fits := ⟨h.2.1, fun x hx => (h.2.2 x hx).1.fits⟩

/-! ### policy.Nums -/
def Pol.ns (p : Pol) : List Int := [p.sub, num p.a p.b p.c p.d, p.bits, p.rate, p.burst, p.srate, p.sburst, p.quota, p.lease, p.quantum]
def entNs (l : List Ent) : List Int := l.flatMap fun x => x.pol.ns ++ [x.granted]
def Bk.ns (b : Bk) : List Int := b.period :: entNs b.entries
end Go.Proofs.YtmdnohpolepcoaaGreat

namespace Go.Proofs.YtmdnohpolepcoaaGreat
open Go.RowKit
set_option linter.unusedSimpArgs false
set_option linter.unusedVariables false
set_option maxRecDepth 10000

theorem has_ok : SpecOK Tryz.prog 65 inIS := by
  intro args S x S' h
  simp only [inIS] at h
  split at h
  · rename_i s n
    split at h
    · rename_i l hl
      split at h
      · rename_i hf
        cases h
        refine fn_of_wp f65 rfl (W_sound none_ok mixed _ _ _ _ _ ?_)
        simp (maxSteps := 1000000) (disch := omega) only [c65, lst_len hl, go_sem]
        refine wp_loop (fun j e M dl => dl = [] ∧ M = S ∧ ∃ (k : Nat), j = l.length - k ∧ k ≤ l.length ∧ n ∉ l.take k ∧ e.get 1 = .i .i64 n ∧ e.get 7 = s ∧ e.get 8 = .i .i64 l.length ∧ e.get 9 = .i .i64 k) (j := l.length)
          ⟨rfl, rfl, 0, rfl, Nat.zero_le _, by simp, rfl, rfl, rfl, rfl⟩ ?_
        rintro j e M d' ⟨rfl, rfl, k, rfl, hk, hn, h1, h7, h8, h9⟩
        refine W_sound none_ok mixed _ _ _ _ _ ?_
        by_cases hkl : k < l.length
        · obtain ⟨bi, o, v, cap, ex, rfl⟩ := lst_sl hl hkl
          have hc := lstV_cell hl rfl (fun a => rfl) hkl []
          rw [List.append_nil] at hc
          have hkI : (k : Int) < l.length := by omega
          have hw1 : wrapV .i64 ((k : Int) + 1) = ((k + 1 : Nat) : Int) := by rw [wrap_i64 (by omega) (by omega)]; omega
          by_cases he : l[k] = n
          · simp (maxSteps := 1000000) (disch := omega) only [c65l0, h1, h7, h8, h9, hkI, Int.toNat_natCast, Nat.mul_one, hc, he, go_sem]
            exact wkv_tP ext_refl (he ▸ List.getElem_mem hkl)
          · simp (maxSteps := 1000000) (disch := omega) only [c65l0, h1, h7, h8, h9, hkI, Int.toNat_natCast, Nat.mul_one, hc, he, hw1, go_sem]
            refine ⟨l.length - (k + 1), by omega, k + 1, rfl, hkl, ?_, rfl⟩
            rw [List.take_succ_eq_append_getElem hkl]
            intro hm
            rcases List.mem_append.1 hm with hm | hm
            · exact hn hm
            · exact he (List.mem_singleton.1 hm).symm
        · have hkI : ¬ (k : Int) < l.length := by omega
          rw [List.take_of_length_le (by omega)] at hn
          simp (maxSteps := 1000000) (disch := omega) only [c65l0, h1, h7, h8, h9, hkI, go_sem]
          exact wkv_fP ext_refl hn
      · cases h
    · cases h
  · cases h
theorem in_eq {S : Mem} {x : AV} {l : List Int} (hl : lstV (intE .i64) S x = some l) (n : Int) (hn : l.length ≤ 1000000) : inIS [x, .i .i64 n] S = some (.b (decide (n ∈ l)), S) := by
  simp only [inIS, hl, if_pos hn]

def noPol : Pol := ⟨0, 0, 0, 0, 0, 0, 0, 0, 0, 0, 0, 0, 0⟩
def subIsP (n : Int) (p : Pol) : Bool := decide (p.sub = n)
def foundPV (o : Option Pol) : AV := match o with
  | some a => .tu [.ag (polE.enc a), .b true]
  | none => .tu [.ag (polE.enc noPol), .b false]
def putPS : Spec := fun args S => match args with
  | [x, .i .i64 n] => match lstV polE S x with
    | some l => if l.length ≤ 1000000 then some (foundPV (l.find? (subIsP n)), S) else none
    | none => none
  | _ => none
theorem putP_eq {S : Mem} {x : AV} {l : List Pol} (hl : lstV polE S x = some l) (n : Int) (hn : l.length ≤ 1000000) : putPS [x, .i .i64 n] S = some (foundPV (l.find? (subIsP n)), S) := by
  simp only [putPS, hl, if_pos hn]
theorem putP_ok : SpecOK Tryz.prog 64 putPS := by
  intro args S x S' h
  simp only [putPS] at h
  split at h
  · rename_i s n
    split at h
    · rename_i l hl
      split at h
      · rename_i hf
        cases h
        refine fn_of_wp f64 rfl (W_sound none_ok mixed _ _ _ _ _ ?_)
        simp (maxSteps := 1000000) (disch := omega) only [c64, lst_len hl, List.replicate, go_sem]
        refine wp_loop (fun j e M dl => dl = [] ∧ ∃ (k : Nat), j = l.length - k ∧ k ≤ l.length ∧ S <+: M ∧ M[S.length]? = some (.cells (polE.enc noPol) 0 none true) ∧ (∀ i (hi : i < k) (h1 : i < l.length), subIsP n l[i] = false) ∧
          e.get 4 = .p S.length 0 0 ∧ e.get 1 = .i .i64 n ∧ e.get 8 = s ∧ e.get 9 = .i .i64 l.length ∧ e.get 10 = .i .i64 k) (j := l.length) ⟨rfl, 0, rfl, Nat.zero_le _, ext_app _, by rw [at_app0]; rfl, fun i hi => absurd hi (Nat.not_lt_zero _), rfl, rfl, rfl, rfl, rfl⟩ ?_
        rintro j e M d' ⟨rfl, k, rfl, hk, hSM, hat, hn, h4, h1, h8, h9, h10⟩
        refine W_sound none_ok mixed _ _ _ _ _ ?_
        simp only [polE, Pol.enc, noPol] at hat
        have hato := fun L => at_old (L := L) hat
        by_cases hkl : k < l.length
        · obtain ⟨bi, o, v, cap, ex, rfl⟩ := lst_sl hl hkl
          have hrow := lstV_row (lst_ext hl hSM) hkl []
          rw [List.append_nil] at hrow
          have hr : rowB (M[bi]?) (o + k * 13) v 13 = some (polE.enc l[k]) := hrow
          have hkI : (k : Int) < l.length := by omega
          have hw1 : wrapV .i64 ((k : Int) + 1) = ((k + 1 : Nat) : Int) := by rw [wrap_i64 (by omega) (by omega)]; omega
          by_cases he : l[k].sub = n
          · rw [show l.find? (subIsP n) = some l[k] by
              rw [find_of_idx, List.findIdx?_eq_some_iff_getElem.2 ⟨hkl, by simpa [subIsP] using he, fun j hj => by rw [hn j hj (by omega)]; simp⟩]; exact List.getElem?_eq_getElem hkl]
            generalize hpv : l[k] = p at hr he
            simp only [polE, Pol.enc] at hr
            have hS := fun L B => set_old (L := L) (B' := B) hat
            have hfin : (M.set S.length (.cells (polE.enc p) 0 none true))[S.length]? = some (.cells (polE.enc p) 0 none true) := at_set hat
            have hfin := fun L => at_old (L := L) hfin
            simp only [polE, Pol.enc] at hfin
            subst he
            simp (maxSteps := 1000000) (disch := omega) only [c64l0, h4, h1, h8, h9, h10, hkI, Int.toNat_natCast, hr, hw1, List.replicate, eq_self, hato, hS, hfin, go_sem]
            have hfl : (foundPV (some p)).flat S.length := rfl
            exact wkv_dropP (ext_more (ext_set hSM (Nat.le_refl _) _) _) hfl
          · generalize hpv : l[k] = p at hr he
            simp only [polE, Pol.enc] at hr
            simp (maxSteps := 1000000) (disch := omega) only [c64l0, h4, h1, h8, h9, h10, hkI, Int.toNat_natCast, hr, hw1, List.replicate, he, go_sem]
            refine ⟨l.length - (k + 1), by omega, k + 1, rfl, hkl, ext_more hSM _, at_old hat, fun i hi g1 => ?_, rfl⟩
            by_cases hik : i = k
            · subst hik; rw [hpv]; simpa [subIsP] using he
            · exact hn i (by omega) g1
        · have hkI : ¬ (k : Int) < l.length := by omega
          have hself := set_self hat
          simp (maxSteps := 1000000) (disch := omega) only [c64l0, h4, h1, h8, h9, h10, hkI, hat, hself, go_sem]
          rw [show l.find? (subIsP n) = none by
            rw [List.find?_eq_none]
            intro y hy
            obtain ⟨i, hi, rfl⟩ := List.getElem_of_mem hy
            rw [hn i (by omega) hi]; simp]
          exact wkv_dropP hSM rfl
      · cases h
    · cases h
  · cases h
end Go.Proofs.YtmdnohpolepcoaaGreat

namespace Go.Proofs.YtmdnohpolepcoaaGreat
open Go.RowKit
set_option linter.unusedSimpArgs false
set_option linter.unusedVariables false
set_option maxRecDepth 10000

theorem lst_Flat {α : Type} {E : Enc α} {S : Mem} {x : AV} {l : List α} (h : lstV E S x = some l) : AV.Flat S.length x := by
  rcases lstV_lst h with ⟨rfl, _⟩ | ⟨rfl, _⟩ | ⟨i, o, v, len, cap, ex, rfl, _, hr⟩
  · intro g; rw [ren_sn]
  · intro g; rw [ren_se]
  · refine Flat_sl ?_
    unfold rowAt at hr
    split at hr
    · rename_i hB; exact (List.getElem?_eq_some_iff.1 hB).1
    · cases hr
theorem flat_book {n : Nat} {p : Int} {s y : AV} (hs : AV.Flat n s) (hy : AV.Flat n y) : (AV.tu [.ag [.i .u64 p, s], y]).flat n := by
  show ren n _ _ = _
  rw [ren_tu, renL_cons, renL_cons, renL_nil, ren_ag, renL_cons, renL_cons, renL_nil, ren_i, hs, hy]

/-! ### Plain -/
def refOne (old : List Ent) (e : Evt) (id : Int) : Option Ent := if id ∈ e.drops then none else match old.find? (hasSub id), e.puts.find? (subIsP id) with
  | some x, some p => some ⟨p, x.granted⟩
  | some x, none => some x
  | none, some p => some ⟨p, 0⟩
  | none, none => none
def refBad (old : List Ent) (e : Evt) (id : Int) : Prop := id ∈ e.drops ∧ old.find? (hasSub id) = none
instance (old : List Ent) (e : Evt) (id : Int) : Decidable (refBad old e id) := by unfold refBad; infer_instance
def refEnts (old : List Ent) (e : Evt) (k : Nat) : List Ent := (List.range k).filterMap fun i : Nat => refOne old e ((i : Int) + 1)
theorem refEnts_succ (old : List Ent) (e : Evt) (k : Nat) : refEnts old e (k + 1) = refEnts old e k ++ (refOne old e ((k : Int) + 1)).toList := by
  unfold refEnts
  rw [List.range_succ, List.filterMap_append]
  congr 1
  first | done | (simp only [List.filterMap_cons, List.filterMap_nil]; cases refOne old e ((k : Int) + 1) <;> rfl)
theorem refEnts_len (old : List Ent) (e : Evt) (k : Nat) : (refEnts old e k).length ≤ k := by
  unfold refEnts
  have := List.length_filterMap_le (fun i : Nat => refOne old e ((i : Int) + 1)) (List.range k)
  rwa [List.length_range] at this
theorem refOne_fits {old : List Ent} {e : Evt} {id : Int} {x : Ent} (ho : ∀ x ∈ old, x.pol.fits) (hp : ∀ p ∈ e.puts, p.fits) (h : refOne old e id = some x) : x.pol.fits := by
  unfold refOne at h
  split at h
  · cases h
  · split at h
    · rename_i y p h1 h2; cases h; exact hp p (List.mem_of_find?_eq_some h2)
    · rename_i y h1 h2; cases h; exact ho _ (List.mem_of_find?_eq_some h1)
    · rename_i p h1 h2; cases h; exact hp p (List.mem_of_find?_eq_some h2)
    · cases h
theorem refEnts_fits {old : List Ent} {e : Evt} {k : Nat} (ho : ∀ x ∈ old, x.pol.fits) (hp : ∀ p ∈ e.puts, p.fits) : ∀ x ∈ refEnts old e k, x.pol.fits := by
  intro x hx
  unfold refEnts at hx
  obtain ⟨i, _, h⟩ := List.mem_filterMap.1 hx
  exact refOne_fits ho hp h

/-! ### The document's commit -/
noncomputable def rcommitS : Spec := fun args S => match args with
  | [.ag cb, .ag ce] => match bookOf S cb, evtOf S ce with
    | some b, some e => if b.fits ∧ e.fits then
        (if ∃ i : Nat, i < 255 ∧ refBad b.entries e ((i : Int) + 1) then some (.tu [.ag cb, .b false], S)
        else some (.tu [.ag [.i .u64 b.period, retX false S (refEnts b.entries e 255)], .b (decide (Bk.ok ⟨b.period, refEnts b.entries e 255⟩))], retM false entE S (refEnts b.entries e 255)))
      else none
    | _, _ => none
  | _ => none
theorem found_case (o : Option Ent) : ∃ (a : Ent) (ok : Bool), foundV o = .tu [.ag (entE.enc a), .b ok] ∧ ((ok = true ∧ o = some a) ∨ (ok = false ∧ o = none ∧ a = noEnt)) := by
  cases o with
  | none => exact ⟨noEnt, false, rfl, .inr ⟨rfl, rfl, rfl⟩⟩
  | some a => exact ⟨a, true, rfl, .inl ⟨rfl, rfl⟩⟩
theorem foundP_case (o : Option Pol) : ∃ (a : Pol) (ok : Bool), foundPV o = .tu [.ag (polE.enc a), .b ok] ∧ ((ok = true ∧ o = some a) ∨ (ok = false ∧ o = none)) := by
  cases o with
  | none => exact ⟨noPol, false, rfl, .inr ⟨rfl, rfl⟩⟩
  | some a => exact ⟨a, true, rfl, .inl ⟨rfl, rfl⟩⟩
theorem oRc_ok : OK Tryz.prog (lamOf Tryz.prog) (orcOf [(24, findS), (64, putPS), (65, inIS), (5, brightS)]) := orc_ok (by simpa using ⟨rfind_ok, putP_ok, has_ok, rbright_ok⟩)
theorem rcommit_ok : SpecOK Tryz.prog 42 rcommitS := by
  intro args S x S' h
  simp only [rcommitS] at h
  split at h
  · rename_i cb ce
    split at h
    · rename_i b ev hb hev
      split at h
      · rename_i hf
        obtain ⟨hbf, hef⟩ := hf
        obtain ⟨s, rfl, hl⟩ := bookOf_ok hb
        obtain ⟨xp, xd, rfl, hp, hd⟩ := evtOf_ok hev
        obtain ⟨p, l⟩ := b
        obtain ⟨hf1, hf2, hf3⟩ := hef
        simp only at hl h
        have hbl := hbf.1
        simp only at hbl
        refine fn_of_wp f42 rfl (W_sound oRc_ok mixed _ _ _ _ _ ?_)
        simp (maxSteps := 1000000) (disch := omega) only [c42, lst_cells hl, lst_cells hp, lst_cells hd, List.replicate, go_sem]
        obtain ⟨k0, s0, ps, ds, g0, q0⟩ := ev
        simp only at hp hd hf1 hf2 hf3 h
        obtain ⟨S3, hS3⟩ : ∃ S3, S3 = S ++ [Blk.cells [.i .u64 p, s] 0 none true, .cells [.i .i64 k0, .i .i64 s0, xp, xd, .i .u64 g0, .i .u64 q0] 0 none true, .cells [.i .u64 0, .sn] 0 none true] := ⟨_, rfl⟩
        have hS3l : S3.length = S.length + 3 := by rw [hS3]; simp
        have hSS3 : S <+: S3 := by rw [hS3]; exact ext_app _
        have a0 : S3[S.length]? = some (.cells [.i .u64 p, s] 0 none true) := by rw [hS3, at_app0]; rfl
        have a1 : S3[S.length + 1]? = some (.cells [.i .i64 k0, .i .i64 s0, xp, xd, .i .u64 g0, .i .u64 q0] 0 none true) := by rw [hS3, at_app]; rfl
        have a2 : S3[S.length + 2]? = some (.cells [.i .u64 0, .sn] 0 none true) := by rw [hS3, at_app]; rfl
        have hM0 : S ++ [Blk.cells [.i .u64 p, s] 0 none true, .cells [.i .i64 k0, .i .i64 s0, xp, xd, .i .u64 g0, .i .u64 q0] 0 none true, .cells [.i .u64 0, .sn] 0 none true, .cells [.i .u64 p, .sn] 0 none true] = S3 ++ [.cells [.i .u64 p, .sn] 0 none true] := by rw [hS3]; simp
        rw [hM0]
        refine wp_loop (fun j e M dl => dl = [] ∧ ∃ (k : Nat) (y : AV), j = 255 - k ∧ k ≤ 255 ∧ S3 <+: M ∧ M[S.length + 3]? = some (.cells [.i .u64 p, y] 0 none true) ∧ Acc false entE S3 M y (refEnts l ⟨k0, s0, ps, ds, g0, q0⟩ k) ∧ (∀ i : Nat, i < k → ¬ refBad l ⟨k0, s0, ps, ds, g0, q0⟩ ((i : Int) + 1)) ∧
          e.get 2 = .p S.length 0 0 ∧ e.get 3 = .p (S.length + 1) 0 0 ∧ e.get 4 = .p (S.length + 2) 0 0 ∧ e.get 6 = .p (S.length + 3) 0 0 ∧ e.get 7 = .i .i64 ((k : Int) + 1)) (j := 255)
          ⟨rfl, 0, .sn, rfl, by omega, ext_app _, by rw [← hS3l, at_app0]; rfl, acc_nil (ext_app _), fun i hi => absurd hi (Nat.not_lt_zero _), rfl, rfl, rfl, rfl, rfl⟩ ?_
        rintro j e M d' ⟨rfl, k, y, rfl, hk, hSM, hB, hA, hnb, e2, e3, e4, e6, e7⟩
        refine W_sound oRc_ok mixed _ _ _ _ _ ?_
        have b0 := at_pre hSM a0
        have b1 := at_pre hSM a1
        have b2 := at_pre hSM a2
        have hSM0 := hSS3.trans hSM
        have hlM := lst_ext hl hSM0
        by_cases hk2 : k < 255
        · have hkI : (k : Int) + 1 ≤ 255 := by omega
          have hw : wrapV .i64 ((k : Int) + 1 + 1) = ((k + 1 : Nat) : Int) + 1 := by rw [wrap_i64 (by omega) (by omega)]; omega
          have hfi := find_eq (bookOf_mk (p := p) hlM) ((k : Int) + 1) hbl
          obtain ⟨a, ok, hfd, hcase⟩ := found_case (l.find? (hasSub ((k : Int) + 1)))
          rw [show (Bk.mk p l).entries = l from rfl, hfd] at hfi
          obtain ⟨p', okp, hpd, hpcase⟩ := foundP_case (ps.find? (subIsP ((k : Int) + 1)))
          have hpu : ∀ L, putPS [xp, .i .i64 ((k : Int) + 1)] (M ++ L) = some (.tu [.ag (polE.enc p'), .b okp], M ++ L) := fun L => by
            rw [putP_eq (lst_ext hp (ext_more hSM0 L)) _ hf1, hpd]
          have hin : ∀ L, inIS [xd, .i .i64 ((k : Int) + 1)] (M ++ L) = some (.b (decide ((k : Int) + 1 ∈ ds)), M ++ L) := fun L => in_eq (lst_ext hd (ext_more hSM0 L)) _ hf2
          have hlen := refEnts_len l ⟨k0, s0, ps, ds, g0, q0⟩ k
          have hsucc := refEnts_succ l ⟨k0, s0, ps, ds, g0, q0⟩ k
          have b0o := fun L => at_old (L := L) b0
          have b1o := fun L => at_old (L := L) b1
          have b2o := fun L => at_old (L := L) b2
          have hBo := fun L => at_old (L := L) hB
          by_cases hdr : (k : Int) + 1 ∈ ds
          · rw [decide_eq_true hdr] at hin
            rcases hcase with ⟨rfl, hf⟩ | ⟨rfl, hf, rfl⟩
            · have hone : refOne l ⟨k0, s0, ps, ds, g0, q0⟩ ((k : Int) + 1) = none := by unfold refOne; rw [if_pos hdr]
              rw [hone, Option.toList_none, List.append_nil] at hsucc
              simp only [entE, Ent.enc] at hfi
              simp only [polE, Pol.enc] at hpu
              simp (maxSteps := 1000000) (disch := omega) only [c42l0, e2, e3, e4, e6, e7, hkI, b0, b1, orc_cons, hfi, List.replicate, b0o, b1o, hpu, hin, hw, go_sem]
              refine ⟨255 - (k + 1), by omega, k + 1, y, rfl, hk2, ext_more hSM _, hBo _, by rw [hsucc]; exact hA.grow _, fun i hi => ?_, rfl⟩
              by_cases e : i = k
              · subst e; exact fun hb => by rw [hb.2] at hf; cases hf
              · exact hnb i (by omega)
            · rw [if_pos ⟨k, hk2, hdr, hf⟩] at h
              cases h
              simp only [entE, Ent.enc, noEnt] at hfi
              simp only [polE, Pol.enc] at hpu
              have hS := fun L B => set_old (L := L) (B' := B) b2
              have hfin : (M.set (S.length + 2) (.cells [.i .u64 p, s] 0 none true))[S.length + 2]? = some (.cells [.i .u64 p, s] 0 none true) := at_set b2
              have hfin := fun L => at_old (L := L) hfin
              simp (maxSteps := 1000000) (disch := omega) only [c42l0, e2, e3, e4, e6, e7, hkI, b0, b1, orc_cons, hfi, List.replicate, b0o, b1o, b2o, hpu, hin, hw, lst_one hl, hS, hfin, go_sem]
              exact wkv_dropP (ext_more (ext_set hSM0 (by omega) _) _) (flat_book (lst_Flat hl) Flat_b)
          · rw [decide_eq_false hdr] at hin
            have hnb' : ∀ i : Nat, i < k + 1 → ¬ refBad l ⟨k0, s0, ps, ds, g0, q0⟩ ((i : Int) + 1) := fun i hi => by
              by_cases e : i = k
              · subst e; exact fun hb => hdr hb.1
              · exact hnb i (by omega)
            have step : ∀ (x : Ent) (L : Mem), refOne l ⟨k0, s0, ps, ds, g0, q0⟩ ((k : Int) + 1) = some x → ∃ y' M', appV (M ++ L) 14 88 y (entE.enc x) 1 = some (y', M') ∧ y'.cells = some [y'] ∧ y'.one = true ∧ M'[S.length + 3]? = some (.cells [.i .u64 p, y] 0 none true) ∧
                S3 <+: M'.set (S.length + 3) (.cells [.i .u64 p, y'] 0 none true) ∧ (M'.set (S.length + 3) (.cells [.i .u64 p, y'] 0 none true))[S.length + 3]? = some (.cells [.i .u64 p, y'] 0 none true) ∧
                Acc false entE S3 (M'.set (S.length + 3) (.cells [.i .u64 p, y'] 0 none true)) y' (refEnts l ⟨k0, s0, ps, ds, g0, q0⟩ (k + 1)) := fun x L hx => by
              obtain ⟨y', M', ha, hA', hkeep⟩ := (hA.grow L).app' (bytes := 88) entE_one x (by omega) (by omega)
              have hB' := hkeep _ _ (hBo L) rfl
              refine ⟨y', M', ha, lst_cells hA'.lst, lst_one hA'.lst, hB', ext_set hA'.ext (by omega) _, at_set hB', ?_⟩
              rw [hsucc, hx]
              exact hA'.setB (by omega) hB' rfl _
            rcases hpcase with ⟨rfl, hpf⟩ | ⟨rfl, hpf⟩
            · have hone : refOne l ⟨k0, s0, ps, ds, g0, q0⟩ ((k : Int) + 1) = some ⟨p', a.granted⟩ := by
                unfold refOne; rw [if_neg hdr, hpf]
                rcases hcase with ⟨_, hf⟩ | ⟨_, hf, rfl⟩
                · rw [hf]
                · rw [hf]; rfl
              obtain ⟨y', M', ha, hyc, hyo, hB', x1, x2, x3⟩ := step ⟨p', a.granted⟩ [.cells (entE.enc ⟨p', a.granted⟩) 0 none true, .cells (polE.enc p') 0 none true, .cells (entE.enc ⟨p', a.granted⟩) 0 none true] hone
              simp only [entE, Ent.enc, polE, Pol.enc] at ha
              simp only [entE, Ent.enc] at hfi
              simp only [polE, Pol.enc] at hpu
              cases ok with
              | true =>
                simp (maxSteps := 1000000) (disch := omega) only [c42l0, e2, e3, e4, e6, e7, hkI, b0, b1, orc_cons, hfi, List.replicate, b0o, b1o, hpu, hin, hw, hBo, ha, hB', hyc, hyo, List.take_zero, List.drop_succ_cons, List.drop_zero, List.nil_append, List.cons_append, go_sem]
                exact ⟨255 - (k + 1), by omega, k + 1, y', rfl, hk2, x1, x2, x3, hnb', rfl⟩
              | false =>
                simp (maxSteps := 1000000) (disch := omega) only [c42l0, e2, e3, e4, e6, e7, hkI, b0, b1, orc_cons, hfi, List.replicate, b0o, b1o, hpu, hin, hw, hBo, ha, hB', hyc, hyo, List.take_zero, List.drop_succ_cons, List.drop_zero, List.nil_append, List.cons_append, go_sem]
                exact ⟨255 - (k + 1), by omega, k + 1, y', rfl, hk2, x1, x2, x3, hnb', rfl⟩
            · rcases hcase with ⟨rfl, hf⟩ | ⟨rfl, hf, rfl⟩
              · have hone : refOne l ⟨k0, s0, ps, ds, g0, q0⟩ ((k : Int) + 1) = some a := by
                  unfold refOne; rw [if_neg hdr, hpf, hf]
                obtain ⟨y', M', ha, hyc, hyo, hB', x1, x2, x3⟩ := step a [.cells (entE.enc a) 0 none true, .cells (polE.enc p') 0 none true, .cells (entE.enc a) 0 none true] hone
                simp only [entE, Ent.enc, polE, Pol.enc] at ha
                simp only [entE, Ent.enc] at hfi
                simp only [polE, Pol.enc] at hpu
                simp (maxSteps := 1000000) (disch := omega) only [c42l0, e2, e3, e4, e6, e7, hkI, b0, b1, orc_cons, hfi, List.replicate, b0o, b1o, hpu, hin, hw, hBo, ha, hB', hyc, hyo, List.take_zero, List.drop_succ_cons, List.drop_zero, List.nil_append, List.cons_append, go_sem]
                exact ⟨255 - (k + 1), by omega, k + 1, y', rfl, hk2, x1, x2, x3, hnb', rfl⟩
              · have hone : refOne l ⟨k0, s0, ps, ds, g0, q0⟩ ((k : Int) + 1) = none := by
                  unfold refOne; rw [if_neg hdr, hpf, hf]
                rw [hone, Option.toList_none, List.append_nil] at hsucc
                simp only [entE, Ent.enc, noEnt] at hfi
                simp only [polE, Pol.enc] at hpu
                simp (maxSteps := 1000000) (disch := omega) only [c42l0, e2, e3, e4, e6, e7, hkI, b0, b1, orc_cons, hfi, List.replicate, b0o, b1o, hpu, hin, hw, go_sem]
                exact ⟨255 - (k + 1), by omega, k + 1, y, rfl, hk2, ext_more hSM _, hBo _, by rw [hsucc]; exact hA.grow _, hnb', rfl⟩
        · have hkI : ¬ (k : Int) + 1 ≤ 255 := by omega
          obtain rfl : k = 255 := by omega
          rw [if_neg (by rintro ⟨i, hi, hb⟩; exact hnb i hi hb)] at h
          cases h
          have hfit : Bk.fits ⟨p, refEnts l ⟨k0, s0, ps, ds, g0, q0⟩ 255⟩ := ⟨by have := refEnts_len l ⟨k0, s0, ps, ds, g0, q0⟩ 255; simp only; omega, refEnts_fits hbf.2 hf3⟩
          have hbr := bright_eq (bookOf_mk (p := p) hA.lst) hfit
          have hatset := fun B => at_set (B' := B) b2
          simp (maxSteps := 1000000) (disch := omega) only [c42l0, e2, e3, e4, e6, e7, hkI, hB, orc_cons, hbr, b2, lst_one hA.lst, hatset, go_sem]
          exact ((hA.base hSS3).setB (by omega) b2 rfl _).retB entE_flat Flat_i Flat_b
      · cases h
    · cases h
  · cases h
end Go.Proofs.YtmdnohpolepcoaaGreat

namespace Go.Proofs.YtmdnohpolepcoaaGreat
open Go.RowKit
set_option linter.unusedSimpArgs false
set_option linter.unusedVariables false
set_option maxRecDepth 10000

/-- Behind a lease, or a new period. -/
def Bk.turn (b : Bk) (e : Evt) : Option Bk :=
  if e.kind = 2 then (leased b.entries e.sub e.granted).map fun l => ⟨b.period, l⟩
  else if e.period = b.period + 1 then some ⟨e.period, b.entries.map (·.grant 0)⟩ else none
noncomputable def Bk.turned (b : Bk) (e : Evt) : Option Bk := if b.ok ∧ e.right then Bk.fin (b.turn e) else none
def nzB : List AV → Bool
  | [_, x] => nz x
  | _ => false
noncomputable def turnS : Spec := fun args S => match args with
  | [.ag cb, .ag ce] => match bookOf S cb, evtOf S ce with
    | some b, some e => if b.fits ∧ e.fits ∧ ¬ (b.ok ∧ e.right ∧ e.kind = 1) then match b.turned e with
        | some b' => some (bookR (nzB cb) S b' 0)
        | none => some (bookR (nzB cb) S b 131)
      else none
    | _, _ => none
  | _ => none
theorem leased_some {l l' : List Ent} {s g : Int} (h : leased l s g = some l') : ∃ (k : Nat) (hk : k < l.length), l' = l.set k (l[k].grant g) ∧ l.findIdx? (hasSub s) = some k ∧ l[k].granted ≤ g ∧ g ≤ l[k].pol.quota := by
  unfold leased at h
  split at h
  · rename_i k hi
    obtain ⟨hk, _, _⟩ := List.findIdx?_eq_some_iff_getElem.1 hi
    rw [List.getElem?_eq_getElem hk] at h
    simp only at h
    split at h
    · rename_i hc; injection h with h; exact ⟨k, hk, h.symm, hi, hc⟩
    · cases h
  · cases h
theorem leased_len {l l' : List Ent} {s g : Int} (h : leased l s g = some l') : l.length = l'.length := by
  obtain ⟨k, hk, rfl, _⟩ := leased_some h
  rw [List.length_set]
theorem leased_fits {l l' : List Ent} {s g : Int} (h : leased l s g = some l') (hf : ∀ x ∈ l, x.pol.fits) : ∀ x ∈ l', x.pol.fits := by
  obtain ⟨k, hk, rfl, _⟩ := leased_some h
  intro x hx
  rcases List.mem_or_eq_of_mem_set hx with hx | rfl
  · exact hf x hx
  · exact hf l[k] (List.getElem_mem hk)
def zeroTo (l : List Ent) (k : Nat) : List Ent := (l.take k).map (·.grant 0) ++ l.drop k
theorem zeroTo_len (l : List Ent) (k : Nat) : (zeroTo l k).length = l.length := by
  unfold zeroTo; rw [List.length_append, List.length_map, List.length_take, List.length_drop]; omega
theorem zeroTo_at (l : List Ent) {k : Nat} (h : k < l.length) : (zeroTo l k)[k]'(by rw [zeroTo_len]; exact h) = l[k] := by
  unfold zeroTo
  rw [List.getElem_append_right (by rw [List.length_map, List.length_take]; omega), List.getElem_drop]
  congr 1; rw [List.length_map, List.length_take]; omega
theorem zeroTo_succ (l : List Ent) {k : Nat} (h : k < l.length) : (zeroTo l k).set k (l[k].grant 0) = zeroTo l (k + 1) := by
  unfold zeroTo
  rw [List.set_append_right _ _ (by rw [List.length_map, List.length_take]; omega), List.length_map, List.length_take, show k - min k l.length = 0 by omega, List.drop_eq_getElem_cons h, List.set_cons_zero, List.take_succ_eq_append_getElem h, List.map_append, List.append_assoc]
  rfl
theorem zeroTo_all (l : List Ent) : zeroTo l l.length = l.map (·.grant 0) := by
  unfold zeroTo; rw [List.take_length, List.drop_length, List.append_nil]
theorem oAp_ok : OK Tryz.prog (lamOf Tryz.prog) (orcOf [(35, cloneES), (36, brightS), (37, erightS), (39, leaseS)]) := orc_ok (by simpa using ⟨cloneE_ok, bright_ok, eright_ok, lease_ok⟩)
theorem turn_ok : SpecOK Tryz.prog 21 turnS := by
  intro args S x S' h
  simp only [turnS] at h
  split at h
  · rename_i cb ce
    split at h
    · rename_i b ev hb hev
      split at h
      · rename_i hf
        obtain ⟨hbf, hef, hk1⟩ := hf
        obtain ⟨s, rfl, hl⟩ := bookOf_ok hb
        obtain ⟨xp, xd, rfl, hp, hd⟩ := evtOf_ok hev
        obtain ⟨p, l⟩ := b
        obtain ⟨k, sub, ps, ds, g, q⟩ := ev
        simp only at hp hd hl
        have b1 := fun L => bright_eq (bookOf_mk (p := p) (lstV_grow hl L)) hbf
        have e1 := fun L => eright_eq (evtOf_mk (k := k) (s := sub) (g := g) (p := q) (lstV_grow hp L) (lstV_grow hd L)) hef
        have c1 := fun L => cloneE_eq (lstV_grow hl L) hbf.1
        refine fn_of_wp f21 rfl (W_sound oAp_ok mixed _ _ _ _ _ ?_)
        by_cases hne : l = []
        · subst hne
          have fit0 : ∀ q, Bk.fits ⟨q, []⟩ := fun q => ⟨by simp, fun x hx => by cases hx⟩
          cases hz : nz s with
          | false =>
            have c1 : ∀ L, cloneES [s] (S ++ L) = some (.sn, S ++ L) := fun L => by rw [c1 L, hz]; rfl
            have b2 : ∀ (q : Int) (L : Mem), brightS [.ag [.i .u64 q, .sn]] (S ++ L) = some (.b (decide (Bk.ok ⟨q, []⟩)), S ++ L) := fun q L => bright_eq (bookOf_mk rfl) (fit0 q)
            have l1 : ∀ L, leaseS [.sn, .ag [.i .i64 k, .i .i64 sub, xp, xd, .i .u64 g, .i .u64 q]] (S ++ L) = some (.tu [.sn, .b false], S ++ L) := fun L => by
              simp only [leaseS, evtOf_mk (k := k) (s := sub) (g := g) (p := q) (lstV_grow hp L) (lstV_grow hd L), show lstV entE (S ++ L) .sn = some [] from rfl]; rfl
            simp (maxSteps := 1000000) (disch := omega) only [c21, orc_cons, lst_cells hl, c1, b1, b2, e1, l1, go_sem]
            have hzB : nzB [AV.i .u64 p, s] = false := hz
            rw [show nzB [AV.i .u64 (Bk.mk p []).period, s] = false from hz] at h
            refine ⟨fun hok => ⟨fun hr => ?_, fun hr => ⟨fun k1 => absurd ⟨Decidable.not_not.1 hok, Decidable.not_not.1 hr, k1⟩ hk1, fun _ => ⟨fun k2 => ?_, fun k2 => ⟨fun k3 => ?_, fun k3 => ?_⟩⟩⟩⟩, fun hok => ?_⟩
            · rw [show Bk.turned ⟨p, []⟩ ⟨k, sub, ps, ds, g, q⟩ = none by unfold Bk.turned; rw [if_neg fun z => hr z.2]] at h
              cases h
              exact wkv_drop rfl
            · rw [show Bk.turned ⟨p, []⟩ ⟨k, sub, ps, ds, g, q⟩ = none by unfold Bk.turned Bk.turn; rw [if_pos ⟨Decidable.not_not.1 hok, Decidable.not_not.1 hr⟩, if_pos k2]; rfl] at h
              cases h
              exact wkv_drop rfl
            · have ht : Bk.turned ⟨p, []⟩ ⟨k, sub, ps, ds, g, q⟩ = Bk.fin (if q = p + 1 then some ⟨q, []⟩ else none) := by
                unfold Bk.turned Bk.turn; rw [if_pos ⟨Decidable.not_not.1 hok, Decidable.not_not.1 hr⟩, if_neg k2]; rfl
              rw [ht] at h
              have hp48 := Decidable.not_not.1 hok
              have hw : wrapV .u64 (p + 1) = p + 1 := wrap_u64 (by have := hp48.1; simp only at this; omega) (by have := hp48.2.1; simp only at this; omega)
              rw [hw]
              refine wp_unroll oAp_ok mixed 1 ?_
              simp (maxSteps := 1000000) (disch := omega) only [c21l2, LW_succ, orc_cons, b2, go_sem]
              refine ⟨fun hq => ?_, fun hq => ?_⟩
              · rw [if_pos (Decidable.not_not.1 hq)] at h
                refine ⟨fun h1 => ?_, fun h1 => ?_⟩
                · simp only [Bk.fin, if_neg h1] at h
                  cases h
                  exact wkv_drop rfl
                · simp only [Bk.fin, if_pos (Decidable.not_not.1 h1)] at h
                  cases h
                  exact wkv_drop rfl
              · rw [if_neg hq] at h
                cases h
                exact wkv_drop rfl
            · exfalso
              rcases Decidable.not_not.1 hr with z | z | z
              · exact absurd z.1 (by assumption)
              · exact k2 z.1
              · exact k3 z.1
            · rw [show Bk.turned ⟨p, []⟩ ⟨k, sub, ps, ds, g, q⟩ = none by unfold Bk.turned; rw [if_neg fun z => hok z.1]] at h
              cases h
              exact wkv_drop rfl
          | true =>
            have c1 : ∀ L, cloneES [s] (S ++ L) = some (.sl (S ++ L).length 0 0 0 0 true, (S ++ L) ++ [.cells [] 0 none true]) := fun L => by rw [c1 L, hz]; rfl
            have b2 : ∀ (q : Int) (A B C D E G : Blk), brightS [.ag [.i .u64 q, .sl (S.length + 5) 0 0 0 0 true]] (S ++ [A, B, C, D, E, .cells [] 0 none true, G]) = some (.b (decide (Bk.ok ⟨q, []⟩)), S ++ [A, B, C, D, E, .cells [] 0 none true, G]) := fun q A B C D E G => bright_eq (bookOf_mk (own_lst (ownV_mk (l := []) (by rw [at_app]; rfl)))) (fit0 q)
            have l1 : ∀ A B C D E G, leaseS [.sl (S.length + 5) 0 0 0 0 true, .ag [.i .i64 k, .i .i64 sub, xp, xd, .i .u64 g, .i .u64 q]] (S ++ [A, B, C, D, E, .cells [] 0 none true, G]) = some (.tu [.sn, .b false], S ++ [A, B, C, D, E, .cells [] 0 none true, G]) := fun A B C D E G => by
              have h1 := own_lst (ownV_mk (E := entE) (S := S ++ [A, B, C, D, E, .cells [] 0 none true, G]) (l := []) (b := S.length + 5) (v := 0) (ex := true) (op := none) (by rw [at_app]; rfl))
              simp only [List.length_nil] at h1
              simp only [leaseS, evtOf_mk (k := k) (s := sub) (g := g) (p := q) (lstV_grow hp _) (lstV_grow hd _), h1]; rfl
            simp (maxSteps := 1000000) (disch := omega) only [c21, orc_cons, lst_cells hl, c1, b1, b2, e1, l1, go_sem]
            rw [show nzB [AV.i .u64 (Bk.mk p []).period, s] = true from hz] at h
            refine ⟨fun hok => ⟨fun hr => ?_, fun hr => ⟨fun k1 => absurd ⟨Decidable.not_not.1 hok, Decidable.not_not.1 hr, k1⟩ hk1, fun _ => ⟨fun k2 => ?_, fun k2 => ⟨fun k3 => ?_, fun k3 => ?_⟩⟩⟩⟩, fun hok => ?_⟩
            · rw [show Bk.turned ⟨p, []⟩ ⟨k, sub, ps, ds, g, q⟩ = none by unfold Bk.turned; rw [if_neg fun z => hr z.2]] at h
              cases h
              exact Acc.retB entE_flat ⟨_, rfl, .inr (.inl ⟨rfl, rfl, 3, rfl, rfl⟩)⟩ Flat_i Flat_i
            · rw [show Bk.turned ⟨p, []⟩ ⟨k, sub, ps, ds, g, q⟩ = none by unfold Bk.turned Bk.turn; rw [if_pos ⟨Decidable.not_not.1 hok, Decidable.not_not.1 hr⟩, if_pos k2]; rfl] at h
              cases h
              exact Acc.retB entE_flat ⟨_, rfl, .inr (.inl ⟨rfl, rfl, 3, rfl, rfl⟩)⟩ Flat_i Flat_i
            · have ht : Bk.turned ⟨p, []⟩ ⟨k, sub, ps, ds, g, q⟩ = Bk.fin (if q = p + 1 then some ⟨q, []⟩ else none) := by
                unfold Bk.turned Bk.turn; rw [if_pos ⟨Decidable.not_not.1 hok, Decidable.not_not.1 hr⟩, if_neg k2]; rfl
              rw [ht] at h
              have hp48 := Decidable.not_not.1 hok
              have hw : wrapV .u64 (p + 1) = p + 1 := wrap_u64 (by have := hp48.1; simp only at this; omega) (by have := hp48.2.1; simp only at this; omega)
              rw [hw]
              refine wp_unroll oAp_ok mixed 1 ?_
              simp (maxSteps := 1000000) (disch := omega) only [c21l2, LW_succ, orc_cons, b2, go_sem]
              refine ⟨fun hq => ?_, fun hq => ?_⟩
              · rw [if_pos (Decidable.not_not.1 hq)] at h
                refine ⟨fun h1 => ?_, fun h1 => ?_⟩
                · simp only [Bk.fin, if_neg h1] at h
                  cases h
                  exact Acc.retB entE_flat ⟨_, rfl, .inr (.inl ⟨rfl, rfl, 3, rfl, rfl⟩)⟩ Flat_i Flat_i
                · simp only [Bk.fin, if_pos (Decidable.not_not.1 h1)] at h
                  cases h
                  exact Acc.retB entE_flat ⟨_, rfl, .inr (.inl ⟨rfl, rfl, 5, rfl, rfl⟩)⟩ Flat_i Flat_i
              · rw [if_neg hq] at h
                cases h
                exact Acc.retB entE_flat ⟨_, rfl, .inr (.inl ⟨rfl, rfl, 3, rfl, rfl⟩)⟩ Flat_i Flat_i
            · exfalso
              rcases Decidable.not_not.1 hr with z | z | z
              · exact absurd z.1 (by assumption)
              · exact k2 z.1
              · exact k3 z.1
            · rw [show Bk.turned ⟨p, []⟩ ⟨k, sub, ps, ds, g, q⟩ = none by unfold Bk.turned; rw [if_neg fun z => hok z.1]] at h
              cases h
              exact Acc.retB entE_flat ⟨_, rfl, .inr (.inl ⟨rfl, rfl, 3, rfl, rfl⟩)⟩ Flat_i Flat_i
        · obtain ⟨i, o, v, cap, ex, rfl⟩ := lst_sl hl (List.length_pos_iff.2 hne)
          have c1 : ∀ L, cloneES [.sl i o v l.length cap ex] (S ++ L) = some (.sl (S ++ L).length 0 0 l.length l.length false, (S ++ L) ++ [.cells (l.flatMap entE.enc) 0 (some 14) true]) := fun L => by
            rw [c1 L, retX_ne hne, retM_ne hne]; rfl
          simp (maxSteps := 1000000) (disch := omega) only [c21, orc_cons, lst_cells hl, c1, b1, e1, go_sem]
          have own : ∀ (A : Mem) (err : Int), WkV S (bookR (nzB [AV.i .u64 p, AV.sl i o v l.length cap ex]) S ⟨p, l⟩ err).1 (bookR (nzB [AV.i .u64 p, AV.sl i o v l.length cap ex]) S ⟨p, l⟩ err).2 (.tu [.ag [.i .u64 p, .sl (S.length + 3) 0 0 l.length l.length false], .i .i64 err])
            (S ++ (.cells [.i .u64 p, .sl i o v l.length cap ex] 0 none true :: .cells [.i .i64 k, .i .i64 sub, xp, xd, .i .u64 g, .i .u64 q] 0 none true :: .cells [.i .u64 p, .sl (S.length + 3) 0 0 l.length l.length false] 0 none true :: .cells (l.flatMap entE.enc) 0 (some 14) true :: A)) := fun A err =>
            Acc.retB entE_flat ⟨_, rfl, .inr (.inr ⟨hne, 3, 0, rfl, rfl⟩)⟩ Flat_i Flat_i
          refine ⟨fun hok => ⟨fun hr => ?_, fun hr => ⟨fun k1 => absurd ⟨Decidable.not_not.1 hok, Decidable.not_not.1 hr, k1⟩ hk1, fun _ => ⟨fun k2 => ?_, fun k2 => ⟨fun k3 => ?_, fun k3 => ?_⟩⟩⟩⟩, fun hok => ?_⟩
          · rw [show Bk.turned ⟨p, l⟩ ⟨k, sub, ps, ds, g, q⟩ = none by unfold Bk.turned; rw [if_neg fun z => hr z.2]] at h
            cases h
            exact own _ _
          · have ht : Bk.turned ⟨p, l⟩ ⟨k, sub, ps, ds, g, q⟩ = Bk.fin ((leased l sub g).map fun l => ⟨p, l⟩) := by
              unfold Bk.turned Bk.turn; rw [if_pos ⟨Decidable.not_not.1 hok, Decidable.not_not.1 hr⟩, if_pos k2]
            rw [ht] at h
            have ho : ∀ T : Mem, T[5]? = some (.cells (l.flatMap entE.enc) 0 (some 14) true) → ownV entE (S ++ T) (.sl (S.length + 5) 0 0 l.length l.length false) = some l := fun T hT => ownV_mk (by rw [at_app]; exact hT)
            rw [lease_eq (l := l) (e := ⟨k, sub, ps, ds, g, q⟩)]
            rotate_left
            · exact own_lst (ho _ rfl)
            · exact evtOf_mk (lstV_grow hp _) (lstV_grow hd _)
            · exact hbf.1
            · exact ho _ rfl
            cases hle : leased l sub g with
            | none =>
              rw [hle] at h
              cases h
              simp (maxSteps := 1000000) (disch := omega) only [go_sem]
              exact own _ _
            | some l' =>
              rw [hle] at h
              have hlen := leased_len hle
              simp only
              rw [setOwn_eq (v' := 0) (op := some 14) (r := true) (cs := l.flatMap entE.enc)]
              rotate_left
              · rw [at_app]; rfl
              simp (maxSteps := 1000000) (disch := omega) only [orc_cons, go_sem]
              rw [bright_eq (b := ⟨p, l'⟩)]
              rotate_left
              · refine bookOf_mk (l := l') ?_
                rw [hlen]
                exact own_lst (ownV_mk (by rw [at_app]; rfl))
              · exact ⟨by rw [← hlen]; exact hbf.1, leased_fits hle hbf.2⟩
              simp (maxSteps := 1000000) (disch := omega) only [go_sem]
              refine ⟨fun h1 => ?_, fun h1 => ?_⟩
              · simp only [Option.map_some, Bk.fin, if_neg h1] at h
                cases h
                exact own _ _
              · simp only [Option.map_some, Bk.fin, if_pos (Decidable.not_not.1 h1)] at h
                cases h
                exact Acc.retB entE_flat ⟨_, rfl, .inr (.inr ⟨fun q => hne (List.eq_nil_of_length_eq_zero (by have q : l' = [] := q; rw [hlen, q]; rfl)), 5, 0, by rw [hlen], rfl⟩)⟩ Flat_i Flat_i
          · have ht : Bk.turned ⟨p, l⟩ ⟨k, sub, ps, ds, g, q⟩ = Bk.fin (if q = p + 1 then some ⟨q, l.map (·.grant 0)⟩ else none) := by
              unfold Bk.turned Bk.turn; rw [if_pos ⟨Decidable.not_not.1 hok, Decidable.not_not.1 hr⟩, if_neg k2]
            rw [ht] at h
            have hp48 := Decidable.not_not.1 hok
            have hw : wrapV .u64 (p + 1) = p + 1 := wrap_u64 (by have := hp48.1; simp only at this; omega) (by have := hp48.2.1; simp only at this; omega)
            rw [hw]
            refine wp_loop (fun j e M dl => dl = [] ∧ ∃ n : Nat, j = l.length - n ∧ n ≤ l.length ∧
              M = S ++ [.cells [.i .u64 p, .sl i o v l.length cap ex] 0 none true, .cells [.i .i64 k, .i .i64 sub, xp, xd, .i .u64 g, .i .u64 q] 0 none true, .cells [.i .u64 0, .sn] 0 none true, .cells (l.flatMap entE.enc) 0 (some 14) true, .cells [.i .u64 p, .sl (S.length + 3) 0 0 l.length l.length false] 0 none true, .cells ((zeroTo l n).flatMap entE.enc) 0 (some 14) true, .cells [.i .u64 q, .sl (S.length + 5) 0 0 l.length l.length false] 0 none true] ∧
              e.get 7 = .p (S.length + 6) 0 0 ∧ e.get 4 = .p (S.length + 2) 0 0 ∧ e.get 6 = .p (S.length + 4) 0 0 ∧ e.get 8 = .b (decide (q = p + 1)) ∧ e.get 66 = .i .i64 l.length ∧ e.get 67 = .i .i64 n) (j := l.length) ⟨rfl, 0, rfl, Nat.zero_le _, rfl, rfl, rfl, rfl, rfl, rfl, rfl⟩ ?_
            rintro j e M d' ⟨rfl, n, rfl, hn, rfl, h7, h4, h6, h8, h66, h67⟩
            refine W_sound oAp_ok mixed _ _ _ _ _ ?_
            have hz := zeroTo_len l n
            by_cases hnl : n < l.length
            · have hnI : (n : Int) < l.length := by omega
              have hw1 : wrapV .i64 ((n : Int) + 1) = ((n + 1 : Nat) : Int) := by have := hbf.1; simp only at this; rw [wrap_i64 (by omega) (by omega)]; omega
              have hsp := splice_at (E := entE) (zeroTo l n) (show n < (zeroTo l n).length by omega) (l[n].grant 0) (f := 13) (ys := [.i .u64 0]) (by simp [entE]) (by rw [zeroTo_at l hnl]; rfl)
              rw [zeroTo_succ l hnl] at hsp
              have hsp : ((zeroTo l n).flatMap entE.enc).take (n * 14 + 13) ++ AV.i .u64 0 :: ((zeroTo l n).flatMap entE.enc).drop (n * 14 + 13 + 1) = (zeroTo l (n + 1)).flatMap entE.enc := hsp
              have hle : n * 14 + 13 + 1 ≤ ((zeroTo l n).flatMap entE.enc).length := by rw [enc_length]; show n * 14 + 13 + 1 ≤ (zeroTo l n).length * 14; omega
              simp (maxSteps := 1000000) (disch := omega) only [c21l2, h7, h4, h6, h8, h66, h67, hnI, Int.toNat_natCast, hw1, hsp, hle, go_sem]
              exact ⟨l.length - (n + 1), by omega, n + 1, rfl, by omega, rfl, rfl⟩
            · have hnI : ¬ (n : Int) < l.length := by omega
              obtain rfl : n = l.length := by omega
              simp (maxSteps := 1000000) (disch := omega) only [c21l2, h7, h4, h6, h8, h66, h67, hnI, orc_cons, zeroTo_all, go_sem]
              refine ⟨fun hq => ?_, fun hq => ?_⟩
              · have hq := Decidable.not_not.1 hq
                rw [if_pos hq] at h
                rw [bright_eq (b := ⟨q, l.map (·.grant 0)⟩)]
                rotate_left
                · refine bookOf_mk (l := l.map (·.grant 0)) ?_
                  rw [show l.length = (l.map (·.grant 0)).length by simp]
                  exact own_lst (ownV_mk (by rw [at_app]; rfl))
                · exact ⟨by simpa using hbf.1, fun x hx => by obtain ⟨y, hy, rfl⟩ := List.mem_map.1 hx; exact hbf.2 y hy⟩
                simp (maxSteps := 1000000) (disch := omega) only [go_sem]
                refine ⟨fun h1 => ?_, fun h1 => ?_⟩
                · simp only [Bk.fin, if_neg h1] at h
                  cases h
                  exact own _ _
                · simp only [Bk.fin, if_pos (Decidable.not_not.1 h1)] at h
                  cases h
                  exact Acc.retB entE_flat ⟨_, rfl, .inr (.inr ⟨by simpa using hne, 5, 0, by rw [List.length_map], rfl⟩)⟩ Flat_i Flat_i
              · rw [if_neg hq] at h
                cases h
                exact own _ _
          · exfalso
            rcases Decidable.not_not.1 hr with z | z | z
            · exact absurd z.1 (by assumption)
            · exact k2 z.1
            · exact k3 z.1
          · rw [show Bk.turned ⟨p, l⟩ ⟨k, sub, ps, ds, g, q⟩ = none by unfold Bk.turned; rw [if_neg fun z => hok z.1]] at h
            cases h
            exact own _ _
      · cases h
    · cases h
  · cases h
end Go.Proofs.YtmdnohpolepcoaaGreat

namespace Go.Proofs.YtmdnohpolepcoaaGreat
open Go.RowKit
set_option linter.unusedSimpArgs false
set_option linter.unusedVariables false
set_option maxRecDepth 10000

theorem acc_cases {α : Type} {E : Enc α} {S M : Mem} {x : AV} {l : List α} (h : Acc true E S M x l) : (l = [] ∧ ∃ b, S.length ≤ b ∧ x = .sl b 0 0 0 0 true ∧ M[b]? = some (.cells [] 0 none true)) ∨ (l ≠ [] ∧ ∃ b v, S.length ≤ b ∧ x = .sl b 0 v l.length l.length false ∧ M[b]? = some (.cells (l.flatMap E.enc) v (some E.sz) true)) := by
  obtain ⟨T, rfl, ⟨_, hz, _⟩ | ⟨h0, _, p, rfl, hp⟩ | ⟨h0, p, v, rfl, hp⟩⟩ := h
  · cases hz
  · exact .inl ⟨h0, _, Nat.le_add_right _ _, rfl, by rw [at_app]; exact hp⟩
  · exact .inr ⟨h0, _, _, Nat.le_add_right _ _, rfl, by rw [at_app]; exact hp⟩
theorem acc_mk {α : Type} {E : Enc α} {S M : Mem} {l : List α} {z : Bool} {b v : Nat} (hS : S <+: M) (hb : S.length ≤ b) (hne : l ≠ []) (hB : M[b]? = some (.cells (l.flatMap E.enc) v (some E.sz) true)) : Acc z E S M (.sl b 0 v l.length l.length false) l := by
  obtain ⟨q, rfl⟩ : ∃ q, b = S.length + q := ⟨b - S.length, by omega⟩
  obtain ⟨T, rfl⟩ := hS
  rw [at_app] at hB
  exact ⟨T, rfl, .inr (.inr ⟨hne, q, v, rfl, hB⟩)⟩
theorem Acc.setC {α : Type} {E : Enc α} {S M : Mem} {z : Bool} {x : AV} {l : List α} (h : Acc z E S M x l) {ib : Nat} (hS : S.length ≤ ib) {B : Blk} (hB : M[ib]? = some B) (hn : B.opn = none) (hc : B ≠ .cells [] 0 none true) (B' : Blk) : Acc z E S (M.set ib B') x l := by
  obtain ⟨q, rfl⟩ : ∃ q, ib = S.length + q := ⟨ib - S.length, by omega⟩
  obtain ⟨T, rfl, h⟩ := h
  rw [at_app] at hB
  refine ⟨T.set q B', set_app, ?_⟩
  rcases h with h | ⟨h0, hz, p, h1, h2⟩ | ⟨h0, p, v, h1, h2⟩
  · exact .inl h
  · have hne : q ≠ p := fun e => by
      rw [e, h2] at hB
      injection hB with hB
      exact hc hB.symm
    exact .inr (.inl ⟨h0, hz, p, h1, by rw [List.getElem?_set_ne hne]; exact h2⟩)
  · have hne : q ≠ p := fun e => by
      rw [e, h2] at hB
      injection hB with hB
      rw [← hB] at hn
      cases hn
    exact .inr (.inr ⟨h0, p, v, h1, by rw [List.getElem?_set_ne hne]; exact h2⟩)
theorem zeroTo_zero (l : List Ent) : zeroTo l 0 = l := by unfold zeroTo; simp
theorem sub_lt {p : Int} {l : List Ent} (ho : (Bk.mk p l).ok) {i j : Nat} (hi : i < l.length) (hj : j < i) : (l[j]'(by omega)).pol.sub < l[i].pol.sub := by
  have h := (ho.2.2.1.2 i (by unfold polsOf; simpa using hi) (by unfold polsOf; simpa using hi)).2 j hj
  have h := h.1
  simpa [polsOf] using h
theorem leased_hit {p : Int} {l : List Ent} {sub g : Int} (ho : (Bk.mk p l).ok) {i : Nat} (hi : i < l.length) (h1 : l[i].pol.sub = sub) (h2 : l[i].granted ≤ g) (h3 : g ≤ l[i].pol.quota) : leased l sub g = some (l.set i (l[i].grant g)) := by
  unfold leased
  have : l.findIdx? (hasSub sub) = some i := List.findIdx?_eq_some_iff_getElem.2 ⟨hi, by simpa [hasSub] using h1, fun j hj => by
    have := sub_lt ho hi hj
    simp only [hasSub, Bool.not_eq_true, decide_eq_false_iff_not]
    omega⟩
  rw [this]
  simp only
  rw [List.getElem?_eq_getElem hi]
  simp only
  rw [if_pos ⟨h2, h3⟩]
theorem leased_miss {l : List Ent} {sub g : Int} (h : ∀ i (hi : i < l.length), ¬ (l[i].pol.sub = sub ∧ l[i].granted ≤ g ∧ g ≤ l[i].pol.quota)) : leased l sub g = none := by
  unfold leased
  split
  · rename_i k hk
    obtain ⟨hkl, hs, _⟩ := List.findIdx?_eq_some_iff_getElem.1 hk
    rw [List.getElem?_eq_getElem hkl]
    simp only
    rw [if_neg fun c => h k hkl ⟨by simpa [hasSub] using hs, c.1, c.2⟩]
  · rfl
noncomputable def Bk.rapplied (b : Bk) (e : Evt) : Option Bk := if b.ok ∧ e.right then
    (if e.kind = 1 then (if ∃ i : Nat, i < 255 ∧ refBad b.entries e ((i : Int) + 1) then none else Bk.fin (some ⟨b.period, refEnts b.entries e 255⟩))
     else if e.kind = 2 then (leased b.entries e.sub e.granted).map fun l => ⟨b.period, l⟩
     else if e.period = b.period + 1 then some ⟨e.period, b.entries.map (·.grant 0)⟩ else none)
  else none
noncomputable def rapplyS : Spec := fun args S => match args with
  | [.ag cb, .ag ce] => match bookOf S cb, evtOf S ce with
    | some b, some e => if b.fits ∧ e.fits ∧ openQ S 13 (ce.getD 2 .u) = true then match b.rapplied e with
        | some b' => some (bookR (decide (e.kind ≠ 1)) S b' 0)
        | none => some (.tu [.ag cb, .i .i64 131], S)
      else none
    | _, _ => none
  | _ => none
theorem reright_eq {S : Mem} {k s g q : Int} {xp xd : AV} {ps : List Pol} {ds : List Int} (hp : lstV polE S xp = some ps) (hd : lstV (intE .i64) S xd = some ds) (hf : Evt.fits ⟨k, s, ps, ds, g, q⟩) (ho : openQ S 13 xp = true) :
    rerightS [.ag [.i .i64 k, .i .i64 s, xp, xd, .i .u64 g, .i .u64 q]] S = some (.b (decide (Evt.right ⟨k, s, ps, ds, g, q⟩)), S) := by
  have h := evtOf_mk (k := k) (s := s) (g := g) (p := q) hp hd
  simp only [rerightS, h]
  rw [if_pos ⟨hf, ho⟩]
theorem rcommit_eq {S : Mem} {cb ce : List AV} {b : Bk} {e : Evt} (hb : bookOf S cb = some b) (he : evtOf S ce = some e) (hf : b.fits ∧ e.fits) : rcommitS [.ag cb, .ag ce] S =
    if ∃ i : Nat, i < 255 ∧ refBad b.entries e ((i : Int) + 1) then some (.tu [.ag cb, .b false], S)
        else some (.tu [.ag [.i .u64 b.period, retX false S (refEnts b.entries e 255)], .b (decide (Bk.ok ⟨b.period, refEnts b.entries e 255⟩))], retM false entE S (refEnts b.entries e 255)) := by
  simp only [rcommitS, hb, he, if_pos hf]
theorem oRa_ok : OK Tryz.prog (lamOf Tryz.prog) (orcOf [(5, brightS), (41, rerightS), (42, rcommitS)]) := orc_ok (by simpa using ⟨rbright_ok, reright_ok, rcommit_ok⟩)
set_option maxHeartbeats 1000000 in
theorem rapply_ok : SpecOK Tryz.prog 26 rapplyS := by
  intro args S x S' h
  simp only [rapplyS] at h
  split at h
  · rename_i cb ce
    split at h
    · rename_i b ev hb hev
      split at h
      · rename_i hf
        obtain ⟨hbf, hef, hop⟩ := hf
        obtain ⟨s, rfl, hl⟩ := bookOf_ok hb
        obtain ⟨xp, xd, rfl, hp, hd⟩ := evtOf_ok hev
        obtain ⟨p, l⟩ := b
        obtain ⟨k, sub, ps, ds, g, q⟩ := ev
        simp only at hp hd hl h
        have hop : openQ S 13 xp = true := hop
        have b1 := fun L => bright_eq (bookOf_mk (p := p) (lstV_grow hl L)) hbf
        have e1 := fun L => reright_eq (k := k) (s := sub) (g := g) (q := q) (lstV_grow hp L) (lstV_grow hd L) hef (openQ_grow hop L)
        have c1 := fun L => rcommit_eq (bookOf_mk (p := p) (lstV_grow hl L)) (evtOf_mk (k := k) (s := sub) (g := g) (p := q) (lstV_grow hp L) (lstV_grow hd L)) ⟨hbf, hef⟩
        have hone := lst_one hl
        have hflat : ∀ e : Int, (AV.tu [.ag [.i .u64 p, s], .i .i64 e]).flat S.length := fun e => flat_book (lst_Flat hl) Flat_i
        refine fn_of_wp f26 rfl (W_sound oRa_ok mixed _ _ _ _ _ ?_)
        by_cases hok : (Bk.mk p l).ok
        rotate_left
        · rw [decide_eq_false hok] at b1
          rw [show Bk.rapplied ⟨p, l⟩ ⟨k, sub, ps, ds, g, q⟩ = none by unfold Bk.rapplied; rw [if_neg fun z => hok z.1]] at h
          cases h
          simp (maxSteps := 1000000) (disch := omega) only [c26, lst_cells hl, lst_cells hp, lst_cells hd, List.replicate, orc_cons, b1, hone, go_sem]
          exact wkv_drop (hflat _)
        rw [decide_eq_true hok] at b1
        by_cases hr : Evt.right ⟨k, sub, ps, ds, g, q⟩
        rotate_left
        · rw [decide_eq_false hr] at e1
          rw [show Bk.rapplied ⟨p, l⟩ ⟨k, sub, ps, ds, g, q⟩ = none by unfold Bk.rapplied; rw [if_neg fun z => hr z.2]] at h
          cases h
          simp (maxSteps := 1000000) (disch := omega) only [c26, lst_cells hl, lst_cells hp, lst_cells hd, List.replicate, orc_cons, b1, e1, hone, go_sem]
          exact wkv_drop (hflat _)
        rw [decide_eq_true hr] at e1
        by_cases hk1 : k = 1
        · subst hk1
          by_cases hbad : ∃ i : Nat, i < 255 ∧ refBad l ⟨1, sub, ps, ds, g, q⟩ ((i : Int) + 1)
          · simp only [if_pos hbad] at c1
            rw [show Bk.rapplied ⟨p, l⟩ ⟨1, sub, ps, ds, g, q⟩ = none by unfold Bk.rapplied; rw [if_pos ⟨hok, hr⟩, if_pos rfl, if_pos hbad]] at h
            cases h
            simp (maxSteps := 1000000) (disch := omega) only [c26, lst_cells hl, lst_cells hp, lst_cells hd, List.replicate, orc_cons, b1, e1, c1, hone, go_sem]
            exact wkv_drop (hflat _)
          · simp only [if_neg hbad] at c1
            have c1 := c1 [.cells [.i .u64 p, s] 0 none true, .cells [.i .i64 1, .i .i64 sub, xp, xd, .i .u64 g, .i .u64 q] 0 none true, .cells [.i .u64 0, .sn] 0 none true]
            have hX := retX_acc (z := false) (E := entE) (S := S ++ [.cells [.i .u64 p, s] 0 none true, .cells [.i .i64 1, .i .i64 sub, xp, xd, .i .u64 g, .i .u64 q] 0 none true, .cells [.i .u64 0, .sn] 0 none true]) (l := refEnts l ⟨1, sub, ps, ds, g, q⟩ 255)
            generalize retX false _ (refEnts l ⟨1, sub, ps, ds, g, q⟩ 255) = X at c1 hX
            generalize retM false entE _ (refEnts l ⟨1, sub, ps, ds, g, q⟩ 255) = M1 at c1 hX
            have m0 : M1[S.length]? = some (.cells [.i .u64 p, s] 0 none true) := at_pre hX.ext (by rw [at_app0]; rfl)
            have m2 : M1[S.length + 2]? = some (.cells [.i .u64 0, .sn] 0 none true) := at_pre hX.ext (by rw [at_app]; rfl)
            have m0o := fun L => at_old (L := L) m0
            have m2o := fun L => at_old (L := L) m2
            have hSM : S <+: M1 := (ext_app _).trans hX.ext
            have hS := fun L B => set_old (L := L) (B' := B) m2
            have hfin := fun L B => at_old (L := L) (at_set (B' := B) m2)
            by_cases hok2 : (Bk.mk p (refEnts l ⟨1, sub, ps, ds, g, q⟩ 255)).ok
            · rw [decide_eq_true hok2] at c1
              rw [show Bk.rapplied ⟨p, l⟩ ⟨1, sub, ps, ds, g, q⟩ = some ⟨p, refEnts l ⟨1, sub, ps, ds, g, q⟩ 255⟩ by unfold Bk.rapplied; rw [if_pos ⟨hok, hr⟩, if_pos rfl, if_neg hbad]; simp only [Bk.fin, if_pos hok2]] at h
              cases h
              simp (maxSteps := 1000000) (disch := omega) only [c26, lst_cells hl, lst_cells hp, lst_cells hd, List.replicate, orc_cons, b1, e1, c1, lst_one hX.lst, m2o, hS, hfin, go_sem]
              have hA := ((hX.base (ext_app _)).setB (by omega) m2 rfl (.cells [.i .u64 p, X] 0 none true)).grow [.cells [.i .u64 p, X] 0 none true]
              exact hA.retB entE_flat Flat_i Flat_i
            · rw [decide_eq_false hok2] at c1
              rw [show Bk.rapplied ⟨p, l⟩ ⟨1, sub, ps, ds, g, q⟩ = none by unfold Bk.rapplied; rw [if_pos ⟨hok, hr⟩, if_pos rfl, if_neg hbad]; simp only [Bk.fin, if_neg hok2]] at h
              cases h
              simp (maxSteps := 1000000) (disch := omega) only [c26, lst_cells hl, lst_cells hp, lst_cells hd, List.replicate, orc_cons, b1, e1, c1, hone, lst_one hX.lst, m0o, m2o, hS, hfin, go_sem]
              exact wkv_dropP (ext_more (ext_set hSM (by omega) _) _) (hflat _)
        · obtain ⟨Y, M1, hap, hY⟩ := (acc_lit (E := entE) (S := S ++ [.cells [.i .u64 p, s] 0 none true, .cells [.i .i64 k, .i .i64 sub, xp, xd, .i .u64 g, .i .u64 q] 0 none true, .cells [.i .u64 0, .sn] 0 none true]) (M := S ++ [.cells [.i .u64 p, s] 0 none true, .cells [.i .i64 k, .i .i64 sub, xp, xd, .i .u64 g, .i .u64 q] 0 none true, .cells [.i .u64 0, .sn] 0 none true]) ext_refl).apps (bytes := 88) entE_one l (by have := hbf.1; simp only at this; simp; omega) (by have := hbf.1; simp only at this; simp; omega)
          rw [List.nil_append] at hY
          have hap : appV (S ++ [.cells [.i .u64 p, s] 0 none true, .cells [.i .i64 k, .i .i64 sub, xp, xd, .i .u64 g, .i .u64 q] 0 none true, .cells [.i .u64 0, .sn] 0 none true, .cells [] 0 none true]) 14 88 (.sl (S.length + 3) 0 0 0 0 true) (l.flatMap entE.enc) l.length = some (Y, M1) := by
            have e1 : (S ++ [Blk.cells [.i .u64 p, s] 0 none true, .cells [.i .i64 k, .i .i64 sub, xp, xd, .i .u64 g, .i .u64 q] 0 none true, .cells [.i .u64 0, .sn] 0 none true]).length = S.length + 3 := by simp
            rw [e1, List.append_assoc] at hap
            exact hap
          have hsrc : ∀ L, srcV (S ++ L) 14 s = some (l.flatMap entE.enc, l.length) := fun L => src_lst (lstV_grow hl L)
          have v0 := eqv_lst hl
          have v1 := eqv_lst hY.lst
          have m0 : M1[S.length]? = some (.cells [.i .u64 p, s] 0 none true) := at_pre hY.ext (by rw [at_app0]; rfl)
          have m1 : M1[S.length + 1]? = some (.cells [.i .i64 k, .i .i64 sub, xp, xd, .i .u64 g, .i .u64 q] 0 none true) := at_pre hY.ext (by rw [at_app]; rfl)
          have m2 : M1[S.length + 2]? = some (.cells [.i .u64 0, .sn] 0 none true) := at_pre hY.ext (by rw [at_app]; rfl)
          have m0o := fun L => at_old (L := L) m0
          have m1o := fun L => at_old (L := L) m1
          have m2o := fun L => at_old (L := L) m2
          simp (maxSteps := 1000000) (disch := omega) only [c26, lst_cells hl, lst_cells hp, lst_cells hd, List.replicate, orc_cons, b1, e1, hk1, go_sem]
          refine draw_of ?_
          simp (maxSteps := 1000000) (disch := omega) only [c26d0, lst_cells hl, hsrc, hap, v0, v1, lst_one hY.lst, lst_cells hY.lst, m0, m0o, dNs_nil, dNs_cons, dnK_some, dnK_none, dOpt_none, dOpt_some, doK_some, doK_none, dStages_nil, dStages_cons, s1K_app, s2K_app, s3K_app, s4K_app, dEnd_app, evOne_op, evOne_gd, evG_tt, evG_tf, evG_ft, evG_ff, evG_ud, kSt_nil, kSt_cons, kNs_nil, kNs_cons, kN_zero, kN_succ, kA_some, eqK_some, eqK_none, kOpt_none, kOpt_some, kLike_nil, kLike_cons, ROp.use, IOp.use, IO'.use, X.use, dstL_none, dstL_some, List.flatMap_cons, List.flatMap_nil, eqv_m, eqv_p, eqv_i, eqv_b, eqv_sl, eqv_sn, eqv_pn, eqv_ud, eqv_u, eqv_mn, eqv_ag, eqvL_cons, eqvL_nil, eqv_tu, Bool.and_true, Bool.true_and, Bool.and_self, Nat.le_refl, Nat.reduceLeDiff, and_self, and_true, true_and, go_sem]
          have hS4 : S <+: M1 := (ext_app _).trans hY.ext
          have hlY := fun M' => lst_len hY.lst M'
          have hM1l : S.length + 3 ≤ M1.length := by have := List.IsPrefix.length_le hY.ext; simpa using this
          have herr : ∀ M : Mem, S <+: M → M[S.length + 2]? = some (.cells [.i .u64 0, .sn] 0 none true) → S <+: M.set (S.length + 2) (.cells [.i .u64 p, s] 0 none true) := fun M h _ => ext_set h (by omega) _
          by_cases hk2 : k = 2
          · subst hk2
            have hra : Bk.rapplied ⟨p, l⟩ ⟨2, sub, ps, ds, g, q⟩ = (leased l sub g).map fun l => ⟨p, l⟩ := by unfold Bk.rapplied; rw [if_pos ⟨hok, hr⟩, if_neg hk1, if_pos rfl]
            rw [hra] at h
            have mBo : ∀ L, (M1 ++ (.cells [.i .u64 p, Y] 0 none true :: L))[M1.length]? = some (.cells [.i .u64 p, Y] 0 none true) := fun L => by rw [at_app0]; rfl
            simp (maxSteps := 1000000) (disch := omega) only [m1o, mBo, hlY, at_app0, List.getElem?_cons_zero, go_sem]
            refine wp_loop (fun j e M dl => dl = [] ∧ ∃ (i : Nat), j = l.length - i ∧ i ≤ l.length ∧ (M1 ++ [.cells [.i .u64 p, Y] 0 none true]) <+: M ∧ (∀ n (hn : n < l.length), n < i → ¬ (l[n].pol.sub = sub ∧ l[n].granted ≤ g ∧ g ≤ l[n].pol.quota)) ∧
              e.get 2 = .p S.length 0 0 ∧ e.get 3 = .p (S.length + 1) 0 0 ∧ e.get 4 = .p (S.length + 2) 0 0 ∧ e.get 8 = .p M1.length 0 0 ∧ e.get 45 = Y ∧ e.get 46 = .i .i64 l.length ∧ e.get 47 = .i .i64 i) (j := l.length)
              ⟨rfl, 0, rfl, Nat.zero_le _, ext_refl, fun n _ hn => absurd hn (Nat.not_lt_zero _), rfl, rfl, rfl, rfl, rfl, rfl, rfl⟩ ?_
            rintro j e M d' ⟨rfl, i, rfl, hi, hpre, hno, e2, e3, e4, e8, e45, e46, e47⟩
            refine W_sound oRa_ok mixed _ _ _ _ _ ?_
            have hM1M : M1 <+: M := (ext_app _).trans hpre
            have n0 := at_pre hM1M m0
            have n1 := at_pre hM1M m1
            have n2 := at_pre hM1M m2
            have nB := at_pre hpre (by rw [at_app0]; rfl : (M1 ++ [Blk.cells [.i .u64 p, Y] 0 none true])[M1.length]? = some (.cells [.i .u64 p, Y] 0 none true))
            by_cases hil : i < l.length
            · rcases acc_cases hY with ⟨rfl, _⟩ | ⟨hne, b, v, hb, rfl, hBb⟩
              · exact absurd hil (Nat.not_lt_zero _)
              have hb3 : S.length + 3 ≤ b := by simpa using hb
              have hbl : b < M1.length := (List.getElem?_eq_some_iff.1 hBb).1
              have hrow := lstV_row (lst_ext hY.lst hM1M) hil []
              rw [List.append_nil, Nat.zero_add] at hrow
              have hrow : rowB (M[b]?) (i * 14) v 14 = some (entE.enc l[i]) := hrow
              have hiI : (i : Int) < l.length := by omega
              have hwi : wrapV .i64 ((i : Int) + 1) = ((i + 1 : Nat) : Int) := by have := hbf.1; simp only at this; rw [wrap_i64 (by omega) (by omega)]; omega
              have hNb := fun L => at_old (L := L) (at_pre hM1M hBb)
              have n0o := fun L => at_old (L := L) n0
              have n1o := fun L => at_old (L := L) n1
              have n2o := fun L => at_old (L := L) n2
              have nBo := fun L => at_old (L := L) nB
              have hcont : ¬ (l[i].pol.sub = sub ∧ l[i].granted ≤ g ∧ g ≤ l[i].pol.quota) → ∀ n (hn : n < l.length), n < i + 1 → ¬ (l[n].pol.sub = sub ∧ l[n].granted ≤ g ∧ g ≤ l[n].pol.quota) := fun hx n hn hni => by
                by_cases e : n = i
                · subst e; exact hx
                · exact hno n hn (by omega)
              have hnext : ∀ L : Mem, (M1 ++ [.cells [.i .u64 p, .sl b 0 v l.length l.length false] 0 none true]) <+: M ++ L := fun L => ext_more hpre L
              have hsp := splice_at (E := entE) l hil (l[i].grant g) (f := 13) (ys := [.i .u64 g]) (by simp [entE]) (by rfl)
              have hsp : (l.flatMap entE.enc).take (i * 14 + 13) ++ AV.i .u64 g :: (l.flatMap entE.enc).drop (i * 14 + 13 + 1) = (l.set i (l[i].grant g)).flatMap entE.enc := hsp
              have hle : i * 14 + 13 + 1 ≤ (l.flatMap entE.enc).length := by rw [enc_length]; show i * 14 + 13 + 1 ≤ l.length * 14; omega
              simp only [entE, Ent.enc] at hrow
              by_cases c1 : l[i].pol.sub = sub
              · by_cases c2 : l[i].granted ≤ g
                · by_cases c3 : g ≤ l[i].pol.quota
                  · rw [leased_hit hok hil c1 c2 c3] at h
                    cases h
                    have hMb := at_pre hM1M hBb
                    obtain ⟨M', hM'⟩ : ∃ M', M' = M.set b (.cells ((l.set i (l[i].grant g)).flatMap entE.enc) v (some entE.sz) true) := ⟨_, rfl⟩
                    have hSb := fun L B => set_old (L := L) (B' := B) hMb
                    have k2 : M'[S.length + 2]? = some (.cells [.i .u64 0, .sn] 0 none true) := by rw [hM', List.getElem?_set_ne (by omega)]; exact n2
                    have kB : M'[M1.length]? = some (.cells [.i .u64 p, .sl b 0 v l.length l.length false] 0 none true) := by rw [hM', List.getElem?_set_ne (by omega)]; exact nB
                    have kb : M'[b]? = some (.cells ((l.set i (l[i].grant g)).flatMap entE.enc) v (some entE.sz) true) := by rw [hM']; exact at_set hMb
                    have kS : S <+: M' := by rw [hM']; exact ext_set (hS4.trans hM1M) (by omega) _
                    have k2o := fun L => at_old (L := L) k2
                    have kBo := fun L => at_old (L := L) kB
                    have hS2 := fun L B => set_old (L := L) (B' := B) k2
                    have hfin := fun L B => at_old (L := L) (at_set (B' := B) k2)
                    simp (maxSteps := 1000000) (disch := omega) only [c26l1, e2, e3, e4, e8, e45, e46, e47, hiI, Int.toNat_natCast, hrow, List.replicate, n0o, n1o, nBo, c1, c2, c3, hNb, hle, hsp, hSb, ← hM', k2o, kBo, hS2, hfin, go_sem]
                    have hfinA : Acc true entE S (M'.set (S.length + 2) (.cells [.i .u64 p, .sl b 0 v l.length l.length false] 0 none true)) (.sl b 0 v l.length l.length false) (l.set i (l[i].grant g)) := by
                      have h0 := acc_mk (E := entE) (z := true) (l := l.set i (l[i].grant g)) (ext_set kS (show S.length ≤ S.length + 2 by omega) (.cells [.i .u64 p, .sl b 0 v l.length l.length false] 0 none true)) (b := b) (v := v) (by omega) (by intro e; apply hne; have := congrArg List.length e; rw [List.length_set] at this; exact List.eq_nil_of_length_eq_zero this) (by rw [List.getElem?_set_ne (by omega)]; exact kb)
                      rwa [List.length_set] at h0
                    exact (hfinA.grow _).retB entE_flat Flat_i Flat_i
                  · simp (maxSteps := 1000000) (disch := omega) only [c26l1, e2, e3, e4, e8, e45, e46, e47, hiI, Int.toNat_natCast, hrow, List.replicate, n0o, n1o, c1, c2, c3, hwi, go_sem]
                    exact ⟨l.length - (i + 1), by omega, i + 1, rfl, hil, hnext _, hcont fun z => c3 z.2.2, rfl⟩
                · simp (maxSteps := 1000000) (disch := omega) only [c26l1, e2, e3, e4, e8, e45, e46, e47, hiI, Int.toNat_natCast, hrow, List.replicate, n0o, n1o, c1, c2, hwi, go_sem]
                  exact ⟨l.length - (i + 1), by omega, i + 1, rfl, hil, hnext _, hcont fun z => c2 z.2.1, rfl⟩
              · simp (maxSteps := 1000000) (disch := omega) only [c26l1, e2, e3, e4, e8, e45, e46, e47, hiI, Int.toNat_natCast, hrow, List.replicate, n0o, n1o, c1, hwi, go_sem]
                exact ⟨l.length - (i + 1), by omega, i + 1, rfl, hil, hnext _, hcont fun z => c1 z.1, rfl⟩
            · have hiI : ¬ (i : Int) < l.length := by omega
              rw [leased_miss fun n hn => hno n hn (by omega)] at h
              cases h
              have hfin := at_set (B' := .cells [.i .u64 p, s] 0 none true) n2
              simp (maxSteps := 1000000) (disch := omega) only [c26l1, e2, e3, e4, e8, e45, e46, e47, hiI, n0, n2, hone, hfin, go_sem]
              exact wkv_dropP (herr _ (hS4.trans hM1M) n2) (hflat _)
          · have hk3 : k = 3 := by
              rcases hr with z | z | z
              · exact absurd z.1 hk1
              · exact absurd z.1 hk2
              · exact z.1
            subst hk3
            have hra : Bk.rapplied ⟨p, l⟩ ⟨3, sub, ps, ds, g, q⟩ = if q = p + 1 then some ⟨q, l.map (·.grant 0)⟩ else none := by unfold Bk.rapplied; rw [if_pos ⟨hok, hr⟩, if_neg hk1, if_neg hk2]
            rw [hra] at h
            have hp1 := hok.1
            have hp2 := hok.2.1
            simp only at hp1 hp2
            have hw : wrapV .u64 (p + 1) = p + 1 := wrap_u64 (by omega) (by omega)
            have mBo : ∀ L, (M1 ++ (.cells [.i .u64 p, Y] 0 none true :: L))[M1.length]? = some (.cells [.i .u64 p, Y] 0 none true) := fun L => by rw [at_app0]; rfl
            by_cases hq : q = p + 1
            · rw [if_pos hq] at h
              cases h
              simp (maxSteps := 1000000) (disch := omega) only [m0o, m1o, mBo, hlY, at_app0, List.getElem?_cons_zero, hk1, hw, hq, go_sem]
              rw [← hq]
              clear hw
              obtain ⟨S4, hS4e⟩ : ∃ S4, S4 = S ++ [Blk.cells [.i .u64 p, s] 0 none true, .cells [.i .i64 3, .i .i64 sub, xp, xd, .i .u64 g, .i .u64 q] 0 none true, .cells [.i .u64 0, .sn] 0 none true] := ⟨_, rfl⟩
              rw [← hS4e] at hY
              have hSS4 : S <+: S4 := by rw [hS4e]; exact ext_app _
              have hS4l : S4.length = S.length + 3 := by rw [hS4e]; simp
              have hlim := hbf.1
              simp only at hlim
              refine wp_loop (fun j e M dl => dl = [] ∧ ∃ (n : Nat), j = l.length - n ∧ n ≤ l.length ∧ M[M1.length]? = some (.cells [.i .u64 q, Y] 0 none true) ∧ M[S.length + 2]? = some (.cells [.i .u64 0, .sn] 0 none true) ∧ Acc true entE S4 M Y (zeroTo l n) ∧
                e.get 8 = .p M1.length 0 0 ∧ e.get 4 = .p (S.length + 2) 0 0 ∧ e.get 95 = .i .i64 l.length ∧ e.get 96 = .i .i64 n) (j := l.length)
                ⟨rfl, 0, rfl, Nat.zero_le _, by rw [at_app0]; rfl, m2o _, by rw [zeroTo_zero]; exact hY.grow _, rfl, rfl, rfl, rfl⟩ ?_
              rintro j e M d' ⟨rfl, n, rfl, hn, hB, hR, hA, e8, e4, e95, e96⟩
              refine W_sound oRa_ok mixed _ _ _ _ _ ?_
              have hz := zeroTo_len l n
              by_cases hnl : n < l.length
              · have hnI : (n : Int) < l.length := by omega
                rcases acc_cases hA with ⟨h0, _⟩ | ⟨hne, b, v, hb, hYe, hBb⟩
                · rw [h0] at hz; simp at hz; omega
                have hbne : b ≠ M1.length := fun e => by rw [e, hB] at hBb; injection hBb with hBb; injection hBb with _ _ h3 _; cases h3
                rw [hz] at hYe
                subst hYe
                have hw1 : wrapV .i64 ((n : Int) + 1) = ((n + 1 : Nat) : Int) := by rw [wrap_i64 (by omega) (by omega)]; omega
                have hsp := splice_at (E := entE) (zeroTo l n) (show n < (zeroTo l n).length by omega) (l[n].grant 0) (f := 13) (ys := [.i .u64 0]) (by simp [entE]) (by rw [zeroTo_at l hnl]; rfl)
                rw [zeroTo_succ l hnl] at hsp
                have hsp : ((zeroTo l n).flatMap entE.enc).take (n * 14 + 13) ++ AV.i .u64 0 :: ((zeroTo l n).flatMap entE.enc).drop (n * 14 + 13 + 1) = (zeroTo l (n + 1)).flatMap entE.enc := hsp
                have hle : n * 14 + 13 + 1 ≤ ((zeroTo l n).flatMap entE.enc).length := by rw [enc_length]; show n * 14 + 13 + 1 ≤ (zeroTo l n).length * 14; omega
                simp (maxSteps := 1000000) (disch := omega) only [c26l2, e8, e4, e95, e96, hnI, hB, Int.toNat_natCast, hBb, hle, hsp, hw1, go_sem]
                refine ⟨l.length - (n + 1), by omega, n + 1, rfl, hnl, by rw [List.getElem?_set_ne hbne]; exact hB, by rw [List.getElem?_set_ne (by omega)]; exact hR, ?_, rfl⟩
                have h0 := acc_mk (E := entE) (z := true) (l := zeroTo l (n + 1)) (ext_set hA.ext hb (.cells ((zeroTo l (n + 1)).flatMap entE.enc) v (some entE.sz) true)) (b := b) (v := v) hb (by intro e; have := congrArg List.length e; rw [zeroTo_len, List.length_nil] at this; omega) (at_set hBb)
                rwa [zeroTo_len] at h0
              · have hnI : ¬ (n : Int) < l.length := by omega
                obtain rfl : n = l.length := by omega
                rw [zeroTo_all] at hA
                have hfin := at_set (B' := .cells [.i .u64 q, Y] 0 none true) hR
                simp (maxSteps := 1000000) (disch := omega) only [c26l2, e8, e4, e95, e96, hnI, hB, hR, lst_one hA.lst, hfin, go_sem]
                exact ((hA.base hSS4).setC (by omega) hR rfl (by simp) _).retB entE_flat Flat_i Flat_i
            · rw [if_neg hq] at h
              cases h
              have hS := fun L B => set_old (L := L) (B' := B) m2
              have hfin := fun L B => at_old (L := L) (at_set (B' := B) m2)
              simp (maxSteps := 1000000) (disch := omega) only [m0o, m1o, m2o, mBo, hlY, at_app0, List.getElem?_cons_zero, hk1, hw, hq, hone, hS, hfin, go_sem]
              exact wkv_dropP (ext_more (herr _ hS4 m2) _) (hflat _)
      · cases h
    · cases h
  · cases h
end Go.Proofs.YtmdnohpolepcoaaGreat

namespace Go.Proofs.YtmdnohpolepcoaaGreat
open Go.RowKit
set_option linter.unusedSimpArgs false
set_option linter.unusedVariables false

/-! ### Lists in order -/
section
variable {α : Type} (key : α → Int)
def RiseK (l : List α) : Prop := l.Pairwise fun a b => key a < key b
def OnceK (l : List α) : Prop := l.Pairwise fun a b => key a ≠ key b
def insK (a : α) : List α → List α
  | [] => [a]
  | d :: l => if key d < key a then d :: insK a l else a :: d :: l
def srtK : List α → List α
  | [] => []
  | a :: l => insK key a (srtK l)
variable {key}
theorem RiseK.once {l : List α} (h : RiseK key l) : OnceK key l := h.imp fun h => Int.ne_of_lt h
theorem insK_mem {a x : α} : ∀ {l : List α}, x ∈ insK key a l ↔ x = a ∨ x ∈ l
  | [] => by simp [insK]
  | d :: l => by
    rw [insK]
    split
    · rw [List.mem_cons, insK_mem, List.mem_cons]
      constructor
      · rintro (h | h | h)
        · exact .inr (.inl h)
        · exact .inl h
        · exact .inr (.inr h)
      · rintro (h | h | h)
        · exact .inr (.inl h)
        · exact .inl h
        · exact .inr (.inr h)
    · rw [List.mem_cons]
theorem insK_len {a : α} : ∀ {l : List α}, (insK key a l).length = l.length + 1
  | [] => rfl
  | d :: l => by
    rw [insK]
    split
    · rw [List.length_cons, insK_len, List.length_cons]
    · rfl
theorem insK_rises {a : α} : ∀ {l : List α}, RiseK key l → (∀ d ∈ l, key d ≠ key a) → RiseK key (insK key a l)
  | [], _, _ => List.pairwise_singleton ..
  | d :: l, h, hn => by
    rw [insK]
    obtain ⟨h1, h2⟩ := List.pairwise_cons.1 h
    split
    · rename_i hd
      refine List.pairwise_cons.2 ⟨fun x hx => ?_, insK_rises h2 fun x hx => hn x (List.mem_cons_of_mem _ hx)⟩
      rcases insK_mem.1 hx with rfl | hx
      · exact hd
      · exact h1 x hx
    · rename_i hd
      have hda : key a < key d := by
        have := hn d (List.mem_cons_self ..)
        omega
      refine List.pairwise_cons.2 ⟨fun x hx => ?_, h⟩
      rcases List.mem_cons.1 hx with rfl | hx
      · exact hda
      · have := h1 x hx; omega
theorem riseK_ext : ∀ {l m : List α}, RiseK key l → RiseK key m → (∀ x, x ∈ l ↔ x ∈ m) → l = m
  | [], [], _, _, _ => rfl
  | [], b :: m, _, _, h => absurd ((h b).2 (List.mem_cons_self ..)) (by simp)
  | a :: l, [], _, _, h => absurd ((h a).1 (List.mem_cons_self ..)) (by simp)
  | a :: l, b :: m, hl, hm, h => by
    obtain ⟨l1, l2⟩ := List.pairwise_cons.1 hl
    obtain ⟨m1, m2⟩ := List.pairwise_cons.1 hm
    have hab : a = b := by
      rcases List.mem_cons.1 ((h a).1 (List.mem_cons_self ..)) with e | h1
      · exact e
      · rcases List.mem_cons.1 ((h b).2 (List.mem_cons_self ..)) with e | h2
        · exact e.symm
        · have := l1 b h2; have := m1 a h1; omega
    subst hab
    rw [riseK_ext l2 m2 fun x => ?_]
    have hx := h x
    rw [List.mem_cons, List.mem_cons] at hx
    constructor
    · intro q
      rcases hx.1 (.inr q) with e | e
      · subst e; exact absurd (l1 _ q) (by omega)
      · exact e
    · intro q
      rcases hx.2 (.inr q) with e | e
      · subst e; exact absurd (m1 _ q) (by omega)
      · exact e
theorem srtK_mem {x : α} : ∀ {l : List α}, x ∈ srtK key l ↔ x ∈ l
  | [] => by simp [srtK]
  | a :: l => by rw [srtK, insK_mem, srtK_mem, List.mem_cons]
theorem srtK_len : ∀ {l : List α}, (srtK key l).length = l.length
  | [] => rfl
  | a :: l => by rw [srtK, insK_len, srtK_len, List.length_cons]
theorem srtK_rises : ∀ {l : List α}, OnceK key l → RiseK key (srtK key l)
  | [], _ => List.Pairwise.nil
  | a :: l, h => by
    obtain ⟨h1, h2⟩ := List.pairwise_cons.1 h
    exact insK_rises (srtK_rises h2) fun d hd => (h1 d (srtK_mem.1 hd)).symm
theorem once_find {l : List α} (h : OnceK key l) {c : α} (hc : c ∈ l) : l.find? (fun d => decide (key d = key c)) = some c := by
  induction l with
  | nil => cases hc
  | cons d l ih =>
    obtain ⟨h1, h2⟩ := List.pairwise_cons.1 h
    rw [List.find?_cons]
    rcases List.mem_cons.1 hc with rfl | hc
    · simp
    · rw [decide_eq_false (h1 c hc)]
      exact ih h2 hc
theorem onceK_uniq {l : List α} (h : OnceK key l) {c d : α} (hc : c ∈ l) (hd : d ∈ l) (e : key c = key d) : c = d := by
  have h1 := once_find h hc
  have h2 := once_find h hd
  simp only [e] at h1
  rw [h1] at h2
  exact Option.some.inj h2
end

/-! ### Changes -/
structure Chg where
  put : Bool
  pol : Pol
  deriving DecidableEq
def Chg.sub (c : Chg) : Int := c.pol.sub
def sameSub (n : Int) (c : Chg) : Bool := decide (c.sub = n)
/-- Of each subscriber's changes the last. -/
def lasts : List Chg → List Chg
  | [] => []
  | c :: l => if l.any (sameSub c.sub) = true then lasts l else c :: lasts l
theorem lasts_sub : ∀ {l : List Chg} {c : Chg}, c ∈ lasts l → c ∈ l
  | [], c, h => h
  | d :: l, c, h => by
    rw [lasts] at h
    split at h
    · exact List.mem_cons_of_mem _ (lasts_sub h)
    · rcases List.mem_cons.1 h with rfl | h
      · exact List.mem_cons_self ..
      · exact List.mem_cons_of_mem _ (lasts_sub h)
theorem lasts_once : ∀ l : List Chg, OnceK Chg.sub (lasts l)
  | [] => List.Pairwise.nil
  | c :: l => by
    rw [lasts]
    split
    · exact lasts_once l
    · rename_i h
      refine List.pairwise_cons.2 ⟨fun d hd e => h ?_, lasts_once l⟩
      exact List.any_eq_true.2 ⟨d, lasts_sub hd, decide_eq_true e.symm⟩
theorem lasts_snoc : ∀ (l : List Chg) (c : Chg), lasts (l ++ [c]) = (lasts l).filter (fun d => !sameSub c.sub d) ++ [c]
  | [], c => by simp [lasts]
  | a :: l, c => by
    rw [List.cons_append, lasts, lasts, lasts_snoc l c, List.any_append]
    by_cases h1 : l.any (sameSub a.sub) = true
    · rw [if_pos (by rw [h1]; rfl), if_pos h1]
    · rw [if_neg h1]
      by_cases h2 : c.sub = a.sub
      · rw [if_pos (by simp [sameSub, h2]), List.filter_cons, if_neg (by simp [sameSub, h2])]
      · rw [if_neg (by simp only [Bool.not_eq_true] at h1; simp [sameSub, h2, h1]), List.filter_cons, if_pos (by simp [sameSub, Ne.symm h2]), List.cons_append]
def seqOf (l : List Chg) : List Chg := srtK Chg.sub (lasts l)
theorem seqOf_rises (l : List Chg) : RiseK Chg.sub (seqOf l) := srtK_rises (lasts_once l)
theorem seqOf_mem {l : List Chg} {c : Chg} : c ∈ seqOf l ↔ c ∈ lasts l := srtK_mem
theorem lasts_len : ∀ l : List Chg, (lasts l).length ≤ l.length
  | [] => Nat.le_refl _
  | c :: l => by
    rw [lasts]
    split
    · exact Nat.le_succ_of_le (lasts_len l)
    · exact Nat.succ_le_succ (lasts_len l)
theorem seqOf_len (l : List Chg) : (seqOf l).length ≤ l.length := by rw [seqOf, srtK_len]; exact lasts_len l

/-! ### What comes of them -/
def putOf (c : Chg) : Option Pol := if c.put then some c.pol else none
def dropOf (b : List Ent) (c : Chg) : Option Int := if c.put = false ∧ (b.find? (hasSub c.sub)).isSome then some c.sub else none
def putsOf (s : List Chg) : List Pol := s.filterMap putOf
def dropsOf (b : List Ent) (s : List Chg) : List Int := s.filterMap (dropOf b)
theorem putsOf_len (s : List Chg) : (putsOf s).length ≤ s.length := List.length_filterMap_le ..
theorem dropsOf_len (b : List Ent) (s : List Chg) : (dropsOf b s).length ≤ s.length := List.length_filterMap_le ..
theorem putsOf_mem {s : List Chg} {p : Pol} : p ∈ putsOf s ↔ ∃ c ∈ s, c.put = true ∧ c.pol = p := by
  unfold putsOf putOf
  rw [List.mem_filterMap]
  constructor
  · rintro ⟨c, hc, h⟩
    split at h
    · cases h; exact ⟨c, hc, by assumption, rfl⟩
    · cases h
  · rintro ⟨c, hc, h, rfl⟩
    exact ⟨c, hc, by rw [if_pos h]⟩
theorem dropsOf_mem {b : List Ent} {s : List Chg} {n : Int} : n ∈ dropsOf b s ↔ ∃ c ∈ s, c.put = false ∧ (b.find? (hasSub c.sub)).isSome ∧ c.sub = n := by
  unfold dropsOf dropOf
  rw [List.mem_filterMap]
  constructor
  · rintro ⟨c, hc, h⟩
    split at h
    · rename_i hq; cases h; exact ⟨c, hc, hq.1, hq.2, rfl⟩
    · cases h
  · rintro ⟨c, hc, h, h2, rfl⟩
    exact ⟨c, hc, by rw [if_pos ⟨h, h2⟩]⟩
theorem putsOf_rises {s : List Chg} (h : RiseK Chg.sub s) : RiseK Pol.sub (putsOf s) := by
  refine List.Pairwise.filterMap putOf (fun a a' q b hb b' hb' => ?_) h
  unfold putOf at hb hb'
  split at hb
  · split at hb'
    · cases hb; cases hb'; exact q
    · cases hb'
  · cases hb
theorem dropsOf_rises {b : List Ent} {s : List Chg} (h : RiseK Chg.sub s) : RiseK id (dropsOf b s) := by
  refine List.Pairwise.filterMap (dropOf b) (fun a a' q x hb x' hb' => ?_) h
  unfold dropOf at hb hb'
  split at hb
  · split at hb'
    · cases hb; cases hb'; exact q
    · cases hb'
  · cases hb
/-- One more, behind those that came before: in order. -/
theorem putsOf_snoc {P : List Chg} {c : Chg} (h : OnceK Chg.sub (P ++ [c])) : putsOf (srtK Chg.sub (P ++ [c])) = if c.put then insK Pol.sub c.pol (putsOf (srtK Chg.sub P)) else putsOf (srtK Chg.sub P) := by
  obtain ⟨h1, _, h3⟩ := List.pairwise_append.1 h
  have hP := putsOf_rises (srtK_rises h1)
  have hn : ∀ d ∈ putsOf (srtK Chg.sub P), d.sub ≠ c.pol.sub := fun d hd => by
    obtain ⟨e, he, _, rfl⟩ := putsOf_mem.1 hd
    exact h3 e (srtK_mem.1 he) c (by simp)
  have hm : ∀ x, x ∈ putsOf (srtK Chg.sub (P ++ [c])) ↔ (c.put = true ∧ x = c.pol) ∨ x ∈ putsOf (srtK Chg.sub P) := fun x => by
    rw [putsOf_mem, putsOf_mem]
    constructor
    · rintro ⟨d, hd, hp, rfl⟩
      rcases List.mem_append.1 (srtK_mem.1 hd) with hd | hd
      · exact .inr ⟨d, srtK_mem.2 hd, hp, rfl⟩
      · rw [List.mem_singleton] at hd; subst hd; exact .inl ⟨hp, rfl⟩
    · rintro (⟨hp, rfl⟩ | ⟨d, hd, hp, rfl⟩)
      · exact ⟨c, srtK_mem.2 (by simp), hp, rfl⟩
      · exact ⟨d, srtK_mem.2 (List.mem_append_left _ (srtK_mem.1 hd)), hp, rfl⟩
  split
  · rename_i hp
    refine riseK_ext (putsOf_rises (srtK_rises h)) (insK_rises hP hn) fun x => ?_
    rw [hm, insK_mem]; simp [hp]
  · rename_i hp
    refine riseK_ext (putsOf_rises (srtK_rises h)) hP fun x => ?_
    rw [hm]; simp [hp]
theorem dropsOf_snoc {b : List Ent} {P : List Chg} {c : Chg} (h : OnceK Chg.sub (P ++ [c])) : dropsOf b (srtK Chg.sub (P ++ [c])) = if c.put = false ∧ (b.find? (hasSub c.sub)).isSome then insK id c.sub (dropsOf b (srtK Chg.sub P)) else dropsOf b (srtK Chg.sub P) := by
  obtain ⟨h1, _, h3⟩ := List.pairwise_append.1 h
  have hP := dropsOf_rises (b := b) (srtK_rises h1)
  have hn : ∀ d ∈ dropsOf b (srtK Chg.sub P), id d ≠ id c.sub := fun d hd => by
    obtain ⟨e, he, _, _, rfl⟩ := dropsOf_mem.1 hd
    exact h3 e (srtK_mem.1 he) c (by simp)
  have hm : ∀ x, x ∈ dropsOf b (srtK Chg.sub (P ++ [c])) ↔ ((c.put = false ∧ (b.find? (hasSub c.sub)).isSome) ∧ x = c.sub) ∨ x ∈ dropsOf b (srtK Chg.sub P) := fun x => by
    rw [dropsOf_mem, dropsOf_mem]
    constructor
    · rintro ⟨d, hd, hp, hq, rfl⟩
      rcases List.mem_append.1 (srtK_mem.1 hd) with hd | hd
      · exact .inr ⟨d, srtK_mem.2 hd, hp, hq, rfl⟩
      · rw [List.mem_singleton] at hd; subst hd; exact .inl ⟨⟨hp, hq⟩, rfl⟩
    · rintro (⟨⟨hp, hq⟩, rfl⟩ | ⟨d, hd, hp, hq, rfl⟩)
      · exact ⟨c, srtK_mem.2 (by simp), hp, hq, rfl⟩
      · exact ⟨d, srtK_mem.2 (List.mem_append_left _ (srtK_mem.1 hd)), hp, hq, rfl⟩
  split
  · rename_i hp
    refine riseK_ext (dropsOf_rises (srtK_rises h)) (insK_rises hP hn) fun x => ?_
    rw [hm, insK_mem]; simp [hp]
  · rename_i hp
    refine riseK_ext (dropsOf_rises (srtK_rises h)) hP fun x => ?_
    rw [hm]; exact ⟨fun h => h.resolve_left fun q => hp q.1, .inr⟩
def noEvt : Evt := ⟨0, 0, [], [], 0, 0⟩
def evtIn (b : List Ent) (s : List Chg) : Evt := ⟨1, 0, putsOf s, dropsOf b s, 0, 0⟩
def badIn (l : List Chg) : Prop := ∃ c ∈ l, c.put = true ∧ ¬ c.pol.right
theorem badIn_seq {l : List Chg} : badIn (seqOf l) ↔ badIn (lasts l) := by
  unfold badIn
  exact ⟨fun ⟨c, h, q⟩ => ⟨c, seqOf_mem.1 h, q⟩, fun ⟨c, h, q⟩ => ⟨c, seqOf_mem.2 h, q⟩⟩
/-- The event, whether there is one, and the error. -/
noncomputable def outOf (b : Bk) (s : List Chg) : Evt × Bool × Int := open Classical in
  if badIn s then (noEvt, false, 111) else if (putsOf s).length = 0 ∧ (dropsOf b.entries s).length = 0 then (noEvt, false, 0) else if (b.rapplied (evtIn b.entries s)).isSome then (evtIn b.entries s, true, 0) else (noEvt, false, 111)
theorem out_bad {b : Bk} {s : List Chg} (h : badIn s) : outOf b s = (noEvt, false, 111) := by unfold outOf; rw [if_pos h]
theorem out_none {b : Bk} {s : List Chg} (h : ¬ badIn s) (h1 : (putsOf s).length = 0) (h2 : (dropsOf b.entries s).length = 0) : outOf b s = (noEvt, false, 0) := by unfold outOf; rw [if_neg h, if_pos ⟨h1, h2⟩]
theorem out_some {b : Bk} {s : List Chg} (h : ¬ badIn s) (h1 : ¬ ((putsOf s).length = 0 ∧ (dropsOf b.entries s).length = 0)) (h2 : (b.rapplied (evtIn b.entries s)).isSome = true) : outOf b s = (evtIn b.entries s, true, 0) := by
  unfold outOf
  rw [if_neg h, if_neg h1, if_pos h2]
theorem out_err {b : Bk} {s : List Chg} (h : ¬ badIn s) (h1 : ¬ ((putsOf s).length = 0 ∧ (dropsOf b.entries s).length = 0)) (h2 : ¬ (b.rapplied (evtIn b.entries s)).isSome = true) : outOf b s = (noEvt, false, 111) := by
  unfold outOf
  rw [if_neg h, if_neg h1, if_neg h2]
end Go.Proofs.YtmdnohpolepcoaaGreat

namespace Go.Proofs.YtmdnohpolepcoaaGreat
open Go.Shelf
def Tryz.keysA_ren : Go.Shelf.Ren := ⟨fun | 7 => 18 | 10 => 29 | n => n, fun | 23 => 65 | 26 => 3 | 3 => 64 | 28 => 68 | 0 => 0 | 27 => 67 | 33 => 80 | 4 => 4 | n => n, fun | n => n⟩
theorem Tryz.keysA : Go.Proofs.SlLaysZI.n7 Tryz.prog Tryz.keysA_ren := {
  mixed := by kernel_rfl
  f7 := ⟨Tryz.f18.name, by decide, Tryz.func18.trans (congrArg some (by kernel_rfl))⟩
  f10 := ⟨Tryz.f29.name, by decide, Tryz.func29.trans (congrArg some (by kernel_rfl))⟩
  t0 := Tryz.underlying0
  a0 := Tryz.isAgg0
  z0 := Tryz.sizeOf0
  v0 := Tryz.zeroValue0
  t4 := Tryz.underlying4
  a4 := Tryz.isAgg4
  z4 := Tryz.sizeOf4
  v4 := Tryz.zeroValue4
  t23 := Tryz.underlying65
  a23 := Tryz.isAgg65
  z23 := Tryz.sizeOf65
  v23 := Tryz.zeroValue65
  t26 := Tryz.underlying3
  a26 := Tryz.isAgg3
  z26 := Tryz.sizeOf3
  v26 := Tryz.zeroValue3
  t27 := Tryz.underlying67
  a27 := Tryz.isAgg67
  z27 := Tryz.sizeOf67
  v27 := Tryz.zeroValue67
  t28 := Tryz.underlying68
  a28 := Tryz.isAgg68
  z28 := Tryz.sizeOf68
  v28 := Tryz.zeroValue68
  t33 := Tryz.underlying80
  a33 := Tryz.isAgg80
  z33 := Tryz.sizeOf80
  v33 := Tryz.zeroValue80 }
def Tryz.sortedA_ren : Go.Shelf.Ren := ⟨fun | 6 => 17 | 8 => 27 | 9 => 28 | 11 => 43 | 13 => 45 | 12 => 44 | 23 => 75 | 24 => 76 | 14 => 66 | 15 => 67 | 16 => 68 | 17 => 69 | 18 => 70 | 19 => 71 | 20 => 72 | 21 => 73 | 22 => 74 | 25 => 89 | 26 => 90 | 27 => 91 | 28 => 92 | 29 => 93 | 30 => 86 | 31 => 104 | n => n, fun | 26 => 3 | 28 => 68 | 24 => 45 | 0 => 0 | 3 => 3 | 37 => 96 | 48 => 123 | 50 => 22 | 4 => 4 | 40 => 115 | 39 => 114 | 45 => 120 | 5 => 5 | 9 => 9 | 51 => 133 | 55 => 137 | 57 => 146 | 58 => 147 | 33 => 80 | n => n, fun | n => n⟩
theorem Tryz.sortedA : Go.Proofs.SlLaysZI.n6 Tryz.prog Tryz.sortedA_ren := {
  mixed := by kernel_rfl
  f6 := ⟨Tryz.f17.name, by decide, Tryz.func17.trans (congrArg some (by kernel_rfl))⟩
  f8 := ⟨Tryz.f27.name, by decide, Tryz.func27.trans (congrArg some (by kernel_rfl))⟩
  f11 := ⟨Tryz.f43.name, by decide, Tryz.func43.trans (congrArg some (by kernel_rfl))⟩
  t0 := Tryz.underlying0
  a0 := Tryz.isAgg0
  z0 := Tryz.sizeOf0
  v0 := Tryz.zeroValue0
  t24 := Tryz.underlying45
  a24 := Tryz.isAgg45
  z24 := Tryz.sizeOf45
  v24 := Tryz.zeroValue45
  t26 := Tryz.underlying3
  a26 := Tryz.isAgg3
  z26 := Tryz.sizeOf3
  v26 := Tryz.zeroValue3
  t28 := Tryz.underlying68
  a28 := Tryz.isAgg68
  z28 := Tryz.sizeOf68
  v28 := Tryz.zeroValue68
  i26 := by kernel_rfl }
def Tryz.sortA_ren : Go.Shelf.Ren := ⟨fun | 5 => 28 | 8 => 45 | 7 => 44 | 19 => 75 | 20 => 76 | 10 => 66 | 11 => 67 | 12 => 68 | 13 => 69 | 14 => 70 | 15 => 71 | 16 => 72 | 17 => 73 | 18 => 74 | 30 => 89 | 31 => 90 | 32 => 91 | 33 => 92 | 34 => 93 | 35 => 86 | 40 => 104 | n => n, fun | 23 => 45 | 25 => 3 | 3 => 3 | 32 => 96 | 22 => 45 | 0 => 0 | 44 => 123 | 46 => 22 | 4 => 4 | 36 => 115 | 35 => 114 | 41 => 120 | 5 => 5 | 9 => 9 | 53 => 133 | 57 => 137 | 63 => 146 | 64 => 147 | n => n, fun | n => n⟩
theorem Tryz.sortA : Go.Proofs.SlLaysM.n5 Tryz.prog Tryz.sortA_ren := {
  mixed := by kernel_rfl
  f5 := ⟨Tryz.f28.name, by decide, Tryz.func28.trans (congrArg some (by kernel_rfl))⟩
  f7 := ⟨Tryz.f44.name, by decide, Tryz.func44.trans (congrArg some (by kernel_rfl))⟩
  f8 := Tryz.func45.trans (congrArg some (by kernel_rfl))
  f10 := ⟨Tryz.f66.name, by decide, Tryz.func66.trans (congrArg some (by kernel_rfl))⟩
  f11 := ⟨Tryz.f67.name, by decide, Tryz.func67.trans (congrArg some (by kernel_rfl))⟩
  f12 := ⟨Tryz.f68.name, by decide, Tryz.func68.trans (congrArg some (by kernel_rfl))⟩
  f13 := ⟨Tryz.f69.name, by decide, Tryz.func69.trans (congrArg some (by kernel_rfl))⟩
  f14 := ⟨Tryz.f70.name, by decide, Tryz.func70.trans (congrArg some (by kernel_rfl))⟩
  f15 := ⟨Tryz.f71.name, by decide, Tryz.func71.trans (congrArg some (by kernel_rfl))⟩
  f16 := ⟨Tryz.f72.name, by decide, Tryz.func72.trans (congrArg some (by kernel_rfl))⟩
  f17 := ⟨Tryz.f73.name, by decide, Tryz.func73.trans (congrArg some (by kernel_rfl))⟩
  f18 := ⟨Tryz.f74.name, by decide, Tryz.func74.trans (congrArg some (by kernel_rfl))⟩
  f19 := Tryz.func75.trans (congrArg some (by kernel_rfl))
  f20 := Tryz.func76.trans (congrArg some (by kernel_rfl))
  f30 := ⟨Tryz.f89.name, by decide, Tryz.func89.trans (congrArg some (by kernel_rfl))⟩
  f31 := Tryz.func90.trans (congrArg some (by kernel_rfl))
  f32 := Tryz.func91.trans (congrArg some (by kernel_rfl))
  f33 := ⟨Tryz.f92.name, by decide, Tryz.func92.trans (congrArg some (by kernel_rfl))⟩
  f34 := ⟨Tryz.f93.name, by decide, Tryz.func93.trans (congrArg some (by kernel_rfl))⟩
  f35 := ⟨Tryz.f86.name, by decide, Tryz.func86.trans (congrArg some (by kernel_rfl))⟩
  f40 := ⟨Tryz.f104.name, by decide, Tryz.func104.trans (congrArg some (by kernel_rfl))⟩
  t0 := Tryz.underlying0
  a0 := Tryz.isAgg0
  z0 := Tryz.sizeOf0
  v0 := Tryz.zeroValue0
  t3 := Tryz.underlying3
  a3 := Tryz.isAgg3
  z3 := Tryz.sizeOf3
  v3 := Tryz.zeroValue3
  t4 := Tryz.underlying4
  a4 := Tryz.isAgg4
  z4 := Tryz.sizeOf4
  v4 := Tryz.zeroValue4
  t5 := Tryz.underlying5
  a5 := Tryz.isAgg5
  z5 := Tryz.sizeOf5
  v5 := Tryz.zeroValue5
  t9 := Tryz.underlying9
  a9 := Tryz.isAgg9
  z9 := Tryz.sizeOf9
  v9 := Tryz.zeroValue9
  t22 := Tryz.underlying45
  a22 := Tryz.isAgg45
  z22 := Tryz.sizeOf45
  v22 := Tryz.zeroValue45
  t23 := Tryz.underlying45
  a23 := Tryz.isAgg45
  z23 := Tryz.sizeOf45
  v23 := Tryz.zeroValue45
  t25 := Tryz.underlying3
  a25 := Tryz.isAgg3
  z25 := Tryz.sizeOf3
  v25 := Tryz.zeroValue3
  t32 := Tryz.underlying96
  a32 := Tryz.isAgg96
  z32 := Tryz.sizeOf96
  v32 := Tryz.zeroValue96
  t35 := Tryz.underlying114
  a35 := Tryz.isAgg114
  z35 := Tryz.sizeOf114
  v35 := Tryz.zeroValue114
  t36 := Tryz.underlying115
  a36 := Tryz.isAgg115
  z36 := Tryz.sizeOf115
  v36 := Tryz.zeroValue115
  t41 := Tryz.underlying120
  a41 := Tryz.isAgg120
  z41 := Tryz.sizeOf120
  v41 := Tryz.zeroValue120
  t44 := Tryz.underlying123
  a44 := Tryz.isAgg123
  z44 := Tryz.sizeOf123
  v44 := Tryz.zeroValue123
  t46 := Tryz.underlying22
  a46 := Tryz.isAgg22
  z46 := Tryz.sizeOf22
  v46 := Tryz.zeroValue22
  t53 := Tryz.underlying133
  a53 := Tryz.isAgg133
  z53 := Tryz.sizeOf133
  v53 := Tryz.zeroValue133
  t57 := Tryz.underlying137
  a57 := Tryz.isAgg137
  z57 := Tryz.sizeOf137
  v57 := Tryz.zeroValue137
  t63 := Tryz.underlying146
  a63 := Tryz.isAgg146
  z63 := Tryz.sizeOf146
  v63 := Tryz.zeroValue146
  t64 := Tryz.underlying147
  a64 := Tryz.isAgg147
  z64 := Tryz.sizeOf147
  v64 := Tryz.zeroValue147 }
end Go.Proofs.YtmdnohpolepcoaaGreat

namespace Go.Proofs.YtmdnohpolepcoaaGreat
open Go.RowKit Go.Maps Go.Sort Go.Shelf
set_option linter.unusedSimpArgs false
set_option linter.unusedVariables false
set_option maxRecDepth 10000

def sortedS : Spec := fun args S => match args with
  | [.f (.func f) [] [.p i 0 0]] => match S[i]? with
    | some (.cells [.m j] 0 none true) => match S[j]? with
      | some (.map es clock) => match keysOf es with
        | some ks => if f = 29 ∧ ks.Nodup ∧ (es.map fun e => e.2.2).Nodup ∧ (∀ e ∈ es, e.2.2 < clock) ∧ es.length ≤ 1000000 ∧ (∀ k ∈ ks, -9223372036854775808 ≤ k ∧ k ≤ 9223372036854775807) then
            some (retX false S (isort ks), retM false (intE .i64) S (isort ks)) else none
        | none => none
      | _ => none
    | _ => none
  | _ => none
theorem sortsA (m : Nat) : AnyZI.SortsIn Tryz.prog Tryz.sortedA_ren Fence.wide m :=
  ⟨fun blk off cap ss W hH hblk hsz => callsIn_wide.2 (AnyM.slices_Sort_int Tryz.sortA blk off cap ss W hH hblk hsz),
   fun p cap W => callsIn_wide.2 (AnyM.slices_Sort_int_none Tryz.sortA p cap W)⟩
theorem isort_len (l : List Int) : (isort l).length = l.length := (isort_perm l).length_eq
theorem lit_i64 {k : Int} (h : -9223372036854775808 ≤ k ∧ k ≤ 9223372036854775807) : (Lit.int .i64 k).wf = true := by
  have h1 : IntKind.min .i64 = -9223372036854775808 := by decide
  have h2 : IntKind.max .i64 = 9223372036854775807 := by decide
  simp only [Lit.wf, h1, h2, Bool.and_eq_true, decide_eq_true_eq]
  exact h
/-- What the kit's sort answers at such a map. -/
theorem sorted_calls {w : World} {bx bm : Nat} {E : Array MapEntry} {clock : Nat} {ks : List Int} (hcell : w.cell? ⟨bx, 0, none⟩ = some (.map (some bm))) (hbx : bx < w.heap.size) (hE : w.heap[bm]? = some (.map E clock))
    (hk : E.toList.map (fun e => e.key) = ks.map encZ) (hnd : ks.Nodup) (hbn : (E.toList.map fun e => e.born).Nodup) (hbl : ∀ e ∈ E.toList, e.born < clock) (hlen : E.size ≤ 1000000) (hrg : ∀ k ∈ ks, -9223372036854775808 ≤ k ∧ k ≤ 9223372036854775807) :
    Calls Tryz.prog 17 #[.func (.func 29) #[] #[.pointer (some ⟨bx, 0, none⟩)]] w fun e w' => ∃ v : Value, e = .returned v ∧
      w'.ownsRow w.heap.size (Tryz.sortedA_ren.t 26) 1 v ks.length ((isort ks).map encZ) ∧ (v = .slice none 0 0 ↔ ks = []) ∧ Below w.heap.size w w' := by
  obtain ⟨R, hR⟩ : ∃ R : Value → Option (DataW Unit × List MemPlace), ∀ v, R v = some (.nil, []) := ⟨fun _ => some (.nil, []), fun _ => rfl⟩
  have hrd : ∀ x ∈ E.toList, ∃ k, k ∈ ks ∧ WideElems.rd Tryz.prog (Tryz.keysA_ren.t 26) R x = some (.int .i64 k, .nil) ∧ x.key = encZ k := by
    intro x hx
    have h1 : x.key ∈ E.toList.map (fun e => e.key) := List.mem_map.2 ⟨x, hx, rfl⟩
    rw [hk] at h1
    obtain ⟨k, hk1, hk2⟩ := List.mem_map.1 h1
    refine ⟨k, hk1, ?_, hk2.symm⟩
    obtain ⟨key, val, born⟩ := x
    simp only at hk2
    subst hk2
    exact WideElems.rd_mk (yv := (.nil, [])) (keyOf_int_mk Tryz.keysA.t26 (lit_i64 (hrg k hk1))) (hR _)
  have hF : WideElems.Fit Tryz.prog (Tryz.keysA_ren.t 26) R E clock := by
    refine ⟨Nat.le_trans hlen (by decide), ⟨hbl, hbn, ?_⟩, fun x hx => ?_⟩
    · rw [hk]
      exact List.Pairwise.map _ (fun a b hab e => hab (encZ_inj e)) hnd
    · obtain ⟨k, _, h, _⟩ := hrd x hx; exact ⟨_, h⟩
  have hown : w.ownsMap Tryz.prog (Tryz.keysA_ren.t 26) R bm E.size (.map ((E.toList.map (WideElems.rg Tryz.prog (Tryz.keysA_ren.t 26) R)).foldr DataW.insert [])) := ⟨E, clock, hE, hF, Nat.le_refl _, rfl⟩
  have hpm := WideShapes.sorted_perm (E.toList.map (WideElems.rg Tryz.prog (Tryz.keysA_ren.t 26) R))
  have hsize : Maps.size (DataW.map ((E.toList.map (WideElems.rg Tryz.prog (Tryz.keysA_ren.t 26) R)).foldr DataW.insert [])) = E.size := by
    show List.length _ = _
    rw [hpm.length_eq, List.length_map]; simp
  have hkeys : (intKeys (DataW.map ((E.toList.map (WideElems.rg Tryz.prog (Tryz.keysA_ren.t 26) R)).foldr DataW.insert []))).Perm ks := by
    show (List.map _ _).Perm _
    refine (hpm.map _).trans ?_
    rw [List.map_map]
    have : E.toList.map ((fun p : Lit × DataW Unit => Go.intOf p.1) ∘ WideElems.rg Tryz.prog (Tryz.keysA_ren.t 26) R) = ks := by
      have e1 : ks = (E.toList.map (fun e => e.key)).map (fun v => match v with | .int _ n => n | _ => 0) := by
        rw [hk, List.map_map]
        exact ((List.map_congr_left (g := id) fun a _ => rfl).trans (List.map_id _)).symm
      rw [e1, List.map_map]
      refine List.map_congr_left fun x hx => ?_
      obtain ⟨k, _, h, hq⟩ := hrd x hx
      simp only [Function.comp, WideElems.rg_of h, hq, Go.intOf, encZ]
    rw [this]
  have hseq := AnyZI.keys_gives (ρ := Tryz.keysA_ren) { Tryz.keysA with } Fence.wide 2 trivial rfl (by omega) bx bm E.size _ w hbx hcell hown
  have cS := AnyZI.sorted_in Tryz.sortedA Fence.wide 5 trivial trivial trivial trivial rfl (by omega) (sortsA _) (enters_of Tryz.func28 (by kernel_rfl) rfl) 29 #[.pointer (some ⟨bx, 0, none⟩)] trivial (enters_of Tryz.func29 (by kernel_rfl) rfl) _ (Maps.size _) (by rw [hsize]; exact Nat.le_trans hlen (by decide)) (by rw [hsize]; omega) w hseq
  have cS' : CallsIn Fence.wide 5 Tryz.prog 17 #[.func (.func 29) #[] #[.pointer (some ⟨bx, 0, none⟩)]] w _ := cS
  refine ((callsIn_wide (n := 5)).1 cS').mono fun e w' hp => ?_
  obtain ⟨v, ss, rfl, hperm, hrow, hnil, hb⟩ := hp
  have hp2 := hperm.trans hkeys
  refine ⟨v, rfl, ?_, ?_, hb⟩
  · rw [← merge_isort hp2, ← hp2.length_eq]; exact hrow
  · rw [hnil]
    constructor
    · rintro rfl; exact List.nil_perm.1 hp2
    · rintro rfl; exact List.perm_nil.1 hp2
theorem sorted_ok : SpecOK Tryz.prog 17 sortedS := by
  intro args S x S' h
  unfold sortedS at h
  split at h
  · rename_i f i
    split at h
    · rename_i j hBi
      split at h
      · rename_i es clock hBj
        split at h
        · rename_i ks hks
          split at h
          · rename_i hc
            obtain ⟨rfl, hnd, hbn, hbl, hlen, hrg⟩ := hc
            simp only [Option.some.injEq, Prod.mk.injEq] at h
            obtain ⟨rfl, rfl⟩ := h
            refine ⟨by kernel_rfl, fun base w0 K w vs hΛ hA hS => ?_⟩
            obtain ⟨v1, hvs⟩ : ∃ v1, vs.toList = [v1] := by
              match hh : vs.toList, hA.1 with
              | [p], _ => exact ⟨p, rfl⟩
            rw [hvs] at hA
            have q1 : VR K S (.f (.func 29) [] [.p i 0 0]) v1 := hA.2 0 (by simp) (by simp)
            have hvs' : vs = #[v1] := by rw [← Array.toArray_toList (xs := vs), hvs]
            subst hvs'
            cases q1 with
            | f _ _ _ x' y' hx hy hhx hhy =>
              have hx0 : x' = #[] := Array.eq_empty_of_size_eq_zero hx.symm
              subst hx0
              obtain ⟨vp, rfl⟩ : ∃ vp, y' = #[vp] := by
                obtain ⟨l⟩ := y'
                match l, hy with
                | [p], _ => exact ⟨p, rfl⟩
              have qp : VR K S (.p i 0 0) vp := hhy 0
              cases qp with
              | p _ _ _ a B h1 h2 h3 =>
                rw [hBi] at h1; injection h1 with h1; subst h1
                obtain rfl := h3 rfl
                obtain ⟨xc, hcell, hxc⟩ := hS.load hBi (k := 0) (by simp)
                have hxc : VR K S (.m j) xc := hxc
                obtain ⟨E, m1, m2, m3, m4⟩ := hS.blk j _ hBj
                obtain ⟨k1, k2⟩ := keysOf_len hks
                cases hxc with
                | m _ r B2 n1 n2 =>
                  rw [hBj] at n1; injection n1 with n1; subst n1
                  obtain rfl := n2 rfl
                  have hbi : K.μ i < w.heap.size := (hS.blk i _ hBi).lt
                  have hkk : E.toList.map (fun e => e.key) = ks.map encZ := by
                    refine List.ext_getElem (by simp [k1, m2]) fun k hk1 hk2 => ?_
                    have hke : k < es.length := by rw [m2]; simpa using hk1
                    have hkE : k < E.size := by simpa using hk1
                    have hq := (m4 k hke hkE).1
                    rw [k2 k hke (by simpa using hk2)] at hq
                    rw [List.getElem_map, List.getElem_map, Array.getElem_toList]
                    generalize hv : (E[k]).key = kv at hq ⊢
                    cases hq; rfl
                  have hbb : E.toList.map (fun e => e.born) = es.map (fun e => e.2.2) := by
                    refine List.ext_getElem (by simp [m2]) fun k hk1 hk2 => ?_
                    have hke : k < es.length := by simpa using hk2
                    have hkE : k < E.size := by simpa using hk1
                    rw [List.getElem_map, List.getElem_map, Array.getElem_toList]
                    exact (m4 k hke hkE).2.2.symm
                  have hbl' : ∀ e ∈ E.toList, e.born < clock := by
                    intro e he
                    have h1 : e.born ∈ E.toList.map (fun e => e.born) := List.mem_map.2 ⟨e, he, rfl⟩
                    rw [hbb] at h1
                    obtain ⟨e', he', h2⟩ := List.mem_map.1 h1
                    rw [← h2]; exact hbl e' he'
                  refine (sorted_calls (ks := ks) hcell hbi m1 hkk hnd (by rw [hbb]; exact hbn) hbl' (by rw [← m2]; exact hlen) hrg).mono fun e w' hp => ?_
                  obtain ⟨v, rfl, hrow, hnil, hb⟩ := hp
                  obtain ⟨s1, s2⟩ := hS.later hb
                  rcases hrow with ⟨hl, ⟨rfl, h0⟩ | ⟨g, cap, cur, rfl, hbase, hg, hn, hcm, hcs, htk⟩⟩
                  · have hks0 : ks = [] := List.eq_nil_of_length_eq_zero h0
                    subst hks0
                    exact ⟨K, _, rfl, .sn, s1, s2⟩
                  · have hne : ks ≠ [] := fun e0 => by simpa using hnil.2 e0
                    have hie : isort ks ≠ [] := fun e0 => by
                      have := isort_len ks
                      rw [e0] at this
                      exact hne (List.eq_nil_of_length_eq_zero this.symm)
                    obtain ⟨r1, r2⟩ := hS.comes hb hbase (n := cur.size) (.cells ((isort ks).flatMap (intE .i64).enc) 0 (some 1) true) fun K' S' hE hμ hσ => by
                      have hlf : ((isort ks).flatMap (intE .i64).enc).length = ks.length := by rw [enc_length, isort_len]; exact Nat.mul_one _
                      refine ⟨cur, _, _, by rw [hμ]; exact hg, hσ.symm, by rw [hlf]; omega, fun q => (by cases q), fun k hk => ?_, fun _ => ⟨by rw [hμ]; exact Nat.le_trans hS.hb hbase, fun o _ => by simp⟩⟩
                      rw [hlf] at hk
                      have hkc : k < cur.size := by omega
                      have e1 : ((isort ks).flatMap (intE .i64).enc).getD k .u = .i .i64 ((isort ks)[k]'(by rw [isort_len]; exact hk)) := by
                        have : (isort ks).flatMap (intE .i64).enc = (isort ks).map (AV.i .i64) := by
                          generalize isort ks = l
                          induction l with
                          | nil => rfl
                          | cons a l ih => rw [List.flatMap_cons, ih]; rfl
                        rw [this, List.getD_eq_getElem?_getD, List.getElem?_map, List.getElem?_eq_getElem (by rw [isort_len]; exact hk)]; rfl
                      have e2 : cur.getD k undef = encZ ((isort ks)[k]'(by rw [isort_len]; exact hk)) := by
                        have h1 : (cur.toList.take (ks.length * 1))[k]? = some (encZ ((isort ks)[k]'(by rw [isort_len]; exact hk))) := by
                          rw [htk, List.getElem?_map, List.getElem?_eq_getElem (by rw [isort_len]; exact hk)]; rfl
                        rw [List.getElem?_take, if_pos (by omega)] at h1
                        rw [Array.getD_eq_getD_getElem?, ← Array.getElem?_toList, h1]; rfl
                      rw [e1, e2]
                      exact .i ..
                    obtain ⟨a, l, hal⟩ := List.exists_cons_of_ne_nil hie
                    have hx : retX false S (isort ks) = .sl S.length 0 0 ks.length ks.length false := by
                      rw [← isort_len ks, hal]; rfl
                    have hm : retM false (intE .i64) S (isort ks) = S ++ [.cells ((isort ks).flatMap (intE .i64).enc) 0 (some 1) true] := by
                      rw [hal]; rfl
                    rw [hx, hm]
                    refine ⟨_, _, rfl, ?_, r1, r2⟩
                    refine .sl _ _ _ _ _ _ _ _ (.cells ((isort ks).flatMap (intE .i64).enc) 0 (some 1) true) (by simp) (Nat.le_refl _) (Nat.le_refl _) hn (fun q => by cases q) fun _ => ⟨?_, fun _ => ⟨1, rfl, ?_⟩⟩
                    · rw [(K.put_same _ _ _).1]
                    · rw [(K.put_same _ _ _).2]; omega
          · cases h
        · cases h
      · cases h
    · cases h
  · cases h
end Go.Proofs.YtmdnohpolepcoaaGreat

