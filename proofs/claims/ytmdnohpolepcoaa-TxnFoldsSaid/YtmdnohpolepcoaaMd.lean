/- Proved here: what the law of this claim leans on (an evaluator of the model's code, contracts of functions). No condition. -/
import Derived.Test.YtmdnohpolepcoaaQCode
import Derived.Test.YtmdnohpolepcoaaMc
import Derived.Shelf.SlIterI.Nil
import Derived.Shelf.SortM.Plain
import Derived.Shelf.SortM.SortNone
import Derived.Test.YtmdnohpolepcoaaProg
import Derived.TacticsIn
namespace Go.Proofs.Ytmdnohpolepcoaa
open Go.RowKit
attribute [go_sem] Option.map_none Option.map_some decide_true decide_false iaddr_i iaddr_sl_i not_true_eq_false not_false_eq_true ne_eq forall_const false_imp_iff true_imp_iff implies_true Int.cast_ofNat_Int Int.natCast_zero Int.natCast_one Int.add_zero Int.zero_add Nat.reduceBEq Nat.reduceAdd Nat.reduceSub Nat.reduceEqDiff Nat.reduceLeDiff Nat.reduceMul Nat.reduceLT Int.reduceLT Int.reduceLE Int.reduceAdd Int.reduceSub Int.reduceMul Int.reduceNeg Int.reduceEq Int.reduceNe Int.reduceToNat reduceCtorEq
attribute [go_sem ↓] reduceIte
end Go.Proofs.Ytmdnohpolepcoaa
namespace Go.Proofs.Ytmdnohpolepcoaa
open Go.RowKit
set_option linter.unusedSimpArgs false
set_option linter.unusedVariables false
set_option maxRecDepth 10000

/-! ### Plain -/
def u8 (n : Int) : Prop := 0 ≤ n ∧ n ≤ 255
instance (n : Int) : Decidable (u8 n) := by unfold u8; infer_instance
def u32 (n : Int) : Prop := 0 ≤ n ∧ n ≤ 4294967295
instance (n : Int) : Decidable (u32 n) := by unfold u32; infer_instance
def num (a b c d : Int) : Int := ((a * 256 + b) * 256 + c) * 256 + d
def b3 (n : Int) : Int := n / 16777216
def b2 (n : Int) : Int := n / 65536 % 256
def b1 (n : Int) : Int := n / 256 % 256
def b0 (n : Int) : Int := n % 256
def cl (k : Int) : Int := max 0 (min k 32)
def pw (k : Int) : Int := ((2 ^ (32 - k).toNat : Nat) : Int)
def cutv (n k : Int) : Int := n / pw k * pw k

theorem num_b {n : Int} (h : u32 n) : num (b3 n) (b2 n) (b1 n) (b0 n) = n := by unfold num b3 b2 b1 b0 u32 at *; omega
theorem u32_num {a b c d : Int} (ha : u8 a) (hb : u8 b) (hc : u8 c) (hd : u8 d) : u32 (num a b c d) := by unfold num u8 u32 at *; omega
theorem b_num {a b c d : Int} (ha : u8 a) (hb : u8 b) (hc : u8 c) (hd : u8 d) : b3 (num a b c d) = a ∧ b2 (num a b c d) = b ∧ b1 (num a b c d) = c ∧ b0 (num a b c d) = d := by
  unfold num b3 b2 b1 b0 u8 at *; omega
theorem cl_bound (k : Int) : 0 ≤ cl k ∧ cl k ≤ 32 := by unfold cl; omega
theorem pw_pos (k : Int) : 0 < pw k := by unfold pw; exact Int.natCast_pos.2 (Nat.two_pow_pos _)
theorem cutv_le {n k : Int} : cutv n k ≤ n := Int.ediv_mul_le n (by have := pw_pos k; omega)
theorem u32_cutv {n k : Int} (h : u32 n) : u32 (cutv n k) := by
  have h1 : cutv n k ≤ n := cutv_le
  have h2 : 0 ≤ n / pw k := Int.ediv_nonneg h.1 (Int.le_of_lt (pw_pos k))
  have h3 : 0 ≤ cutv n k := Int.mul_nonneg h2 (Int.le_of_lt (pw_pos k))
  unfold u32 at *; omega

/-! ### Bits -/
theorem or_low {a c : Int} (ha : 0 ≤ a) (ha2 : a ≤ 4294967295) (hm : a % 256 = 0) (hc : 0 ≤ c) (hc2 : c ≤ 255) : bitsV .u32 .or a c = some (a + c) := by
  obtain ⟨x, rfl⟩ := Int.eq_ofNat_of_zero_le ha
  obtain ⟨y, rfl⟩ := Int.eq_ofNat_of_zero_le hc
  have hx : x < 4294967296 := by omega
  have e1 : (BitVec.ofInt IntKind.u32.bits (x : Int)).toNat = x := by show (BitVec.ofInt 32 (x : Int)).toNat = x; simp [BitVec.toNat_ofInt]; omega
  have e2 : (BitVec.ofInt IntKind.u32.bits (y : Int)).toNat = y := by show (BitVec.ofInt 32 (y : Int)).toNat = y; simp [BitVec.toNat_ofInt]; omega
  have e3 : Nat.lor x y = x + y := by
    have := Nat.shiftLeft_add_eq_or_of_lt (show y < 2 ^ 8 by omega) (x / 256)
    have hs : (x / 256) <<< 8 = x := by rw [Nat.shiftLeft_eq]; omega
    rw [hs] at this
    exact this.symm
  simp only [bitsV, e1, e2, e3, wrapV]
  congr 1
  omega

theorem nat_and_mask {n j : Nat} (hn : n < 2 ^ 32) (hj : j ≤ 32) : n &&& (2 ^ 32 - 2 ^ j) = n / 2 ^ j * 2 ^ j := by
  have h1 : n / 2 ^ j * 2 ^ j = (n >>> j) <<< j := by rw [Nat.shiftLeft_eq, Nat.shiftRight_eq_div_pow]
  rw [h1]
  apply Nat.eq_of_testBit_eq
  intro i
  have h2 : 2 ^ 32 - 2 ^ j = 2 ^ 32 - ((2 ^ j - 1) + 1) := by have := Nat.two_pow_pos j; omega
  have h3 : 2 ^ j - 1 < 2 ^ 32 := by have := Nat.pow_le_pow_right (n := 2) (by omega) hj; have := Nat.two_pow_pos j; omega
  rw [h2, Nat.testBit_and, Nat.testBit_two_pow_sub_succ h3, Nat.testBit_two_pow_sub_one, Nat.testBit_shiftLeft, Nat.testBit_shiftRight]
  by_cases hi : i < j
  · simp [hi]; omega
  · have hji : j ≤ i := by omega
    rw [show j + (i - j) = i by omega]
    by_cases h32 : i < 32
    · simp [hi, hji, h32]
    · have : n.testBit i = false := Nat.testBit_lt_two_pow (Nat.lt_of_lt_of_le hn (Nat.pow_le_pow_right (by omega) (by omega)))
      simp [this]

theorem and_mask {n k : Int} (h : u32 n) (h0 : 0 ≤ k) (h1 : k ≤ 32) : bitsV .u32 .and n (4294967296 - pw k) = some (cutv n k) := by
  obtain ⟨x, rfl⟩ := Int.eq_ofNat_of_zero_le h.1
  unfold cutv pw
  generalize hj : (32 - k).toNat = j
  have hj2 : j ≤ 32 := by omega
  have hp := Nat.pow_le_pow_right (n := 2) (by omega) hj2
  have hp0 := Nat.two_pow_pos j
  have hx : x < 2 ^ 32 := by have := h.2; omega
  have e1 : (BitVec.ofInt IntKind.u32.bits (x : Int)).toNat = x := by show (BitVec.ofInt 32 (x : Int)).toNat = x; simp [BitVec.toNat_ofInt]; omega
  have e2 : (BitVec.ofInt IntKind.u32.bits (4294967296 - ((2 ^ j : Nat) : Int))).toNat = 2 ^ 32 - 2 ^ j := by
    show (BitVec.ofInt 32 _).toNat = _
    rw [show (4294967296 : Int) - ((2 ^ j : Nat) : Int) = ((2 ^ 32 - 2 ^ j : Nat) : Int) by omega]
    simp only [BitVec.toNat_ofInt]
    omega
  simp only [bitsV, e1, e2, wrapV]
  rw [show Nat.land x (2 ^ 32 - 2 ^ j) = x &&& (2 ^ 32 - 2 ^ j) from rfl, nat_and_mask hx hj2]
  congr 1
  have := Nat.div_mul_le_self x (2 ^ j)
  rw [← Int.natCast_ediv, ← Int.natCast_mul]
  omega

theorem shl_mask {k : Int} (h0 : 0 ≤ k) (h1 : k ≤ 32) : shiftV .shl .u32 4294967295 (32 - k) = some (.i .u32 (4294967296 - pw k)) := by
  unfold shiftV pw
  rw [if_neg (by omega)]
  have hb : IntKind.u32.bits = 32 := rfl
  simp only [hb, wrapV]
  rw [Nat.min_eq_left (by omega)]
  congr 2
  generalize hj : (32 - k).toNat = j
  have hp := Nat.pow_le_pow_right (n := 2) (by omega) (show j ≤ 32 by omega)
  have hp0 := Nat.two_pow_pos j
  omega

/-! ### Rules -/
theorem shr_24 {n : Int} (h : 0 ≤ n) : shiftV .shr .u32 n 24 = some (.i .u32 (n / 16777216)) := by
  simp only [shiftV, IntKind.bits]
  rw [if_neg (by omega), Int.fdiv_eq_ediv_of_nonneg _ (Int.natCast_nonneg _)]; rfl
theorem shr_16 {n : Int} (h : 0 ≤ n) : shiftV .shr .u32 n 16 = some (.i .u32 (n / 65536)) := by
  simp only [shiftV, IntKind.bits]
  rw [if_neg (by omega), Int.fdiv_eq_ediv_of_nonneg _ (Int.natCast_nonneg _)]; rfl
theorem shr_8 {n : Int} (h : 0 ≤ n) : shiftV .shr .u32 n 8 = some (.i .u32 (n / 256)) := by
  simp only [shiftV, IntKind.bits]
  rw [if_neg (by omega), Int.fdiv_eq_ediv_of_nonneg _ (Int.natCast_nonneg _)]; rfl
theorem shl_8 {n : Int} (h : 0 ≤ n) (h2 : n ≤ 16777215) : shiftV .shl .u32 n 8 = some (.i .u32 (n * 256)) := by
  simp only [shiftV, IntKind.bits, wrapV]
  rw [if_neg (by omega)]
  congr 2
  show n * 256 % 4294967296 = _
  omega
theorem wrap_mod {n : Int} : wrapV .u8 n = n % 256 := rfl
theorem bin_or {cst : Bool} {a c : Int} (ha : 0 ≤ a) (ha2 : a ≤ 4294967295) (hm : a % 256 = 0) (hc : 0 ≤ c) (hc2 : c ≤ 255) : binV .int cst .or (.i .u32 a) (.i .u32 c) = some (.i .u32 (a + c)) := by
  rw [bin_i rfl]
  simp only [intV, or_low ha ha2 hm hc hc2, Option.map_some]
theorem bin_and {cst : Bool} {n k : Int} (h : u32 n) (h0 : 0 ≤ k) (h1 : k ≤ 32) : binV .int cst .and (.i .u32 n) (.i .u32 (4294967296 - pw k)) = some (.i .u32 (cutv n k)) := by
  rw [bin_i rfl]
  simp only [intV, and_mask h h0 h1, Option.map_some]
theorem ixa_ag {l : Nat} {cs : List AV} {q : IntKind} {n : Int} (h0 : 0 ≤ n) (h1 : n < l) : ixaV l 1 none (.ag cs) (.i q n) = cs[n.toNat]? := by
  have hn : natV (.i q n) = some n.toNat := natV_i h0
  simp only [ixaV, hn]
  rw [if_pos (by omega)]
  simp [partV]

/-! ### Cells -/
def adr (n : Int) : AV := .ag [.i .u8 (b3 n), .i .u8 (b2 n), .i .u8 (b1 n), .i .u8 (b0 n)]
def net (n k : Int) : AV := .ag [.i .u8 (b3 n), .i .u8 (b2 n), .i .u8 (b1 n), .i .u8 (b0 n), .i .i64 k]
def right (n k : Int) : Prop := cl k = k ∧ cutv n k = n
instance (n k : Int) : Decidable (right n k) := by unfold right; infer_instance
def within (n j m k : Int) : Prop := right n j ∧ k ≤ j ∧ right m k ∧ cutv n k = m
instance (n j m k : Int) : Decidable (within n j m k) := by unfold within; infer_instance
theorem eq_net {a b c d x y z w j k : Int} : eqAgV false [.int, .int, .int, .int, .int] (.ag [.i .u8 a, .i .u8 b, .i .u8 c, .i .u8 d, .i .i64 j]) (.ag [.i .u8 x, .i .u8 y, .i .u8 z, .i .u8 w, .i .i64 k]) = some (.b (decide (a = x ∧ b = y ∧ c = z ∧ d = w ∧ j = k))) := by
  simp [eqAgV, eqCells, eqCell, Bool.beq_eq_decide_eq]
end Go.Proofs.Ytmdnohpolepcoaa

namespace Go.Proofs.Ytmdnohpolepcoaa
open Go.RowKit
set_option linter.unusedSimpArgs false
set_option linter.unusedVariables false
set_option maxRecDepth 10000

theorem none_ok : OK Try.prog (lamOf Try.prog) (orcOf []) := orc_ok (l := []) (fun p hp => by cases hp)

def u84 (a b c d : Int) : Prop := u8 a ∧ u8 b ∧ u8 c ∧ u8 d
instance (a b c d : Int) : Decidable (u84 a b c d) := by unfold u84; infer_instance
theorem u84_num {a b c d : Int} (h : u84 a b c d) : u32 (num a b c d) := u32_num h.1 h.2.1 h.2.2.1 h.2.2.2

def ofS : Spec := fun args S => match args with
  | [.i .u32 n] => if u32 n then some (adr n, S) else none
  | _ => none
theorem ofS_eq {n : Int} (h : u32 n) (S : Mem) : ofS [.i .u32 n] S = some (adr n, S) := by simp only [ofS, if_pos h]
theorem of_ok : SpecOK Try.prog 74 ofS := by
  intro args S x S' h
  simp only [ofS] at h
  split at h
  · rename_i n
    split at h
    · rename_i hn
      cases h
      unfold u32 at hn
      refine fn_of_wp f74 rfl (W_sound none_ok mixed _ _ _ _ _ ?_)
      simp (maxSteps := 1000000) (disch := omega) only [c74, shr_24, shr_16, shr_8, wrap_mod, go_sem]
      rw [show adr n = AV.ag [AV.i IntKind.u8 (n / 16777216 % 256), AV.i IntKind.u8 (n / 65536 % 256), AV.i IntKind.u8 (n / 256 % 256), AV.i IntKind.u8 (n % 256)] by rw [show n / 16777216 % 256 = n / 16777216 by omega]; rfl]
      exact wkv_drop rfl
    · cases h
  · cases h
theorem rof_ok : SpecOK Try.prog 95 ofS := by
  intro args S x S' h
  simp only [ofS] at h
  split at h
  · rename_i n
    split at h
    · rename_i hn
      cases h
      unfold u32 at hn
      refine fn_of_wp f95 rfl (W_sound none_ok mixed _ _ _ _ _ ?_)
      simp (maxSteps := 1000000) (disch := omega) only [c95, go_sem]
      exact wkv_drop rfl
    · cases h
  · cases h

def numS : Spec := fun args S => match args with
  | [.ag [.i .u8 a, .i .u8 b, .i .u8 c, .i .u8 d]] => if u84 a b c d then some (.i .u32 (num a b c d), S) else none
  | _ => none
theorem numS_eq {a b c d : Int} (h : u84 a b c d) (S : Mem) : numS [.ag [.i .u8 a, .i .u8 b, .i .u8 c, .i .u8 d]] S = some (.i .u32 (num a b c d), S) := by simp only [numS, if_pos h]
theorem num_ok : SpecOK Try.prog 75 numS := by
  intro args S x S' h
  simp only [numS] at h
  split at h
  · rename_i a b c d
    split at h
    · rename_i hn
      cases h
      obtain ⟨ha, hb, hc, hd⟩ := hn
      unfold u8 at ha hb hc hd
      refine fn_of_wp f75 rfl (W_sound none_ok mixed _ _ _ _ _ ?_)
      simp (maxSteps := 1000000) (disch := omega) only [c75, go_sem]
      refine wp_unroll none_ok mixed 5 ?_
      simp (maxSteps := 1000000) (disch := omega) only [c75l0, shl_8, bin_or, ixa_ag, go_sem]
      exact wkv_drop rfl
    · cases h
  · cases h
theorem rnum_ok : SpecOK Try.prog 94 numS := by
  intro args S x S' h
  simp only [numS] at h
  split at h
  · rename_i a b c d
    split at h
    · rename_i hn
      cases h
      obtain ⟨ha, hb, hc, hd⟩ := hn
      unfold u8 at ha hb hc hd
      refine fn_of_wp f94 rfl (W_sound none_ok mixed _ _ _ _ _ ?_)
      simp (maxSteps := 1000000) (disch := omega) only [c94, go_sem]
      rw [show num a b c d = a * 16777216 + b * 65536 + c * 256 + d by unfold num; omega]
      exact wkv_drop rfl
    · cases h
  · cases h

def maskS : Spec := fun args S => match args with
  | [.i .i64 k] => some (.i .u32 (4294967296 - pw (cl k)), S)
  | _ => none
theorem mask_ok : SpecOK Try.prog 76 maskS := by
  intro args S x S' h
  simp only [maskS] at h
  split at h
  · rename_i k
    cases h
    refine fn_of_wp f76 rfl (W_sound none_ok mixed _ _ _ _ _ ?_)
    have hk := cl_bound k
    simp (maxSteps := 1000000) (disch := omega) only [c76, show max 0 (min k 32) = cl k from rfl, shl_mask (cl_bound k).1 (cl_bound k).2, go_sem]
    exact wkv_same
  · cases h
def clS : Spec := fun args S => match args with
  | [.i .i64 k] => some (.i .i64 (cl k), S)
  | _ => none
theorem bounded_ok : SpecOK Try.prog 77 clS := by
  intro args S x S' h
  simp only [clS] at h
  split at h
  · rename_i k
    cases h
    refine fn_of_wp f77 rfl (W_sound none_ok mixed _ _ _ _ _ ?_)
    simp (maxSteps := 1000000) (disch := omega) only [c77, go_sem]
    refine ⟨fun h => ?_, fun h => ⟨fun h2 => ?_, fun h2 => ?_⟩⟩ <;> refine wkv_eq wkv_same ?_ rfl <;> congr 1 <;> unfold cl <;> omega
  · cases h

theorem maskS_eq {k : Int} (S : Mem) : maskS [.i .i64 k] S = some (.i .u32 (4294967296 - pw (cl k)), S) := rfl
theorem clS_eq {k : Int} (S : Mem) : clS [.i .i64 k] S = some (.i .i64 (cl k), S) := rfl
def cutS : Spec := fun args S => match args with
  | [.ag [.i .u8 a, .i .u8 b, .i .u8 c, .i .u8 d], .i .i64 k] => if u84 a b c d then some (net (cutv (num a b c d) (cl k)) (cl k), S) else none
  | _ => none
theorem cutS_eq {a b c d k : Int} (h : u84 a b c d) (S : Mem) : cutS [.ag [.i .u8 a, .i .u8 b, .i .u8 c, .i .u8 d], .i .i64 k] S = some (net (cutv (num a b c d) (cl k)) (cl k), S) := by simp only [cutS, if_pos h]
theorem o17_ok : OK Try.prog (lamOf Try.prog) (orcOf [(75, numS), (76, maskS), (74, ofS)]) := orc_ok (by simpa using ⟨num_ok, mask_ok, of_ok⟩)
theorem cut_ok : SpecOK Try.prog 53 cutS := by
  intro args S x S' h
  simp only [cutS] at h
  split at h
  · rename_i a b c d k
    split at h
    · rename_i hn
      cases h
      have hk := cl_bound k
      have h32 := u84_num hn
      refine fn_of_wp f53 rfl (W_sound o17_ok mixed _ _ _ _ _ ?_)
      simp (maxSteps := 1000000) (disch := omega) only [c53, orc_cons, numS_eq hn, maskS_eq, bin_and h32 hk.1 hk.2, ofS_eq (u32_cutv h32), show max 0 (min k 32) = cl k from rfl, adr, go_sem]
      exact wkv_drop rfl
    · cases h
  · cases h

def p2 (t : Int) : Int := ((2 ^ t.toNat : Nat) : Int)
theorem p2_zero : p2 0 = 1 := rfl
theorem p2_succ {t : Int} (h : 0 ≤ t) : p2 (t + 1) = p2 t * 2 := by
  unfold p2
  rw [show (t + 1).toNat = t.toNat + 1 by omega, Nat.pow_succ]
  omega
theorem p2_pos (t : Int) : 0 < p2 t := by unfold p2; exact Int.natCast_pos.2 (Nat.two_pow_pos _)
theorem pw_p2 (k : Int) : pw k = p2 (32 - k) := rfl
theorem div_p2 {n t : Int} (h : 0 ≤ t) : n / p2 t / 2 = n / p2 (t + 1) := by
  rw [p2_succ h, Int.ediv_ediv_of_nonneg (Int.le_of_lt (p2_pos t))]
theorem p2_mono {s t : Int} (h : s ≤ t) : p2 s ≤ p2 t := by
  unfold p2
  exact_mod_cast Nat.pow_le_pow_right (by omega) (by omega)
theorem mul_p2_le {n s t : Int} (h : u32 n) (hs : s ≤ t) : 0 ≤ n / p2 t * p2 s ∧ n / p2 t * p2 s ≤ n := by
  have h1 : 0 ≤ n / p2 t := Int.ediv_nonneg h.1 (Int.le_of_lt (p2_pos t))
  have h2 := Int.ediv_mul_le n (show p2 t ≠ 0 by have := p2_pos t; omega)
  have h3 := Int.mul_le_mul_of_nonneg_left (p2_mono hs) h1
  exact ⟨Int.mul_nonneg h1 (Int.le_of_lt (p2_pos s)), Int.le_trans h3 h2⟩

theorem o16_ok : OK Try.prog (lamOf Try.prog) (orcOf [(94, numS), (77, clS), (95, ofS)]) := orc_ok (by simpa using ⟨rnum_ok, bounded_ok, rof_ok⟩)
theorem rcut_ok : SpecOK Try.prog 78 cutS := by
  intro args S x S' h
  simp only [cutS] at h
  split at h
  · rename_i a b c d k
    split at h
    · rename_i hn
      cases h
      have hk := cl_bound k
      have h32 := u84_num hn
      refine fn_of_wp f78 rfl (W_sound o16_ok mixed _ _ _ _ _ ?_)
      simp (maxSteps := 1000000) (disch := omega) only [c78, orc_cons, numS_eq hn, clS_eq, go_sem]
      generalize hN : num a b c d = N at *
      generalize hK : cl k = K at *
      refine wp_loop (fun j e M dl => dl = [] ∧ ∃ i : Int, K ≤ i ∧ i ≤ 32 ∧ j = (32 - i).toNat ∧ M = S ++ [Blk.cells [AV.i IntKind.u8 a, AV.i IntKind.u8 b, AV.i IntKind.u8 c, AV.i IntKind.u8 d] 0 none true,
        Blk.cells [AV.i IntKind.u8 0, AV.i IntKind.u8 0, AV.i IntKind.u8 0, AV.i IntKind.u8 0, AV.i IntKind.i64 0] 0 none true] ∧
        e.get 4 = .p (S.length + 1) 0 0 ∧ e.get 6 = .i .i64 K ∧ e.get 7 = .i .i64 i ∧ e.get 5 = .i .u32 (N / p2 (i - K))) (j := (32 - K).toNat)
        ⟨rfl, K, Int.le_refl _, hk.2, rfl, rfl, rfl, rfl, rfl, by rw [Int.sub_self, p2_zero, Int.ediv_one]; rfl⟩ ?_
      rintro j e M d' ⟨rfl, i, hi1, hi2, rfl, rfl, h4, h6, h7, h5⟩
      refine W_sound o16_ok mixed _ _ _ _ _ ?_
      have hq := mul_p2_le (s := 0) h32 (show (0 : Int) ≤ i - K by omega)
      rw [p2_zero, Int.mul_one] at hq
      unfold u32 at h32
      by_cases hi : i < 32
      · simp (maxSteps := 1000000) (disch := omega) only [c78l0, h4, h5, h6, h7, hi, go_sem]
        exact ⟨(32 - (i + 1)).toNat, by omega, i + 1, by omega, by omega, rfl, rfl, by rw [show i + 1 - K = (i - K) + 1 by omega, ← div_p2 (by omega)]⟩
      · obtain rfl : i = 32 := by omega
        simp (maxSteps := 1000000) (disch := omega) only [c78l0, h4, h5, h6, h7, go_sem]
        refine wp_loop (fun j e M dl => dl = [] ∧ ∃ i : Int, K ≤ i ∧ i ≤ 32 ∧ j = (32 - i).toNat ∧ M = S ++ [Blk.cells [AV.i IntKind.u8 a, AV.i IntKind.u8 b, AV.i IntKind.u8 c, AV.i IntKind.u8 d] 0 none true,
          Blk.cells [AV.i IntKind.u8 0, AV.i IntKind.u8 0, AV.i IntKind.u8 0, AV.i IntKind.u8 0, AV.i IntKind.i64 0] 0 none true] ∧
          e.get 4 = .p (S.length + 1) 0 0 ∧ e.get 6 = .i .i64 K ∧ e.get 8 = .i .i64 i ∧ e.get 5 = .i .u32 (N / p2 (32 - K) * p2 (i - K))) (j := (32 - K).toNat)
          ⟨rfl, K, Int.le_refl _, hk.2, rfl, rfl, rfl, rfl, rfl, by rw [Int.sub_self, p2_zero, Int.mul_one]; rfl⟩ ?_
        rintro j e M d' ⟨rfl, i, hi1, hi2, rfl, rfl, h4, h6, h8, h5⟩
        refine W_sound o16_ok mixed _ _ _ _ _ ?_
        have hn2 : u32 N := h32
        have hq := mul_p2_le hn2 (show i - K ≤ 32 - K by omega)
        by_cases hi : i < 32
        · have hq2 := mul_p2_le hn2 (show i - K + 1 ≤ 32 - K by omega)
          rw [p2_succ (by omega), ← Int.mul_assoc] at hq2
          simp (maxSteps := 1000000) (disch := omega) only [c78l1, h4, h5, h6, h8, hi, go_sem]
          exact ⟨(32 - (i + 1)).toNat, by omega, i + 1, by omega, by omega, rfl, rfl, by rw [show i + 1 - K = (i - K) + 1 by omega, p2_succ (by omega), Int.mul_assoc]⟩
        · obtain rfl : i = 32 := by omega
          have hr : u32 (N / p2 (32 - K) * p2 (32 - K)) := by unfold u32; omega
          simp (maxSteps := 1000000) (disch := omega) only [c78l1, h4, h5, h6, h8, orc_cons, ofS_eq hr, adr, net, go_sem]
          unfold cutv
          rw [pw_p2]
          exact wkv_drop rfl
    · cases h
  · cases h
end Go.Proofs.Ytmdnohpolepcoaa

namespace Go.Proofs.Ytmdnohpolepcoaa
open Go.RowKit
set_option linter.unusedSimpArgs false
set_option linter.unusedVariables false
set_option maxRecDepth 10000

theorem cl_id {k : Int} (h0 : 0 ≤ k) (h1 : k ≤ 32) : cl k = k := by unfold cl; omega
theorem adr_eq {n a b c d : Int} (hn : u32 n) (h : u84 a b c d) : (b3 n = a ∧ b2 n = b ∧ b1 n = c ∧ b0 n = d) ↔ n = num a b c d := by
  obtain ⟨q1, q2, q3, q4⟩ := b_num h.1 h.2.1 h.2.2.1 h.2.2.2
  constructor
  · rintro ⟨rfl, rfl, rfl, rfl⟩; exact (num_b hn).symm
  · rintro rfl; exact ⟨q1, q2, q3, q4⟩
theorem net_eq {a b c d k : Int} (h : u84 a b c d) (h0 : 0 ≤ k) (h1 : k ≤ 32) : (b3 (cutv (num a b c d) (cl k)) = a ∧ b2 (cutv (num a b c d) (cl k)) = b ∧ b1 (cutv (num a b c d) (cl k)) = c ∧ b0 (cutv (num a b c d) (cl k)) = d ∧ cl k = k) ↔ right (num a b c d) k := by
  rw [cl_id h0 h1]
  have := adr_eq (u32_cutv (k := k) (u84_num h)) h
  unfold right
  rw [cl_id h0 h1]
  constructor
  · rintro ⟨q1, q2, q3, q4, _⟩; exact ⟨rfl, this.1 ⟨q1, q2, q3, q4⟩⟩
  · rintro ⟨_, q⟩
    obtain ⟨q1, q2, q3, q4⟩ := this.2 q
    exact ⟨q1, q2, q3, q4, rfl⟩

theorem wkv_b {S L : Mem} {p q : Prop} [Decidable p] [Decidable q] (h : p ↔ q) : WkV S (.b (decide p)) S (.b (decide q)) (S ++ L) := by
  rw [show decide p = decide q by rw [decide_eq_decide]; exact h]
  exact wkv_drop rfl
theorem wkv_f {S L : Mem} {p : Prop} [Decidable p] (h : ¬ p) : WkV S (.b (decide p)) S (.b false) (S ++ L) := by
  rw [show decide p = false by simpa using h]
  exact wkv_drop rfl
theorem right_bound {n k : Int} (h : right n k) : 0 ≤ k ∧ k ≤ 32 := by
  have := cl_bound k; rw [h.1] at this; exact this

def rightS : Spec := fun args S => match args with
  | [.ag [.i .u8 a, .i .u8 b, .i .u8 c, .i .u8 d, .i .i64 k]] => if u84 a b c d then some (.b (decide (right (num a b c d) k)), S) else none
  | _ => none
theorem rightS_eq {a b c d k : Int} (h : u84 a b c d) (S : Mem) : rightS [.ag [.i .u8 a, .i .u8 b, .i .u8 c, .i .u8 d, .i .i64 k]] S = some (.b (decide (right (num a b c d) k)), S) := by simp only [rightS, if_pos h]
theorem o18_ok : OK Try.prog (lamOf Try.prog) (orcOf [(53, cutS)]) := orc_ok (by simpa using cut_ok)
theorem o19_ok : OK Try.prog (lamOf Try.prog) (orcOf [(78, cutS), (77, clS)]) := orc_ok (by simpa using ⟨rcut_ok, bounded_ok⟩)
theorem right_ok : SpecOK Try.prog 33 rightS := by
  intro args S x S' h
  simp only [rightS] at h
  split at h
  · rename_i a b c d k
    split at h
    · rename_i hn
      cases h
      refine fn_of_wp f33 rfl (W_sound o18_ok mixed _ _ _ _ _ ?_)
      simp (maxSteps := 1000000) (disch := omega) only [c33, orc_cons, cutS_eq hn, net, eq_net, go_sem]
      refine ⟨fun h0 => ⟨fun h1 => wkv_b (net_eq hn h0 h1).symm, fun h1 => wkv_f fun hr => ?_⟩, fun h0 => wkv_f fun hr => ?_⟩
      · exact h1 (right_bound hr).2
      · exact h0 (right_bound hr).1
    · cases h
  · cases h
theorem rright_ok : SpecOK Try.prog 55 rightS := by
  intro args S x S' h
  simp only [rightS] at h
  split at h
  · rename_i a b c d k
    split at h
    · rename_i hn
      cases h
      refine fn_of_wp f55 rfl (W_sound o19_ok mixed _ _ _ _ _ ?_)
      simp (maxSteps := 1000000) (disch := omega) only [c55, orc_cons, cutS_eq hn, clS_eq, net, eq_net, go_sem]
      refine ⟨fun h0 => ?_, fun h0 => wkv_f fun hr => h0 hr.1⟩
      have hk := cl_bound k
      rw [h0] at hk
      exact wkv_b (net_eq hn hk.1 hk.2).symm
    · cases h
  · cases h

end Go.Proofs.Ytmdnohpolepcoaa

namespace Go.Proofs.Ytmdnohpolepcoaa
open Go.RowKit
set_option linter.unusedSimpArgs false
set_option linter.unusedVariables false
set_option maxRecDepth 10000

/-- Where the first is that it holds of. -/
def idx {α : Type} (p : α → Bool) (l : List α) : Int := match l.findIdx? p with
  | some k => k
  | none => -1
theorem idx_ge {α : Type} (p : α → Bool) (l : List α) : (0 ≤ idx p l) = (l.any p = true) := by
  unfold idx
  cases h : l.findIdx? p with
  | some k =>
    have := List.findIdx?_eq_some_iff_getElem.1 h
    obtain ⟨hk, hp, _⟩ := this
    simp only [eq_iff_iff]
    exact ⟨fun _ => List.any_eq_true.2 ⟨l[k], List.getElem_mem hk, hp⟩, fun _ => by omega⟩
  | none =>
    have := List.findIdx?_eq_none_iff.1 h
    simp only [eq_iff_iff]
    refine ⟨fun h => by omega, fun h => ?_⟩
    obtain ⟨x, hx, hp⟩ := List.any_eq_true.1 h
    rw [this x hx] at hp; cases hp
theorem idx_at {α : Type} {p : α → Bool} {l : List α} {k : Nat} (hk : k < l.length) (hp : p l[k] = true) (hn : ∀ j (h : j < k), p (l[j]'(by omega)) = false) : idx p l = k := by
  unfold idx
  rw [List.findIdx?_eq_some_iff_getElem.2 ⟨hk, hp, fun j hj => by simpa using hn j hj⟩]
theorem idx_none {α : Type} {p : α → Bool} {l : List α} (h : ∀ j (hj : j < l.length), p l[j] = false) : idx p l = -1 := by
  unfold idx
  rw [List.findIdx?_eq_none_iff.2 fun x hx => by obtain ⟨j, hj, rfl⟩ := List.getElem_of_mem hx; exact h j hj]

def aboveS : Spec := fun args S => match args with
  | [.i .u64 n] => some (.b (decide (281474976710656 < n)), S)
  | _ => none
def belowS : Spec := fun args S => match args with
  | [.i .u64 n] => some (.b (decide (n < 1500)), S)
  | _ => none
theorem above_ok : SpecOK Try.prog 31 aboveS := by
  intro args S x S' h
  simp only [aboveS] at h
  split at h
  · cases h
    refine fn_of_wp f31 rfl (W_sound none_ok mixed _ _ _ _ _ ?_)
    simp (maxSteps := 1000000) (disch := omega) only [c31, go_sem]
    exact wkv_same
  · cases h
theorem below_ok : SpecOK Try.prog 32 belowS := by
  intro args S x S' h
  simp only [belowS] at h
  split at h
  · cases h
    refine fn_of_wp f32 rfl (W_sound none_ok mixed _ _ _ _ _ ?_)
    simp (maxSteps := 1000000) (disch := omega) only [c32, go_sem]
    exact wkv_same
  · cases h

/-- What a function value says of a number. -/
def predU (f : AV) : Option (Int → Bool) := match f with
  | .f (.func g) [] [] => if g = 31 then some (fun n => decide (281474976710656 < n)) else if g = 32 then some (fun n => decide (n < 1500)) else none
  | _ => none
theorem oU_ok : OK Try.prog (lamOf Try.prog) (orcOf [(31, aboveS), (32, belowS)]) := orc_ok (by simpa using ⟨above_ok, below_ok⟩)
theorem predU_call {f : AV} {p : Int → Bool} (h : predU f = some p) : ∃ g, f = .f (.func g) [] [] ∧ ∀ n S, (orcOf [(31, aboveS), (32, belowS)]).fn g [.i .u64 n] S = some (.b (p n), S) := by
  unfold predU at h
  split at h
  · rename_i g
    split at h
    · rename_i hg; subst hg; injection h with h; subst h; exact ⟨_, rfl, fun n S => rfl⟩
    · split at h
      · rename_i hg; subst hg; injection h with h; subst h; exact ⟨_, rfl, fun n S => rfl⟩
      · cases h
  · cases h

def idxUS : Spec := fun args S => match args with
  | [x, f] => match lstV (intE .u64) S x, predU f with
    | some l, some p => if l.length ≤ 1000000 then some (.i .i64 (idx p l), S) else none
    | _, _ => none
  | _ => none
theorem idxU_ok : SpecOK Try.prog 54 idxUS := by
  intro args S x S' h
  simp only [idxUS] at h
  split at h
  · rename_i s f
    split at h
    · rename_i l p hl hp
      split at h
      · rename_i hlim
        cases h
        obtain ⟨g, rfl, hg⟩ := predU_call hp
        refine fn_of_wp f54 rfl (W_sound oU_ok mixed _ _ _ _ _ ?_)
        simp (maxSteps := 1000000) (disch := omega) only [c54, lst_len hl, go_sem]
        refine wp_loop (fun j e M dl => dl = [] ∧ ∃ k : Nat, j = l.length - k ∧ k ≤ l.length ∧ M = S ∧ (∀ i (hi : i < k) (hl : i < l.length), p l[i] = false) ∧
          e.get 0 = s ∧ e.get 1 = .f (.func g) [] [] ∧ e.get 7 = .i .i64 l.length ∧ e.get 8 = .i .i64 k) (j := l.length) ⟨rfl, 0, rfl, Nat.zero_le _, rfl, fun i hi => absurd hi (Nat.not_lt_zero _), rfl, rfl, rfl, rfl⟩ ?_
        rintro j e M d' ⟨rfl, k, rfl, hk, rfl, hn, h0, h1, h7, h8⟩
        refine W_sound oU_ok mixed _ _ _ _ _ ?_
        by_cases hkl : k < l.length
        · obtain ⟨bi, o, v, cap, ex, rfl⟩ := lst_sl hl hkl
          have hc := lstV_cell hl rfl (fun a => rfl) hkl []
          rw [List.append_nil] at hc
          have hkI : (k : Int) < l.length := by omega
          simp (maxSteps := 1000000) (disch := omega) only [c54l0, h0, h1, h7, h8, hkI, Int.toNat_natCast, Nat.mul_one, hc, hg, go_sem]
          cases hpk : p l[k] with
          | true =>
            refine ⟨fun _ => ?_, fun h => by cases h⟩
            rw [idx_at hkl hpk fun j hj => hn j hj (by omega)]
            exact wkv_same
          | false =>
            refine ⟨(fun h => by cases h), fun _ => ⟨l.length - (k + 1), by omega, k + 1, rfl, hkl, fun i hi hil => ?_, rfl⟩⟩
            by_cases hik : i = k
            · subst hik; exact hpk
            · exact hn i (by omega) hil
        · have hkI : ¬ (k : Int) < l.length := by omega
          simp (maxSteps := 1000000) (disch := omega) only [c54l0, h0, h1, h7, h8, hkI, go_sem]
          rw [idx_none fun j hj => hn j (by omega) hj]
          exact wkv_same
      · cases h
    · cases h
  · cases h

def hasUS : Spec := fun args S => match args with
  | [x, f] => match lstV (intE .u64) S x, predU f with
    | some l, some p => if l.length ≤ 1000000 then some (.b (l.any p), S) else none
    | _, _ => none
  | _ => none
theorem oI_ok : OK Try.prog (lamOf Try.prog) (orcOf [(54, idxUS)]) := orc_ok (by simpa using idxU_ok)
theorem hasU_ok : SpecOK Try.prog 34 hasUS := by
  intro args S x S' h
  simp only [hasUS] at h
  split at h
  · rename_i s f
    split at h
    · rename_i l p hl hp
      split at h
      · rename_i hlim
        cases h
        have hi : idxUS [s, f] S = some (.i .i64 (idx p l), S) := by simp only [idxUS, hl, hp, if_pos hlim]
        refine fn_of_wp f34 rfl (W_sound oI_ok mixed _ _ _ _ _ ?_)
        simp (maxSteps := 1000000) (disch := omega) only [c34, orc_cons, hi, go_sem]
        refine wkv_eq wkv_same ?_ rfl
        congr 1
        have := idx_ge p l
        cases h : l.any p
        · rw [h] at this; simp [this]
        · rw [h] at this; simp [this]
      · cases h
    · cases h
  · cases h
end Go.Proofs.Ytmdnohpolepcoaa

namespace Go.Proofs.Ytmdnohpolepcoaa
open Go.RowKit
set_option linter.unusedSimpArgs false
set_option linter.unusedVariables false
set_option maxRecDepth 10000

/-- A policy. -/
structure Pol where
  sub : Int
  a : Int
  b : Int
  c : Int
  d : Int
  bits : Int
  rate : Int
  burst : Int
  srate : Int
  sburst : Int
  quota : Int
  lease : Int
  quantum : Int
  deriving DecidableEq

def Pol.enc (p : Pol) : List AV := [.i .i64 p.sub, .i .u8 p.a, .i .u8 p.b, .i .u8 p.c, .i .u8 p.d, .i .i64 p.bits, .i .u64 p.rate, .i .u64 p.burst, .i .u64 p.srate, .i .u64 p.sburst, .i .u64 p.quota, .i .u64 p.lease, .i .u64 p.quantum]
def Pol.fits (p : Pol) : Prop := u84 p.a p.b p.c p.d
instance (p : Pol) : Decidable p.fits := by unfold Pol.fits; infer_instance
def Pol.nums (p : Pol) : List Int := [p.lease, p.quantum, p.rate, p.burst, p.srate, p.sburst, p.quota]
def Pol.right (p : Pol) : Prop := 1 ≤ p.sub ∧ p.sub ≤ 255 ∧ Go.Proofs.Ytmdnohpolepcoaa.right (num p.a p.b p.c p.d) p.bits ∧ (∀ n ∈ p.nums, n ≤ 281474976710656) ∧ 1500 ≤ p.lease ∧ 1500 ≤ p.quantum
instance (p : Pol) : Decidable p.right := by unfold Pol.right; infer_instance

def polS : Spec := fun args S => match args with
  | [.ag [.i .i64 sub, .i .u8 a, .i .u8 b, .i .u8 c, .i .u8 d, .i .i64 bits, .i .u64 rate, .i .u64 burst, .i .u64 srate, .i .u64 sburst, .i .u64 quota, .i .u64 lease, .i .u64 quantum]] =>
    if u84 a b c d then some (.b (decide (Pol.right ⟨sub, a, b, c, d, bits, rate, burst, srate, sburst, quota, lease, quantum⟩)), S) else none
  | _ => none
theorem polS_eq {p : Pol} (h : p.fits) (S : Mem) : polS [.ag p.enc] S = some (.b (decide p.right), S) := by
  have h : u84 p.a p.b p.c p.d := h
  simp only [polS, Pol.enc, if_pos h]
theorem lstU_sl {S : Mem} {i o v len cap : Nat} {ex : Bool} : lstV (intE .u64) S (.sl i o v len cap ex) = match rowB (S[i]?) o v len with
    | some xs => decL (intE .u64) len xs
    | none => none := by
  simp only [lstV, show (intE .u64).sz = 1 from rfl, Nat.mul_one, rowAt_B]
  first | done | (cases rowB (S[i]?) o v len <;> rfl)
theorem decU_nil {xs : List AV} : decL (intE .u64) 0 xs = some [] := rfl
theorem decU_cons {n : Nat} {a : Int} {r : List AV} : decL (intE .u64) (n + 1) (.i .u64 a :: r) = (decL (intE .u64) n r).map (a :: ·) := by
  have h1 : (AV.i .u64 a :: r).take (intE .u64).sz = [.i .u64 a] := rfl
  have h2 : (AV.i .u64 a :: r).drop (intE .u64).sz = r := rfl
  have h3 : (intE .u64).dec [.i .u64 a] = some a := rfl
  simp only [decL, h1, h2, h3]
  cases decL (intE .u64) n r <;> rfl
theorem decU7 {a b c d e f g : Int} : decL (intE .u64) 7 [.i .u64 a, .i .u64 b, .i .u64 c, .i .u64 d, .i .u64 e, .i .u64 f, .i .u64 g] = some [a, b, c, d, e, f, g] := by
  simp only [decU_cons, decU_nil, Option.map_some]
theorem decU2 {a b : Int} : decL (intE .u64) 2 [.i .u64 a, .i .u64 b] = some [a, b] := by
  simp only [decU_cons, decU_nil, Option.map_some]
theorem predU1 : predU (.f (.func 31) [] []) = some (fun n => decide (281474976710656 < n)) := rfl
theorem predU2 : predU (.f (.func 32) [] []) = some (fun n => decide (n < 1500)) := rfl
theorem oP_ok : OK Try.prog (lamOf Try.prog) (orcOf [(33, rightS), (34, hasUS)]) := orc_ok (by simpa using ⟨right_ok, hasU_ok⟩)
theorem pol_ok : SpecOK Try.prog 19 polS := by
  intro args S x S' h
  simp only [polS] at h
  split at h
  · rename_i sub a b c d bits rate burst srate sburst quota lease quantum
    split at h
    · rename_i hn
      cases h
      refine fn_of_wp f19 rfl (W_sound oP_ok mixed _ _ _ _ _ ?_)
      simp (maxSteps := 1000000) (disch := omega) only [c19, orc_cons, rightS_eq hn, List.replicate_succ, List.replicate_zero, hasUS, lstU_sl, decU7, decU2, predU1, predU2, un_not_b, go_sem]
      refine ⟨fun h1 => ⟨fun h2 => ⟨fun h3 => wkv_f fun q => (by simpa using h3 : ¬ Go.Proofs.Ytmdnohpolepcoaa.right (num a b c d) bits) q.2.2.1, fun h3 => ⟨fun h4 => wkv_f fun q => ?_, fun h4 => ?_⟩⟩, fun h2 => wkv_f fun q => ?_⟩, fun h1 => wkv_f fun q => ?_⟩
      · obtain ⟨n, hn1, hn2⟩ := List.any_eq_true.1 h4
        have h5 := q.2.2.2.1 n hn1
        have h6 := of_decide_eq_true hn2
        omega
      · have h5 : ∀ n ∈ [lease, quantum, rate, burst, srate, sburst, quota], n ≤ 281474976710656 := fun n hm => by
          have := List.any_eq_false.1 h4 n hm
          simpa using this
        have h6 : decide (Pol.right ⟨sub, a, b, c, d, bits, rate, burst, srate, sburst, quota, lease, quantum⟩) = !([lease, quantum].any fun n => decide (n < 1500)) := by
          rw [Bool.eq_iff_iff, decide_eq_true_iff]
          simp only [List.any_cons, List.any_nil, Bool.or_false, Bool.not_eq_true', Bool.or_eq_false_iff, decide_eq_false_iff_not]
          constructor
          · intro q; have q1 := q.2.2.2.2.1; have q2 := q.2.2.2.2.2; simp only at q1 q2; omega
          · intro q; exact ⟨by simp only; omega, by simp only; omega, by simpa using h3, h5, by simp only; omega, by simp only; omega⟩
        rw [h6]
        exact wkv_drop rfl
      · have := q.2.1; simp only at this; omega
      · have := q.1; simp only at this; omega
    · cases h
  · cases h
end Go.Proofs.Ytmdnohpolepcoaa

namespace Go.Proofs.Ytmdnohpolepcoaa
open Go.RowKit
set_option linter.unusedSimpArgs false
set_option linter.unusedVariables false
set_option maxRecDepth 10000

theorem oR_ok : OK Try.prog (lamOf Try.prog) (orcOf [(55, rightS)]) := orc_ok (by simpa using rright_ok)
theorem rpol_ok : SpecOK Try.prog 35 polS := by
  intro args S x S' h
  simp only [polS] at h
  split at h
  · rename_i sub a b c d bits rate burst srate sburst quota lease quantum
    split at h
    · rename_i hn
      cases h
      have key : ∀ P : Prop, (Pol.right ⟨sub, a, b, c, d, bits, rate, burst, srate, sburst, quota, lease, quantum⟩ ↔ (1 ≤ sub ∧ sub ≤ 255 ∧ Go.Proofs.Ytmdnohpolepcoaa.right (num a b c d) bits ∧ (lease ≤ 281474976710656 ∧ quantum ≤ 281474976710656 ∧ rate ≤ 281474976710656 ∧ burst ≤ 281474976710656 ∧ srate ≤ 281474976710656 ∧ sburst ≤ 281474976710656 ∧ quota ≤ 281474976710656) ∧ 1500 ≤ lease ∧ 1500 ≤ quantum)) := fun _ => by
        simp only [Pol.right, Pol.nums, List.forall_mem_cons, List.not_mem_nil, false_imp_iff, implies_true, and_true]
      have key := key True
      refine fn_of_wp f35 rfl (W_sound oR_ok mixed _ _ _ _ _ ?_)
      simp (maxSteps := 1000000) (disch := omega) only [c35, orc_cons, rightS_eq hn, List.replicate_succ, List.replicate_zero, go_sem]
      refine ⟨fun h1 => ⟨fun h2 => ⟨fun h3 => wkv_f fun q => (by simpa using h3 : ¬ Go.Proofs.Ytmdnohpolepcoaa.right (num a b c d) bits) q.2.2.1, fun h3 => ?_⟩, fun h2 => wkv_f fun q => by have := (key.1 q).2.1; omega⟩, fun h1 => wkv_f fun q => by have := (key.1 q).1; omega⟩
      refine wp_unroll oR_ok mixed 8 ?_
      simp (maxSteps := 1000000) (disch := omega) only [c35l0, ixa_ag, go_sem]
      refine ⟨fun h => wkv_f fun q => by have := (key.1 q).2.2.2.1; omega, fun r1 => ?_⟩
      refine ⟨fun h => wkv_f fun q => by have := (key.1 q).2.2.2.1; omega, fun r2 => ?_⟩
      refine ⟨fun h => wkv_f fun q => by have := (key.1 q).2.2.2.1; omega, fun r3 => ?_⟩
      refine ⟨fun h => wkv_f fun q => by have := (key.1 q).2.2.2.1; omega, fun r4 => ?_⟩
      refine ⟨fun h => wkv_f fun q => by have := (key.1 q).2.2.2.1; omega, fun r5 => ?_⟩
      refine ⟨fun h => wkv_f fun q => by have := (key.1 q).2.2.2.1; omega, fun r6 => ?_⟩
      refine ⟨fun h => wkv_f fun q => by have := (key.1 q).2.2.2.1; omega, fun r7 => ?_⟩
      refine ⟨fun l1 => wkv_b ⟨fun q => (key.1 q).2.2.2.2.2, fun l2 => key.2 ⟨by omega, by omega, Decidable.not_not.1 h3, by omega, l1, l2⟩⟩, fun l1 => wkv_f fun q => l1 (key.1 q).2.2.2.2.1⟩
    · cases h
  · cases h
end Go.Proofs.Ytmdnohpolepcoaa

namespace Go.Proofs.Ytmdnohpolepcoaa
open Go.RowKit
set_option linter.unusedSimpArgs false
set_option linter.unusedVariables false
set_option maxRecDepth 10000

def polE : Enc Pol where
  enc := Pol.enc
  dec r := match r with
    | [.i .i64 sub, .i .u8 a, .i .u8 b, .i .u8 c, .i .u8 d, .i .i64 bits, .i .u64 rate, .i .u64 burst, .i .u64 srate, .i .u64 sburst, .i .u64 quota, .i .u64 lease, .i .u64 quantum] => some ⟨sub, a, b, c, d, bits, rate, burst, srate, sburst, quota, lease, quantum⟩
    | _ => none
  sz := 13
  pos := by decide
  len _ := rfl
  de _ := rfl
  ed r a h := by
    split at h
    · injection h with h; subst h; rfl
    · cases h

/-- The network of a policy. -/
def Pol.net (p : Pol) : Int × Int × Int × Int × Int := (p.a, p.b, p.c, p.d, p.bits)

/-- Up to the k-th each can be, beside those ahead of it. -/
def okTo (l : List Pol) (k : Nat) : Prop := ∀ i (h : i < l.length), i < k → (l[i].right ∧ ∀ j (hj : j < i), (l[j]'(by omega)).sub < l[i].sub ∧ (l[j]'(by omega)).net ≠ l[i].net)
def Pols (l : List Pol) : Prop := l.length ≤ 8 ∧ okTo l l.length
noncomputable instance (l : List Pol) : Decidable (Pols l) := Classical.propDecidable _
noncomputable def allE (l : List Pol) : Int := if Pols l then 0 else 111

theorem okTo_zero (l : List Pol) : okTo l 0 := fun i h hk => absurd hk (Nat.not_lt_zero _)
theorem okTo_succ {l : List Pol} {k : Nat} (hk : k < l.length) (h : okTo l k) (hr : l[k].right) (hj : ∀ j (hj : j < k), (l[j]'(by omega)).sub < l[k].sub ∧ (l[j]'(by omega)).net ≠ l[k].net) : okTo l (k + 1) := fun i hi hik => by
  by_cases e : i = k
  · subst e; exact ⟨hr, hj⟩
  · exact h i hi (by omega)
theorem okTo_at {l : List Pol} (h : okTo l l.length) {k : Nat} (hk : k < l.length) : l[k].right ∧ ∀ j (hj : j < k), (l[j]'(by omega)).sub < l[k].sub ∧ (l[j]'(by omega)).net ≠ l[k].net := h k hk hk
/-- It is enough that each is above the one just ahead of it. -/
theorem okTo_rise {l : List Pol} {k : Nat} (hk : k < l.length) (h : okTo l k) (h1 : ∀ h0 : 0 < k, (l[k - 1]'(by omega)).sub < l[k].sub) : ∀ j (hj : j < k), (l[j]'(by omega)).sub < l[k].sub := fun j hj => by
  have h2 := h1 (by omega)
  by_cases e : j = k - 1
  · subst e; exact h2
  · have := ((h (k - 1) (by omega) (by omega)).2 j (by omega)).1
    omega
end Go.Proofs.Ytmdnohpolepcoaa

namespace Go.Proofs.Ytmdnohpolepcoaa
open Go.RowKit
set_option linter.unusedSimpArgs false
set_option linter.unusedVariables false
set_option maxRecDepth 10000

noncomputable def allS : Spec := fun args S => match args with
  | [x] => match lstV polE S x with
    | some l => if l.all (fun p => decide p.fits) = true ∧ (l = [] ∨ openS S 13 x = true) then some (.i .i64 (allE l), S) else none
    | none => none
  | _ => none
theorem oA_ok : OK Try.prog (lamOf Try.prog) (orcOf [(35, polS)]) := orc_ok (by simpa using rpol_ok)
theorem rall_ok : SpecOK Try.prog 21 allS := by
  intro args S x S' h
  simp only [allS] at h
  split at h
  · rename_i s
    split at h
    · rename_i l hl
      split at h
      · rename_i hc
        cases h
        obtain ⟨hfit, hop⟩ := hc
        have hfit : ∀ k (hk : k < l.length), l[k].fits := fun k hk => of_decide_eq_true (List.all_eq_true.1 hfit _ (List.getElem_mem hk))
        refine fn_of_wp f21 rfl (W_sound oA_ok mixed _ _ _ _ _ ?_)
        simp (maxSteps := 1000000) (disch := omega) only [c21, lst_len hl, go_sem]
        refine ⟨fun h8 => ?_, fun h8 => ?_⟩
        · rw [show allE l = 111 by unfold allE; rw [if_neg fun q => by have := q.1; omega]]
          exact wkv_same
        · refine wp_loop (fun j e M dl => dl = [] ∧ ∃ k : Nat, j = l.length - k ∧ k ≤ l.length ∧ M = S ∧ okTo l k ∧ e.get 0 = s ∧ e.get 9 = .i .i64 l.length ∧ e.get 10 = .i .i64 k) (j := l.length) ⟨rfl, 0, rfl, Nat.zero_le _, rfl, okTo_zero l, rfl, rfl, rfl⟩ ?_
          rintro j e M d' ⟨rfl, k, rfl, hk, rfl, hok, h0, h9, h10⟩
          refine W_sound oA_ok mixed _ _ _ _ _ ?_
          by_cases hkl : k < l.length
          · obtain ⟨bi, o, v, cap, ex, rfl⟩ := lst_sl hl hkl
            have hrow := lstV_row hl hkl []
            rw [List.append_nil] at hrow
            have hrow : rowB (M[bi]?) (o + k * 13) v 13 = some l[k].enc := hrow
            have hkI : (k : Int) < l.length := by omega
            have hop := hop.resolve_left (fun q => by subst q; simp at hkl)
            have hkc : k ≤ cap := Nat.le_trans hk (openS_le hop)
            simp (maxSteps := 1000000) (disch := omega) only [c21l2, h0, h9, h10, hkI, Int.toNat_natCast, hrow, orc_cons, polS_eq (hfit k hkl), Option.map_none, Option.map_some, slice_hi hkc hop, go_sem]
            refine ⟨fun hr => ?_, fun hr => ?_⟩
            · rw [show allE l = 111 by unfold allE; rw [if_neg fun q => hr (okTo_at q.2 hkl).1]]
              exact wkv_same
            · have fk : cellB (M[bi]?) (o + k * 13 + 0) v = some (.i .i64 l[k].sub) := by have := lstV_field hl hkl (f := 0) (x := .i .i64 l[k].sub) rfl []; rwa [List.append_nil] at this
              have nk : rowB (M[bi]?) (o + k * 13 + 1) v 5 = some [.i .u8 l[k].a, .i .u8 l[k].b, .i .u8 l[k].c, .i .u8 l[k].d, .i .i64 l[k].bits] := by have := lstV_part hl hkl (f := 1) (n := 5) (by decide) []; rwa [List.append_nil] at this
              refine wp_loop (fun jj e N dl => dl = [] ∧ ∃ j : Nat, jj = k - j ∧ j ≤ k ∧ N = M ∧ (∀ j' (hj : j' < j) (hj2 : j' < l.length), l[j'].sub < l[k].sub ∧ l[j'].net ≠ l[k].net) ∧
                e.get 0 = .sl bi o v l.length cap ex ∧ e.get 3 = .i .i64 k ∧ e.get 9 = .i .i64 l.length ∧ e.get 10 = .i .i64 k ∧ e.get 22 = .i .i64 k ∧ e.get 23 = .i .i64 j) (j := k)
                ⟨rfl, 0, rfl, Nat.zero_le _, rfl, fun j' hj => absurd hj (Nat.not_lt_zero _), rfl, rfl, rfl, rfl, rfl, rfl⟩ ?_
              rintro jj e N d' ⟨rfl, j, rfl, hj, rfl, hlow, h0, h3, h9, h10, h22, h23⟩
              refine W_sound oA_ok mixed _ _ _ _ _ ?_
              by_cases hjk : j < k
              · have hjl : j < l.length := by omega
                have fj : cellB (N[bi]?) (o + j * 13 + 0) v = some (.i .i64 l[j].sub) := by have := lstV_field hl hjl (f := 0) (x := .i .i64 l[j].sub) rfl []; rwa [List.append_nil] at this
                have nj : rowB (N[bi]?) (o + j * 13 + 1) v 5 = some [.i .u8 l[j].a, .i .u8 l[j].b, .i .u8 l[j].c, .i .u8 l[j].d, .i .i64 l[j].bits] := by have := lstV_part hl hjl (f := 1) (n := 5) (by decide) []; rwa [List.append_nil] at this
                have hjI : (j : Int) < k := by omega
                rw [Nat.add_zero] at fk fj
                simp (maxSteps := 1000000) (disch := omega) only [c21l1, h0, h3, h9, h10, h22, h23, hjI, Int.toNat_natCast, fk, fj, nk, nj, Nat.add_zero, eq_net, go_sem]
                have bad : (l[k].sub ≤ l[j].sub ∨ l[j].net = l[k].net) → allE l = 111 := fun hb => by
                  unfold allE
                  rw [if_neg fun q => ?_]
                  have := (okTo_at q.2 hkl).2 j hjk
                  rcases hb with hb | hb
                  · omega
                  · exact this.2 hb
                refine ⟨fun hs => ⟨fun hn => ?_, fun hn => ?_⟩, fun hs => ?_⟩
                · rw [bad (.inr (by unfold Pol.net; rw [hn.1, hn.2.1, hn.2.2.1, hn.2.2.2.1, hn.2.2.2.2]))]
                  exact wkv_same
                · refine ⟨k - (j + 1), by omega, j + 1, rfl, hjk, fun j' hj' hj2 => ?_, rfl⟩
                  by_cases e : j' = j
                  · subst e
                    exact ⟨by omega, fun q => hn (by simpa [Pol.net] using q)⟩
                  · exact hlow j' (by omega) hj2
                · rw [bad (.inl hs)]
                  exact wkv_same
              · have hjI : ¬ (j : Int) < k := by omega
                simp (maxSteps := 1000000) (disch := omega) only [c21l1, h0, h3, h9, h10, h22, h23, hjI, go_sem]
                exact ⟨l.length - (k + 1), by omega, k + 1, rfl, hkl, okTo_succ hkl hok (Decidable.not_not.1 hr) fun j' hj' => hlow j' (by omega) (by omega), rfl⟩
          · have hkI : ¬ (k : Int) < l.length := by omega
            simp (maxSteps := 1000000) (disch := omega) only [c21l2, h0, h9, h10, hkI, go_sem]
            rw [show allE l = 0 by unfold allE; rw [if_pos ⟨by omega, by rwa [show k = l.length by omega] at hok⟩]]
            exact wkv_same
      · cases h
    · cases h
  · cases h
end Go.Proofs.Ytmdnohpolepcoaa

namespace Go.Proofs.Ytmdnohpolepcoaa
open Go.RowKit
set_option linter.unusedSimpArgs false
set_option linter.unusedVariables false
set_option maxRecDepth 10000

def netL (n : Int × Int × Int × Int × Int) : List AV := [.i .u8 n.1, .i .u8 n.2.1, .i .u8 n.2.2.1, .i .u8 n.2.2.2.1, .i .i64 n.2.2.2.2]
def netK : List TK := [.int, .int, .int, .int, .int]
theorem eq_netL {a b : Int × Int × Int × Int × Int} : eqCells netK (netL a) (netL b) = some (decide (a = b)) := by
  obtain ⟨a1, a2, a3, a4, a5⟩ := a
  obtain ⟨b1, b2, b3, b4, b5⟩ := b
  simp [eqCells, eqCell, netK, netL, Bool.beq_eq_decide_eq]
theorem key_netL {a : Int × Int × Int × Int × Int} : keyC true netK (.ag (netL a)) = some (netL a) := by
  simp [keyC, netK, netL]

/-- The entries of nets, each counted once. -/
def ents (b : Nat) : List (Int × Int × Int × Int × Int) → List (AV × AV × Nat)
  | [] => []
  | n :: r => (.ag (netL n), .i .i64 1, b) :: ents (b + 1) r
theorem ents_length : ∀ (b : Nat) (l : List (Int × Int × Int × Int × Int)), (ents b l).length = l.length
  | _, [] => rfl
  | b, n :: r => by simp [ents, ents_length (b + 1) r]
theorem ents_append : ∀ (b : Nat) (l : List (Int × Int × Int × Int × Int)) (n : Int × Int × Int × Int × Int), ents b (l ++ [n]) = ents b l ++ [(.ag (netL n), .i .i64 1, b + l.length)]
  | b, [], n => by simp [ents]
  | b, m :: r, n => by
    simp only [List.cons_append, ents, ents_append (b + 1) r n, List.length_cons]
    rw [show b + 1 + r.length = b + (r.length + 1) by omega]
theorem ents_at : ∀ (b : Nat) (l : List (Int × Int × Int × Int × Int)) (j : Nat) (hj : j < l.length), (ents b l)[j]? = some (.ag (netL l[j]), .i .i64 1, b + j)
  | b, n :: r, 0, _ => rfl
  | b, n :: r, j + 1, h => by
    simp only [ents, List.getElem?_cons_succ, ents_at (b + 1) r j (by simpa using h), List.getElem_cons_succ]
    rw [show b + 1 + j = b + (j + 1) by omega]
theorem find_none : ∀ (b i : Nat) (l : List (Int × Int × Int × Int × Int)) (n : Int × Int × Int × Int × Int), n ∉ l → findK true netK (netL n) (ents b l) i = some none
  | b, i, [], n, _ => rfl
  | b, i, m :: r, n, h => by
    simp only [List.mem_cons, not_or] at h
    simp only [ents, findK, key_netL, eq_netL, decide_eq_false h.1]
    exact find_none (b + 1) (i + 1) r n h.2
theorem find_some : ∀ (b i : Nat) (l : List (Int × Int × Int × Int × Int)) (n : Int × Int × Int × Int × Int), n ∈ l → ∃ j, j < l.length ∧ l[j]? = some n ∧ findK true netK (netL n) (ents b l) i = some (some (i + j))
  | b, i, m :: r, n, h => by
    by_cases e : n = m
    · subst e
      exact ⟨0, by simp, rfl, by simp only [ents, findK, key_netL, eq_netL, decide_true]; rfl⟩
    · obtain ⟨j, h1, h2, h3⟩ := find_some (b + 1) (i + 1) r n (by simpa [e] using h)
      refine ⟨j + 1, by simpa using h1, by simpa using h2, ?_⟩
      simp only [ents, findK, key_netL, eq_netL, decide_eq_false e]
      rw [h3, show i + 1 + j = i + (j + 1) by omega]
end Go.Proofs.Ytmdnohpolepcoaa

namespace Go.Proofs.Ytmdnohpolepcoaa
open Go.RowKit
set_option linter.unusedSimpArgs false
set_option linter.unusedVariables false
set_option maxRecDepth 10000

abbrev Net5 := Int × Int × Int × Int × Int
/-! ### Rules -/
def lookM (B : Option Blk) (n : Net5) (z : AV) : Option AV := match B with
  | some (.map es _) => match findK true netK (netL n) es 0 with
    | some r => some (valAt es z r)
    | none => none
  | _ => none
theorem mlook_eq {S : Mem} {i : Nat} {z : AV} {a b c d e : Int} : mlookV S true [.int, .int, .int, .int, .int] z false (.m i) (.ag [.i .u8 a, .i .u8 b, .i .u8 c, .i .u8 d, .i .i64 e]) = lookM (S[i]?) (a, b, c, d, e) z := by
  have hk : keyC true [.int, .int, .int, .int, .int] (.ag [.i .u8 a, .i .u8 b, .i .u8 c, .i .u8 d, .i .i64 e]) = some (netL (a, b, c, d, e)) := rfl
  simp only [mlookV, hk, mapOf, lookM]
  cases S[i]? with
  | none => rfl
  | some B => cases B <;> first | rfl | (simp only [netK]; cases findK true [.int, .int, .int, .int, .int] (netL (a, b, c, d, e)) _ 0 <;> rfl)
def entM (B : Option Blk) (n : Net5) (z : AV) (i : Nat) (S : Mem) : Option (AV × Mem) := match B with
  | some (.map es cl) => match findK true netK (netL n) es 0 with
    | some (some j) => match es[j]? with
      | some e => some (.tu [e.2.1, .i .i64 e.2.2], S.set i (.map (es.set j (.ag (netL n), e.2.1, e.2.2)) cl))
      | none => none
    | some none => some (.tu [z, .i .i64 cl], S.set i (.map (es ++ [(.ag (netL n), z, cl)]) (cl + 1)))
    | none => none
  | _ => none
theorem mentry_eq {S : Mem} {i : Nat} {z : AV} {a b c d e : Int} : mentryV S true [.int, .int, .int, .int, .int] z (.m i) (.ag [.i .u8 a, .i .u8 b, .i .u8 c, .i .u8 d, .i .i64 e]) = entM (S[i]?) (a, b, c, d, e) z i S := by
  have hk : keyC true [.int, .int, .int, .int, .int] (.ag [.i .u8 a, .i .u8 b, .i .u8 c, .i .u8 d, .i .i64 e]) = some (netL (a, b, c, d, e)) := rfl
  simp only [mentryV, hk, entM]
  rfl
def stoM (B : Option Blk) (born : Int) (v : AV) (i : Nat) (S : Mem) : Option Mem := match B with
  | some (.map es cl) => match es.findIdx? (fun e => ((e.2.2 : Nat) : Int) == born) with
    | some j => match es[j]? with
      | some e => some (S.set i (.map (es.set j (e.1, v, e.2.2)) cl))
      | none => none
    | none => none
  | _ => none
theorem mstore_eq {S : Mem} {i : Nat} {q : IntKind} {born : Int} {v : AV} : mstoreV S (.m i) (.i q born) v = stoM (S[i]?) born v i S := rfl

theorem lookM_none {es : List (AV × AV × Nat)} {cl : Nat} {n : Net5} {z : AV} (h : findK true netK (netL n) es 0 = some none) : lookM (some (.map es cl)) n z = some z := by
  simp only [lookM, h, valAt]
theorem lookM_some {es : List (AV × AV × Nat)} {cl j : Nat} {n : Net5} {z v k : AV} {b : Nat} (h : findK true netK (netL n) es 0 = some (some j)) (he : es[j]? = some (k, v, b)) : lookM (some (.map es cl)) n z = some v := by
  simp only [lookM, h, valAt, he]
theorem entM_none {es : List (AV × AV × Nat)} {cl i : Nat} {n : Net5} {z : AV} {S : Mem} (h : findK true netK (netL n) es 0 = some none) : entM (some (.map es cl)) n z i S = some (.tu [z, .i .i64 cl], S.set i (.map (es ++ [(.ag (netL n), z, cl)]) (cl + 1))) := by
  simp only [entM, h]
theorem entM_some {es : List (AV × AV × Nat)} {cl i j b : Nat} {n : Net5} {z v k : AV} {S : Mem} (h : findK true netK (netL n) es 0 = some (some j)) (he : es[j]? = some (k, v, b)) :
    entM (some (.map es cl)) n z i S = some (.tu [v, .i .i64 b], S.set i (.map (es.set j (.ag (netL n), v, b)) cl)) := by
  simp only [entM, h, he]
theorem born_new : ∀ (b : Nat) (l : List Net5) (k : AV) (v : AV), (ents b l ++ [(k, v, b + l.length)]).findIdx? (fun e => ((e.2.2 : Nat) : Int) == ((b + l.length : Nat) : Int)) = some l.length
  | b, [], k, v => by simp [ents, List.findIdx?_cons]
  | b, n :: r, k, v => by
    have := born_new (b + 1) r k v
    rw [show b + 1 + r.length = b + (n :: r).length by simp; omega] at this
    simp only [ents, List.cons_append, List.findIdx?_cons, this]
    have hne : (((b : Nat) : Int) == ((b + (n :: r).length : Nat) : Int)) = false := by rw [beq_eq_false_iff_ne]; simp; omega
    rw [hne]; rfl

theorem stoM_new {L : List Net5} {n : Net5} {cl i k : Nat} {z v : AV} {S : Mem} (hk : L.length = k) : stoM (some (.map (ents 0 L ++ [(.ag (netL n), z, k)]) cl)) (k : Int) v i S = some (S.set i (.map (ents 0 L ++ [(.ag (netL n), v, k)]) cl)) := by
  subst hk
  have h1 := born_new 0 L (.ag (netL n)) z
  simp only [Nat.zero_add] at h1
  have hl : (ents 0 L).length = L.length := ents_length 0 L
  have h2 : (ents 0 L ++ [(AV.ag (netL n), z, L.length)])[L.length]? = some (AV.ag (netL n), z, L.length) := by
    rw [List.getElem?_append_right (by omega), hl]; simp
  have h3 : (ents 0 L ++ [(AV.ag (netL n), z, L.length)]).set L.length (AV.ag (netL n), v, L.length) = ents 0 L ++ [(AV.ag (netL n), v, L.length)] := by
    rw [List.set_append, if_neg (by omega), hl]; simp
  simp only [stoM, h1, h2, h3]
theorem stoM_old {L : List Net5} {n : Net5} {cl i j : Nat} {z v : AV} {S : Mem} (hj : j < L.length) : stoM (some (.map ((ents 0 L).set j (.ag (netL n), z, j)) cl)) (j : Int) v i S = some (S.set i (.map ((ents 0 L).set j (.ag (netL n), v, j)) cl)) := by
  have hl : (ents 0 L).length = L.length := ents_length 0 L
  have h1 : ((ents 0 L).set j (AV.ag (netL n), z, j)).findIdx? (fun e => ((e.2.2 : Nat) : Int) == (j : Int)) = some j := by
    rw [List.findIdx?_eq_some_iff_getElem]
    refine ⟨by simpa [hl] using hj, by simp, fun i hi => ?_⟩
    have h2 := ents_at 0 L i (by omega)
    rw [Nat.zero_add] at h2
    obtain ⟨h3, h4⟩ := List.getElem?_eq_some_iff.1 h2
    rw [List.getElem_set_ne (by omega), h4]
    simp; omega
  have h2 : ((ents 0 L).set j (AV.ag (netL n), z, j))[j]? = some (AV.ag (netL n), z, j) := by simp [hl, hj]
  simp only [stoM, h1, h2, List.set_set]
theorem ents_new {L : List Net5} {n : Net5} {k : Nat} (hk : L.length = k) : ents 0 L ++ [(.ag (netL n), .i .i64 1, k)] = ents 0 (L ++ [n]) := by
  rw [ents_append, Nat.zero_add, hk]
theorem look_new {L : List Net5} {n : Net5} {cl : Nat} {z : AV} (hn : n ∈ L) : lookM (some (.map (ents 0 L) cl)) n z = some (.i .i64 1) := by
  obtain ⟨j, h1, h2, h3⟩ := find_some 0 0 L n hn
  rw [Nat.zero_add] at h3
  exact lookM_some h3 (ents_at 0 L j h1)
end Go.Proofs.Ytmdnohpolepcoaa

namespace Go.Proofs.Ytmdnohpolepcoaa
open Go.RowKit
set_option linter.unusedSimpArgs false
set_option linter.unusedVariables false
set_option maxRecDepth 10000

def nets (l : List Pol) (k : Nat) : List Net5 := (l.take k).map Pol.net

theorem find_new : ∀ (b i : Nat) (l : List Net5) (n : Net5) (z : AV) (c : Nat), n ∉ l → findK true netK (netL n) (ents b l ++ [(.ag (netL n), z, c)]) i = some (some (i + l.length))
  | b, i, [], n, z, c, _ => by simp only [ents, List.nil_append, findK, key_netL, eq_netL, decide_true]; rfl
  | b, i, m :: r, n, z, c, h => by
    simp only [List.mem_cons, not_or] at h
    simp only [ents, List.cons_append, findK, key_netL, eq_netL, decide_eq_false h.1]
    rw [find_new (b + 1) (i + 1) r n z c h.2, List.length_cons, show i + 1 + r.length = i + (r.length + 1) by omega]
theorem look_app {L : List Net5} {n : Net5} {z v : AV} {c cl : Nat} (hn : n ∉ L) : lookM (some (.map (ents 0 L ++ [(.ag (netL n), v, c)]) cl)) n z = some v := by
  have h := find_new 0 0 L n v c hn
  rw [Nat.zero_add] at h
  refine lookM_some h (k := .ag (netL n)) (b := c) ?_
  have hl : (ents 0 L).length = L.length := ents_length 0 L
  rw [List.getElem?_append_right (by omega), hl]; simp

/-- The count of a network goes up by one: whichever way its look-up and its entry stand. -/
theorem d0_new {O : Orc} {e : Env} {S : Mem} {i b : Nat} {a1 a2 a3 a4 a5 : Int} {L : List Net5} {cl : Nat} (h3 : e.get 3 = .m i) (h5 : e.get 5 = .p b 0 0) (hb : rowB (S[b]?) 1 0 5 = some [.i .u8 a1, .i .u8 a2, .i .u8 a3, .i .u8 a4, .i .i64 a5])
    (hS : S[i]? = some (.map (ents 0 L) cl)) (hcl : L.length = cl) (hn : (a1, a2, a3, a4, a5) ∉ L) (hib : i ≠ b) :
    ∃ e', evDraw O c36d0 [] e S = some (e', S.set i (.map (ents 0 (L ++ [(a1, a2, a3, a4, a5)])) (cl + 1))) ∧ ∀ t, t < 17 → e'.get t = e.get t := by
  have hf := find_none 0 0 L _ hn
  have hlt : i < S.length := (List.getElem?_eq_some_iff.1 hS).1
  have hS2 : ∀ B : Blk, (S.set i B)[i]? = some B := fun B => at_set hS
  have hB2 : ∀ B : Blk, (S.set i B)[b]? = S[b]? := fun B => at_set_ne hib
  refine ⟨(23, .i .i64 cl) :: (22, .tu [.i .i64 0, .i .i64 cl]) :: (21, .i .i64 1) :: (20, .i .i64 0) :: (19, .ag [.i .u8 a1, .i .u8 a2, .i .u8 a3, .i .u8 a4, .i .i64 a5]) :: (18, .p b 1 0) :: (17, .m i) :: e, ?_, ?_⟩
  · simp only [evDraw, c36d0, evStages, evNs, evOpt, evOne, wantV_none, evOp, evIO, X.ev, h3, h5, get_put, faddr_p, ld_row, hb, agV_some, mlook_eq, hS, lookM_none hf, mentry_eq, entM_none hf, bin_add, Nat.zero_add, ↓reduceIte, Nat.reduceEqDiff, ext_tu, List.getElem?_cons_succ, List.getElem?_cons_zero, mstore_eq, hS2, stoM_new hcl, ents_new hcl, List.set_set, Int.zero_add, wrap_i64 (n := 1) (by omega) (by omega), keepE_nil, List.nil_append, chkStages, List.all_cons, List.all_nil, chkN, Nat.reduceAdd, Nat.le_refl, hB2, chkOpt, IOp.use, ROp.use, IO'.use, X.use, likeOn_cons, likeOn_nil, List.append_nil, dstL_none, dstL_some, look_app hn, eqv_m, eqv_p, eqv_i, eqv_ag, eqvL_cons, eqvL_nil, eqv_tu, Bool.and_true, putE, get_ite, Nat.reduceLeDiff, List.cons_append]
  · intro t ht
    simp only [get_ite]
    rw [if_neg (by omega), if_neg (by omega), if_neg (by omega), if_neg (by omega), if_neg (by omega), if_neg (by omega), if_neg (by omega)]
theorem d0_old {O : Orc} {e : Env} {S : Mem} {i b : Nat} {a1 a2 a3 a4 a5 : Int} {L : List Net5} {cl : Nat} (h3 : e.get 3 = .m i) (h5 : e.get 5 = .p b 0 0) (hb : rowB (S[b]?) 1 0 5 = some [.i .u8 a1, .i .u8 a2, .i .u8 a3, .i .u8 a4, .i .i64 a5])
    (hS : S[i]? = some (.map (ents 0 L) cl)) (hn : (a1, a2, a3, a4, a5) ∈ L) (hib : i ≠ b) :
    ∃ e' es, evDraw O c36d0 [] e S = some (e', S.set i (.map es cl)) ∧ (∀ t, t < 17 → e'.get t = e.get t) ∧ lookM (some (.map es cl)) (a1, a2, a3, a4, a5) (.i .i64 0) = some (.i .i64 2) := by
  obtain ⟨j, hj, hj2, hf⟩ := find_some 0 0 L _ hn
  rw [Nat.zero_add] at hf
  have hj3 : L[j] = (a1, a2, a3, a4, a5) := by rw [List.getElem?_eq_getElem hj] at hj2; injection hj2
  have hat := ents_at 0 L j hj
  rw [hj3, Nat.zero_add] at hat
  have hS2 : ∀ B : Blk, (S.set i B)[i]? = some B := fun B => at_set hS
  have hB2 : ∀ B : Blk, (S.set i B)[b]? = S[b]? := fun B => at_set_ne hib
  have hset : (ents 0 L).set j (.ag (netL (a1, a2, a3, a4, a5)), .i .i64 1, j) = ents 0 L := by
    obtain ⟨h1, h2⟩ := List.getElem?_eq_some_iff.1 hat
    rw [← h2, List.set_getElem_self]
  have hfin : findK true netK (netL (a1, a2, a3, a4, a5)) ((ents 0 L).set j (.ag (netL (a1, a2, a3, a4, a5)), .i .i64 2, j)) 0 = some (some j) := by
    have key : ∀ (b i j : Nat) (L : List Net5) (n : Net5) (v : AV) (c : Nat), findK true netK (netL n) (ents b L) i = some (some (i + j)) → L[j]? = some n → findK true netK (netL n) ((ents b L).set j (.ag (netL n), v, c)) i = some (some (i + j)) := by
      intro b i j L n v c
      induction L generalizing b i j with
      | nil => intro _ h; simp at h
      | cons m r ih =>
        intro h1 h2
        simp only [ents, findK, key_netL, eq_netL] at h1
        cases j with
        | zero =>
          simp only [ents, List.set_cons_zero, findK, key_netL, eq_netL, decide_true]
          rfl
        | succ j =>
          by_cases e : n = m
          · subst e; simp at h1
          · simp only [decide_eq_false e] at h1
            simp only [ents, List.set_cons_succ, findK, key_netL, eq_netL, decide_eq_false e]
            rw [show i + (j + 1) = i + 1 + j by omega] at h1 ⊢
            exact ih _ _ _ h1 (by simpa using h2)
    have := key 0 0 j L (a1, a2, a3, a4, a5) (.i .i64 2) j (by rw [Nat.zero_add]; exact hf) hj2
    rwa [Nat.zero_add] at this
  have hl1 := lookM_some (cl := cl) (z := .i .i64 0) hf hat
  have hst := stoM_old (n := (a1, a2, a3, a4, a5)) (cl := cl) (i := i) (z := .i .i64 1) (v := .i .i64 2) (S := S.set i (.map (ents 0 L) cl)) hj
  rw [hset] at hst
  refine ⟨(23, .i .i64 j) :: (22, .tu [.i .i64 1, .i .i64 j]) :: (21, .i .i64 2) :: (20, .i .i64 1) :: (19, .ag [.i .u8 a1, .i .u8 a2, .i .u8 a3, .i .u8 a4, .i .i64 a5]) :: (18, .p b 1 0) :: (17, .m i) :: e, (ents 0 L).set j (.ag (netL (a1, a2, a3, a4, a5)), .i .i64 2, j), ?_, ?_, ?_⟩
  · simp only [evDraw, c36d0, evStages, evNs, evOpt, evOne, wantV_none, evOp, evIO, X.ev, h3, h5, get_put, faddr_p, ld_row, hb, agV_some, mlook_eq, hS, hl1, mentry_eq, entM_some hf hat, hset, bin_add, Nat.zero_add, ↓reduceIte, Nat.reduceEqDiff, ext_tu, List.getElem?_cons_succ, List.getElem?_cons_zero, mstore_eq, hS2, hst, List.set_set, Int.reduceAdd, wrap_i64 (n := 2) (by omega) (by omega), keepE_nil, List.nil_append, chkStages, List.all_cons, List.all_nil, chkN, Nat.reduceAdd, Nat.le_refl, hB2, chkOpt, IOp.use, ROp.use, IO'.use, X.use, likeOn_cons, likeOn_nil, List.append_nil, dstL_none, dstL_some, eqv_m, eqv_p, eqv_i, eqv_ag, eqvL_cons, eqvL_nil, eqv_tu, Bool.and_true, putE, get_ite, Nat.reduceLeDiff, List.cons_append]
  · intro t ht
    simp only [get_ite]
    rw [if_neg (by omega), if_neg (by omega), if_neg (by omega), if_neg (by omega), if_neg (by omega), if_neg (by omega), if_neg (by omega)]
  · refine lookM_some hfin (k := .ag (netL (a1, a2, a3, a4, a5))) (b := j) ?_
    have hl : (ents 0 L).length = L.length := ents_length 0 L
    simp [hl, hj]

noncomputable def allPS : Spec := fun args S => match args with
  | [x] => match lstV polE S x with
    | some l => if l.all (fun p => decide p.fits) = true then some (.i .i64 (allE l), S) else none
    | none => none
  | _ => none
theorem oQ_ok : OK Try.prog (lamOf Try.prog) (orcOf [(19, polS)]) := orc_ok (by simpa using pol_ok)
theorem all_ok : SpecOK Try.prog 36 allPS := by
  intro args S x S' h
  simp only [allPS] at h
  split at h
  · rename_i s
    split at h
    · rename_i l hl
      split at h
      · rename_i hfit
        cases h
        have hfit : ∀ k (hk : k < l.length), l[k].fits := fun k hk => of_decide_eq_true (List.all_eq_true.1 hfit _ (List.getElem_mem hk))
        refine fn_of_wp f36 rfl (W_sound oQ_ok mixed _ _ _ _ _ ?_)
        simp (maxSteps := 1000000) (disch := omega) only [c36, lst_len hl, go_sem]
        refine ⟨fun h8 => ?_, fun h8 => ?_⟩
        · rw [show allE l = 111 by unfold allE; rw [if_neg fun q => by have := q.1; omega]]
          exact wkv_same
        · refine wp_loop (fun j e M dl => dl = [] ∧ ∃ (k : Nat) (T : Mem), j = l.length - k ∧ k ≤ l.length ∧ M = S ++ (.map (ents 0 (nets l k)) k :: T) ∧ okTo l k ∧ e.get 0 = s ∧ e.get 3 = .m S.length ∧ e.get 10 = s ∧ e.get 11 = .i .i64 l.length ∧ e.get 12 = .i .i64 k) (j := l.length) ?_ ?_
          · exact ⟨rfl, 0, [], rfl, Nat.zero_le _, rfl, okTo_zero l, rfl, rfl, rfl, rfl, rfl⟩
          rintro j e M d' ⟨rfl, k, T, rfl, hk, rfl, hok, h0, h3, h10, h11, h12⟩
          by_cases hkl : k < l.length
          · obtain ⟨bi, o, v, cap, ex, rfl⟩ := lst_sl hl hkl
            have hrow := lstV_row hl hkl
            have hrow : ∀ L, rowB ((S ++ L)[bi]?) (o + k * 13) v 13 = some l[k].enc := hrow
            have hkI : (k : Int) < l.length := by omega
            have hlk : (nets l k).length = k := by unfold nets; rw [List.length_map, List.length_take]; omega
            refine wp_seq (W_sound oQ_ok mixed _ _ _ _ _ ?_)
            simp (maxSteps := 1000000) (disch := omega) only [h11, h12, hkI, go_sem]
            refine wp_live (wp_seq (W_sound oQ_ok mixed _ _ _ _ _ ?_))
            simp (maxSteps := 1000000) (disch := omega) only [go_sem]
            refine wp_live (wp_seq (wp_block (wp_seq (W_sound oQ_ok mixed _ _ _ _ _ ?_))))
            simp (maxSteps := 1000000) (disch := omega) only [h0, h3, h10, h11, h12, hkI, Int.toNat_natCast, hrow, Pol.enc, go_sem]
            have hnet : rowB (((S ++ (.map (ents 0 (nets l k)) k :: (T ++ [.cells l[k].enc 0 none true])) : Mem))[S.length + (T.length + 1)]?) 1 0 5 = some [.i .u8 l[k].a, .i .u8 l[k].b, .i .u8 l[k].c, .i .u8 l[k].d, .i .i64 l[k].bits] := by rw [at_app, List.getElem?_cons_succ, at_app0]; rfl
            have hmap : (S ++ (.map (ents 0 (nets l k)) k :: (T ++ [.cells l[k].enc 0 none true])) : Mem)[S.length]? = some (.map (ents 0 (nets l k)) k) := by rw [at_app0]; rfl
            have hN : nets l (k + 1) = nets l k ++ [l[k].net] := by unfold nets; rw [List.take_succ_eq_append_getElem hkl, List.map_append]; rfl
            have bad : (¬ l[k].right ∨ l[k].net ∈ nets l k ∨ ∃ h0 : 0 < k, l[k].sub ≤ (l[k - 1]'(by omega)).sub) → allE l = 111 := fun hb => by
              unfold allE
              rw [if_neg fun q => ?_]
              have q2 := okTo_at q.2 hkl
              rcases hb with hb | hb | ⟨h0, hb⟩
              · exact hb q2.1
              · unfold nets at hb
                obtain ⟨p, hp, hpn⟩ := List.mem_map.1 hb
                obtain ⟨j, hj, rfl⟩ := List.getElem_of_mem hp
                rw [List.getElem_take] at hpn
                exact (q2.2 j (by rw [List.length_take] at hj; omega)).2 hpn
              · have := (q2.2 (k - 1) (by omega)).1; omega
            have fk : ∀ L, cellB ((S ++ L)[bi]?) (o + (k - 1) * 13 + 0) v = some (.i .i64 (l[k - 1]'(by omega)).sub) := lstV_field hl (show k - 1 < l.length by omega) (f := 0) (x := .i .i64 (l[k - 1]'(by omega)).sub) rfl
            simp only [Nat.add_zero] at fk
            have hk1 : 0 < k → wrapV .i64 ((k : Int) - 1) = ((k - 1 : Nat) : Int) := fun h => by rw [wrap_i64 (by omega) (by omega)]; omega
            have hia : 0 < k → iaddrV none 13 (.sl bi o v l.length cap ex) (.i .i64 ((k - 1 : Nat) : Int)) = some (.p bi (o + (k - 1) * 13) v) := fun h => iaddr_sl (by omega)
            have hu : u84 l[k].a l[k].b l[k].c l[k].d := hfit k hkl
            have hpos : (0 < (k : Int)) = (0 < k) := by simp
            by_cases hm : l[k].net ∈ nets l k
            · obtain ⟨e', es, hev, hge, hlo⟩ := d0_old (O := orcOf [(19, polS)]) (e := keepE [(4, AV.i .i64 k), (5, AV.p (List.length S + (T.length + 1)) 0 0), (16, AV.ag l[k].enc), (15, AV.p bi (o + k * 13) v), (14, AV.i .i64 k), (3, AV.m (List.length S)), (0, AV.sl bi o v l.length cap ex), (10, AV.sl bi o v l.length cap ex), (11, AV.i .i64 l.length), (12, AV.i .i64 k)] [3, 0, 10, 11, 12, 5, 4]) rfl rfl hnet hmap hm (by omega)
              refine wp_live (wp_seq (wp_draw oQ_ok mixed hev ?_))
              have g0 := hge 0 (by omega); have g3 := hge 3 (by omega); have g4 := hge 4 (by omega); have g5 := hge 5 (by omega); have g10 := hge 10 (by omega); have g11 := hge 11 (by omega); have g12 := hge 12 (by omega)
              simp (maxSteps := 1000000) (disch := omega) only [go_sem] at g0 g3 g4 g5 g10 g11 g12
              refine W_sound oQ_ok mixed _ _ _ _ _ ?_
              rw [bad (.inr (.inl hm))]
              simp (maxSteps := 1000000) (disch := omega) only [g0, g3, g4, g5, g10, g11, g12, Pol.enc, orc_cons, polS, hu, mlook_eq, hlo, go_sem]
              exact ⟨fun _ => wkv_drop rfl, fun _ => wkv_drop rfl⟩
            · obtain ⟨e', hev, hge⟩ := d0_new (O := orcOf [(19, polS)]) (e := keepE [(4, AV.i .i64 k), (5, AV.p (List.length S + (T.length + 1)) 0 0), (16, AV.ag l[k].enc), (15, AV.p bi (o + k * 13) v), (14, AV.i .i64 k), (3, AV.m (List.length S)), (0, AV.sl bi o v l.length cap ex), (10, AV.sl bi o v l.length cap ex), (11, AV.i .i64 l.length), (12, AV.i .i64 k)] [3, 0, 10, 11, 12, 5, 4]) rfl rfl hnet hmap hlk hm (by omega)
              refine wp_live (wp_seq (wp_draw oQ_ok mixed hev ?_))
              have g0 := hge 0 (by omega); have g3 := hge 3 (by omega); have g4 := hge 4 (by omega); have g5 := hge 5 (by omega); have g10 := hge 10 (by omega); have g11 := hge 11 (by omega); have g12 := hge 12 (by omega)
              simp (maxSteps := 1000000) (disch := omega) only [go_sem] at g0 g3 g4 g5 g10 g11 g12
              have hlo : lookM (some (.map (ents 0 (nets l k ++ [(l[k].a, l[k].b, l[k].c, l[k].d, l[k].bits)])) (k + 1))) (l[k].a, l[k].b, l[k].c, l[k].d, l[k].bits) (.i .i64 0) = some (.i .i64 1) := look_new (by simp)
              have hw : wrapV .i64 ((k : Int) + 1) = ((k + 1 : Nat) : Int) := by rw [wrap_i64 (by omega) (by omega)]; omega
              have fin : l[k].right → (∀ h0 : 0 < k, (l[k - 1]'(by omega)).sub < l[k].sub) → okTo l (k + 1) := fun hr hs => by
                refine okTo_succ hkl hok hr fun j hj => ⟨okTo_rise hkl hok hs j hj, fun hne => hm ?_⟩
                unfold nets
                exact List.mem_map.2 ⟨l[j]'(by omega), by rw [List.mem_take_iff_getElem]; exact ⟨j, by omega, rfl⟩, hne⟩
              refine W_sound oQ_ok mixed _ _ _ _ _ ?_
              by_cases h0k : 0 < k
              · simp (maxSteps := 1000000) (disch := omega) only [g0, g3, g4, g5, g10, g11, g12, Pol.enc, orc_cons, polS, hu, mlook_eq, hlo, h0k, hpos, hk1, hia, fk, go_sem]
                refine ⟨fun hr => ⟨fun hs => ?_, fun hs => W_sound oQ_ok mixed _ _ _ _ _ ?_⟩, fun hr => ?_⟩
                · rw [bad (.inr (.inr ⟨h0k, hs⟩))]; exact wkv_drop rfl
                · simp (maxSteps := 1000000) (disch := omega) only [hw, go_sem]
                  exact ⟨l.length - (k + 1), by omega, k + 1, _, rfl, by omega, (by rw [hN]; rfl), fin (Decidable.not_not.1 hr) (fun _ => by omega), rfl⟩
                · rw [bad (.inl (fun q => hr q))]; exact wkv_drop rfl
              · simp (maxSteps := 1000000) (disch := omega) only [g0, g3, g4, g5, g10, g11, g12, Pol.enc, orc_cons, polS, hu, mlook_eq, hlo, h0k, hpos, go_sem]
                refine ⟨fun hr => W_sound oQ_ok mixed _ _ _ _ _ ?_, fun hr => ?_⟩
                · simp (maxSteps := 1000000) (disch := omega) only [hw, go_sem]
                  exact ⟨l.length - (k + 1), by omega, k + 1, _, rfl, by omega, (by rw [hN]; rfl), fin (Decidable.not_not.1 hr) (fun h => absurd h h0k), rfl⟩
                · rw [bad (.inl (fun q => hr q))]; exact wkv_drop rfl
          · have hkI : ¬ (k : Int) < l.length := by omega
            refine W_sound oQ_ok mixed _ _ _ _ _ ?_
            simp (maxSteps := 1000000) (disch := omega) only [c36l2, h0, h3, h10, h11, h12, hkI, go_sem]
            rw [show allE l = 0 by unfold allE; rw [if_pos ⟨by omega, by rwa [show k = l.length by omega] at hok⟩]]
            exact wkv_drop rfl
      · cases h
    · cases h
  · cases h
end Go.Proofs.Ytmdnohpolepcoaa

namespace Go.Proofs.Ytmdnohpolepcoaa
open Go.RowKit
set_option linter.unusedSimpArgs false
set_option linter.unusedVariables false
set_option maxRecDepth 10000


structure Ent where
  pol : Pol
  granted : Int
  deriving DecidableEq
def Ent.enc (x : Ent) : List AV := [.i .i64 x.pol.sub, .i .u8 x.pol.a, .i .u8 x.pol.b, .i .u8 x.pol.c, .i .u8 x.pol.d, .i .i64 x.pol.bits, .i .u64 x.pol.rate, .i .u64 x.pol.burst, .i .u64 x.pol.srate, .i .u64 x.pol.sburst, .i .u64 x.pol.quota, .i .u64 x.pol.lease, .i .u64 x.pol.quantum, .i .u64 x.granted]
def entE : Enc Ent where
  enc := Ent.enc
  dec r := match r with
    | [.i .i64 sub, .i .u8 a, .i .u8 b, .i .u8 c, .i .u8 d, .i .i64 bits, .i .u64 rate, .i .u64 burst, .i .u64 srate, .i .u64 sburst, .i .u64 quota, .i .u64 lease, .i .u64 quantum, .i .u64 granted] => some ⟨⟨sub, a, b, c, d, bits, rate, burst, srate, sburst, quota, lease, quantum⟩, granted⟩
    | _ => none
  sz := 14
  pos := by decide
  len _ := rfl
  de _ := rfl
  ed r a h := by
    split at h
    · injection h with h; subst h; rfl
    · cases h
theorem entE_one (a : Ent) : (entE.enc a).all AV.one = true := rfl
theorem entE_flat : ∀ (n : Nat) (a : Ent), ∀ c ∈ entE.enc a, AV.Flat n c := by
  intro n a
  simp only [entE, Ent.enc, List.forall_mem_cons, List.not_mem_nil, false_imp_iff, implies_true, and_true, Flat_i, and_self]
theorem polE_one (a : Pol) : (polE.enc a).all AV.one = true := rfl
theorem polE_flat : ∀ (n : Nat) (a : Pol), ∀ c ∈ polE.enc a, AV.Flat n c := by
  intro n a
  simp only [polE, Pol.enc, List.forall_mem_cons, List.not_mem_nil, false_imp_iff, implies_true, and_true, Flat_i, and_self]
theorem ne_pol {a b : Pol} : eqAgV true [.int, .int, .int, .int, .int, .int, .int, .int, .int, .int, .int, .int, .int] (.ag (polE.enc a)) (.ag (polE.enc b)) = some (.b (decide (¬ a = b))) := by
  obtain ⟨a1, a2, a3, a4, a5, a6, a7, a8, a9, a10, a11, a12, a13⟩ := a
  obtain ⟨b1, b2, b3, b4, b5, b6, b7, b8, b9, b10, b11, b12, b13⟩ := b
  simp [eqAgV, eqCells, eqCell, polE, Pol.enc, Bool.beq_eq_decide_eq, and_assoc]

/-! ### The closures -/
def moreS : Spec := fun args S => match args with
  | [.ag cs] => match entE.dec cs with
    | some x => some (.b (decide (281474976710656 < x.granted)), S)
    | none => none
  | _ => none
theorem more_ok : SpecOK Try.prog 39 moreS := by
  intro args S x S' h
  simp only [moreS] at h
  split at h
  · split at h
    · rename_i cs x hx
      cases h
      obtain rfl := entE.ed _ _ hx
      refine fn_of_wp f39 rfl (W_sound none_ok mixed _ _ _ _ _ ?_)
      simp (maxSteps := 1000000) (disch := omega) only [c39, entE, Ent.enc, go_sem]
      exact wkv_drop rfl
    · cases h
  · cases h
def subIsS : Spec := fun args S => match args with
  | [.ag cs, .p i o v] => match entE.dec cs, cellB (S[i]?) o v with
    | some x, some (.i .i64 n) => some (.b (decide (x.pol.sub = n)), S)
    | _, _ => none
  | _ => none
theorem subIs_ok : SpecOK Try.prog 52 subIsS := by
  intro args S x S' h
  simp only [subIsS] at h
  split at h
  · rename_i cs i o v
    split at h
    · rename_i x n hx hn
      cases h
      obtain rfl := entE.ed _ _ hx
      have hi : i < S.length := by
        rcases Nat.lt_or_ge i S.length with h | h
        · exact h
        · rw [List.getElem?_eq_none h] at hn; simp [cellB] at hn
      have hc : ∀ L : Mem, cellB ((S ++ L)[i]?) o v = some (.i .i64 n) := fun L => by rw [List.getElem?_append_left hi]; exact hn
      refine fn_of_wp f52 rfl (W_sound none_ok mixed _ _ _ _ _ ?_)
      simp (maxSteps := 1000000) (disch := omega) only [c52, entE, Ent.enc, hc, go_sem]
      exact wkv_drop rfl
    · cases h
  · cases h
def predE (f : AV) (S : Mem) : Option (Ent → Bool) := match f with
  | .f (.func g) [] [] => if g = 39 then some (fun x => decide (281474976710656 < x.granted)) else none
  | .f (.func g) [] [.p i o v] => if g = 52 then match cellB (S[i]?) o v with
    | some (.i .i64 n) => some (fun x => decide (x.pol.sub = n))
    | _ => none else none
  | _ => none
def entO : Orc := orcOf [(39, moreS), (52, subIsS)]
theorem entO_ok : OK Try.prog (lamOf Try.prog) entO := orc_ok (by simpa using ⟨more_ok, subIs_ok⟩)
theorem predE_call {f : AV} {S : Mem} {p : Ent → Bool} (h : predE f S = some p) : ∃ g b, f = .f (.func g) [] b ∧ ∀ x, entO.fn g (.ag (entE.enc x) :: b) S = some (.b (p x), S) := by
  unfold predE at h
  split at h
  · split at h
    · rename_i hg; subst hg; injection h with h; subst h; exact ⟨_, [], rfl, fun x => rfl⟩
    · cases h
  · split at h
    · rename_i hg; subst hg
      split at h
      · rename_i n hc
        injection h with h; subst h
        refine ⟨_, _, rfl, fun x => ?_⟩
        have he : entO.fn 52 = subIsS := by funext a S; rfl
        rw [he]
        simp only [subIsS, entE.de, hc]
      · cases h
    · cases h
  · cases h
theorem predE_more {S : Mem} : predE (.f (.func 39) [] []) S = some (fun x => decide (281474976710656 < x.granted)) := rfl
theorem predE_sub {S : Mem} {i o v : Nat} {n : Int} (h : cellB (S[i]?) o v = some (.i .i64 n)) : predE (.f (.func 52) [] [.p i o v]) S = some (fun x => decide (x.pol.sub = n)) := by
  simp only [predE, if_true, h]

def idxES : Spec := fun args S => match args with
  | [x, f] => match lstV entE S x, predE f S with
    | some l, some p => if l.length ≤ 1000000 then some (.i .i64 (idx p l), S) else none
    | _, _ => none
  | _ => none
theorem idxE_ok : SpecOK Try.prog 51 idxES := by
  intro args S x S' h
  simp only [idxES] at h
  split at h
  · rename_i s f
    split at h
    · rename_i l p hl hp
      split at h
      · rename_i hlim
        cases h
        obtain ⟨g, b, rfl, hg⟩ := predE_call hp
        refine fn_of_wp f51 rfl (W_sound entO_ok mixed _ _ _ _ _ ?_)
        simp (maxSteps := 1000000) (disch := omega) only [c51, lst_len hl, go_sem]
        refine wp_loop (fun j e M dl => dl = [] ∧ ∃ k : Nat, j = l.length - k ∧ k ≤ l.length ∧ M = S ∧ (∀ i (hi : i < k) (hl : i < l.length), p l[i] = false) ∧
          e.get 0 = s ∧ e.get 1 = .f (.func g) [] b ∧ e.get 7 = .i .i64 l.length ∧ e.get 8 = .i .i64 k) (j := l.length) ⟨rfl, 0, rfl, Nat.zero_le _, rfl, fun i hi => absurd hi (Nat.not_lt_zero _), rfl, rfl, rfl, rfl⟩ ?_
        rintro j e M d' ⟨rfl, k, rfl, hk, rfl, hn, h0, h1, h7, h8⟩
        refine W_sound entO_ok mixed _ _ _ _ _ ?_
        by_cases hkl : k < l.length
        · obtain ⟨bi, o, v, cap, ex, rfl⟩ := lst_sl hl hkl
          have hc := lstV_row hl hkl []
          rw [List.append_nil] at hc
          have hc : rowB (M[bi]?) (o + k * 14) v 14 = some (entE.enc l[k]) := hc
          have hkI : (k : Int) < l.length := by omega
          simp (maxSteps := 1000000) (disch := omega) only [c51l0, h0, h1, h7, h8, hkI, Int.toNat_natCast, Nat.mul_one, hc, hg, go_sem]
          cases hpk : p l[k] with
          | true =>
            refine ⟨fun _ => ?_, fun h => by cases h⟩
            rw [idx_at hkl hpk fun j hj => hn j hj (by omega)]
            exact wkv_same
          | false =>
            refine ⟨(fun h => by cases h), fun _ => ⟨l.length - (k + 1), by omega, k + 1, rfl, hkl, fun i hi hil => ?_, rfl⟩⟩
            by_cases hik : i = k
            · subst hik; exact hpk
            · exact hn i (by omega) hil
        · have hkI : ¬ (k : Int) < l.length := by omega
          simp (maxSteps := 1000000) (disch := omega) only [c51l0, h0, h1, h7, h8, hkI, go_sem]
          rw [idx_none fun j hj => hn j (by omega) hj]
          exact wkv_same
      · cases h
    · cases h
  · cases h
theorem idxE_eq {S : Mem} {x f : AV} {l p} (hl : lstV entE S x = some l) (hp : predE f S = some p) (hn : l.length ≤ 1000000) : idxES [x, f] S = some (.i .i64 (idx p l), S) := by
  simp only [idxES, hl, hp, if_pos hn]

def hasES : Spec := fun args S => match args with
  | [x, f] => match lstV entE S x, predE f S with
    | some l, some p => if l.length ≤ 1000000 then some (.b (l.any p), S) else none
    | _, _ => none
  | _ => none
theorem oHasE_ok : OK Try.prog (lamOf Try.prog) (orcOf [(51, idxES)]) := orc_ok (by simpa using idxE_ok)
theorem hasE_ok : SpecOK Try.prog 38 hasES := by
  intro args S x S' h
  simp only [hasES] at h
  split at h
  · rename_i s f
    split at h
    · rename_i l p hl hp
      split at h
      · rename_i hlim
        cases h
        have hi := idxE_eq hl hp hlim
        refine fn_of_wp f38 rfl (W_sound oHasE_ok mixed _ _ _ _ _ ?_)
        simp (maxSteps := 1000000) (disch := omega) only [c38, orc_cons, hi, go_sem]
        refine wkv_eq wkv_same ?_ rfl
        congr 1
        have := idx_ge p l
        cases h : l.any p
        · rw [h] at this; simp [this]
        · rw [h] at this; simp [this]
      · cases h
    · cases h
  · cases h
theorem hasE_eq {S : Mem} {x f : AV} {l p} (hl : lstV entE S x = some l) (hp : predE f S = some p) (hn : l.length ≤ 1000000) : hasES [x, f] S = some (.b (l.any p), S) := by
  simp only [hasES, hl, hp, if_pos hn]

def eqlPS : Spec := fun args S => match args with
  | [x, y] => match lstV polE S x, lstV polE S y with
    | some l, some m => if l.length ≤ 1000000 then some (.b (decide (l = m)), S) else none
    | _, _ => none
  | _ => none
theorem eqlP_ok : SpecOK Try.prog 59 eqlPS := by
  intro args S x S' h
  simp only [eqlPS] at h
  split at h
  · rename_i s t
    split at h
    · rename_i l m hl hm
      split at h
      · rename_i hlim
        cases h
        refine fn_of_wp f59 rfl (W_sound none_ok mixed _ _ _ _ _ ?_)
        simp (maxSteps := 1000000) (disch := omega) only [c59, lst_len hl, lst_len hm, go_sem]
        refine ⟨fun hne => wkv_fP ext_refl fun q => hne (by rw [q]), fun he => ?_⟩
        have he : l.length = m.length := by omega
        refine wp_loop (fun j e M dl => dl = [] ∧ ∃ k : Nat, j = l.length - k ∧ k ≤ l.length ∧ M = S ∧ (∀ i (hi : i < k) (h1 : i < l.length) (h2 : i < m.length), l[i] = m[i]) ∧
          e.get 0 = s ∧ e.get 1 = t ∧ e.get 12 = .i .i64 l.length ∧ e.get 13 = .i .i64 k) (j := l.length) ⟨rfl, 0, rfl, Nat.zero_le _, rfl, fun i hi => absurd hi (Nat.not_lt_zero _), rfl, rfl, rfl, rfl⟩ ?_
        rintro j e M d' ⟨rfl, k, rfl, hk, rfl, hn, h0, h1, h12, h13⟩
        refine W_sound none_ok mixed _ _ _ _ _ ?_
        by_cases hkl : k < l.length
        · obtain ⟨bi, o, v, cap, ex, rfl⟩ := lst_sl hl hkl
          obtain ⟨bj, o2, v2, cap2, ex2, rfl⟩ := lst_sl hm (show k < m.length by omega)
          have hkI : (k : Int) < l.length := by omega
          have hkm : k < m.length := by omega
          have ha := lstV_row hl hkl []
          have hb := lstV_row hm (show k < m.length by omega) []
          rw [List.append_nil] at ha hb
          have ha : rowB (M[bi]?) (o + k * 13) v 13 = some (polE.enc l[k]) := ha
          have hb : rowB (M[bj]?) (o2 + k * 13) v2 13 = some (polE.enc (m[k]'(by omega))) := hb
          simp (maxSteps := 1000000) (disch := omega) only [c59l1, h0, h1, h12, h13, hkI, Int.toNat_natCast, ha, hb, ne_pol, go_sem]
          refine ⟨fun hd => wkv_fP ext_refl fun q => hd (by subst q; rfl), fun hd => ⟨l.length - (k + 1), by omega, k + 1, rfl, hkl, fun i hi h1 h2 => ?_, rfl⟩⟩
          by_cases hik : i = k
          · subst hik; exact Decidable.not_not.1 hd
          · exact hn i (by omega) h1 h2
        · have hkI : ¬ (k : Int) < l.length := by omega
          simp (maxSteps := 1000000) (disch := omega) only [c59l1, h0, h1, h12, h13, hkI, go_sem]
          exact wkv_tP ext_refl (List.ext_getElem he fun i h1 h2 => hn i (by omega) h1 h2)
      · cases h
    · cases h
  · cases h
theorem eqlP_eq {S : Mem} {x y : AV} {l m} (hl : lstV polE S x = some l) (hm : lstV polE S y = some m) (hn : l.length ≤ 1000000) : eqlPS [x, y] S = some (.b (decide (l = m)), S) := by
  simp only [eqlPS, hl, hm, if_pos hn]

def eqlIS : Spec := fun args S => match args with
  | [x, y] => match lstV (intE .i64) S x, lstV (intE .i64) S y with
    | some l, some m => if l.length ≤ 1000000 then some (.b (decide (l = m)), S) else none
    | _, _ => none
  | _ => none
theorem eqlI_ok : SpecOK Try.prog 60 eqlIS := by
  intro args S x S' h
  simp only [eqlIS] at h
  split at h
  · rename_i s t
    split at h
    · rename_i l m hl hm
      split at h
      · rename_i hlim
        cases h
        refine fn_of_wp f60 rfl (W_sound none_ok mixed _ _ _ _ _ ?_)
        simp (maxSteps := 1000000) (disch := omega) only [c60, lst_len hl, lst_len hm, go_sem]
        refine ⟨fun hne => wkv_fP ext_refl fun q => hne (by rw [q]), fun he => ?_⟩
        have he : l.length = m.length := by omega
        refine wp_loop (fun j e M dl => dl = [] ∧ ∃ k : Nat, j = l.length - k ∧ k ≤ l.length ∧ M = S ∧ (∀ i (hi : i < k) (h1 : i < l.length) (h2 : i < m.length), l[i] = m[i]) ∧
          e.get 0 = s ∧ e.get 1 = t ∧ e.get 12 = .i .i64 l.length ∧ e.get 13 = .i .i64 k) (j := l.length) ⟨rfl, 0, rfl, Nat.zero_le _, rfl, fun i hi => absurd hi (Nat.not_lt_zero _), rfl, rfl, rfl, rfl⟩ ?_
        rintro j e M d' ⟨rfl, k, rfl, hk, rfl, hn, h0, h1, h12, h13⟩
        refine W_sound none_ok mixed _ _ _ _ _ ?_
        by_cases hkl : k < l.length
        · obtain ⟨bi, o, v, cap, ex, rfl⟩ := lst_sl hl hkl
          obtain ⟨bj, o2, v2, cap2, ex2, rfl⟩ := lst_sl hm (show k < m.length by omega)
          have hkI : (k : Int) < l.length := by omega
          have hkm : k < m.length := by omega
          have ha := lstV_cell hl rfl (fun a => rfl) hkl []
          have hb := lstV_cell hm rfl (fun a => rfl) (show k < m.length by omega) []
          rw [List.append_nil] at ha hb
          simp (maxSteps := 1000000) (disch := omega) only [c60l1, h0, h1, h12, h13, hkI, Int.toNat_natCast, Nat.mul_one, ha, hb, go_sem]
          refine ⟨fun hd => wkv_fP ext_refl fun q => hd (by subst q; rfl), fun hd => ⟨l.length - (k + 1), by omega, k + 1, rfl, hkl, fun i hi h1 h2 => ?_, rfl⟩⟩
          by_cases hik : i = k
          · subst hik; exact Decidable.not_not.1 hd
          · exact hn i (by omega) h1 h2
        · have hkI : ¬ (k : Int) < l.length := by omega
          simp (maxSteps := 1000000) (disch := omega) only [c60l1, h0, h1, h12, h13, hkI, go_sem]
          exact wkv_tP ext_refl (List.ext_getElem he fun i h1 h2 => hn i (by omega) h1 h2)
      · cases h
    · cases h
  · cases h
theorem eqlI_eq {S : Mem} {x y : AV} {l m} (hl : lstV (intE .i64) S x = some l) (hm : lstV (intE .i64) S y = some m) (hn : l.length ≤ 1000000) : eqlIS [x, y] S = some (.b (decide (l = m)), S) := by
  simp only [eqlIS, hl, hm, if_pos hn]
end Go.Proofs.Ytmdnohpolepcoaa

namespace Go.Proofs.Ytmdnohpolepcoaa
open Go.RowKit
set_option linter.unusedSimpArgs false
set_option linter.unusedVariables false
set_option maxRecDepth 10000

/-! ### place -/
def hasSub (n : Int) : Ent → Bool := fun x => decide (x.pol.sub = n)
def placeS : Spec := fun args S => match args with
  | [x, .i .i64 n] => match lstV entE S x with
    | some l => if l.length ≤ 1000000 then some (.i .i64 (idx (hasSub n) l), S) else none
    | none => none
  | _ => none
theorem oPlace_ok : OK Try.prog (lamOf Try.prog) (orcOf [(51, idxES)]) := orc_ok (by simpa using idxE_ok)
theorem place_ok : SpecOK Try.prog 30 placeS := by
  intro args S x S' h
  simp only [placeS] at h
  split at h
  · rename_i s n
    split at h
    · rename_i l hl
      split at h
      · rename_i hlim
        cases h
        have hc : idxES [s, .f (.func 52) [] [.p S.length 0 0]] (S ++ [.cells [.i .i64 n] 0 none true]) = some (.i .i64 (idx (hasSub n) l), S ++ [.cells [.i .i64 n] 0 none true]) :=
          idxE_eq (lstV_grow hl _) (predE_sub (by rw [at_app0]; rfl)) hlim
        refine fn_of_wp f30 rfl (W_sound oPlace_ok mixed _ _ _ _ _ ?_)
        simp (maxSteps := 1000000) (disch := omega) only [c30, orc_cons, hc, go_sem]
        exact wkv_drop rfl
      · cases h
    · cases h
  · cases h
theorem place_eq {S : Mem} {x : AV} {l : List Ent} (hl : lstV entE S x = some l) (n : Int) (h : l.length ≤ 1000000) : placeS [x, .i .i64 n] S = some (.i .i64 (idx (hasSub n) l), S) := by
  simp only [placeS, hl, if_pos h]

/-! ### policies -/
def polsOf (l : List Ent) : List Pol := l.map Ent.pol
def policiesS : Spec := fun args S => match args with
  | [x] => match lstV entE S x with
    | some l => if l.length ≤ 1000000 then some (retX false S (polsOf l), retM false polE S (polsOf l)) else none
    | none => none
  | _ => none
theorem policies_ok : SpecOK Try.prog 37 policiesS := by
  intro args S x S' h
  simp only [policiesS] at h
  split at h
  · rename_i s
    split at h
    · rename_i l hl
      split at h
      · rename_i hlim
        cases h
        refine fn_of_wp f37 rfl (W_sound none_ok mixed _ _ _ _ _ ?_)
        simp (maxSteps := 1000000) (disch := omega) only [c37, lst_len hl, go_sem]
        refine wp_loop (fun j e M dl => dl = [] ∧ ∃ (k : Nat) (x : AV), j = l.length - k ∧ k ≤ l.length ∧ Acc false polE S M x (polsOf (l.take k)) ∧
          e.get 6 = s ∧ e.get 7 = .i .i64 l.length ∧ e.get 8 = .i .i64 k ∧ e.get 3 = x) (j := l.length) ⟨rfl, 0, .sn, rfl, Nat.zero_le _, acc_nil ext_refl, rfl, rfl, rfl, rfl⟩ ?_
        rintro j e M d' ⟨rfl, k, x, rfl, hk, hx, h6, h7, h8, h3⟩
        refine W_sound none_ok mixed _ _ _ _ _ ?_
        by_cases hkl : k < l.length
        · obtain ⟨bi, o, v, cap, ex, rfl⟩ := lst_sl hl hkl
          have hM := lst_ext hl hx.ext
          have hr : ∀ L, rowB ((M ++ L)[bi]?) (o + k * 14) v 14 = some (entE.enc l[k]) := lstV_row hM hkl
          have hr0 := hr []
          rw [List.append_nil] at hr0
          have hkI : (k : Int) < l.length := by omega
          have hw : wrapV .i64 ((k : Int) + 1) = ((k + 1 : Nat) : Int) := by rw [wrap_i64 (by omega) (by omega)]; omega
          have hlen : (polsOf (l.take k)).length = k := by unfold polsOf; rw [List.length_map, List.length_take]; omega
          obtain ⟨x', M', ha, hx'⟩ := Acc.app (bytes := 80) polE_one (hx.grow [.cells (entE.enc l[k]) 0 none true, .cells (polE.enc l[k].pol) 0 none true]) l[k].pol (by rw [hlen]; omega) (by rw [hlen]; omega)
          simp only [entE, polE, Ent.enc, Pol.enc] at hr0 ha
          simp (maxSteps := 1000000) (disch := omega) only [c37l0, h3, h6, h7, h8, hkI, Int.toNat_natCast, hr0, src_sl, srcN_some, ha, hw, List.replicate, go_sem]
          refine ⟨l.length - (k + 1), by omega, k + 1, x', rfl, hkl, ?_, rfl, rfl⟩
          rw [show polsOf (l.take (k + 1)) = polsOf (l.take k) ++ [l[k].pol] by unfold polsOf; rw [List.take_succ_eq_append_getElem hkl, List.map_append]; rfl]
          exact hx'
        · have hkI : ¬ (k : Int) < l.length := by omega
          simp (maxSteps := 1000000) (disch := omega) only [c37l0, h3, h6, h7, h8, hkI, go_sem]
          rw [List.take_of_length_le (by omega)] at hx
          exact hx.ret polE_flat
      · cases h
    · cases h
  · cases h
theorem policies_eq {S : Mem} {x : AV} {l : List Ent} (hl : lstV entE S x = some l) (h : l.length ≤ 1000000) : policiesS [x] S = some (retX false S (polsOf l), retM false polE S (polsOf l)) := by
  simp only [policiesS, hl, if_pos h]

/-! ### slices.Clone -/
def nz : AV → Bool
  | .sn => false
  | _ => true
def cloneES : Spec := fun args S => match args with
  | [x] => match lstV entE S x with
    | some l => if l.length ≤ 1000000 then some (retX (nz x) S l, retM (nz x) entE S l) else none
    | none => none
  | _ => none
theorem cloneE_ok : SpecOK Try.prog 22 cloneES := by
  intro args S x S' h
  simp only [cloneES] at h
  split at h
  · rename_i s
    split at h
    · rename_i l hl
      split at h
      · rename_i hlim
        cases h
        refine fn_of_wp f22 rfl (W_sound none_ok mixed _ _ _ _ _ ?_)
        rcases lstV_lst hl with ⟨rfl, rfl⟩ | ⟨rfl, rfl⟩ | ⟨i, o, v, len, cap, ex, rfl, rfl, hrow⟩
        · simp (maxSteps := 1000000) (disch := omega) only [c22, bin_sleql_nn, go_sem]
          exact wkv_same
        · simp (maxSteps := 1000000) (disch := omega) only [c22, bin_sleql_en, zerosV_zero, go_sem]
          exact (acc_lit ext_refl).ret entE_flat
        · have hrow2 : ∀ L, rowB ((S ++ L)[i]?) o v (l.length * 14) = some (l.flatMap entE.enc) := fun L => by
            rw [← rowAt_B]; exact rowAt_grow L hrow
          obtain ⟨x', M', ha, hx'⟩ := Acc.apps (bytes := 88) (z := true) (E := entE) (S := S) entE_one (acc_lit ext_refl) l (by simp only [List.length_nil]; omega) (by simp only [List.length_nil]; omega)
          rw [List.nil_append] at hx'
          have ha : appV (S ++ [.cells [] 0 none true]) 14 88 (.sl S.length 0 0 0 0 true) (l.flatMap entE.enc) l.length = some (x', M') := ha
          simp (maxSteps := 1000000) (disch := omega) only [c22, bin_sleql_sn, zerosV_zero, src_sl, srcN_some, hrow2, ha, go_sem]
          exact hx'.ret entE_flat
      · cases h
    · cases h
  · cases h
theorem cloneE_eq {S : Mem} {x : AV} {l : List Ent} (hl : lstV entE S x = some l) (h : l.length ≤ 1000000) : cloneES [x] S = some (retX (nz x) S l, retM (nz x) entE S l) := by
  simp only [cloneES, hl, if_pos h]

/-! ### book.Right -/
structure Bk where
  period : Int
  entries : List Ent
  deriving DecidableEq
def Bk.ok (b : Bk) : Prop := 1 ≤ b.period ∧ b.period ≤ 281474976710656 ∧ Pols (polsOf b.entries) ∧ ∀ x ∈ b.entries, x.granted ≤ 281474976710656
noncomputable instance (b : Bk) : Decidable b.ok := Classical.propDecidable _
def Bk.fits (b : Bk) : Prop := b.entries.length ≤ 1000000 ∧ ∀ x ∈ b.entries, x.pol.fits
instance (b : Bk) : Decidable b.fits := by unfold Bk.fits; infer_instance
def bookOf (S : Mem) (cs : List AV) : Option Bk := match cs with
  | [.i .u64 p, x] => match lstV entE S x with
    | some l => some ⟨p, l⟩
    | none => none
  | _ => none
theorem bookOf_ok {S : Mem} {cs : List AV} {b : Bk} (h : bookOf S cs = some b) : ∃ x, cs = [.i .u64 b.period, x] ∧ lstV entE S x = some b.entries := by
  unfold bookOf at h
  split at h
  · split at h
    · rename_i hl; cases h; exact ⟨_, rfl, hl⟩
    · cases h
  · cases h
theorem bookOf_mk {S : Mem} {x : AV} {p : Int} {l : List Ent} (h : lstV entE S x = some l) : bookOf S [.i .u64 p, x] = some ⟨p, l⟩ := by
  simp only [bookOf, h]
noncomputable def brightS : Spec := fun args S => match args with
  | [.ag cs] => match bookOf S cs with
    | some b => if b.fits then some (.b (decide b.ok), S) else none
    | none => none
  | _ => none
theorem allPS_eq {S : Mem} {x : AV} {l : List Pol} (hl : lstV polE S x = some l) (hf : ∀ p ∈ l, p.fits) : allPS [x] S = some (.i .i64 (allE l), S) := by
  have : l.all (fun p => decide p.fits) = true := List.all_eq_true.2 fun p hp => decide_eq_true (hf p hp)
  simp only [allPS, hl, if_pos this]
theorem allE_zero {l : List Pol} : (allE l = 0) = Pols l := by
  unfold allE; split
  · simpa
  · simpa
theorem oBr_ok : OK Try.prog (lamOf Try.prog) (orcOf [(37, policiesS), (36, allPS), (38, hasES)]) := orc_ok (by simpa using ⟨policies_ok, all_ok, hasE_ok⟩)
theorem bright_ok : SpecOK Try.prog 23 brightS := by
  intro args S x S' h
  simp only [brightS] at h
  split at h
  · rename_i cs
    split at h
    · rename_i b hb
      split at h
      · rename_i hf
        cases h
        obtain ⟨s, rfl, hl⟩ := bookOf_ok hb
        obtain ⟨p, l⟩ := b
        have hl1 : lstV entE (S ++ [.cells [.i .u64 p, s] 0 none true]) s = some l := lstV_grow hl _
        have hp := policies_eq hl1 hf.1
        have hq := allPS_eq (retX_lst (z := false) (E := polE) (S := S ++ [.cells [.i .u64 p, s] 0 none true]) (l := polsOf l)) (fun q hq => by
          obtain ⟨x, hx, rfl⟩ := List.mem_map.1 hq; exact hf.2 x hx)
        have hext : S <+: retM false polE (S ++ [.cells [.i .u64 p, s] 0 none true]) (polsOf l) := (ext_app _).trans retM_ext
        have hl2 : lstV entE (retM false polE (S ++ [.cells [.i .u64 p, s] 0 none true]) (polsOf l)) s = some l := lst_ext hl1 retM_ext
        have hh := hasE_eq hl2 (predE_more) hf.1
        have hcell : cellB ((retM false polE (S ++ [.cells [.i .u64 p, s] 0 none true]) (polsOf l))[S.length]?) 1 0 = some s := by
          obtain ⟨T, hT⟩ := (retM_ext (z := false) (E := polE) (S := S ++ [.cells [.i .u64 p, s] 0 none true]) (l := polsOf l))
          rw [← hT, List.append_assoc, at_app0]; rfl
        refine fn_of_wp f23 rfl (W_sound oBr_ok mixed _ _ _ _ _ ?_)
        simp (maxSteps := 1000000) (disch := omega) only [c23, lst_len hl, orc_cons, hp, hq, hh, hcell, un_not_b, go_sem]
        have hlp : (polsOf l).length = l.length := by unfold polsOf; simp
        refine ⟨fun h1 => ⟨fun h2 => ⟨fun h3 => ⟨fun h4 => ?_, fun h4 => ?_⟩, fun h3 => ?_⟩, fun h2 => ?_⟩, fun h1 => ?_⟩
        · exact wkv_fP hext fun q => h4 (by rw [allE_zero]; exact q.2.2.1)
        · rw [Decidable.not_not, allE_zero] at h4
          refine wkv_eqP hext ?_ rfl
          congr 1
          rw [Bool.eq_iff_iff, decide_eq_true_iff, Bool.not_eq_true', List.any_eq_false]
          refine ⟨fun q x hx => ?_, fun q => ⟨(by show (1 : Int) ≤ p; omega), (by show p ≤ _; omega), h4, fun x hx => ?_⟩⟩
          · have := q.2.2.2 x hx; simp only [decide_eq_true_eq]; omega
          · have := q x hx; simp only [decide_eq_true_eq] at this; omega
        · refine wkv_f fun q => ?_
          have := q.2.2.1.1; simp only at this; omega
        · exact wkv_f fun q => by have := q.2.1; simp only at this; omega
        · exact wkv_f fun q => by have := q.1; simp only at this; omega
      · cases h
    · cases h
  · cases h
noncomputable def Bk.fin (o : Option Bk) : Option Bk := match o with
  | some b => if b.ok then some b else none
  | none => none
def bookR (z : Bool) (S : Mem) (b : Bk) (err : Int) : AV × Mem := (.tu [.ag [.i .u64 b.period, retX z S b.entries], .i .i64 err], retM z entE S b.entries)
theorem bright_eq {S : Mem} {cs : List AV} {b : Bk} (h : bookOf S cs = some b) (hf : b.fits) : brightS [.ag cs] S = some (.b (decide b.ok), S) := by
  simp only [brightS, h, if_pos hf]
theorem idx_eq_some {α : Type} {p : α → Bool} {l : List α} {k : Nat} (h : l.findIdx? p = some k) : idx p l = k := by unfold idx; rw [h]
theorem idx_eq_none {α : Type} {p : α → Bool} {l : List α} (h : l.findIdx? p = none) : idx p l = -1 := by unfold idx; rw [h]
end Go.Proofs.Ytmdnohpolepcoaa

namespace Go.Proofs.Ytmdnohpolepcoaa
open Go.RowKit
set_option linter.unusedSimpArgs false
set_option linter.unusedVariables false
set_option maxRecDepth 10000

def fndIS : Spec := fun args S => match args with
  | [x, .i .i64 n] => match lstV (intE .i64) S x with
    | some l => if l.length ≤ 1000000 then some (.i .i64 (idx (fun y => decide (n = y)) l), S) else none
    | _ => none
  | _ => none
theorem fndI_ok : SpecOK Try.prog 80 fndIS := by
  intro args S x S' h
  simp only [fndIS] at h
  split at h
  · rename_i s n
    split at h
    · rename_i l hl
      split at h
      · rename_i hlim
        cases h
        refine fn_of_wp f80 rfl (W_sound none_ok mixed _ _ _ _ _ ?_)
        simp (maxSteps := 1000000) (disch := omega) only [c80, lst_len hl, go_sem]
        refine wp_loop (fun j e M dl => dl = [] ∧ ∃ k : Nat, j = l.length - k ∧ k ≤ l.length ∧ M = S ∧ (∀ i (hi : i < k) (hl : i < l.length), decide (n = l[i]) = false) ∧
          e.get 0 = s ∧ e.get 1 = .i .i64 n ∧ e.get 7 = .i .i64 l.length ∧ e.get 8 = .i .i64 k) (j := l.length) ⟨rfl, 0, rfl, Nat.zero_le _, rfl, fun i hi => absurd hi (Nat.not_lt_zero _), rfl, rfl, rfl, rfl⟩ ?_
        rintro j e M d' ⟨rfl, k, rfl, hk, rfl, hn, h0, h1, h7, h8⟩
        refine W_sound none_ok mixed _ _ _ _ _ ?_
        by_cases hkl : k < l.length
        · obtain ⟨bi, o, v, cap, ex, rfl⟩ := lst_sl hl hkl
          have hc := lstV_cell hl rfl (fun a => rfl) hkl []
          rw [List.append_nil] at hc
          have hkI : (k : Int) < l.length := by omega
          simp (maxSteps := 1000000) (disch := omega) only [c80l0, h0, h1, h7, h8, hkI, Int.toNat_natCast, Nat.mul_one, hc, go_sem]
          refine ⟨fun hp => ?_, fun hp => ⟨l.length - (k + 1), by omega, k + 1, rfl, hkl, fun i hi hil => ?_, rfl⟩⟩
          · rw [idx_at hkl (decide_eq_true hp) fun j hj => hn j hj (by omega)]
            exact wkv_same
          · by_cases hik : i = k
            · subst hik; exact decide_eq_false hp
            · exact hn i (by omega) hil
        · have hkI : ¬ (k : Int) < l.length := by omega
          simp (maxSteps := 1000000) (disch := omega) only [c80l0, h0, h1, h7, h8, hkI, go_sem]
          rw [idx_none fun j hj => hn j (by omega) hj]
          exact wkv_same
      · cases h
    · cases h
  · cases h
theorem fndI_eq {S : Mem} {x : AV} {l} (hl : lstV (intE .i64) S x = some l) (n : Int) (hn : l.length ≤ 1000000) : fndIS [x, .i .i64 n] S = some (.i .i64 (idx (fun y => decide (n = y)) l), S) := by
  simp only [fndIS, hl, if_pos hn]
def inIS : Spec := fun args S => match args with
  | [x, .i .i64 n] => match lstV (intE .i64) S x with
    | some l => if l.length ≤ 1000000 then some (.b (decide (n ∈ l)), S) else none
    | _ => none
  | _ => none
theorem oInI_ok : OK Try.prog (lamOf Try.prog) (orcOf [(80, fndIS)]) := orc_ok (by simpa using fndI_ok)
theorem inI_ok : SpecOK Try.prog 58 inIS := by
  intro args S x S' h
  simp only [inIS] at h
  split at h
  · rename_i s n
    split at h
    · rename_i l hl
      split at h
      · rename_i hlim
        cases h
        have hi := fndI_eq hl n hlim
        refine fn_of_wp f58 rfl (W_sound oInI_ok mixed _ _ _ _ _ ?_)
        simp (maxSteps := 1000000) (disch := omega) only [c58, orc_cons, hi, go_sem]
        refine wkv_bP ext_refl ?_
        rw [idx_ge, List.any_eq_true]
        exact ⟨fun hm => ⟨n, hm, by simp⟩, fun ⟨y, hy, hp⟩ => by rw [decide_eq_true_eq] at hp; rw [hp]; exact hy⟩
      · cases h
    · cases h
  · cases h
theorem inI_eq {S : Mem} {x : AV} {l} (hl : lstV (intE .i64) S x = some l) (n : Int) (hn : l.length ≤ 1000000) : inIS [x, .i .i64 n] S = some (.b (decide (n ∈ l)), S) := by
  simp only [inIS, hl, if_pos hn]

structure Evt where
  kind : Int
  sub : Int
  puts : List Pol
  drops : List Int
  granted : Int
  period : Int
  deriving DecidableEq
def evtOf (S : Mem) (cs : List AV) : Option Evt := match cs with
  | [.i .i64 k, .i .i64 s, xp, xd, .i .u64 g, .i .u64 p] => match lstV polE S xp, lstV (intE .i64) S xd with
    | some ps, some ds => some ⟨k, s, ps, ds, g, p⟩
    | _, _ => none
  | _ => none
theorem evtOf_ok {S : Mem} {cs : List AV} {e : Evt} (h : evtOf S cs = some e) : ∃ xp xd, cs = [.i .i64 e.kind, .i .i64 e.sub, xp, xd, .i .u64 e.granted, .i .u64 e.period] ∧ lstV polE S xp = some e.puts ∧ lstV (intE .i64) S xd = some e.drops := by
  unfold evtOf at h
  split at h
  · split at h
    · rename_i h1 h2; cases h; exact ⟨_, _, rfl, h1, h2⟩
    · cases h
  · cases h
theorem evtOf_mk {S : Mem} {xp xd : AV} {k s g p : Int} {ps : List Pol} {ds : List Int} (h1 : lstV polE S xp = some ps) (h2 : lstV (intE .i64) S xd = some ds) : evtOf S [.i .i64 k, .i .i64 s, xp, xd, .i .u64 g, .i .u64 p] = some ⟨k, s, ps, ds, g, p⟩ := by
  simp only [evtOf, h1, h2]
def Evt.fits (e : Evt) : Prop := e.puts.length ≤ 1000000 ∧ e.drops.length ≤ 1000000 ∧ ∀ p ∈ e.puts, p.fits
instance (e : Evt) : Decidable e.fits := by unfold Evt.fits; infer_instance

/-! ### Same -/
def esameS : Spec := fun args S => match args with
  | [.ag c1, .ag c2] => match evtOf S c1, evtOf S c2 with
    | some a, some b => if a.fits then some (.b (decide (a = b)), S) else none
    | _, _ => none
  | _ => none
theorem oSame_ok : OK Try.prog (lamOf Try.prog) (orcOf [(59, eqlPS), (60, eqlIS)]) := orc_ok (by simpa using ⟨eqlP_ok, eqlI_ok⟩)
theorem esame_ok : SpecOK Try.prog 41 esameS := by
  intro args S x S' h
  simp only [esameS] at h
  split at h
  · rename_i c1 c2
    split at h
    · rename_i a b ha hb
      split at h
      · rename_i hf
        cases h
        obtain ⟨p1, d1, rfl, hp1, hd1⟩ := evtOf_ok ha
        obtain ⟨p2, d2, rfl, hp2, hd2⟩ := evtOf_ok hb
        have e1 := fun L => eqlP_eq (lstV_grow hp1 L) (lstV_grow hp2 L) hf.1
        have e2 := fun L => eqlI_eq (lstV_grow hd1 L) (lstV_grow hd2 L) hf.2.1
        refine fn_of_wp f41 rfl (W_sound oSame_ok mixed _ _ _ _ _ ?_)
        simp (maxSteps := 1000000) (disch := omega) only [c41, orc_cons, e1, e2, go_sem]
        obtain ⟨k1, s1, ps1, ds1, g1, q1⟩ := a
        obtain ⟨k2, s2, ps2, ds2, g2, q2⟩ := b
        simp only [Evt.mk.injEq]
        refine ⟨fun h1 => ⟨fun h2 => ⟨fun h3 => ⟨fun h4 => ⟨fun h5 => wkv_b ?_, fun h5 => wkv_f ?_⟩, fun h4 => wkv_f ?_⟩, fun h3 => wkv_f ?_⟩, fun h2 => wkv_f ?_⟩, fun h1 => wkv_f ?_⟩
        · exact ⟨fun q => q.2.2.2.1, fun q => ⟨h1, h2, h5, q, h3, h4⟩⟩
        · exact fun q => h5 q.2.2.1
        · exact fun q => h4 q.2.2.2.2.2
        · exact fun q => h3 q.2.2.2.2.1
        · exact fun q => h2 q.2.1
        · exact fun q => h1 q.1
      · cases h
    · cases h
  · cases h
theorem esame_eq {S : Mem} {c1 c2 : List AV} {a b : Evt} (ha : evtOf S c1 = some a) (hb : evtOf S c2 = some b) (hf : a.fits) : esameS [.ag c1, .ag c2] S = some (.b (decide (a = b)), S) := by
  simp only [esameS, ha, hb, if_pos hf]

/-! ### sub, value -/
def subOk (n : Int) : Prop := 1 ≤ n ∧ n ≤ 255
instance (n : Int) : Decidable (subOk n) := by unfold subOk; infer_instance
def valOk (n : Int) : Prop := 1 ≤ n ∧ n ≤ 281474976710656
instance (n : Int) : Decidable (valOk n) := by unfold valOk; infer_instance
def subS : Spec := fun args S => match args with
  | [.i .i64 n] => some (.b (decide (subOk n)), S)
  | _ => none
def valueS : Spec := fun args S => match args with
  | [.i .u64 n] => some (.b (decide (valOk n)), S)
  | _ => none
theorem sub_ok : SpecOK Try.prog 42 subS := by
  intro args S x S' h
  simp only [subS] at h
  split at h
  · cases h
    refine fn_of_wp f42 rfl (W_sound none_ok mixed _ _ _ _ _ ?_)
    simp (maxSteps := 1000000) (disch := omega) only [c42, go_sem]
    exact ⟨fun h1 => wkv_bP ext_refl ⟨fun q => q.2, fun q => ⟨h1, q⟩⟩, fun h1 => wkv_fP ext_refl fun q => h1 q.1⟩
  · cases h
theorem value_ok : SpecOK Try.prog 43 valueS := by
  intro args S x S' h
  simp only [valueS] at h
  split at h
  · cases h
    refine fn_of_wp f43 rfl (W_sound none_ok mixed _ _ _ _ _ ?_)
    simp (maxSteps := 1000000) (disch := omega) only [c43, go_sem]
    exact ⟨fun h1 => wkv_bP ext_refl ⟨fun q => q.2, fun q => ⟨h1, q⟩⟩, fun h1 => wkv_fP ext_refl fun q => h1 q.1⟩
  · cases h

/-! ### drops -/
def inDropsS : Spec := fun args S => match args with
  | [.ag cs, .p i o v] => match polE.dec cs, cellB (S[i]?) o v with
    | some p, some x => match lstV (intE .i64) S x with
      | some l => if l.length ≤ 1000000 then some (.b (decide (p.sub ∈ l)), S) else none
      | none => none
    | _, _ => none
  | _ => none
theorem cell_lt {S : Mem} {i o v : Nat} {x : AV} (h : cellB (S[i]?) o v = some x) : ∀ L : Mem, cellB ((S ++ L)[i]?) o v = some x := fun L => by
  have hi : i < S.length := by
    rcases Nat.lt_or_ge i S.length with h' | h'
    · exact h'
    · rw [List.getElem?_eq_none h'] at h; simp [cellB] at h
  rw [List.getElem?_append_left hi]; exact h
theorem oInD_ok : OK Try.prog (lamOf Try.prog) (orcOf [(58, inIS)]) := orc_ok (by simpa using inI_ok)
theorem inDrops_ok : SpecOK Try.prog 57 inDropsS := by
  intro args S x S' h
  simp only [inDropsS] at h
  split at h
  · rename_i cs i o v
    split at h
    · rename_i p s hp hs
      split at h
      · rename_i l hl
        split at h
        · rename_i hlim
          cases h
          obtain rfl := polE.ed _ _ hp
          have hc := cell_lt hs
          have hi := fun L => inI_eq (lstV_grow hl L) p.sub hlim
          refine fn_of_wp f57 rfl (W_sound oInD_ok mixed _ _ _ _ _ ?_)
          simp (maxSteps := 1000000) (disch := omega) only [c57, polE, Pol.enc, hc, orc_cons, hi, go_sem]
          exact wkv_drop rfl
        · cases h
      · cases h
    · cases h
  · cases h
def predP (f : AV) (S : Mem) : Option (Pol → Bool) := match f with
  | .f (.func g) [] [.p i o v] => if g = 57 then match cellB (S[i]?) o v with
    | some x => match lstV (intE .i64) S x with
      | some l => if l.length ≤ 1000000 then some (fun p => decide (p.sub ∈ l)) else none
      | none => none
    | none => none else none
  | _ => none
def polO : Orc := orcOf [(57, inDropsS)]
theorem polO_ok : OK Try.prog (lamOf Try.prog) polO := orc_ok (by simpa using inDrops_ok)
theorem predP_call {f : AV} {S : Mem} {p : Pol → Bool} (h : predP f S = some p) : ∃ g b, f = .f (.func g) [] b ∧ ∀ x, polO.fn g (.ag (polE.enc x) :: b) S = some (.b (p x), S) := by
  unfold predP at h
  split at h
  · split at h
    · rename_i hg; subst hg
      split at h
      · rename_i s hs
        split at h
        · rename_i l hl
          split at h
          · rename_i hlim
            injection h with h; subst h
            refine ⟨_, _, rfl, fun x => ?_⟩
            have he : polO.fn 57 = inDropsS := by funext a S; rfl
            rw [he]
            simp only [inDropsS, polE.de, hs, hl, if_pos hlim]
          · cases h
        · cases h
      · cases h
    · cases h
  · cases h
theorem predP_drops {S : Mem} {i o v : Nat} {x : AV} {l : List Int} (h : cellB (S[i]?) o v = some x) (hl : lstV (intE .i64) S x = some l) (hn : l.length ≤ 1000000) : predP (.f (.func 57) [] [.p i o v]) S = some (fun p => decide (p.sub ∈ l)) := by
  simp only [predP, if_true, h, hl, if_pos hn]

def idxPS : Spec := fun args S => match args with
  | [x, f] => match lstV polE S x, predP f S with
    | some l, some p => if l.length ≤ 1000000 then some (.i .i64 (idx p l), S) else none
    | _, _ => none
  | _ => none
theorem idxP_ok : SpecOK Try.prog 79 idxPS := by
  intro args S x S' h
  simp only [idxPS] at h
  split at h
  · rename_i s f
    split at h
    · rename_i l p hl hp
      split at h
      · rename_i hlim
        cases h
        obtain ⟨g, b, rfl, hg⟩ := predP_call hp
        refine fn_of_wp f79 rfl (W_sound polO_ok mixed _ _ _ _ _ ?_)
        simp (maxSteps := 1000000) (disch := omega) only [c79, lst_len hl, go_sem]
        refine wp_loop (fun j e M dl => dl = [] ∧ ∃ k : Nat, j = l.length - k ∧ k ≤ l.length ∧ M = S ∧ (∀ i (hi : i < k) (hl : i < l.length), p l[i] = false) ∧
          e.get 0 = s ∧ e.get 1 = .f (.func g) [] b ∧ e.get 7 = .i .i64 l.length ∧ e.get 8 = .i .i64 k) (j := l.length) ⟨rfl, 0, rfl, Nat.zero_le _, rfl, fun i hi => absurd hi (Nat.not_lt_zero _), rfl, rfl, rfl, rfl⟩ ?_
        rintro j e M d' ⟨rfl, k, rfl, hk, rfl, hn, h0, h1, h7, h8⟩
        refine W_sound polO_ok mixed _ _ _ _ _ ?_
        by_cases hkl : k < l.length
        · obtain ⟨bi, o, v, cap, ex, rfl⟩ := lst_sl hl hkl
          have hc := lstV_row hl hkl []
          rw [List.append_nil] at hc
          have hc : rowB (M[bi]?) (o + k * 13) v 13 = some (polE.enc l[k]) := hc
          have hkI : (k : Int) < l.length := by omega
          simp (maxSteps := 1000000) (disch := omega) only [c79l0, h0, h1, h7, h8, hkI, Int.toNat_natCast, Nat.mul_one, hc, hg, go_sem]
          cases hpk : p l[k] with
          | true =>
            refine ⟨fun _ => ?_, fun h => by cases h⟩
            rw [idx_at hkl hpk fun j hj => hn j hj (by omega)]
            exact wkv_same
          | false =>
            refine ⟨(fun h => by cases h), fun _ => ⟨l.length - (k + 1), by omega, k + 1, rfl, hkl, fun i hi hil => ?_, rfl⟩⟩
            by_cases hik : i = k
            · subst hik; exact hpk
            · exact hn i (by omega) hil
        · have hkI : ¬ (k : Int) < l.length := by omega
          simp (maxSteps := 1000000) (disch := omega) only [c79l0, h0, h1, h7, h8, hkI, go_sem]
          rw [idx_none fun j hj => hn j (by omega) hj]
          exact wkv_same
      · cases h
    · cases h
  · cases h
theorem idxP_eq {S : Mem} {x f : AV} {l p} (hl : lstV polE S x = some l) (hp : predP f S = some p) (hn : l.length ≤ 1000000) : idxPS [x, f] S = some (.i .i64 (idx p l), S) := by
  simp only [idxPS, hl, hp, if_pos hn]

def hasPS : Spec := fun args S => match args with
  | [x, f] => match lstV polE S x, predP f S with
    | some l, some p => if l.length ≤ 1000000 then some (.b (l.any p), S) else none
    | _, _ => none
  | _ => none
theorem oHasP_ok : OK Try.prog (lamOf Try.prog) (orcOf [(79, idxPS)]) := orc_ok (by simpa using idxP_ok)
theorem hasP_ok : SpecOK Try.prog 56 hasPS := by
  intro args S x S' h
  simp only [hasPS] at h
  split at h
  · rename_i s f
    split at h
    · rename_i l p hl hp
      split at h
      · rename_i hlim
        cases h
        have hi := idxP_eq hl hp hlim
        refine fn_of_wp f56 rfl (W_sound oHasP_ok mixed _ _ _ _ _ ?_)
        simp (maxSteps := 1000000) (disch := omega) only [c56, orc_cons, hi, go_sem]
        refine wkv_eq wkv_same ?_ rfl
        congr 1
        have := idx_ge p l
        cases h : l.any p
        · rw [h] at this; simp [this]
        · rw [h] at this; simp [this]
      · cases h
    · cases h
  · cases h
theorem hasP_eq {S : Mem} {x f : AV} {l p} (hl : lstV polE S x = some l) (hp : predP f S = some p) (hn : l.length ≤ 1000000) : hasPS [x, f] S = some (.b (l.any p), S) := by
  simp only [hasPS, hl, hp, if_pos hn]

/-- They rise, from 1 to 255. -/
def riseTo (l : List Int) (k : Nat) : Prop := ∀ i (h : i < l.length), i < k → subOk l[i] ∧ ∀ h0 : 0 < i, l[i - 1] < l[i]
def dropsOk (l : List Int) (ps : List Pol) : Prop := l.length ≤ 8 ∧ riseTo l l.length ∧ ∀ p ∈ ps, p.sub ∉ l
noncomputable instance (l : List Int) (ps : List Pol) : Decidable (dropsOk l ps) := Classical.propDecidable _
noncomputable def dropsS : Spec := fun args S => match args with
  | [x, y] => match lstV (intE .i64) S x, lstV polE S y with
    | some l, some ps => if l.length ≤ 1000000 ∧ ps.length ≤ 1000000 then some (.b (decide (dropsOk l ps)), S) else none
    | _, _ => none
  | _ => none
theorem oDr_ok : OK Try.prog (lamOf Try.prog) (orcOf [(42, subS), (56, hasPS)]) := orc_ok (by simpa using ⟨sub_ok, hasP_ok⟩)
theorem drops_ok : SpecOK Try.prog 40 dropsS := by
  intro args S x S' h
  simp only [dropsS] at h
  split at h
  · rename_i s t
    split at h
    · rename_i l ps hl hps
      split at h
      · rename_i hlim
        cases h
        refine fn_of_wp f40 rfl (W_sound oDr_ok mixed _ _ _ _ _ ?_)
        simp (maxSteps := 1000000) (disch := omega) only [c40, lst_len hl, lst_len hps, lst_cells hl, go_sem]
        refine ⟨fun h8 => wkv_f fun q => by have := q.1; omega, fun h8 => ?_⟩
        refine wp_loop (fun j e M dl => dl = [] ∧ ∃ k : Nat, j = l.length - k ∧ k ≤ l.length ∧ M = S ++ [.cells [s] 0 none true] ∧ riseTo l k ∧
          e.get 2 = .p S.length 0 0 ∧ e.get 10 = s ∧ e.get 1 = t ∧ e.get 11 = .i .i64 l.length ∧ e.get 12 = .i .i64 k) (j := l.length) ⟨rfl, 0, rfl, Nat.zero_le _, rfl, fun i _ hi => absurd hi (Nat.not_lt_zero _), rfl, rfl, rfl, rfl, rfl⟩ ?_
        rintro j e M d' ⟨rfl, k, rfl, hk, rfl, hn, h2, h10, h1, h11, h12⟩
        refine W_sound oDr_ok mixed _ _ _ _ _ ?_
        by_cases hkl : k < l.length
        · obtain ⟨bi, o, v, cap, ex, rfl⟩ := lst_sl hl hkl
          have hc := lstV_cell hl rfl (fun a => rfl) hkl
          have hkI : (k : Int) < l.length := by omega
          have hpos : (0 < (k : Int)) = (0 < k) := by simp
          have hw : wrapV .i64 ((k : Int) + 1) = ((k + 1 : Nat) : Int) := by rw [wrap_i64 (by omega) (by omega)]; omega
          have more : subOk l[k] → (∀ h0 : 0 < k, (l[k - 1]'(by omega)) < l[k]) → riseTo l (k + 1) := fun a b i hi hik => by
            by_cases e : i = k
            · subst e; exact ⟨a, b⟩
            · exact hn i hi (by omega)
          by_cases h0k : 0 < k
          · have hp : ∀ L, cellB ((S ++ L)[bi]?) (o + (k - 1)) v = some (.i .i64 (l[k - 1]'(by omega))) := lstV_cell hl rfl (fun a => rfl) (show k - 1 < l.length by omega)
            have hk1 : wrapV .i64 ((k : Int) - 1) = ((k - 1 : Nat) : Int) := by rw [wrap_i64 (by omega) (by omega)]; omega
            simp (maxSteps := 1000000) (disch := omega) only [c40l0, h1, h2, h10, h11, h12, hkI, Int.toNat_natCast, Nat.mul_one, hc, hp, orc_cons, subS, hpos, h0k, hk1, hw, go_sem]
            refine ⟨fun hs => ⟨fun hb => wkv_f fun q => ?_, fun hb => ⟨l.length - (k + 1), by omega, k + 1, rfl, hkl, more (Decidable.not_not.1 hs) fun _ => by omega, rfl⟩⟩, fun hs => wkv_f fun q => hs (q.2.1 k hkl hkl).1⟩
            have := (q.2.1 k hkl hkl).2 h0k
            omega
          · simp (maxSteps := 1000000) (disch := omega) only [c40l0, h1, h2, h10, h11, h12, hkI, Int.toNat_natCast, Nat.mul_one, hc, orc_cons, subS, hpos, h0k, hw, go_sem]
            exact ⟨fun hs => ⟨l.length - (k + 1), by omega, k + 1, rfl, hkl, more (Decidable.not_not.1 hs) fun h => absurd h h0k, rfl⟩, fun hs => wkv_f fun q => hs (q.2.1 k hkl hkl).1⟩
        · have hkI : ¬ (k : Int) < l.length := by omega
          have hh := hasP_eq (lstV_grow hps [.cells [s] 0 none true]) (predP_drops (i := S.length) (o := 0) (v := 0) (by rw [at_app0]; rfl) (lstV_grow hl _) hlim.1) hlim.2
          simp (maxSteps := 1000000) (disch := omega) only [c40l0, h1, h2, h10, h11, h12, hkI, orc_cons, hh, un_not_b, go_sem]
          refine wkv_eqP (ext_app _) ?_ rfl
          congr 1
          rw [Bool.eq_iff_iff, decide_eq_true_iff, Bool.not_eq_true', List.any_eq_false]
          refine ⟨fun q p hp => by simpa using q.2.2 p hp, fun q => ⟨by omega, (by rwa [show k = l.length by omega] at hn), fun p hp => by simpa using q p hp⟩⟩
      · cases h
    · cases h
  · cases h
theorem drops_eq {S : Mem} {x y : AV} {l : List Int} {ps : List Pol} (h1 : lstV (intE .i64) S x = some l) (h2 : lstV polE S y = some ps) (hl : l.length ≤ 1000000) (hp : ps.length ≤ 1000000) : dropsS [x, y] S = some (.b (decide (dropsOk l ps)), S) := by
  simp only [dropsS, h1, h2, if_pos (And.intro hl hp)]
end Go.Proofs.Ytmdnohpolepcoaa

namespace Go.Proofs.Ytmdnohpolepcoaa
open Go.RowKit
set_option linter.unusedSimpArgs false
set_option linter.unusedVariables false
set_option maxRecDepth 10000

/-! ### event.Right -/
def Evt.right (e : Evt) : Prop :=
  (e.kind = 1 ∧ 0 < e.puts.length + e.drops.length ∧ Pols e.puts ∧ dropsOk e.drops e.puts ∧ e = ⟨e.kind, 0, e.puts, e.drops, 0, 0⟩) ∨
  (e.kind = 2 ∧ subOk e.sub ∧ valOk e.granted ∧ e = ⟨e.kind, e.sub, [], [], e.granted, 0⟩) ∨
  (e.kind = 3 ∧ valOk e.period ∧ e = ⟨e.kind, 0, [], [], 0, e.period⟩)
noncomputable instance (e : Evt) : Decidable e.right := Classical.propDecidable _
noncomputable def erightS : Spec := fun args S => match args with
  | [.ag cs] => match evtOf S cs with
    | some e => if e.fits then some (.b (decide e.right), S) else none
    | none => none
  | _ => none
theorem oEr_ok : OK Try.prog (lamOf Try.prog) (orcOf [(36, allPS), (40, dropsS), (41, esameS), (42, subS), (43, valueS)]) := orc_ok (by simpa using ⟨all_ok, drops_ok, esame_ok, sub_ok, value_ok⟩)
theorem eright_ok : SpecOK Try.prog 24 erightS := by
  intro args S x S' h
  simp only [erightS] at h
  split at h
  · rename_i cs
    split at h
    · rename_i ev hev
      split at h
      · rename_i hf
        cases h
        obtain ⟨xp, xd, rfl, hp, hd⟩ := evtOf_ok hev
        obtain ⟨k, s, ps, ds, g, q⟩ := ev
        obtain ⟨hf1, hf2, hf3⟩ := hf
        simp only at hp hd hf1 hf2 hf3
        have a1 := fun L => allPS_eq (lstV_grow hp L) hf3
        have a2 := fun L => drops_eq (lstV_grow hd L) (lstV_grow hp L) hf2 hf1
        have me := fun L => evtOf_mk (k := k) (s := s) (g := g) (p := q) (lstV_grow hp L) (lstV_grow hd L)
        have b1 := fun L => esame_eq (me L) (evtOf_mk (k := k) (s := 0) (g := 0) (p := 0) (lstV_grow hp L) (lstV_grow hd L)) ⟨hf1, hf2, hf3⟩
        have b2 := fun L => esame_eq (me L) (evtOf_mk (S := S ++ L) (k := k) (s := s) (g := g) (p := 0) (xp := .sn) (xd := .sn) (ps := []) (ds := []) rfl rfl) ⟨hf1, hf2, hf3⟩
        have b3 := fun L => esame_eq (me L) (evtOf_mk (S := S ++ L) (k := k) (s := 0) (g := 0) (p := q) (xp := .sn) (xd := .sn) (ps := []) (ds := []) rfl rfl) ⟨hf1, hf2, hf3⟩
        have w1 : wrapV .i64 ((ps.length : Int) + ds.length) = ps.length + ds.length := wrap_i64 (by omega) (by omega)
        refine fn_of_wp f24 rfl (W_sound oEr_ok mixed _ _ _ _ _ ?_)
        simp (maxSteps := 1000000) (disch := omega) only [c24, orc_cons, lst_len hp, lst_len hd, lst_cells hp, lst_cells hd, lst_one hp, lst_one hd, a1, a2, b1, b2, b3, w1, subS, valueS, go_sem]
        refine ⟨fun h1 => ?_, fun h1 => ⟨fun h2 => ?_, fun h2 => ⟨fun h3 => ?_, fun h3 => wkv_f ?_⟩⟩⟩
        · have key : Evt.right ⟨k, s, ps, ds, g, q⟩ ↔ (0 < ps.length + ds.length ∧ Pols ps ∧ dropsOk ds ps ∧ (⟨k, s, ps, ds, g, q⟩ : Evt) = ⟨k, 0, ps, ds, 0, 0⟩) := by
            subst h1
            simp [Evt.right]
          refine ⟨fun g1 => ⟨fun g2 => ⟨fun g3 => wkv_b ?_, fun g3 => wkv_f fun z => g3 (key.1 z).2.2.1⟩, fun g2 => wkv_f fun z => g2 (by rw [allE_zero]; exact (key.1 z).2.1)⟩, fun g1 => wkv_f fun z => g1 (by have := (key.1 z).1; omega)⟩
          rw [key]
          rw [allE_zero] at g2
          exact ⟨fun z => z.2.2.2, fun z => ⟨by omega, g2, g3, z⟩⟩
        · have key : Evt.right ⟨k, s, ps, ds, g, q⟩ ↔ (subOk s ∧ valOk g ∧ (⟨k, s, ps, ds, g, q⟩ : Evt) = ⟨k, s, [], [], g, 0⟩) := by
            subst h2
            simp [Evt.right]
          refine ⟨fun g1 => ⟨fun g2 => wkv_b ?_, fun g2 => wkv_f fun z => g2 (key.1 z).2.1⟩, fun g1 => wkv_f fun z => g1 (key.1 z).1⟩
          rw [key]
          exact ⟨fun z => z.2.2, fun z => ⟨g1, g2, z⟩⟩
        · have key : Evt.right ⟨k, s, ps, ds, g, q⟩ ↔ (valOk q ∧ (⟨k, s, ps, ds, g, q⟩ : Evt) = ⟨k, 0, [], [], 0, q⟩) := by
            subst h3
            simp [Evt.right]
          refine ⟨fun g1 => wkv_b ?_, fun g1 => wkv_f fun z => g1 (key.1 z).1⟩
          rw [key]
          exact ⟨fun z => z.2, fun z => ⟨g1, z⟩⟩
        · rintro (z | z | z)
          · exact h1 z.1
          · exact h2 z.1
          · exact h3 z.1
      · cases h
    · cases h
  · cases h
theorem eright_eq {S : Mem} {cs : List AV} {e : Evt} (h : evtOf S cs = some e) (hf : e.fits) : erightS [.ag cs] S = some (.b (decide e.right), S) := by
  simp only [erightS, h, if_pos hf]

/-! ### lease -/
def Ent.grant (a : Ent) (g : Int) : Ent := ⟨a.pol, g⟩
def setOwn {α : Type} (E : Enc α) (S : Mem) (x : AV) (l : List α) : Mem := match x with
  | .sl b _ _ _ _ _ => match S[b]? with
    | some (.cells _ v op r) => S.set b (.cells (l.flatMap E.enc) v op r)
    | _ => S
  | _ => S
theorem setOwn_eq {α : Type} {E : Enc α} {S : Mem} {b o v n c v' : Nat} {ex r : Bool} {op : Option Nat} {cs : List AV} {l : List α} (h : S[b]? = some (.cells cs v' op r)) : setOwn E S (.sl b o v n c ex) l = S.set b (.cells (l.flatMap E.enc) v' op r) := by
  simp only [setOwn, h]
/-- The entries behind a lease. -/
def leased (l : List Ent) (sub granted : Int) : Option (List Ent) := match l.findIdx? (hasSub sub) with
  | some k => match l[k]? with
    | some a => if a.granted ≤ granted ∧ granted ≤ a.pol.quota then some (l.set k (a.grant granted)) else none
    | none => none
  | none => none
def leaseS : Spec := fun args S => match args with
  | [x, .ag ce] => match lstV entE S x, evtOf S ce with
    | some l, some e => if l.length ≤ 1000000 then match leased l e.sub e.granted with
      | some l' => if ownV entE S x = some l then some (.tu [x, .b true], setOwn entE S x l') else none
      | none => some (.tu [.sn, .b false], S)
      else none
    | _, _ => none
  | _ => none
theorem Flat_sl {n i o v l c : Nat} {x : Bool} (h : i < n) : AV.Flat n (.sl i o v l c x) := fun g => by rw [ren, if_pos h]
theorem Flat_tu {n : Nat} {cs : List AV} (h : ∀ x ∈ cs, AV.Flat n x) : AV.Flat n (.tu cs) := fun g => by
  rw [ren_tu, renL_eq]; congr 1
  exact (List.map_congr_left (g := id) fun x hx => h x hx g).trans (List.map_id _)
theorem oLe_ok : OK Try.prog (lamOf Try.prog) (orcOf [(30, placeS)]) := orc_ok (by simpa using place_ok)
theorem lease_ok : SpecOK Try.prog 26 leaseS := by
  intro args S x S' h
  simp only [leaseS] at h
  split at h
  · rename_i s ce
    split at h
    · rename_i l ev hl hev
      split at h
      · rename_i hlim
        obtain ⟨xp, xd, rfl, hp, hd⟩ := evtOf_ok hev
        obtain ⟨k, sub, ps, ds, g, q⟩ := ev
        simp only at hp hd h
        have pl := fun L => place_eq (lstV_grow hl L) sub hlim
        refine fn_of_wp f26 rfl (W_sound oLe_ok mixed _ _ _ _ _ ?_)
        cases hi : l.findIdx? (hasSub sub) with
        | none =>
          have hle : leased l sub g = none := by simp only [leased, hi]
          rw [hle] at h
          cases h
          simp (maxSteps := 1000000) (disch := omega) only [c26, orc_cons, pl, idx_eq_none hi, go_sem]
          exact wkv_drop rfl
        | some j =>
          obtain ⟨hj, _, _⟩ := List.findIdx?_eq_some_iff_getElem.1 hi
          obtain ⟨bi, o, v, cap, ex, rfl⟩ := lst_sl hl hj
          have hle : leased l sub g = if l[j].granted ≤ g ∧ g ≤ l[j].pol.quota then some (l.set j (l[j].grant g)) else none := by
            simp only [leased, hi, List.getElem?_eq_getElem hj]
          have fg : ∀ L, cellB ((S ++ L)[bi]?) (o + j * 14 + 13) v = some (.i .u64 l[j].granted) := lstV_field hl hj (f := 13) (x := .i .u64 l[j].granted) rfl
          have fq : ∀ L, cellB ((S ++ L)[bi]?) (o + j * 14 + 10) v = some (.i .u64 l[j].pol.quota) := lstV_field hl hj (f := 10) (x := .i .u64 l[j].pol.quota) rfl
          have hj0 : ¬ ((j : Int) < 0) := by omega
          simp (maxSteps := 1000000) (disch := omega) only [c26, orc_cons, pl, idx_eq_some hi, hj0, Int.toNat_natCast, fg, fq, go_sem]
          refine ⟨fun h1 => ⟨fun h2 => ?_, fun h2 => ?_⟩, fun h1 => ?_⟩
          · rw [hle, if_neg (by omega)] at h
            cases h
            exact wkv_drop rfl
          · rw [hle, if_pos (by omega)] at h
            simp only at h
            split at h
            · rename_i hown
              cases h
              obtain ⟨b', v', ex', op, hx, hB⟩ := ownV_ok hown
              injection hx with e1 e2 e3 e4 e5 e6
              subst e1 e2 e3 e5 e6
              have hb : bi < S.length := (List.getElem?_eq_some_iff.1 hB).1
              have hsp := splice_at (E := entE) l hj (l[j].grant g) (f := 13) (ys := [.i .u64 g]) (by simp [entE]) rfl
              have hsp : splice (l.flatMap entE.enc) (j * 14 + 13) [.i .u64 g] = (l.set j (l[j].grant g)).flatMap entE.enc := hsp
              rw [at_old hB, setOwn_eq hB]
              simp only [stB, hsp, enc_length]
              rw [if_pos ⟨trivial, rfl, by show 0 + j * 14 + 13 + 1 ≤ l.length * 14; omega, rfl⟩]
              simp (maxSteps := 1000000) (disch := omega) only [set_old hB, go_sem]
              have hsp : (l.flatMap entE.enc).take (j * 14 + 13) ++ AV.i .u64 g :: (l.flatMap entE.enc).drop (j * 14 + 13 + 1) = (l.set j (l[j].grant g)).flatMap entE.enc := hsp
              rw [hsp]
              exact wkv_drop' (List.length_set ..) (set_closed (bflat_list entE_flat _ _ _ _)) (Flat_tu (by simp [Flat_sl hb, Flat_b]))
            · cases h
          · rw [hle, if_neg (by omega)] at h
            cases h
            exact wkv_drop rfl
      · cases h
    · cases h
  · cases h
theorem lease_eq {S : Mem} {x : AV} {ce : List AV} {l : List Ent} {e : Evt} (hl : lstV entE S x = some l) (he : evtOf S ce = some e) (hn : l.length ≤ 1000000) (ho : ownV entE S x = some l) :
    leaseS [x, .ag ce] S = match leased l e.sub e.granted with
      | some l' => some (.tu [x, .b true], setOwn entE S x l')
      | none => some (.tu [.sn, .b false], S) := by
  simp only [leaseS, hl, he, if_pos hn, if_pos ho]
end Go.Proofs.Ytmdnohpolepcoaa

namespace Go.Proofs.Ytmdnohpolepcoaa
open Go.RowKit
set_option linter.unusedSimpArgs false
set_option linter.unusedVariables false
set_option maxRecDepth 10000

/-! ### Same -/
def noEnt : Ent := ⟨⟨0, 0, 0, 0, 0, 0, 0, 0, 0, 0, 0, 0, 0⟩, 0⟩
def foundV (o : Option Ent) : AV := match o with
  | some a => .tu [.ag (entE.enc a), .b true]
  | none => .tu [.ag (entE.enc noEnt), .b false]
def findS : Spec := fun args S => match args with
  | [.ag cb, .i .i64 n] => match bookOf S cb with
    | some b => if b.entries.length ≤ 1000000 then some (foundV (b.entries.find? (hasSub n)), S) else none
    | none => none
  | _ => none
theorem find_of_idx {α : Type} {p : α → Bool} {l : List α} : l.find? p = match l.findIdx? p with
    | some k => l[k]?
    | none => none := by
  induction l with
  | nil => rfl
  | cons a l ih =>
    simp only [List.find?_cons, List.findIdx?_cons]
    cases h : p a with
    | true => simp
    | false =>
      simp only [Bool.false_eq_true, if_false, ih]
      cases l.findIdx? p <;> rfl
theorem oFi_ok : OK Try.prog (lamOf Try.prog) (orcOf [(30, placeS)]) := orc_ok (by simpa using place_ok)
theorem bfind_ok : SpecOK Try.prog 18 findS := by
  intro args S x S' h
  simp only [findS] at h
  split at h
  · rename_i cb n
    split at h
    · rename_i b hb
      split at h
      · rename_i hf
        cases h
        obtain ⟨s, rfl, hl⟩ := bookOf_ok hb
        obtain ⟨p, l⟩ := b
        simp only at hl hf
        have pl := fun L => place_eq (lstV_grow hl L) n hf
        refine fn_of_wp f18 rfl (W_sound oFi_ok mixed _ _ _ _ _ ?_)
        rw [show (Bk.mk p l).entries = l from rfl, find_of_idx]
        cases hi : l.findIdx? (hasSub n) with
        | none =>
          simp (maxSteps := 1000000) (disch := omega) only [c18, orc_cons, pl, idx_eq_none hi, go_sem]
          exact wkv_drop rfl
        | some j =>
          obtain ⟨hj, _, _⟩ := List.findIdx?_eq_some_iff_getElem.1 hi
          obtain ⟨bi, o, v, cap, ex, rfl⟩ := lst_sl hl hj
          have hr : ∀ L, rowB ((S ++ L)[bi]?) (o + j * 14) v 14 = some l[j].enc := lstV_row hl hj
          have hj0 : ¬ ((j : Int) < 0) := by omega
          simp (maxSteps := 1000000) (disch := omega) only [c18, orc_cons, pl, idx_eq_some hi, hj0, Int.toNat_natCast, hr, Ent.enc, go_sem]
          rw [List.getElem?_eq_getElem hj]
          exact wkv_drop rfl
      · cases h
    · cases h
  · cases h
theorem allS_eq {S : Mem} {x : AV} {l : List Pol} (hl : lstV polE S x = some l) (hf : ∀ p ∈ l, p.fits) (ho : l = [] ∨ openS S 13 x = true) : allS [x] S = some (.i .i64 (allE l), S) := by
  have : l.all (fun p => decide p.fits) = true := List.all_eq_true.2 fun p hp => decide_eq_true (hf p hp)
  simp only [allS, hl, if_pos (And.intro this ho)]
theorem oRr_ok : OK Try.prog (lamOf Try.prog) (orcOf [(21, allS)]) := orc_ok (by simpa using rall_ok)
theorem rbright_ok : SpecOK Try.prog 12 brightS := by
  intro args S x S' h
  simp only [brightS] at h
  split at h
  · rename_i cs
    split at h
    · rename_i b hb
      split at h
      · rename_i hf
        cases h
        obtain ⟨s, rfl, hl⟩ := bookOf_ok hb
        obtain ⟨p, l⟩ := b
        simp only at hl
        have hlim := hf.1
        simp only at hlim
        refine fn_of_wp f12 rfl (W_sound oRr_ok mixed _ _ _ _ _ ?_)
        simp (maxSteps := 1000000) (disch := omega) only [c12, lst_len hl, go_sem]
        refine ⟨fun h1 => ⟨fun h2 => ⟨fun h3 => ?_, fun h3 => ?_⟩, fun h2 => ?_⟩, fun h1 => ?_⟩
        · refine wkv_f fun q => ?_
          have := q.2.2.1.1; unfold polsOf at this; simp at this; omega
        rotate_left
        · exact wkv_f fun q => by have := q.2.1; simp only at this; omega
        · exact wkv_f fun q => by have := q.1; simp only at this; omega
        have h0 : Acc true polE S (S ++ [.cells [.i .u64 p, s] 0 none true, .cells [] 0 none true]) (.sl (S.length + 1) 0 0 0 0 true) [] := by
          have := acc_lit (E := polE) (M := S ++ [.cells [.i .u64 p, s] 0 none true]) (ext_app (S := S) _)
          simpa using this
        refine wp_loop (fun j e M dl => dl = [] ∧ ∃ (k : Nat) (x : AV), j = l.length - k ∧ k ≤ l.length ∧ Acc true polE S M x (polsOf (l.take k)) ∧ (∀ i (hi : i < k) (h1 : i < l.length), l[i].granted ≤ 281474976710656) ∧
          e.get 22 = s ∧ e.get 23 = .i .i64 l.length ∧ e.get 24 = .i .i64 k ∧ e.get 3 = x) (j := l.length) ⟨rfl, 0, _, rfl, Nat.zero_le _, h0, fun i hi => absurd hi (Nat.not_lt_zero _), rfl, rfl, rfl, rfl⟩ ?_
        rintro j e M d' ⟨rfl, k, x, rfl, hk, hx, hn, h22, h23, h24, h3⟩
        refine W_sound oRr_ok mixed _ _ _ _ _ ?_
        have hM := lst_ext hl hx.ext
        by_cases hkl : k < l.length
        · obtain ⟨bi, o, v, cap, ex, rfl⟩ := lst_sl hl hkl
          have hr : ∀ L, rowB ((M ++ L)[bi]?) (o + k * 14) v 14 = some (entE.enc l[k]) := lstV_row hM hkl
          have hr0 := hr []
          rw [List.append_nil] at hr0
          have hkI : (k : Int) < l.length := by omega
          have hw : wrapV .i64 ((k : Int) + 1) = ((k + 1 : Nat) : Int) := by rw [wrap_i64 (by omega) (by omega)]; omega
          have hlen : (polsOf (l.take k)).length = k := by unfold polsOf; rw [List.length_map, List.length_take]; omega
          obtain ⟨x', M', ha, hx'⟩ := Acc.app (bytes := 80) polE_one (hx.grow [.cells (entE.enc l[k]) 0 none true, .cells (polE.enc l[k].pol) 0 none true]) l[k].pol (by rw [hlen]; omega) (by rw [hlen]; omega)
          simp only [entE, polE, Ent.enc, Pol.enc] at hr0 ha
          simp (maxSteps := 1000000) (disch := omega) only [c12l0, h3, h22, h23, h24, hkI, Int.toNat_natCast, hr0, src_sl, srcN_some, ha, hw, List.replicate, go_sem]
          refine ⟨fun hg => ?_, fun hg => ⟨l.length - (k + 1), by omega, k + 1, x', rfl, hkl, ?_, fun i hi g1 => ?_, rfl, rfl⟩⟩
          · refine wkv_fP (ext_more hx.ext _) fun q => ?_
            have := q.2.2.2 l[k] (List.getElem_mem hkl); omega
          · rw [show polsOf (l.take (k + 1)) = polsOf (l.take k) ++ [l[k].pol] by unfold polsOf; rw [List.take_succ_eq_append_getElem hkl, List.map_append]; rfl]
            exact hx'
          · by_cases hik : i = k
            · subst hik; omega
            · exact hn i (by omega) g1
        · have hkI : ¬ (k : Int) < l.length := by omega
          rw [List.take_of_length_le (by omega)] at hx
          have ha := allS_eq hx.lst (fun q hq => by obtain ⟨y, hy, rfl⟩ := List.mem_map.1 hq; exact hf.2 y hy) (by
            by_cases e : polsOf l = []
            · exact .inl e
            · exact .inr (hx.opens e))
          simp (maxSteps := 1000000) (disch := omega) only [c12l0, h3, h22, h23, h24, hkI, orc_cons, ha, go_sem]
          refine wkv_bP hx.ext ?_
          rw [allE_zero]
          refine ⟨fun q => q.2.2.1, fun q => ⟨by show (1 : Int) ≤ p; omega, by show p ≤ _; omega, q, fun y hy => ?_⟩⟩
          obtain ⟨i, hi, rfl⟩ := List.getElem_of_mem hy
          exact hn i (by have : i < l.length := hi; omega) hi
      · cases h
    · cases h
  · cases h
end Go.Proofs.Ytmdnohpolepcoaa

namespace Go.Proofs.Ytmdnohpolepcoaa
open Go.RowKit
set_option linter.unusedSimpArgs false
set_option linter.unusedVariables false
set_option maxRecDepth 10000

/-! ### Plain -/
def i64 (n : Int) : Prop := -9223372036854775808 ≤ n ∧ n ≤ 9223372036854775807
def u64 (n : Int) : Prop := 0 ≤ n ∧ n ≤ 18446744073709551615
instance (n : Int) : Decidable (i64 n) := by unfold i64; infer_instance
instance (n : Int) : Decidable (u64 n) := by unfold u64; infer_instance
def b8 (l : List Int) : List AV := l.map (.i .u8)
end Go.Proofs.Ytmdnohpolepcoaa

namespace Go.Proofs.Ytmdnohpolepcoaa
open Go.RowKit
set_option linter.unusedSimpArgs false
set_option linter.unusedVariables false
set_option maxRecDepth 10000

/-! ### Bits -/
end Go.Proofs.Ytmdnohpolepcoaa

namespace Go.Proofs.Ytmdnohpolepcoaa
open Go.RowKit
set_option linter.unusedSimpArgs false
set_option linter.unusedVariables false
set_option maxRecDepth 10000

/-! ### Slicing -/
section
variable {α : Type} {E : Enc α} {S M : Mem}
/-- It can be sliced. -/
def openQ (S : Mem) (size : Nat) : AV → Bool
  | .sl i _ _ len cap ex => decide (len ≤ cap) && (ex || (match S[i]? with | some B => B.opn == some size | none => false))
  | _ => true
theorem bnds_lo {q : IntKind} {len cap a : Nat} (h : a ≤ len) (h2 : len ≤ cap) : bnds len cap (some (.i q (a : Int))) none none = some (a, len, cap) := by
  simp [bnds, bndV, natV, h, h2]
theorem bnds_both {q q' : IntKind} {len cap a b : Nat} (h : a ≤ b) (h2 : b ≤ cap) : bnds len cap (some (.i q (a : Int))) (some (.i q' (b : Int))) none = some (a, b, cap) := by
  simp [bnds, bndV, natV, h, h2]
end

/-! ### bits.Len64 -/
theorem p7 (k : Nat) : 2 ^ (7 * k) = 128 ^ k := by rw [Nat.pow_mul]
end Go.Proofs.Ytmdnohpolepcoaa

namespace Go.Proofs.Ytmdnohpolepcoaa
open Go.RowKit
set_option linter.unusedSimpArgs false
set_option linter.unusedVariables false
set_option maxRecDepth 10000

theorem right1 {s g q : Int} {ps : List Pol} {ds : List Int} : Evt.right ⟨1, s, ps, ds, g, q⟩ ↔ (s = 0 ∧ g = 0 ∧ q = 0 ∧ ds.length ≤ 8 ∧ Pols ps ∧ riseTo ds ds.length ∧ (∀ p ∈ ps, p.sub ∉ ds) ∧ 0 < ps.length + ds.length) := by
  simp [Evt.right, dropsOk]
  constructor
  · rintro ⟨h1, h2, ⟨h3, h4, h5⟩, rfl, rfl, rfl⟩; exact ⟨rfl, rfl, rfl, h3, h2, h4, h5, h1⟩
  · rintro ⟨rfl, rfl, rfl, h3, h2, h4, h5, h1⟩; exact ⟨h1, h2, ⟨h3, h4, h5⟩, rfl, rfl, rfl⟩
end Go.Proofs.Ytmdnohpolepcoaa

namespace Go.Proofs.Ytmdnohpolepcoaa
open Go.RowKit
set_option linter.unusedSimpArgs false
set_option linter.unusedVariables false
set_option maxRecDepth 10000

def Pol.good (p : Pol) : Prop := i64 p.sub ∧ u84 p.a p.b p.c p.d ∧ i64 p.bits ∧ u64 p.rate ∧ u64 p.burst ∧ u64 p.srate ∧ u64 p.sburst ∧ u64 p.quota ∧ u64 p.lease ∧ u64 p.quantum
instance (p : Pol) : Decidable p.good := by unfold Pol.good; infer_instance
def Ent.good (x : Ent) : Prop := x.pol.good ∧ u64 x.granted
instance (x : Ent) : Decidable x.good := by unfold Ent.good; infer_instance
theorem Pol.good.fits {p : Pol} (h : p.good) : p.fits := h.2.1
def Bk.good (b : Bk) : Prop := u64 b.period ∧ b.entries.length ≤ 1000000 ∧ ∀ x ∈ b.entries, x.good
instance (b : Bk) : Decidable b.good := by unfold Bk.good; infer_instance
theorem Bk.good.fits {b : Bk} (h : b.good) : b.fits := ⟨h.2.1, fun x hx => (h.2.2 x hx).1.fits⟩

/-! ### policy.Nums -/
def Pol.ns (p : Pol) : List Int := [p.sub, num p.a p.b p.c p.d, p.bits, p.rate, p.burst, p.srate, p.sburst, p.quota, p.lease, p.quantum]
def entNs (l : List Ent) : List Int := l.flatMap fun x => x.pol.ns ++ [x.granted]
def Bk.ns (b : Bk) : List Int := b.period :: entNs b.entries
end Go.Proofs.Ytmdnohpolepcoaa

namespace Go.Proofs.Ytmdnohpolepcoaa
open Go.RowKit
set_option linter.unusedSimpArgs false
set_option linter.unusedVariables false
set_option maxRecDepth 10000

def subIsP (n : Int) (p : Pol) : Bool := decide (p.sub = n)
end Go.Proofs.Ytmdnohpolepcoaa

namespace Go.Proofs.Ytmdnohpolepcoaa
open Go.RowKit
set_option linter.unusedSimpArgs false
set_option linter.unusedVariables false
set_option maxRecDepth 10000

def refOne (old : List Ent) (e : Evt) (id : Int) : Option Ent := if id ∈ e.drops then none else match old.find? (hasSub id), e.puts.find? (subIsP id) with
  | some x, some p => some ⟨p, x.granted⟩
  | some x, none => some x
  | none, some p => some ⟨p, 0⟩
  | none, none => none
def refBad (old : List Ent) (e : Evt) (id : Int) : Prop := id ∈ e.drops ∧ old.find? (hasSub id) = none
instance (old : List Ent) (e : Evt) (id : Int) : Decidable (refBad old e id) := by unfold refBad; infer_instance
def refEnts (old : List Ent) (e : Evt) (k : Nat) : List Ent := (List.range k).filterMap fun i : Nat => refOne old e ((i : Int) + 1)
theorem refEnts_len (old : List Ent) (e : Evt) (k : Nat) : (refEnts old e k).length ≤ k := by
  unfold refEnts
  have := List.length_filterMap_le (fun i : Nat => refOne old e ((i : Int) + 1)) (List.range k)
  rwa [List.length_range] at this
theorem refOne_fits {old : List Ent} {e : Evt} {id : Int} {x : Ent} (ho : ∀ x ∈ old, x.pol.fits) (hp : ∀ p ∈ e.puts, p.fits) (h : refOne old e id = some x) : x.pol.fits := by
  unfold refOne at h
  split at h
  · cases h
  · split at h
    · rename_i y p h1 h2; cases h; exact hp p (List.mem_of_find?_eq_some h2)
    · rename_i y h1 h2; cases h; exact ho _ (List.mem_of_find?_eq_some h1)
    · rename_i p h1 h2; cases h; exact hp p (List.mem_of_find?_eq_some h2)
    · cases h
theorem refEnts_fits {old : List Ent} {e : Evt} {k : Nat} (ho : ∀ x ∈ old, x.pol.fits) (hp : ∀ p ∈ e.puts, p.fits) : ∀ x ∈ refEnts old e k, x.pol.fits := by
  intro x hx
  unfold refEnts at hx
  obtain ⟨i, _, h⟩ := List.mem_filterMap.1 hx
  exact refOne_fits ho hp h

/-! ### The document's commit -/
end Go.Proofs.Ytmdnohpolepcoaa

namespace Go.Proofs.Ytmdnohpolepcoaa
open Go.RowKit
set_option linter.unusedSimpArgs false
set_option linter.unusedVariables false
set_option maxRecDepth 10000

/-- Behind a lease, or a new period. -/
def Bk.turn (b : Bk) (e : Evt) : Option Bk :=
  if e.kind = 2 then (leased b.entries e.sub e.granted).map fun l => ⟨b.period, l⟩
  else if e.period = b.period + 1 then some ⟨e.period, b.entries.map (·.grant 0)⟩ else none
noncomputable def Bk.turned (b : Bk) (e : Evt) : Option Bk := if b.ok ∧ e.right then Bk.fin (b.turn e) else none
def nzB : List AV → Bool
  | [_, x] => nz x
  | _ => false
noncomputable def turnS : Spec := fun args S => match args with
  | [.ag cb, .ag ce] => match bookOf S cb, evtOf S ce with
    | some b, some e => if b.fits ∧ e.fits ∧ ¬ (b.ok ∧ e.right ∧ e.kind = 1) then match b.turned e with
        | some b' => some (bookR (nzB cb) S b' 0)
        | none => some (bookR (nzB cb) S b 131)
      else none
    | _, _ => none
  | _ => none
theorem leased_some {l l' : List Ent} {s g : Int} (h : leased l s g = some l') : ∃ (k : Nat) (hk : k < l.length), l' = l.set k (l[k].grant g) ∧ l.findIdx? (hasSub s) = some k ∧ l[k].granted ≤ g ∧ g ≤ l[k].pol.quota := by
  unfold leased at h
  split at h
  · rename_i k hi
    obtain ⟨hk, _, _⟩ := List.findIdx?_eq_some_iff_getElem.1 hi
    rw [List.getElem?_eq_getElem hk] at h
    simp only at h
    split at h
    · rename_i hc; injection h with h; exact ⟨k, hk, h.symm, hi, hc⟩
    · cases h
  · cases h
theorem leased_len {l l' : List Ent} {s g : Int} (h : leased l s g = some l') : l.length = l'.length := by
  obtain ⟨k, hk, rfl, _⟩ := leased_some h
  rw [List.length_set]
theorem leased_fits {l l' : List Ent} {s g : Int} (h : leased l s g = some l') (hf : ∀ x ∈ l, x.pol.fits) : ∀ x ∈ l', x.pol.fits := by
  obtain ⟨k, hk, rfl, _⟩ := leased_some h
  intro x hx
  rcases List.mem_or_eq_of_mem_set hx with hx | rfl
  · exact hf x hx
  · exact hf l[k] (List.getElem_mem hk)
def zeroTo (l : List Ent) (k : Nat) : List Ent := (l.take k).map (·.grant 0) ++ l.drop k
theorem zeroTo_len (l : List Ent) (k : Nat) : (zeroTo l k).length = l.length := by
  unfold zeroTo; rw [List.length_append, List.length_map, List.length_take, List.length_drop]; omega
theorem zeroTo_at (l : List Ent) {k : Nat} (h : k < l.length) : (zeroTo l k)[k]'(by rw [zeroTo_len]; exact h) = l[k] := by
  unfold zeroTo
  rw [List.getElem_append_right (by rw [List.length_map, List.length_take]; omega), List.getElem_drop]
  congr 1; rw [List.length_map, List.length_take]; omega
theorem zeroTo_succ (l : List Ent) {k : Nat} (h : k < l.length) : (zeroTo l k).set k (l[k].grant 0) = zeroTo l (k + 1) := by
  unfold zeroTo
  rw [List.set_append_right _ _ (by rw [List.length_map, List.length_take]; omega), List.length_map, List.length_take, show k - min k l.length = 0 by omega, List.drop_eq_getElem_cons h, List.set_cons_zero, List.take_succ_eq_append_getElem h, List.map_append, List.append_assoc]
  rfl
theorem zeroTo_all (l : List Ent) : zeroTo l l.length = l.map (·.grant 0) := by
  unfold zeroTo; rw [List.take_length, List.drop_length, List.append_nil]
theorem oAp_ok : OK Try.prog (lamOf Try.prog) (orcOf [(22, cloneES), (23, brightS), (24, erightS), (26, leaseS)]) := orc_ok (by simpa using ⟨cloneE_ok, bright_ok, eright_ok, lease_ok⟩)
theorem turn_ok : SpecOK Try.prog 13 turnS := by
  intro args S x S' h
  simp only [turnS] at h
  split at h
  · rename_i cb ce
    split at h
    · rename_i b ev hb hev
      split at h
      · rename_i hf
        obtain ⟨hbf, hef, hk1⟩ := hf
        obtain ⟨s, rfl, hl⟩ := bookOf_ok hb
        obtain ⟨xp, xd, rfl, hp, hd⟩ := evtOf_ok hev
        obtain ⟨p, l⟩ := b
        obtain ⟨k, sub, ps, ds, g, q⟩ := ev
        simp only at hp hd hl
        have b1 := fun L => bright_eq (bookOf_mk (p := p) (lstV_grow hl L)) hbf
        have e1 := fun L => eright_eq (evtOf_mk (k := k) (s := sub) (g := g) (p := q) (lstV_grow hp L) (lstV_grow hd L)) hef
        have c1 := fun L => cloneE_eq (lstV_grow hl L) hbf.1
        refine fn_of_wp f13 rfl (W_sound oAp_ok mixed _ _ _ _ _ ?_)
        by_cases hne : l = []
        · subst hne
          have fit0 : ∀ q, Bk.fits ⟨q, []⟩ := fun q => ⟨by simp, fun x hx => by cases hx⟩
          cases hz : nz s with
          | false =>
            have c1 : ∀ L, cloneES [s] (S ++ L) = some (.sn, S ++ L) := fun L => by rw [c1 L, hz]; rfl
            have b2 : ∀ (q : Int) (L : Mem), brightS [.ag [.i .u64 q, .sn]] (S ++ L) = some (.b (decide (Bk.ok ⟨q, []⟩)), S ++ L) := fun q L => bright_eq (bookOf_mk rfl) (fit0 q)
            have l1 : ∀ L, leaseS [.sn, .ag [.i .i64 k, .i .i64 sub, xp, xd, .i .u64 g, .i .u64 q]] (S ++ L) = some (.tu [.sn, .b false], S ++ L) := fun L => by
              simp only [leaseS, evtOf_mk (k := k) (s := sub) (g := g) (p := q) (lstV_grow hp L) (lstV_grow hd L), show lstV entE (S ++ L) .sn = some [] from rfl]; rfl
            simp (maxSteps := 1000000) (disch := omega) only [c13, orc_cons, lst_cells hl, c1, b1, b2, e1, l1, go_sem]
            have hzB : nzB [AV.i .u64 p, s] = false := hz
            rw [show nzB [AV.i .u64 (Bk.mk p []).period, s] = false from hz] at h
            refine ⟨fun hok => ⟨fun hr => ?_, fun hr => ⟨fun k1 => absurd ⟨Decidable.not_not.1 hok, Decidable.not_not.1 hr, k1⟩ hk1, fun _ => ⟨fun k2 => ?_, fun k2 => ⟨fun k3 => ?_, fun k3 => ?_⟩⟩⟩⟩, fun hok => ?_⟩
            · rw [show Bk.turned ⟨p, []⟩ ⟨k, sub, ps, ds, g, q⟩ = none by unfold Bk.turned; rw [if_neg fun z => hr z.2]] at h
              cases h
              exact wkv_drop rfl
            · rw [show Bk.turned ⟨p, []⟩ ⟨k, sub, ps, ds, g, q⟩ = none by unfold Bk.turned Bk.turn; rw [if_pos ⟨Decidable.not_not.1 hok, Decidable.not_not.1 hr⟩, if_pos k2]; rfl] at h
              cases h
              exact wkv_drop rfl
            · have ht : Bk.turned ⟨p, []⟩ ⟨k, sub, ps, ds, g, q⟩ = Bk.fin (if q = p + 1 then some ⟨q, []⟩ else none) := by
                unfold Bk.turned Bk.turn; rw [if_pos ⟨Decidable.not_not.1 hok, Decidable.not_not.1 hr⟩, if_neg k2]; rfl
              rw [ht] at h
              have hp48 := Decidable.not_not.1 hok
              have hw : wrapV .u64 (p + 1) = p + 1 := wrap_u64 (by have := hp48.1; simp only at this; omega) (by have := hp48.2.1; simp only at this; omega)
              rw [hw]
              refine wp_unroll oAp_ok mixed 1 ?_
              simp (maxSteps := 1000000) (disch := omega) only [c13l2, LW_succ, orc_cons, b2, go_sem]
              refine ⟨fun hq => ?_, fun hq => ?_⟩
              · rw [if_pos (Decidable.not_not.1 hq)] at h
                refine ⟨fun h1 => ?_, fun h1 => ?_⟩
                · simp only [Bk.fin, if_neg h1] at h
                  cases h
                  exact wkv_drop rfl
                · simp only [Bk.fin, if_pos (Decidable.not_not.1 h1)] at h
                  cases h
                  exact wkv_drop rfl
              · rw [if_neg hq] at h
                cases h
                exact wkv_drop rfl
            · exfalso
              rcases Decidable.not_not.1 hr with z | z | z
              · exact absurd z.1 (by assumption)
              · exact k2 z.1
              · exact k3 z.1
            · rw [show Bk.turned ⟨p, []⟩ ⟨k, sub, ps, ds, g, q⟩ = none by unfold Bk.turned; rw [if_neg fun z => hok z.1]] at h
              cases h
              exact wkv_drop rfl
          | true =>
            have c1 : ∀ L, cloneES [s] (S ++ L) = some (.sl (S ++ L).length 0 0 0 0 true, (S ++ L) ++ [.cells [] 0 none true]) := fun L => by rw [c1 L, hz]; rfl
            have b2 : ∀ (q : Int) (A B C D E G : Blk), brightS [.ag [.i .u64 q, .sl (S.length + 5) 0 0 0 0 true]] (S ++ [A, B, C, D, E, .cells [] 0 none true, G]) = some (.b (decide (Bk.ok ⟨q, []⟩)), S ++ [A, B, C, D, E, .cells [] 0 none true, G]) := fun q A B C D E G => bright_eq (bookOf_mk (own_lst (ownV_mk (l := []) (by rw [at_app]; rfl)))) (fit0 q)
            have l1 : ∀ A B C D E G, leaseS [.sl (S.length + 5) 0 0 0 0 true, .ag [.i .i64 k, .i .i64 sub, xp, xd, .i .u64 g, .i .u64 q]] (S ++ [A, B, C, D, E, .cells [] 0 none true, G]) = some (.tu [.sn, .b false], S ++ [A, B, C, D, E, .cells [] 0 none true, G]) := fun A B C D E G => by
              have h1 := own_lst (ownV_mk (E := entE) (S := S ++ [A, B, C, D, E, .cells [] 0 none true, G]) (l := []) (b := S.length + 5) (v := 0) (ex := true) (op := none) (by rw [at_app]; rfl))
              simp only [List.length_nil] at h1
              simp only [leaseS, evtOf_mk (k := k) (s := sub) (g := g) (p := q) (lstV_grow hp _) (lstV_grow hd _), h1]; rfl
            simp (maxSteps := 1000000) (disch := omega) only [c13, orc_cons, lst_cells hl, c1, b1, b2, e1, l1, go_sem]
            rw [show nzB [AV.i .u64 (Bk.mk p []).period, s] = true from hz] at h
            refine ⟨fun hok => ⟨fun hr => ?_, fun hr => ⟨fun k1 => absurd ⟨Decidable.not_not.1 hok, Decidable.not_not.1 hr, k1⟩ hk1, fun _ => ⟨fun k2 => ?_, fun k2 => ⟨fun k3 => ?_, fun k3 => ?_⟩⟩⟩⟩, fun hok => ?_⟩
            · rw [show Bk.turned ⟨p, []⟩ ⟨k, sub, ps, ds, g, q⟩ = none by unfold Bk.turned; rw [if_neg fun z => hr z.2]] at h
              cases h
              exact Acc.retB entE_flat ⟨_, rfl, .inr (.inl ⟨rfl, rfl, 3, rfl, rfl⟩)⟩ Flat_i Flat_i
            · rw [show Bk.turned ⟨p, []⟩ ⟨k, sub, ps, ds, g, q⟩ = none by unfold Bk.turned Bk.turn; rw [if_pos ⟨Decidable.not_not.1 hok, Decidable.not_not.1 hr⟩, if_pos k2]; rfl] at h
              cases h
              exact Acc.retB entE_flat ⟨_, rfl, .inr (.inl ⟨rfl, rfl, 3, rfl, rfl⟩)⟩ Flat_i Flat_i
            · have ht : Bk.turned ⟨p, []⟩ ⟨k, sub, ps, ds, g, q⟩ = Bk.fin (if q = p + 1 then some ⟨q, []⟩ else none) := by
                unfold Bk.turned Bk.turn; rw [if_pos ⟨Decidable.not_not.1 hok, Decidable.not_not.1 hr⟩, if_neg k2]; rfl
              rw [ht] at h
              have hp48 := Decidable.not_not.1 hok
              have hw : wrapV .u64 (p + 1) = p + 1 := wrap_u64 (by have := hp48.1; simp only at this; omega) (by have := hp48.2.1; simp only at this; omega)
              rw [hw]
              refine wp_unroll oAp_ok mixed 1 ?_
              simp (maxSteps := 1000000) (disch := omega) only [c13l2, LW_succ, orc_cons, b2, go_sem]
              refine ⟨fun hq => ?_, fun hq => ?_⟩
              · rw [if_pos (Decidable.not_not.1 hq)] at h
                refine ⟨fun h1 => ?_, fun h1 => ?_⟩
                · simp only [Bk.fin, if_neg h1] at h
                  cases h
                  exact Acc.retB entE_flat ⟨_, rfl, .inr (.inl ⟨rfl, rfl, 3, rfl, rfl⟩)⟩ Flat_i Flat_i
                · simp only [Bk.fin, if_pos (Decidable.not_not.1 h1)] at h
                  cases h
                  exact Acc.retB entE_flat ⟨_, rfl, .inr (.inl ⟨rfl, rfl, 5, rfl, rfl⟩)⟩ Flat_i Flat_i
              · rw [if_neg hq] at h
                cases h
                exact Acc.retB entE_flat ⟨_, rfl, .inr (.inl ⟨rfl, rfl, 3, rfl, rfl⟩)⟩ Flat_i Flat_i
            · exfalso
              rcases Decidable.not_not.1 hr with z | z | z
              · exact absurd z.1 (by assumption)
              · exact k2 z.1
              · exact k3 z.1
            · rw [show Bk.turned ⟨p, []⟩ ⟨k, sub, ps, ds, g, q⟩ = none by unfold Bk.turned; rw [if_neg fun z => hok z.1]] at h
              cases h
              exact Acc.retB entE_flat ⟨_, rfl, .inr (.inl ⟨rfl, rfl, 3, rfl, rfl⟩)⟩ Flat_i Flat_i
        · obtain ⟨i, o, v, cap, ex, rfl⟩ := lst_sl hl (List.length_pos_iff.2 hne)
          have c1 : ∀ L, cloneES [.sl i o v l.length cap ex] (S ++ L) = some (.sl (S ++ L).length 0 0 l.length l.length false, (S ++ L) ++ [.cells (l.flatMap entE.enc) 0 (some 14) true]) := fun L => by
            rw [c1 L, retX_ne hne, retM_ne hne]; rfl
          simp (maxSteps := 1000000) (disch := omega) only [c13, orc_cons, lst_cells hl, c1, b1, e1, go_sem]
          have own : ∀ (A : Mem) (err : Int), WkV S (bookR (nzB [AV.i .u64 p, AV.sl i o v l.length cap ex]) S ⟨p, l⟩ err).1 (bookR (nzB [AV.i .u64 p, AV.sl i o v l.length cap ex]) S ⟨p, l⟩ err).2 (.tu [.ag [.i .u64 p, .sl (S.length + 3) 0 0 l.length l.length false], .i .i64 err])
            (S ++ (.cells [.i .u64 p, .sl i o v l.length cap ex] 0 none true :: .cells [.i .i64 k, .i .i64 sub, xp, xd, .i .u64 g, .i .u64 q] 0 none true :: .cells [.i .u64 p, .sl (S.length + 3) 0 0 l.length l.length false] 0 none true :: .cells (l.flatMap entE.enc) 0 (some 14) true :: A)) := fun A err =>
            Acc.retB entE_flat ⟨_, rfl, .inr (.inr ⟨hne, 3, 0, rfl, rfl⟩)⟩ Flat_i Flat_i
          refine ⟨fun hok => ⟨fun hr => ?_, fun hr => ⟨fun k1 => absurd ⟨Decidable.not_not.1 hok, Decidable.not_not.1 hr, k1⟩ hk1, fun _ => ⟨fun k2 => ?_, fun k2 => ⟨fun k3 => ?_, fun k3 => ?_⟩⟩⟩⟩, fun hok => ?_⟩
          · rw [show Bk.turned ⟨p, l⟩ ⟨k, sub, ps, ds, g, q⟩ = none by unfold Bk.turned; rw [if_neg fun z => hr z.2]] at h
            cases h
            exact own _ _
          · have ht : Bk.turned ⟨p, l⟩ ⟨k, sub, ps, ds, g, q⟩ = Bk.fin ((leased l sub g).map fun l => ⟨p, l⟩) := by
              unfold Bk.turned Bk.turn; rw [if_pos ⟨Decidable.not_not.1 hok, Decidable.not_not.1 hr⟩, if_pos k2]
            rw [ht] at h
            have ho : ∀ T : Mem, T[5]? = some (.cells (l.flatMap entE.enc) 0 (some 14) true) → ownV entE (S ++ T) (.sl (S.length + 5) 0 0 l.length l.length false) = some l := fun T hT => ownV_mk (by rw [at_app]; exact hT)
            rw [lease_eq (l := l) (e := ⟨k, sub, ps, ds, g, q⟩)]
            rotate_left
            · exact own_lst (ho _ rfl)
            · exact evtOf_mk (lstV_grow hp _) (lstV_grow hd _)
            · exact hbf.1
            · exact ho _ rfl
            cases hle : leased l sub g with
            | none =>
              rw [hle] at h
              cases h
              simp (maxSteps := 1000000) (disch := omega) only [go_sem]
              exact own _ _
            | some l' =>
              rw [hle] at h
              have hlen := leased_len hle
              simp only
              rw [setOwn_eq (v' := 0) (op := some 14) (r := true) (cs := l.flatMap entE.enc)]
              rotate_left
              · rw [at_app]; rfl
              simp (maxSteps := 1000000) (disch := omega) only [orc_cons, go_sem]
              rw [bright_eq (b := ⟨p, l'⟩)]
              rotate_left
              · refine bookOf_mk (l := l') ?_
                rw [hlen]
                exact own_lst (ownV_mk (by rw [at_app]; rfl))
              · exact ⟨by rw [← hlen]; exact hbf.1, leased_fits hle hbf.2⟩
              simp (maxSteps := 1000000) (disch := omega) only [go_sem]
              refine ⟨fun h1 => ?_, fun h1 => ?_⟩
              · simp only [Option.map_some, Bk.fin, if_neg h1] at h
                cases h
                exact own _ _
              · simp only [Option.map_some, Bk.fin, if_pos (Decidable.not_not.1 h1)] at h
                cases h
                exact Acc.retB entE_flat ⟨_, rfl, .inr (.inr ⟨fun q => hne (List.eq_nil_of_length_eq_zero (by have q : l' = [] := q; rw [hlen, q]; rfl)), 5, 0, by rw [hlen], rfl⟩)⟩ Flat_i Flat_i
          · have ht : Bk.turned ⟨p, l⟩ ⟨k, sub, ps, ds, g, q⟩ = Bk.fin (if q = p + 1 then some ⟨q, l.map (·.grant 0)⟩ else none) := by
              unfold Bk.turned Bk.turn; rw [if_pos ⟨Decidable.not_not.1 hok, Decidable.not_not.1 hr⟩, if_neg k2]
            rw [ht] at h
            have hp48 := Decidable.not_not.1 hok
            have hw : wrapV .u64 (p + 1) = p + 1 := wrap_u64 (by have := hp48.1; simp only at this; omega) (by have := hp48.2.1; simp only at this; omega)
            rw [hw]
            refine wp_loop (fun j e M dl => dl = [] ∧ ∃ n : Nat, j = l.length - n ∧ n ≤ l.length ∧
              M = S ++ [.cells [.i .u64 p, .sl i o v l.length cap ex] 0 none true, .cells [.i .i64 k, .i .i64 sub, xp, xd, .i .u64 g, .i .u64 q] 0 none true, .cells [.i .u64 0, .sn] 0 none true, .cells (l.flatMap entE.enc) 0 (some 14) true, .cells [.i .u64 p, .sl (S.length + 3) 0 0 l.length l.length false] 0 none true, .cells ((zeroTo l n).flatMap entE.enc) 0 (some 14) true, .cells [.i .u64 q, .sl (S.length + 5) 0 0 l.length l.length false] 0 none true] ∧
              e.get 7 = .p (S.length + 6) 0 0 ∧ e.get 4 = .p (S.length + 2) 0 0 ∧ e.get 6 = .p (S.length + 4) 0 0 ∧ e.get 8 = .b (decide (q = p + 1)) ∧ e.get 66 = .i .i64 l.length ∧ e.get 67 = .i .i64 n) (j := l.length) ⟨rfl, 0, rfl, Nat.zero_le _, rfl, rfl, rfl, rfl, rfl, rfl, rfl⟩ ?_
            rintro j e M d' ⟨rfl, n, rfl, hn, rfl, h7, h4, h6, h8, h66, h67⟩
            refine W_sound oAp_ok mixed _ _ _ _ _ ?_
            have hz := zeroTo_len l n
            by_cases hnl : n < l.length
            · have hnI : (n : Int) < l.length := by omega
              have hw1 : wrapV .i64 ((n : Int) + 1) = ((n + 1 : Nat) : Int) := by have := hbf.1; simp only at this; rw [wrap_i64 (by omega) (by omega)]; omega
              have hsp := splice_at (E := entE) (zeroTo l n) (show n < (zeroTo l n).length by omega) (l[n].grant 0) (f := 13) (ys := [.i .u64 0]) (by simp [entE]) (by rw [zeroTo_at l hnl]; rfl)
              rw [zeroTo_succ l hnl] at hsp
              have hsp : ((zeroTo l n).flatMap entE.enc).take (n * 14 + 13) ++ AV.i .u64 0 :: ((zeroTo l n).flatMap entE.enc).drop (n * 14 + 13 + 1) = (zeroTo l (n + 1)).flatMap entE.enc := hsp
              have hle : n * 14 + 13 + 1 ≤ ((zeroTo l n).flatMap entE.enc).length := by rw [enc_length]; show n * 14 + 13 + 1 ≤ (zeroTo l n).length * 14; omega
              simp (maxSteps := 1000000) (disch := omega) only [c13l2, h7, h4, h6, h8, h66, h67, hnI, Int.toNat_natCast, hw1, hsp, hle, go_sem]
              exact ⟨l.length - (n + 1), by omega, n + 1, rfl, by omega, rfl, rfl⟩
            · have hnI : ¬ (n : Int) < l.length := by omega
              obtain rfl : n = l.length := by omega
              simp (maxSteps := 1000000) (disch := omega) only [c13l2, h7, h4, h6, h8, h66, h67, hnI, orc_cons, zeroTo_all, go_sem]
              refine ⟨fun hq => ?_, fun hq => ?_⟩
              · have hq := Decidable.not_not.1 hq
                rw [if_pos hq] at h
                rw [bright_eq (b := ⟨q, l.map (·.grant 0)⟩)]
                rotate_left
                · refine bookOf_mk (l := l.map (·.grant 0)) ?_
                  rw [show l.length = (l.map (·.grant 0)).length by simp]
                  exact own_lst (ownV_mk (by rw [at_app]; rfl))
                · exact ⟨by simpa using hbf.1, fun x hx => by obtain ⟨y, hy, rfl⟩ := List.mem_map.1 hx; exact hbf.2 y hy⟩
                simp (maxSteps := 1000000) (disch := omega) only [go_sem]
                refine ⟨fun h1 => ?_, fun h1 => ?_⟩
                · simp only [Bk.fin, if_neg h1] at h
                  cases h
                  exact own _ _
                · simp only [Bk.fin, if_pos (Decidable.not_not.1 h1)] at h
                  cases h
                  exact Acc.retB entE_flat ⟨_, rfl, .inr (.inr ⟨by simpa using hne, 5, 0, by rw [List.length_map], rfl⟩)⟩ Flat_i Flat_i
              · rw [if_neg hq] at h
                cases h
                exact own _ _
          · exfalso
            rcases Decidable.not_not.1 hr with z | z | z
            · exact absurd z.1 (by assumption)
            · exact k2 z.1
            · exact k3 z.1
          · rw [show Bk.turned ⟨p, l⟩ ⟨k, sub, ps, ds, g, q⟩ = none by unfold Bk.turned; rw [if_neg fun z => hok z.1]] at h
            cases h
            exact own _ _
      · cases h
    · cases h
  · cases h
end Go.Proofs.Ytmdnohpolepcoaa

namespace Go.Proofs.Ytmdnohpolepcoaa
open Go.RowKit
set_option linter.unusedSimpArgs false
set_option linter.unusedVariables false
set_option maxRecDepth 10000

theorem sub_lt {p : Int} {l : List Ent} (ho : (Bk.mk p l).ok) {i j : Nat} (hi : i < l.length) (hj : j < i) : (l[j]'(by omega)).pol.sub < l[i].pol.sub := by
  have h := (ho.2.2.1.2 i (by unfold polsOf; simpa using hi) (by unfold polsOf; simpa using hi)).2 j hj
  have h := h.1
  simpa [polsOf] using h
noncomputable def Bk.rapplied (b : Bk) (e : Evt) : Option Bk := if b.ok ∧ e.right then
    (if e.kind = 1 then (if ∃ i : Nat, i < 255 ∧ refBad b.entries e ((i : Int) + 1) then none else Bk.fin (some ⟨b.period, refEnts b.entries e 255⟩))
     else if e.kind = 2 then (leased b.entries e.sub e.granted).map fun l => ⟨b.period, l⟩
     else if e.period = b.period + 1 then some ⟨e.period, b.entries.map (·.grant 0)⟩ else none)
  else none
end Go.Proofs.Ytmdnohpolepcoaa

namespace Go.Proofs.Ytmdnohpolepcoaa
open Go.RowKit
set_option linter.unusedSimpArgs false
set_option linter.unusedVariables false

/-! ### Lists in order -/
section
variable {α : Type} (key : α → Int)
def RiseK (l : List α) : Prop := l.Pairwise fun a b => key a < key b
def OnceK (l : List α) : Prop := l.Pairwise fun a b => key a ≠ key b
def insK (a : α) : List α → List α
  | [] => [a]
  | d :: l => if key d < key a then d :: insK a l else a :: d :: l
def srtK : List α → List α
  | [] => []
  | a :: l => insK key a (srtK l)
variable {key}
theorem RiseK.once {l : List α} (h : RiseK key l) : OnceK key l := h.imp fun h => Int.ne_of_lt h
theorem insK_mem {a x : α} : ∀ {l : List α}, x ∈ insK key a l ↔ x = a ∨ x ∈ l
  | [] => by simp [insK]
  | d :: l => by
    rw [insK]
    split
    · rw [List.mem_cons, insK_mem, List.mem_cons]
      constructor
      · rintro (h | h | h)
        · exact .inr (.inl h)
        · exact .inl h
        · exact .inr (.inr h)
      · rintro (h | h | h)
        · exact .inr (.inl h)
        · exact .inl h
        · exact .inr (.inr h)
    · rw [List.mem_cons]
theorem insK_len {a : α} : ∀ {l : List α}, (insK key a l).length = l.length + 1
  | [] => rfl
  | d :: l => by
    rw [insK]
    split
    · rw [List.length_cons, insK_len, List.length_cons]
    · rfl
theorem insK_rises {a : α} : ∀ {l : List α}, RiseK key l → (∀ d ∈ l, key d ≠ key a) → RiseK key (insK key a l)
  | [], _, _ => List.pairwise_singleton ..
  | d :: l, h, hn => by
    rw [insK]
    obtain ⟨h1, h2⟩ := List.pairwise_cons.1 h
    split
    · rename_i hd
      refine List.pairwise_cons.2 ⟨fun x hx => ?_, insK_rises h2 fun x hx => hn x (List.mem_cons_of_mem _ hx)⟩
      rcases insK_mem.1 hx with rfl | hx
      · exact hd
      · exact h1 x hx
    · rename_i hd
      have hda : key a < key d := by
        have := hn d (List.mem_cons_self ..)
        omega
      refine List.pairwise_cons.2 ⟨fun x hx => ?_, h⟩
      rcases List.mem_cons.1 hx with rfl | hx
      · exact hda
      · have := h1 x hx; omega
theorem riseK_ext : ∀ {l m : List α}, RiseK key l → RiseK key m → (∀ x, x ∈ l ↔ x ∈ m) → l = m
  | [], [], _, _, _ => rfl
  | [], b :: m, _, _, h => absurd ((h b).2 (List.mem_cons_self ..)) (by simp)
  | a :: l, [], _, _, h => absurd ((h a).1 (List.mem_cons_self ..)) (by simp)
  | a :: l, b :: m, hl, hm, h => by
    obtain ⟨l1, l2⟩ := List.pairwise_cons.1 hl
    obtain ⟨m1, m2⟩ := List.pairwise_cons.1 hm
    have hab : a = b := by
      rcases List.mem_cons.1 ((h a).1 (List.mem_cons_self ..)) with e | h1
      · exact e
      · rcases List.mem_cons.1 ((h b).2 (List.mem_cons_self ..)) with e | h2
        · exact e.symm
        · have := l1 b h2; have := m1 a h1; omega
    subst hab
    rw [riseK_ext l2 m2 fun x => ?_]
    have hx := h x
    rw [List.mem_cons, List.mem_cons] at hx
    constructor
    · intro q
      rcases hx.1 (.inr q) with e | e
      · subst e; exact absurd (l1 _ q) (by omega)
      · exact e
    · intro q
      rcases hx.2 (.inr q) with e | e
      · subst e; exact absurd (m1 _ q) (by omega)
      · exact e
theorem srtK_mem {x : α} : ∀ {l : List α}, x ∈ srtK key l ↔ x ∈ l
  | [] => by simp [srtK]
  | a :: l => by rw [srtK, insK_mem, srtK_mem, List.mem_cons]
theorem srtK_len : ∀ {l : List α}, (srtK key l).length = l.length
  | [] => rfl
  | a :: l => by rw [srtK, insK_len, srtK_len, List.length_cons]
theorem srtK_rises : ∀ {l : List α}, OnceK key l → RiseK key (srtK key l)
  | [], _ => List.Pairwise.nil
  | a :: l, h => by
    obtain ⟨h1, h2⟩ := List.pairwise_cons.1 h
    exact insK_rises (srtK_rises h2) fun d hd => (h1 d (srtK_mem.1 hd)).symm
theorem once_find {l : List α} (h : OnceK key l) {c : α} (hc : c ∈ l) : l.find? (fun d => decide (key d = key c)) = some c := by
  induction l with
  | nil => cases hc
  | cons d l ih =>
    obtain ⟨h1, h2⟩ := List.pairwise_cons.1 h
    rw [List.find?_cons]
    rcases List.mem_cons.1 hc with rfl | hc
    · simp
    · rw [decide_eq_false (h1 c hc)]
      exact ih h2 hc
theorem onceK_uniq {l : List α} (h : OnceK key l) {c d : α} (hc : c ∈ l) (hd : d ∈ l) (e : key c = key d) : c = d := by
  have h1 := once_find h hc
  have h2 := once_find h hd
  simp only [e] at h1
  rw [h1] at h2
  exact Option.some.inj h2
end

/-! ### Changes -/
structure Chg where
  put : Bool
  pol : Pol
  deriving DecidableEq
def Chg.sub (c : Chg) : Int := c.pol.sub
def sameSub (n : Int) (c : Chg) : Bool := decide (c.sub = n)
/-- Of each subscriber's changes the last. -/
def lasts : List Chg → List Chg
  | [] => []
  | c :: l => if l.any (sameSub c.sub) = true then lasts l else c :: lasts l
theorem lasts_sub : ∀ {l : List Chg} {c : Chg}, c ∈ lasts l → c ∈ l
  | [], c, h => h
  | d :: l, c, h => by
    rw [lasts] at h
    split at h
    · exact List.mem_cons_of_mem _ (lasts_sub h)
    · rcases List.mem_cons.1 h with rfl | h
      · exact List.mem_cons_self ..
      · exact List.mem_cons_of_mem _ (lasts_sub h)
theorem lasts_once : ∀ l : List Chg, OnceK Chg.sub (lasts l)
  | [] => List.Pairwise.nil
  | c :: l => by
    rw [lasts]
    split
    · exact lasts_once l
    · rename_i h
      refine List.pairwise_cons.2 ⟨fun d hd e => h ?_, lasts_once l⟩
      exact List.any_eq_true.2 ⟨d, lasts_sub hd, decide_eq_true e.symm⟩
theorem lasts_cover : ∀ {l : List Chg} {c : Chg}, c ∈ l → ∃ d ∈ lasts l, d.sub = c.sub
  | [], c, h => by cases h
  | a :: l, c, h => by
    rw [lasts]
    rcases List.mem_cons.1 h with rfl | h
    · split
      · rename_i hs
        obtain ⟨d, hd, e⟩ := List.any_eq_true.1 hs
        obtain ⟨d', hd', e'⟩ := lasts_cover hd
        exact ⟨d', hd', e'.trans (of_decide_eq_true e)⟩
      · exact ⟨c, List.mem_cons_self .., rfl⟩
    · obtain ⟨d, hd, e⟩ := lasts_cover h
      split
      · exact ⟨d, hd, e⟩
      · exact ⟨d, List.mem_cons_of_mem _ hd, e⟩
theorem lasts_snoc : ∀ (l : List Chg) (c : Chg), lasts (l ++ [c]) = (lasts l).filter (fun d => !sameSub c.sub d) ++ [c]
  | [], c => by simp [lasts]
  | a :: l, c => by
    rw [List.cons_append, lasts, lasts, lasts_snoc l c, List.any_append]
    by_cases h1 : l.any (sameSub a.sub) = true
    · rw [if_pos (by rw [h1]; rfl), if_pos h1]
    · rw [if_neg h1]
      by_cases h2 : c.sub = a.sub
      · rw [if_pos (by simp [sameSub, h2]), List.filter_cons, if_neg (by simp [sameSub, h2])]
      · rw [if_neg (by simp only [Bool.not_eq_true] at h1; simp [sameSub, h2, h1]), List.filter_cons, if_pos (by simp [sameSub, Ne.symm h2]), List.cons_append]
def seqOf (l : List Chg) : List Chg := srtK Chg.sub (lasts l)
theorem seqOf_rises (l : List Chg) : RiseK Chg.sub (seqOf l) := srtK_rises (lasts_once l)
theorem seqOf_mem {l : List Chg} {c : Chg} : c ∈ seqOf l ↔ c ∈ lasts l := srtK_mem
theorem lasts_len : ∀ l : List Chg, (lasts l).length ≤ l.length
  | [] => Nat.le_refl _
  | c :: l => by
    rw [lasts]
    split
    · exact Nat.le_succ_of_le (lasts_len l)
    · exact Nat.succ_le_succ (lasts_len l)
theorem seqOf_len (l : List Chg) : (seqOf l).length ≤ l.length := by rw [seqOf, srtK_len]; exact lasts_len l

/-! ### What comes of them -/
def putOf (c : Chg) : Option Pol := if c.put then some c.pol else none
def dropOf (b : List Ent) (c : Chg) : Option Int := if c.put = false ∧ (b.find? (hasSub c.sub)).isSome then some c.sub else none
def putsOf (s : List Chg) : List Pol := s.filterMap putOf
def dropsOf (b : List Ent) (s : List Chg) : List Int := s.filterMap (dropOf b)
theorem putsOf_len (s : List Chg) : (putsOf s).length ≤ s.length := List.length_filterMap_le ..
theorem dropsOf_len (b : List Ent) (s : List Chg) : (dropsOf b s).length ≤ s.length := List.length_filterMap_le ..
theorem putsOf_mem {s : List Chg} {p : Pol} : p ∈ putsOf s ↔ ∃ c ∈ s, c.put = true ∧ c.pol = p := by
  unfold putsOf putOf
  rw [List.mem_filterMap]
  constructor
  · rintro ⟨c, hc, h⟩
    split at h
    · cases h; exact ⟨c, hc, by assumption, rfl⟩
    · cases h
  · rintro ⟨c, hc, h, rfl⟩
    exact ⟨c, hc, by rw [if_pos h]⟩
theorem dropsOf_mem {b : List Ent} {s : List Chg} {n : Int} : n ∈ dropsOf b s ↔ ∃ c ∈ s, c.put = false ∧ (b.find? (hasSub c.sub)).isSome ∧ c.sub = n := by
  unfold dropsOf dropOf
  rw [List.mem_filterMap]
  constructor
  · rintro ⟨c, hc, h⟩
    split at h
    · rename_i hq; cases h; exact ⟨c, hc, hq.1, hq.2, rfl⟩
    · cases h
  · rintro ⟨c, hc, h, h2, rfl⟩
    exact ⟨c, hc, by rw [if_pos ⟨h, h2⟩]⟩
theorem putsOf_rises {s : List Chg} (h : RiseK Chg.sub s) : RiseK Pol.sub (putsOf s) := by
  refine List.Pairwise.filterMap putOf (fun a a' q b hb b' hb' => ?_) h
  unfold putOf at hb hb'
  split at hb
  · split at hb'
    · cases hb; cases hb'; exact q
    · cases hb'
  · cases hb
theorem dropsOf_rises {b : List Ent} {s : List Chg} (h : RiseK Chg.sub s) : RiseK id (dropsOf b s) := by
  refine List.Pairwise.filterMap (dropOf b) (fun a a' q x hb x' hb' => ?_) h
  unfold dropOf at hb hb'
  split at hb
  · split at hb'
    · cases hb; cases hb'; exact q
    · cases hb'
  · cases hb
def noEvt : Evt := ⟨0, 0, [], [], 0, 0⟩
def evtIn (b : List Ent) (s : List Chg) : Evt := ⟨1, 0, putsOf s, dropsOf b s, 0, 0⟩
def badIn (l : List Chg) : Prop := ∃ c ∈ l, c.put = true ∧ ¬ c.pol.right
/-- The event, whether there is one, and the error. -/
noncomputable def outOf (b : Bk) (s : List Chg) : Evt × Bool × Int := open Classical in
  if badIn s then (noEvt, false, 111) else if (putsOf s).length = 0 ∧ (dropsOf b.entries s).length = 0 then (noEvt, false, 0) else if (b.rapplied (evtIn b.entries s)).isSome then (evtIn b.entries s, true, 0) else (noEvt, false, 111)
theorem out_bad {b : Bk} {s : List Chg} (h : badIn s) : outOf b s = (noEvt, false, 111) := by unfold outOf; rw [if_pos h]
theorem out_none {b : Bk} {s : List Chg} (h : ¬ badIn s) (h1 : (putsOf s).length = 0) (h2 : (dropsOf b.entries s).length = 0) : outOf b s = (noEvt, false, 0) := by unfold outOf; rw [if_neg h, if_pos ⟨h1, h2⟩]
theorem out_some {b : Bk} {s : List Chg} (h : ¬ badIn s) (h1 : ¬ ((putsOf s).length = 0 ∧ (dropsOf b.entries s).length = 0)) (h2 : (b.rapplied (evtIn b.entries s)).isSome = true) : outOf b s = (evtIn b.entries s, true, 0) := by
  unfold outOf
  rw [if_neg h, if_neg h1, if_pos h2]
theorem out_err {b : Bk} {s : List Chg} (h : ¬ badIn s) (h1 : ¬ ((putsOf s).length = 0 ∧ (dropsOf b.entries s).length = 0)) (h2 : ¬ (b.rapplied (evtIn b.entries s)).isSome = true) : outOf b s = (noEvt, false, 111) := by
  unfold outOf
  rw [if_neg h, if_neg h1, if_neg h2]
end Go.Proofs.Ytmdnohpolepcoaa

namespace Go.Proofs.Ytmdnohpolepcoaa
open Go.Shelf
def Try.keysA_ren : Go.Shelf.Ren := ⟨fun | 7 => 17 | 10 => 29 | n => n, fun | 23 => 62 | 26 => 3 | 3 => 61 | 28 => 65 | 0 => 0 | 27 => 64 | 33 => 77 | 4 => 4 | n => n, fun | n => n⟩
theorem Try.keysA : Go.Proofs.SlLaysZI.n7 Try.prog Try.keysA_ren := {
  mixed := by kernel_rfl
  f7 := ⟨Try.f17.name, by decide, Try.func17.trans (congrArg some (by kernel_rfl))⟩
  f10 := ⟨Try.f29.name, by decide, Try.func29.trans (congrArg some (by kernel_rfl))⟩
  t0 := Try.underlying0
  a0 := Try.isAgg0
  z0 := Try.sizeOf0
  v0 := Try.zeroValue0
  t4 := Try.underlying4
  a4 := Try.isAgg4
  z4 := Try.sizeOf4
  v4 := Try.zeroValue4
  t23 := Try.underlying62
  a23 := Try.isAgg62
  z23 := Try.sizeOf62
  v23 := Try.zeroValue62
  t26 := Try.underlying3
  a26 := Try.isAgg3
  z26 := Try.sizeOf3
  v26 := Try.zeroValue3
  t27 := Try.underlying64
  a27 := Try.isAgg64
  z27 := Try.sizeOf64
  v27 := Try.zeroValue64
  t28 := Try.underlying65
  a28 := Try.isAgg65
  z28 := Try.sizeOf65
  v28 := Try.zeroValue65
  t33 := Try.underlying77
  a33 := Try.isAgg77
  z33 := Try.sizeOf77
  v33 := Try.zeroValue77 }
def Try.sortedA_ren : Go.Shelf.Ren := ⟨fun | 6 => 16 | 8 => 27 | 9 => 28 | 11 => 48 | 13 => 50 | 12 => 49 | 23 => 72 | 24 => 73 | 14 => 63 | 15 => 64 | 16 => 65 | 17 => 66 | 18 => 67 | 19 => 68 | 20 => 69 | 21 => 70 | 22 => 71 | 25 => 89 | 26 => 90 | 27 => 91 | 28 => 92 | 29 => 93 | 30 => 62 | 31 => 99 | n => n, fun | 26 => 3 | 28 => 65 | 24 => 34 | 0 => 0 | 3 => 3 | 37 => 95 | 48 => 116 | 50 => 30 | 4 => 4 | 40 => 108 | 39 => 107 | 45 => 113 | 5 => 5 | 9 => 9 | 51 => 129 | 55 => 133 | 57 => 137 | 58 => 138 | 33 => 77 | n => n, fun | n => n⟩
theorem Try.sortedA : Go.Proofs.SlLaysZI.n6 Try.prog Try.sortedA_ren := {
  mixed := by kernel_rfl
  f6 := ⟨Try.f16.name, by decide, Try.func16.trans (congrArg some (by kernel_rfl))⟩
  f8 := ⟨Try.f27.name, by decide, Try.func27.trans (congrArg some (by kernel_rfl))⟩
  f11 := ⟨Try.f48.name, by decide, Try.func48.trans (congrArg some (by kernel_rfl))⟩
  t0 := Try.underlying0
  a0 := Try.isAgg0
  z0 := Try.sizeOf0
  v0 := Try.zeroValue0
  t24 := Try.underlying34
  a24 := Try.isAgg34
  z24 := Try.sizeOf34
  v24 := Try.zeroValue34
  t26 := Try.underlying3
  a26 := Try.isAgg3
  z26 := Try.sizeOf3
  v26 := Try.zeroValue3
  t28 := Try.underlying65
  a28 := Try.isAgg65
  z28 := Try.sizeOf65
  v28 := Try.zeroValue65
  i26 := by kernel_rfl }
def Try.sortA_ren : Go.Shelf.Ren := ⟨fun | 5 => 28 | 8 => 50 | 7 => 49 | 19 => 72 | 20 => 73 | 10 => 63 | 11 => 64 | 12 => 65 | 13 => 66 | 14 => 67 | 15 => 68 | 16 => 69 | 17 => 70 | 18 => 71 | 30 => 89 | 31 => 90 | 32 => 91 | 33 => 92 | 34 => 93 | 35 => 62 | 40 => 99 | n => n, fun | 23 => 34 | 25 => 3 | 3 => 3 | 32 => 95 | 22 => 34 | 0 => 0 | 44 => 116 | 46 => 30 | 4 => 4 | 36 => 108 | 35 => 107 | 41 => 113 | 5 => 5 | 9 => 9 | 53 => 129 | 57 => 133 | 63 => 137 | 64 => 138 | n => n, fun | n => n⟩
theorem Try.sortA : Go.Proofs.SlLaysM.n5 Try.prog Try.sortA_ren := {
  mixed := by kernel_rfl
  f5 := ⟨Try.f28.name, by decide, Try.func28.trans (congrArg some (by kernel_rfl))⟩
  f7 := ⟨Try.f49.name, by decide, Try.func49.trans (congrArg some (by kernel_rfl))⟩
  f8 := Try.func50.trans (congrArg some (by kernel_rfl))
  f10 := ⟨Try.f63.name, by decide, Try.func63.trans (congrArg some (by kernel_rfl))⟩
  f11 := ⟨Try.f64.name, by decide, Try.func64.trans (congrArg some (by kernel_rfl))⟩
  f12 := ⟨Try.f65.name, by decide, Try.func65.trans (congrArg some (by kernel_rfl))⟩
  f13 := ⟨Try.f66.name, by decide, Try.func66.trans (congrArg some (by kernel_rfl))⟩
  f14 := ⟨Try.f67.name, by decide, Try.func67.trans (congrArg some (by kernel_rfl))⟩
  f15 := ⟨Try.f68.name, by decide, Try.func68.trans (congrArg some (by kernel_rfl))⟩
  f16 := ⟨Try.f69.name, by decide, Try.func69.trans (congrArg some (by kernel_rfl))⟩
  f17 := ⟨Try.f70.name, by decide, Try.func70.trans (congrArg some (by kernel_rfl))⟩
  f18 := ⟨Try.f71.name, by decide, Try.func71.trans (congrArg some (by kernel_rfl))⟩
  f19 := Try.func72.trans (congrArg some (by kernel_rfl))
  f20 := Try.func73.trans (congrArg some (by kernel_rfl))
  f30 := ⟨Try.f89.name, by decide, Try.func89.trans (congrArg some (by kernel_rfl))⟩
  f31 := Try.func90.trans (congrArg some (by kernel_rfl))
  f32 := Try.func91.trans (congrArg some (by kernel_rfl))
  f33 := ⟨Try.f92.name, by decide, Try.func92.trans (congrArg some (by kernel_rfl))⟩
  f34 := ⟨Try.f93.name, by decide, Try.func93.trans (congrArg some (by kernel_rfl))⟩
  f35 := ⟨Try.f62.name, by decide, Try.func62.trans (congrArg some (by kernel_rfl))⟩
  f40 := ⟨Try.f99.name, by decide, Try.func99.trans (congrArg some (by kernel_rfl))⟩
  t0 := Try.underlying0
  a0 := Try.isAgg0
  z0 := Try.sizeOf0
  v0 := Try.zeroValue0
  t3 := Try.underlying3
  a3 := Try.isAgg3
  z3 := Try.sizeOf3
  v3 := Try.zeroValue3
  t4 := Try.underlying4
  a4 := Try.isAgg4
  z4 := Try.sizeOf4
  v4 := Try.zeroValue4
  t5 := Try.underlying5
  a5 := Try.isAgg5
  z5 := Try.sizeOf5
  v5 := Try.zeroValue5
  t9 := Try.underlying9
  a9 := Try.isAgg9
  z9 := Try.sizeOf9
  v9 := Try.zeroValue9
  t22 := Try.underlying34
  a22 := Try.isAgg34
  z22 := Try.sizeOf34
  v22 := Try.zeroValue34
  t23 := Try.underlying34
  a23 := Try.isAgg34
  z23 := Try.sizeOf34
  v23 := Try.zeroValue34
  t25 := Try.underlying3
  a25 := Try.isAgg3
  z25 := Try.sizeOf3
  v25 := Try.zeroValue3
  t32 := Try.underlying95
  a32 := Try.isAgg95
  z32 := Try.sizeOf95
  v32 := Try.zeroValue95
  t35 := Try.underlying107
  a35 := Try.isAgg107
  z35 := Try.sizeOf107
  v35 := Try.zeroValue107
  t36 := Try.underlying108
  a36 := Try.isAgg108
  z36 := Try.sizeOf108
  v36 := Try.zeroValue108
  t41 := Try.underlying113
  a41 := Try.isAgg113
  z41 := Try.sizeOf113
  v41 := Try.zeroValue113
  t44 := Try.underlying116
  a44 := Try.isAgg116
  z44 := Try.sizeOf116
  v44 := Try.zeroValue116
  t46 := Try.underlying30
  a46 := Try.isAgg30
  z46 := Try.sizeOf30
  v46 := Try.zeroValue30
  t53 := Try.underlying129
  a53 := Try.isAgg129
  z53 := Try.sizeOf129
  v53 := Try.zeroValue129
  t57 := Try.underlying133
  a57 := Try.isAgg133
  z57 := Try.sizeOf133
  v57 := Try.zeroValue133
  t63 := Try.underlying137
  a63 := Try.isAgg137
  z63 := Try.sizeOf137
  v63 := Try.zeroValue137
  t64 := Try.underlying138
  a64 := Try.isAgg138
  z64 := Try.sizeOf138
  v64 := Try.zeroValue138 }
end Go.Proofs.Ytmdnohpolepcoaa

namespace Go.Proofs.Ytmdnohpolepcoaa
open Go.RowKit Go.Maps Go.Sort Go.Shelf
set_option linter.unusedSimpArgs false
set_option linter.unusedVariables false
set_option maxRecDepth 10000

def sortedS : Spec := fun args S => match args with
  | [.f (.func f) [] [.p i 0 0]] => match S[i]? with
    | some (.cells [.m j] 0 none true) => match S[j]? with
      | some (.map es clock) => match keysOf es with
        | some ks => if f = 29 ∧ ks.Nodup ∧ (es.map fun e => e.2.2).Nodup ∧ (∀ e ∈ es, e.2.2 < clock) ∧ es.length ≤ 1000000 ∧ (∀ k ∈ ks, -9223372036854775808 ≤ k ∧ k ≤ 9223372036854775807) then
            some (retX false S (isort ks), retM false (intE .i64) S (isort ks)) else none
        | none => none
      | _ => none
    | _ => none
  | _ => none
theorem sortsA (m : Nat) : AnyZI.SortsIn Try.prog Try.sortedA_ren Fence.wide m :=
  ⟨fun blk off cap ss W hH hblk hsz => callsIn_wide.2 (AnyM.slices_Sort_int Try.sortA blk off cap ss W hH hblk hsz),
   fun p cap W => callsIn_wide.2 (AnyM.slices_Sort_int_none Try.sortA p cap W)⟩
theorem isort_len (l : List Int) : (isort l).length = l.length := (isort_perm l).length_eq
theorem lit_i64 {k : Int} (h : -9223372036854775808 ≤ k ∧ k ≤ 9223372036854775807) : (Lit.int .i64 k).wf = true := by
  have h1 : IntKind.min .i64 = -9223372036854775808 := by decide
  have h2 : IntKind.max .i64 = 9223372036854775807 := by decide
  simp only [Lit.wf, h1, h2, Bool.and_eq_true, decide_eq_true_eq]
  exact h
/-- What the kit's sort answers at such a map. -/
theorem sorted_calls {w : World} {bx bm : Nat} {E : Array MapEntry} {clock : Nat} {ks : List Int} (hcell : w.cell? ⟨bx, 0, none⟩ = some (.map (some bm))) (hbx : bx < w.heap.size) (hE : w.heap[bm]? = some (.map E clock))
    (hk : E.toList.map (fun e => e.key) = ks.map encZ) (hnd : ks.Nodup) (hbn : (E.toList.map fun e => e.born).Nodup) (hbl : ∀ e ∈ E.toList, e.born < clock) (hlen : E.size ≤ 1000000) (hrg : ∀ k ∈ ks, -9223372036854775808 ≤ k ∧ k ≤ 9223372036854775807) :
    Calls Try.prog 16 #[.func (.func 29) #[] #[.pointer (some ⟨bx, 0, none⟩)]] w fun e w' => ∃ v : Value, e = .returned v ∧
      w'.ownsRow w.heap.size (Try.sortedA_ren.t 26) 1 v ks.length ((isort ks).map encZ) ∧ (v = .slice none 0 0 ↔ ks = []) ∧ Below w.heap.size w w' := by
  obtain ⟨R, hR⟩ : ∃ R : Value → Option (DataW Unit × List MemPlace), ∀ v, R v = some (.nil, []) := ⟨fun _ => some (.nil, []), fun _ => rfl⟩
  have hrd : ∀ x ∈ E.toList, ∃ k, k ∈ ks ∧ WideElems.rd Try.prog (Try.keysA_ren.t 26) R x = some (.int .i64 k, .nil) ∧ x.key = encZ k := by
    intro x hx
    have h1 : x.key ∈ E.toList.map (fun e => e.key) := List.mem_map.2 ⟨x, hx, rfl⟩
    rw [hk] at h1
    obtain ⟨k, hk1, hk2⟩ := List.mem_map.1 h1
    refine ⟨k, hk1, ?_, hk2.symm⟩
    obtain ⟨key, val, born⟩ := x
    simp only at hk2
    subst hk2
    exact WideElems.rd_mk (yv := (.nil, [])) (keyOf_int_mk Try.keysA.t26 (lit_i64 (hrg k hk1))) (hR _)
  have hF : WideElems.Fit Try.prog (Try.keysA_ren.t 26) R E clock := by
    refine ⟨Nat.le_trans hlen (by decide), ⟨hbl, hbn, ?_⟩, fun x hx => ?_⟩
    · rw [hk]
      exact List.Pairwise.map _ (fun a b hab e => hab (encZ_inj e)) hnd
    · obtain ⟨k, _, h, _⟩ := hrd x hx; exact ⟨_, h⟩
  have hown : w.ownsMap Try.prog (Try.keysA_ren.t 26) R bm E.size (.map ((E.toList.map (WideElems.rg Try.prog (Try.keysA_ren.t 26) R)).foldr DataW.insert [])) := ⟨E, clock, hE, hF, Nat.le_refl _, rfl⟩
  have hpm := WideShapes.sorted_perm (E.toList.map (WideElems.rg Try.prog (Try.keysA_ren.t 26) R))
  have hsize : Maps.size (DataW.map ((E.toList.map (WideElems.rg Try.prog (Try.keysA_ren.t 26) R)).foldr DataW.insert [])) = E.size := by
    show List.length _ = _
    rw [hpm.length_eq, List.length_map]; simp
  have hkeys : (intKeys (DataW.map ((E.toList.map (WideElems.rg Try.prog (Try.keysA_ren.t 26) R)).foldr DataW.insert []))).Perm ks := by
    show (List.map _ _).Perm _
    refine (hpm.map _).trans ?_
    rw [List.map_map]
    have : E.toList.map ((fun p : Lit × DataW Unit => Go.intOf p.1) ∘ WideElems.rg Try.prog (Try.keysA_ren.t 26) R) = ks := by
      have e1 : ks = (E.toList.map (fun e => e.key)).map (fun v => match v with | .int _ n => n | _ => 0) := by
        rw [hk, List.map_map]
        exact ((List.map_congr_left (g := id) fun a _ => rfl).trans (List.map_id _)).symm
      rw [e1, List.map_map]
      refine List.map_congr_left fun x hx => ?_
      obtain ⟨k, _, h, hq⟩ := hrd x hx
      simp only [Function.comp, WideElems.rg_of h, hq, Go.intOf, encZ]
    rw [this]
  have hseq := AnyZI.keys_gives (ρ := Try.keysA_ren) { Try.keysA with } Fence.wide 2 trivial rfl (by omega) bx bm E.size _ w hbx hcell hown
  have cS := AnyZI.sorted_in Try.sortedA Fence.wide 5 trivial trivial trivial trivial rfl (by omega) (sortsA _) (enters_of Try.func28 (by kernel_rfl) rfl) 29 #[.pointer (some ⟨bx, 0, none⟩)] trivial (enters_of Try.func29 (by kernel_rfl) rfl) _ (Maps.size _) (by rw [hsize]; exact Nat.le_trans hlen (by decide)) (by rw [hsize]; omega) w hseq
  have cS' : CallsIn Fence.wide 5 Try.prog 16 #[.func (.func 29) #[] #[.pointer (some ⟨bx, 0, none⟩)]] w _ := cS
  refine ((callsIn_wide (n := 5)).1 cS').mono fun e w' hp => ?_
  obtain ⟨v, ss, rfl, hperm, hrow, hnil, hb⟩ := hp
  have hp2 := hperm.trans hkeys
  refine ⟨v, rfl, ?_, ?_, hb⟩
  · rw [← merge_isort hp2, ← hp2.length_eq]; exact hrow
  · rw [hnil]
    constructor
    · rintro rfl; exact List.nil_perm.1 hp2
    · rintro rfl; exact List.perm_nil.1 hp2
theorem sorted_ok : SpecOK Try.prog 16 sortedS := by
  intro args S x S' h
  unfold sortedS at h
  split at h
  · rename_i f i
    split at h
    · rename_i j hBi
      split at h
      · rename_i es clock hBj
        split at h
        · rename_i ks hks
          split at h
          · rename_i hc
            obtain ⟨rfl, hnd, hbn, hbl, hlen, hrg⟩ := hc
            simp only [Option.some.injEq, Prod.mk.injEq] at h
            obtain ⟨rfl, rfl⟩ := h
            refine ⟨by kernel_rfl, fun base w0 K w vs hΛ hA hS => ?_⟩
            obtain ⟨v1, hvs⟩ : ∃ v1, vs.toList = [v1] := by
              match hh : vs.toList, hA.1 with
              | [p], _ => exact ⟨p, rfl⟩
            rw [hvs] at hA
            have q1 : VR K S (.f (.func 29) [] [.p i 0 0]) v1 := hA.2 0 (by simp) (by simp)
            have hvs' : vs = #[v1] := by rw [← Array.toArray_toList (xs := vs), hvs]
            subst hvs'
            cases q1 with
            | f _ _ _ x' y' hx hy hhx hhy =>
              have hx0 : x' = #[] := Array.eq_empty_of_size_eq_zero hx.symm
              subst hx0
              obtain ⟨vp, rfl⟩ : ∃ vp, y' = #[vp] := by
                obtain ⟨l⟩ := y'
                match l, hy with
                | [p], _ => exact ⟨p, rfl⟩
              have qp : VR K S (.p i 0 0) vp := hhy 0
              cases qp with
              | p _ _ _ a B h1 h2 h3 =>
                rw [hBi] at h1; injection h1 with h1; subst h1
                obtain rfl := h3 rfl
                obtain ⟨xc, hcell, hxc⟩ := hS.load hBi (k := 0) (by simp)
                have hxc : VR K S (.m j) xc := hxc
                obtain ⟨E, m1, m2, m3, m4⟩ := hS.blk j _ hBj
                obtain ⟨k1, k2⟩ := keysOf_len hks
                cases hxc with
                | m _ r B2 n1 n2 =>
                  rw [hBj] at n1; injection n1 with n1; subst n1
                  obtain rfl := n2 rfl
                  have hbi : K.μ i < w.heap.size := (hS.blk i _ hBi).lt
                  have hkk : E.toList.map (fun e => e.key) = ks.map encZ := by
                    refine List.ext_getElem (by simp [k1, m2]) fun k hk1 hk2 => ?_
                    have hke : k < es.length := by rw [m2]; simpa using hk1
                    have hkE : k < E.size := by simpa using hk1
                    have hq := (m4 k hke hkE).1
                    rw [k2 k hke (by simpa using hk2)] at hq
                    rw [List.getElem_map, List.getElem_map, Array.getElem_toList]
                    generalize hv : (E[k]).key = kv at hq ⊢
                    cases hq; rfl
                  have hbb : E.toList.map (fun e => e.born) = es.map (fun e => e.2.2) := by
                    refine List.ext_getElem (by simp [m2]) fun k hk1 hk2 => ?_
                    have hke : k < es.length := by simpa using hk2
                    have hkE : k < E.size := by simpa using hk1
                    rw [List.getElem_map, List.getElem_map, Array.getElem_toList]
                    exact (m4 k hke hkE).2.2.symm
                  have hbl' : ∀ e ∈ E.toList, e.born < clock := by
                    intro e he
                    have h1 : e.born ∈ E.toList.map (fun e => e.born) := List.mem_map.2 ⟨e, he, rfl⟩
                    rw [hbb] at h1
                    obtain ⟨e', he', h2⟩ := List.mem_map.1 h1
                    rw [← h2]; exact hbl e' he'
                  refine (sorted_calls (ks := ks) hcell hbi m1 hkk hnd (by rw [hbb]; exact hbn) hbl' (by rw [← m2]; exact hlen) hrg).mono fun e w' hp => ?_
                  obtain ⟨v, rfl, hrow, hnil, hb⟩ := hp
                  obtain ⟨s1, s2⟩ := hS.later hb
                  rcases hrow with ⟨hl, ⟨rfl, h0⟩ | ⟨g, cap, cur, rfl, hbase, hg, hn, hcm, hcs, htk⟩⟩
                  · have hks0 : ks = [] := List.eq_nil_of_length_eq_zero h0
                    subst hks0
                    exact ⟨K, _, rfl, .sn, s1, s2⟩
                  · have hne : ks ≠ [] := fun e0 => by simpa using hnil.2 e0
                    have hie : isort ks ≠ [] := fun e0 => by
                      have := isort_len ks
                      rw [e0] at this
                      exact hne (List.eq_nil_of_length_eq_zero this.symm)
                    obtain ⟨r1, r2⟩ := hS.comes hb hbase (n := cur.size) (.cells ((isort ks).flatMap (intE .i64).enc) 0 (some 1) true) fun K' S' hE hμ hσ => by
                      have hlf : ((isort ks).flatMap (intE .i64).enc).length = ks.length := by rw [enc_length, isort_len]; exact Nat.mul_one _
                      refine ⟨cur, _, _, by rw [hμ]; exact hg, hσ.symm, by rw [hlf]; omega, fun q => (by cases q), fun k hk => ?_, fun _ => ⟨by rw [hμ]; exact Nat.le_trans hS.hb hbase, fun o _ => by simp⟩⟩
                      rw [hlf] at hk
                      have hkc : k < cur.size := by omega
                      have e1 : ((isort ks).flatMap (intE .i64).enc).getD k .u = .i .i64 ((isort ks)[k]'(by rw [isort_len]; exact hk)) := by
                        have : (isort ks).flatMap (intE .i64).enc = (isort ks).map (AV.i .i64) := by
                          generalize isort ks = l
                          induction l with
                          | nil => rfl
                          | cons a l ih => rw [List.flatMap_cons, ih]; rfl
                        rw [this, List.getD_eq_getElem?_getD, List.getElem?_map, List.getElem?_eq_getElem (by rw [isort_len]; exact hk)]; rfl
                      have e2 : cur.getD k undef = encZ ((isort ks)[k]'(by rw [isort_len]; exact hk)) := by
                        have h1 : (cur.toList.take (ks.length * 1))[k]? = some (encZ ((isort ks)[k]'(by rw [isort_len]; exact hk))) := by
                          rw [htk, List.getElem?_map, List.getElem?_eq_getElem (by rw [isort_len]; exact hk)]; rfl
                        rw [List.getElem?_take, if_pos (by omega)] at h1
                        rw [Array.getD_eq_getD_getElem?, ← Array.getElem?_toList, h1]; rfl
                      rw [e1, e2]
                      exact .i ..
                    obtain ⟨a, l, hal⟩ := List.exists_cons_of_ne_nil hie
                    have hx : retX false S (isort ks) = .sl S.length 0 0 ks.length ks.length false := by
                      rw [← isort_len ks, hal]; rfl
                    have hm : retM false (intE .i64) S (isort ks) = S ++ [.cells ((isort ks).flatMap (intE .i64).enc) 0 (some 1) true] := by
                      rw [hal]; rfl
                    rw [hx, hm]
                    refine ⟨_, _, rfl, ?_, r1, r2⟩
                    refine .sl _ _ _ _ _ _ _ _ (.cells ((isort ks).flatMap (intE .i64).enc) 0 (some 1) true) (by simp) (Nat.le_refl _) (Nat.le_refl _) hn (fun q => by cases q) fun _ => ⟨?_, fun _ => ⟨1, rfl, ?_⟩⟩
                    · rw [(K.put_same _ _ _).1]
                    · rw [(K.put_same _ _ _).2]; omega
          · cases h
        · cases h
      · cases h
    · cases h
  · cases h
end Go.Proofs.Ytmdnohpolepcoaa

namespace Go.Proofs.Ytmdnohpolepcoaa
open Go.RowKit
set_option linter.unusedSimpArgs false
set_option linter.unusedVariables false
set_option maxRecDepth 10000

def Chg.enc (c : Chg) : List AV := [.i .i64 c.pol.sub, .i .u8 c.pol.a, .i .u8 c.pol.b, .i .u8 c.pol.c, .i .u8 c.pol.d, .i .i64 c.pol.bits, .i .u64 c.pol.rate, .i .u64 c.pol.burst, .i .u64 c.pol.srate, .i .u64 c.pol.sburst, .i .u64 c.pol.quota, .i .u64 c.pol.lease, .i .u64 c.pol.quantum, .b c.put]
def chgE : Enc Chg where
  enc := Chg.enc
  dec r := match r with
    | [.i .i64 sub, .i .u8 a, .i .u8 b, .i .u8 c, .i .u8 d, .i .i64 bits, .i .u64 rate, .i .u64 burst, .i .u64 srate, .i .u64 sburst, .i .u64 quota, .i .u64 lease, .i .u64 quantum, .b p] => some ⟨p, ⟨sub, a, b, c, d, bits, rate, burst, srate, sburst, quota, lease, quantum⟩⟩
    | _ => none
  sz := 14
  pos := by decide
  len _ := rfl
  de _ := rfl
  ed r a h := by
    split at h
    · injection h with h; subst h; rfl
    · cases h
theorem chgE_one (c : Chg) : (chgE.enc c).all AV.one = true := rfl
theorem chg_dec (c : Chg) : chgE.dec c.enc = some c := rfl

/-! ### A Txn in memory -/
def TL (M : Mem) (x : AV) (j : Nat) (l : List Chg) : Prop := (l = [] ∧ x = .sn) ∨ (l ≠ [] ∧ ∃ v, x = .sl j 0 v l.length l.length false ∧ M[j]? = some (.cells (l.flatMap chgE.enc) v (some 14) true))
/-- At block it a Txn that holds changes (in block j), both not below b. -/
def TAt (b : Nat) (M : Mem) (it j : Nat) (l : List Chg) : Prop := b ≤ it ∧ (l ≠ [] → b ≤ j) ∧ ∃ x, M[it]? = some (.cells [x] 0 none true) ∧ TL M x j l
theorem TL.lst {M : Mem} {x : AV} {j : Nat} {l : List Chg} (h : TL M x j l) : lstV chgE M x = some l := by
  rcases h with ⟨rfl, rfl⟩ | ⟨h0, v, rfl, hB⟩
  · rfl
  · refine lst_lstV (.inr (.inr ⟨_, _, _, _, _, _, rfl, rfl, ?_⟩))
    rw [rowAt_B, hB, rowB_some, if_pos (by rw [enc_length]; show 0 + _ * 14 ≤ _ * 14; omega), List.drop_zero, ← enc_length, List.take_length]
theorem TL.extM {M M' : Mem} {x : AV} {j : Nat} {l : List Chg} (h : TL M x j l) (hM : ∀ B, l ≠ [] → M[j]? = some B → M'[j]? = some B) : TL M' x j l := by
  rcases h with h | ⟨h0, v, hx, hB⟩
  · exact .inl h
  · exact .inr ⟨h0, v, hx, hM _ h0 hB⟩
theorem TAt.keep {b it j : Nat} {M M' : Mem} {l : List Chg} (h : TAt b M it j l) (h1 : ∀ B, M[it]? = some B → M'[it]? = some B) (h2 : ∀ B, l ≠ [] → M[j]? = some B → M'[j]? = some B) : TAt b M' it j l := by
  obtain ⟨hb, hj, x, hx, hl⟩ := h
  exact ⟨hb, hj, x, h1 _ hx, hl.extM h2⟩
theorem TAt.ext {b it j : Nat} {M M' : Mem} {l : List Chg} (h : TAt b M it j l) (hM : M <+: M') : TAt b M' it j l := h.keep (fun B hB => at_pre hM hB) fun B _ hB => at_pre hM hB
/-- A change more. -/
theorem TL.app {M : Mem} {x : AV} {j it : Nat} {l : List Chg} (h : TL M x j l) (hl : l.length < 1000) (c : Chg) (hit : ∃ y, M[it]? = some (.cells [y] 0 none true)) :
    ∃ x' M' j', appV M 14 88 x c.enc 1 = some (x', M') ∧ TL M' x' j' (l ++ [c]) ∧ (l ≠ [] → j' = j) ∧ (l = [] → M.length ≤ j') ∧ M.length ≤ M'.length ∧ j' ≠ it ∧ (∀ (ib : Nat) (B : Blk), M[ib]? = some B → (l = [] ∨ ib ≠ j) → M'[ib]? = some B) ∧ M'[it]? = M[it]? := by
  obtain ⟨y, hit⟩ := hit
  rcases h with ⟨rfl, rfl⟩ | ⟨h0, v, rfl, hB⟩
  · refine ⟨_, _, M.length, app_sn (by omega) (by omega) (by omega), .inr ⟨by simp, 0, rfl, ?_⟩, fun q => absurd rfl q, fun _ => Nat.le_refl _, by simp, ?_, fun ib B hB _ => at_old hB, at_old hit ▸ hit.symm⟩
    · rw [at_app0]; simp [chgE]
    · have := (List.getElem?_eq_some_iff.1 hit).1
      omega
  · have hjl := (List.getElem?_eq_some_iff.1 hB).1
    have hne : j ≠ it := fun e => by
      rw [← e, hB] at hit
      injection hit with hit
      injection hit with _ _ q _
      cases q
    refine ⟨.sl j 0 (v + 1) (l.length + 1) (l.length + 1) false, M.set j (.cells (l.flatMap chgE.enc ++ c.enc) (v + 1) (some 14) true), j, ?_, .inr ⟨by simp, v + 1, by simp, ?_⟩, fun _ => rfl, fun q => absurd q h0, by simp, hne, fun ib B hb q => ?_, ?_⟩
    · simp only [appV]
      rw [if_neg (by omega), if_neg (by omega), if_pos ⟨by unfold lim; omega, by unfold lim; omega⟩]
      simp only [hB, Bool.false_eq_true, if_false]
      rw [if_pos ⟨trivial, trivial, trivial, by rw [enc_length]; exact Nat.le_refl _, chgE_one c⟩]
      have : (l.flatMap chgE.enc).take (l.length * 14) = l.flatMap chgE.enc := by
        rw [List.take_of_length_le]; rw [enc_length]; exact Nat.le_refl _
      rw [this]
    · rw [List.flatMap_append]; simp [hjl, chgE]
    · rw [List.getElem?_set_ne (Ne.symm (q.resolve_left h0))]; exact hb
    · rw [List.getElem?_set_ne hne]

/-! ### New, Len -/
def tnewS : Spec := fun args S => match args with
  | [] => some (.p S.length 0 0, S ++ [.cells [.sn] 0 none true])
  | _ => none
theorem tnew_ok : SpecOK Try.prog 6 tnewS := by
  intro args S x S' h
  unfold tnewS at h
  split at h
  · cases h
    refine fn_of_wp f6 rfl (W_sound none_ok mixed _ _ _ _ _ ?_)
    simp (maxSteps := 1000000) (disch := omega) only [c6, go_sem]
    exact wkv_same
  · cases h
theorem wp_ls {P : Program} {O : Orc} {S0 : Mem} {rd : Bool} {e : Env} {S : Mem} {d : List Nat} {Q : Kont} (hO : OK P (lamOf P) O) (hmix : P.follows .mixedOrders = true) {l : List Nat} {a b : ICode} (h : W P O S0 rd a (keepE e l) S d (seqK (WP P S0 rd b) Q)) : WP P S0 rd (.live l (.seq a b)) e S d Q :=
  wp_live (wp_seq (W_sound hO hmix _ _ _ _ _ h))
/-- A drawn region whose operations turn blocks that are there. -/
theorem wp_drawK {P : Program} {O : Orc} {S0 : Mem} {rd : Bool} {e : Env} {S : Mem} {d : List Nat} {Q : Kont} (hO : OK P (lamOf P) O) (hmix : P.follows .mixedOrders = true) {st : List Stage} {late : List Nat} (h : drawK (evDraw O st late e S) (normK Q d)) : WP P S0 rd (.draw st late) e S d Q := by
  unfold drawK at h
  split at h
  · rename_i p hp; exact wp_draw hO hmix hp h
  · exact h.elim
theorem appV_sl {S M : Mem} {sz by' : Nat} {x x' : AV} {cs : List AV} (h : appV S sz by' x cs 1 = some (x', M)) : ∃ i o v l c ex, x' = .sl i o v l c ex := by
  unfold appV at h
  split at h
  · rw [if_neg (by decide)] at h
    split at h
    · cases h; exact ⟨_, _, _, _, _, _, rfl⟩
    · cases h
  · rw [if_neg (by decide)] at h; cases h
  · rw [if_neg (by decide)] at h
    split at h
    · split at h
      · split at h
        · cases h; exact ⟨_, _, _, _, _, _, rfl⟩
        · cases h
      · cases h
    · split at h
      · split at h
        · split at h
          · cases h; exact ⟨_, _, _, _, _, _, rfl⟩
          · cases h
        · split at h
          · split at h
            · cases h; exact ⟨_, _, _, _, _, _, rfl⟩
            · cases h
          · cases h
      · cases h
  · cases h
def taddS : Spec := fun args S => match args with
  | [.p it 0 0, .ag cs] => match S[it]?, chgE.dec cs with
    | some (.cells [x] 0 none true), some c => match lstV chgE S x with
      | some l => if 64 ≤ l.length then some (.i .i64 161, S) else match appV (S ++ [.cells cs 0 none true, .cells cs 0 none true]) 14 88 x cs 1 with
        | some (x', M') => match M'[it]? with
          | some (.cells [_] 0 none true) => some (.i .i64 0, M'.set it (.cells [x'] 0 none true))
          | _ => none
        | none => none
      | none => none
    | _, _ => none
  | _ => none
theorem tadd_ok : SpecOK Try.prog 15 taddS := by
  intro args S x S' h
  unfold taddS at h
  split at h
  · rename_i it cs
    split at h
    · rename_i y c hB hd
      have hcs := chgE.ed _ _ hd
      subst hcs
      split at h
      · rename_i l hl
        have hc : cellB (S[it]?) 0 0 = some y := by rw [hB]; rfl
        have hcL : ∀ L, cellB ((S ++ L)[it]?) 0 0 = some y := fun L => by rw [at_old hB]; rfl
        have hlt : it < S.length := (List.getElem?_eq_some_iff.1 hB).1
        refine fn_of_wp f15 rfl (wp_seq (W_sound none_ok mixed _ _ _ _ _ ?_))
        simp (maxSteps := 1000000) (disch := omega) only [chgE, Chg.enc, go_sem]
        split at h
        · rename_i h64
          cases h
          refine wp_ls none_ok mixed ?_
          have h64 : (64 : Int) ≤ (l.length : Int) := by omega
          simp (maxSteps := 1000000) (disch := omega) only [c15, hcL, lst_len hl, h64, go_sem]
          exact wkv_drop rfl
        · rename_i h64
          split at h
          · rename_i x' M' ha
            split at h
            · rename_i y' hB'
              cases h
              have h64 : ¬ (64 : Int) ≤ (l.length : Int) := by omega
              refine wp_ls none_ok mixed ?_
              simp (maxSteps := 1000000) (disch := omega) only [c15, hcL, lst_len hl, h64, go_sem]
              refine wp_live (wp_seq (wp_drawK none_ok mixed ?_))
              simp only [chgE, Chg.enc] at ha
              have hv := eqv_lst hl
              obtain ⟨i1, o1, v1, l1, c1, ex1, rfl⟩ := appV_sl ha
              refine draw_of ?_
              simp (maxSteps := 1000000) (disch := omega) only [c15d0, hcL, ha, hB', hv, AV.cells, dNs_nil, dNs_cons, dnK_some, dnK_none, dOpt_none, dOpt_some, doK_some, doK_none, dStages_nil, dStages_cons, s1K_app, s2K_app, s3K_app, s4K_app, dEnd_app, evOne_op, evOne_gd, evG_tt, evG_tf, evG_ft, evG_ff, evG_ud, kSt_nil, kSt_cons, kNs_nil, kNs_cons, kN_zero, kN_succ, kA_some, eqK_some, eqK_none, kOpt_none, kOpt_some, kLike_nil, kLike_cons, ROp.use, IOp.use, IO'.use, X.use, dstL_none, dstL_some, List.flatMap_cons, List.flatMap_nil, eqv_m, eqv_p, eqv_i, eqv_b, eqv_sl, eqv_sn, eqv_pn, eqv_ud, eqv_u, eqv_mn, eqv_ag, eqvL_cons, eqvL_nil, eqv_tu, Bool.and_true, Bool.true_and, Bool.and_self, Nat.le_refl, Nat.reduceLeDiff, and_self, and_true, true_and, go_sem]
              refine W_sound none_ok mixed _ _ _ _ _ ?_
              simp (maxSteps := 1000000) (disch := omega) only [go_sem]
              exact wkv_same
            · cases h
          · cases h
      · cases h
    · cases h
  · cases h
theorem add_call {b it j : Nat} {M : Mem} {l : List Chg} (h : TAt b M it j l) (hbM : b ≤ M.length) (hl : l.length < 64) (c : Chg) :
    ∃ M' j', taddS [.p it 0 0, .ag c.enc] M = some (.i .i64 0, M') ∧ TAt b M' it j' (l ++ [c]) ∧ (l ≠ [] → j' = j) ∧ (l = [] → M.length ≤ j') ∧ M.length ≤ M'.length ∧
      ∀ (ib : Nat) (B : Blk), M[ib]? = some B → ib ≠ it → (l = [] ∨ ib ≠ j) → M'[ib]? = some B := by
  obtain ⟨hb, hj, x, hx, hL⟩ := h
  have hxl := (List.getElem?_eq_some_iff.1 hx).1
  obtain ⟨U, hU⟩ : ∃ U, U = M ++ [.cells c.enc 0 none true, .cells c.enc 0 none true] := ⟨_, rfl⟩
  have hxU : U[it]? = some (.cells [x] 0 none true) := by rw [hU]; exact at_old hx
  have hLU : TL U x j l := hL.extM fun B _ hB => by rw [hU]; exact at_old hB
  obtain ⟨x', M', j', ha, h1, h2, h3, h4, h5, h6, h7⟩ := hLU.app (by omega) c ⟨x, hxU⟩
  have hUl : U.length = M.length + 2 := by rw [hU]; simp
  refine ⟨M'.set it (.cells [x'] 0 none true), j', ?_, ⟨hb, fun _ => ?_, x', ?_, ?_⟩, h2, fun q => by have := h3 q; omega, by rw [List.length_set]; omega, fun ib B hB hne hq => ?_⟩
  · simp only [taddS, hx, chg_dec, hL.lst]
    rw [if_neg (by omega), ← hU]
    simp only [ha, h7, hxU]
  · by_cases q : l = []
    · have := h3 q; omega
    · rw [h2 q]; exact hj q
  · rw [List.getElem?_set_self (by omega)]
  · refine h1.extM fun B _ hB => ?_
    rw [List.getElem?_set_ne (Ne.symm h5)]; exact hB
  · rw [List.getElem?_set_ne (Ne.symm hne)]
    exact h6 ib B (by rw [hU]; exact at_old hB) hq

/-! ### Put, Drop -/
theorem oAdd_ok : OK Try.prog (lamOf Try.prog) (orcOf [(15, taddS)]) := orc_ok (by simpa using tadd_ok)
def tputS : Spec := fun args S => match args with
  | [.p it 0 0, .ag cs] => match polE.dec cs with
    | some p => taddS [.p it 0 0, .ag (Chg.enc ⟨true, p⟩)] (S ++ [.cells cs 0 none true])
    | none => none
  | _ => none
theorem tput_ok : SpecOK Try.prog 7 tputS := by
  intro args S x S' h
  unfold tputS at h
  split at h
  · rename_i it cs
    split at h
    · rename_i p hd
      have hcs := polE.ed _ _ hd
      subst hcs
      simp only [polE, Pol.enc, Chg.enc] at h
      refine fn_of_wp f7 rfl (W_sound oAdd_ok mixed _ _ _ _ _ ?_)
      simp (maxSteps := 1000000) (disch := omega) only [c7, orc_cons, polE, Pol.enc, h, go_sem]
      exact wkv_same
    · cases h
  · cases h
def subPol (n : Int) : Pol := ⟨n, 0, 0, 0, 0, 0, 0, 0, 0, 0, 0, 0, 0⟩
def tdropS : Spec := fun args S => match args with
  | [.p it 0 0, .i .i64 n] => taddS [.p it 0 0, .ag (Chg.enc ⟨false, subPol n⟩)] S
  | _ => none
theorem tdrop_ok : SpecOK Try.prog 9 tdropS := by
  intro args S x S' h
  unfold tdropS at h
  split at h
  · rename_i it n
    simp only [subPol, Chg.enc] at h
    refine fn_of_wp f9 rfl (W_sound oAdd_ok mixed _ _ _ _ _ ?_)
    simp (maxSteps := 1000000) (disch := omega) only [c9, orc_cons, h, go_sem]
    exact wkv_same
  · cases h
theorem tput_call {b it j : Nat} {M : Mem} {l : List Chg} (h : TAt b M it j l) (hbM : b ≤ M.length) (hl : l.length < 64) (p : Pol) :
    ∃ M' j', tputS [.p it 0 0, .ag p.enc] M = some (.i .i64 0, M') ∧ TAt b M' it j' (l ++ [⟨true, p⟩]) ∧ (l ≠ [] → j' = j) ∧ (l = [] → M.length ≤ j') ∧ M.length ≤ M'.length ∧
      ∀ (ib : Nat) (B : Blk), M[ib]? = some B → ib ≠ it → (l = [] ∨ ib ≠ j) → M'[ib]? = some B := by
  have hd : polE.dec p.enc = some p := rfl
  obtain ⟨M', j', h1, h2, h3, h4, h5, h6⟩ := add_call (h.ext (ext_app [.cells p.enc 0 none true])) (by simp; omega) hl ⟨true, p⟩
  simp only [List.length_append, List.length_singleton] at h4 h5
  refine ⟨M', j', ?_, h2, h3, fun q => by have := h4 q; omega, by omega, fun ib B hB => h6 ib B (at_old hB)⟩
  simp only [tputS, hd]
  exact h1
theorem tdrop_call {b it j : Nat} {M : Mem} {l : List Chg} (h : TAt b M it j l) (hbM : b ≤ M.length) (hl : l.length < 64) (n : Int) :
    ∃ M' j', tdropS [.p it 0 0, .i .i64 n] M = some (.i .i64 0, M') ∧ TAt b M' it j' (l ++ [⟨false, subPol n⟩]) ∧ (l ≠ [] → j' = j) ∧ (l = [] → M.length ≤ j') ∧ M.length ≤ M'.length ∧
      ∀ (ib : Nat) (B : Blk), M[ib]? = some B → ib ≠ it → (l = [] ∨ ib ≠ j) → M'[ib]? = some B := add_call h hbM hl _
end Go.Proofs.Ytmdnohpolepcoaa

namespace Go.Proofs.Ytmdnohpolepcoaa
open Go.RowKit
set_option linter.unusedSimpArgs false
set_option linter.unusedVariables false
set_option maxRecDepth 10000

def entsC (b : Nat) : List Chg → List (AV × AV × Nat)
  | [] => []
  | c :: r => (.i .i64 c.sub, .ag c.enc, b) :: entsC (b + 1) r
theorem entsC_length : ∀ (b : Nat) (l : List Chg), (entsC b l).length = l.length
  | _, [] => rfl
  | b, c :: r => by simp [entsC, entsC_length (b + 1) r]
theorem entsC_append : ∀ (b : Nat) (l : List Chg) (c : Chg), entsC b (l ++ [c]) = entsC b l ++ [(.i .i64 c.sub, .ag c.enc, b + l.length)]
  | b, [], c => by simp [entsC]
  | b, d :: r, c => by
    simp only [List.cons_append, entsC, entsC_append (b + 1) r c, List.length_cons]
    rw [show b + 1 + r.length = b + (r.length + 1) by omega]
theorem entsC_at : ∀ (b : Nat) (l : List Chg) (j : Nat) (hj : j < l.length), (entsC b l)[j]? = some (.i .i64 l[j].sub, .ag l[j].enc, b + j)
  | b, c :: r, 0, _ => rfl
  | b, c :: r, j + 1, h => by
    simp only [entsC, List.getElem?_cons_succ, entsC_at (b + 1) r j (by simpa using h), List.getElem_cons_succ]
    rw [show b + 1 + j = b + (j + 1) by omega]
theorem entsC_set : ∀ (b : Nat) (l : List Chg) (j : Nat) (c : Chg), (entsC b l).set j (.i .i64 c.sub, .ag c.enc, b + j) = entsC b (l.set j c)
  | b, [], j, c => rfl
  | b, d :: r, 0, c => rfl
  | b, d :: r, j + 1, c => by
    have := entsC_set (b + 1) r j c
    rw [show b + 1 + j = b + (j + 1) by omega] at this
    simp only [entsC, List.set_cons_succ, this]
theorem findC : ∀ (b i : Nat) (l : List Chg) (n : Int), findK false [.int] [.i .i64 n] (entsC b l) i = some ((l.findIdx? (sameSub n)).map (i + ·))
  | b, i, [], n => rfl
  | b, i, d :: r, n => by
    rw [List.findIdx?_cons]
    simp only [entsC, findK, key_i, eq_key]
    by_cases e : n = d.sub
    · have hs : sameSub n d = true := decide_eq_true e.symm
      rw [decide_eq_true e, hs]; rfl
    · have hs : sameSub n d = false := decide_eq_false (Ne.symm e)
      rw [decide_eq_false e, hs, findC (b + 1) (i + 1) r n]
      simp only [Bool.false_eq_true, if_false, Option.map_map]
      congr 2
      funext k
      simp only [Function.comp]; omega
/-- A map with one more, or with another in its place. -/
def updC (l : List Chg) (c : Chg) : List Chg := match l.findIdx? (sameSub c.sub) with
  | some j => l.set j c
  | none => l ++ [c]
theorem mupd_eq {S : Mem} {im : Nat} {l : List Chg} (hB : S[im]? = some (.map (entsC 0 l) l.length)) (c : Chg) :
    mupdV S false [.int] (.m im) (.i .i64 c.sub) (.ag c.enc) = some (S.set im (.map (entsC 0 (updC l c)) (updC l c).length)) := by
  simp only [mupdV, key_i, hB, findC]
  unfold updC
  cases h : l.findIdx? (sameSub c.sub) with
  | none =>
    simp only [Option.map_none, entsC_append, List.length_append, List.length_singleton, Nat.zero_add]
  | some j =>
    obtain ⟨hj, hs, _⟩ := List.findIdx?_eq_some_iff_getElem.1 h
    have he := entsC_at 0 l j hj
    simp only [Option.map_some, Nat.zero_add, he, List.length_set]
    rw [show j = 0 + j by omega, ← entsC_set]
    simp only [Nat.zero_add]
theorem mlookC_eq {S : Mem} {im cl : Nat} {l : List Chg} {z : AV} (hB : S[im]? = some (.map (entsC 0 l) cl)) (ho : OnceK Chg.sub l) {c : Chg} (hc : c ∈ l) :
    mlookV S false [.int] z false (.m im) (.i .i64 c.sub) = some (.ag c.enc) := by
  simp only [mlookV, key_i, mapOf, hB, findC]
  cases h : l.findIdx? (sameSub c.sub) with
  | none =>
    rw [List.findIdx?_eq_none_iff] at h
    have := h c hc
    simp [sameSub] at this
  | some j =>
    obtain ⟨hj, hs, _⟩ := List.findIdx?_eq_some_iff_getElem.1 h
    have he := entsC_at 0 l j hj
    have : l[j] = c := onceK_uniq ho (List.getElem_mem hj) hc (of_decide_eq_true hs)
    simp only [Option.map_some, Nat.zero_add, valAt, he, this]
    rfl
theorem updC_once {l : List Chg} (h : OnceK Chg.sub l) (c : Chg) : OnceK Chg.sub (updC l c) := by
  unfold updC
  cases hf : l.findIdx? (sameSub c.sub) with
  | none =>
    rw [List.findIdx?_eq_none_iff] at hf
    refine List.pairwise_append.2 ⟨h, List.pairwise_singleton .., fun d hd x hx => ?_⟩
    rw [List.mem_singleton] at hx; subst hx
    have := hf d hd
    simpa [sameSub] using this
  | some j =>
    obtain ⟨hj, hs, _⟩ := List.findIdx?_eq_some_iff_getElem.1 hf
    have hs : l[j].sub = c.sub := of_decide_eq_true hs
    have e : (l.set j c).map Chg.sub = l.map Chg.sub := by
      rw [List.map_set, ← hs]
      have : l[j].sub = (l.map Chg.sub)[j]'(by simpa using hj) := by simp
      rw [this, List.set_getElem_self]
    have h1 : (l.map Chg.sub).Pairwise (· ≠ ·) := List.pairwise_map.2 h
    rw [← e] at h1
    exact List.pairwise_map.1 h1
theorem updC_mem {l : List Chg} (h : OnceK Chg.sub l) {c x : Chg} : x ∈ updC l c ↔ x = c ∨ (x ∈ l ∧ x.sub ≠ c.sub) := by
  unfold updC
  cases hf : l.findIdx? (sameSub c.sub) with
  | none =>
    rw [List.findIdx?_eq_none_iff] at hf
    rw [List.mem_append, List.mem_singleton]
    constructor
    · rintro (hx | rfl)
      · exact .inr ⟨hx, by have := hf x hx; simpa [sameSub] using this⟩
      · exact .inl rfl
    · rintro (rfl | ⟨hx, _⟩)
      · exact .inr rfl
      · exact .inl hx
  | some j =>
    obtain ⟨hj, hs, _⟩ := List.findIdx?_eq_some_iff_getElem.1 hf
    have hs : l[j].sub = c.sub := of_decide_eq_true hs
    obtain ⟨a, d, b, rfl, rfl⟩ : ∃ a d b, l = a ++ d :: b ∧ j = a.length := ⟨l.take j, l[j], l.drop (j + 1), by rw [List.getElem_cons_drop, List.take_append_drop], by rw [List.length_take]; omega⟩
    have hd : d.sub = c.sub := by
      have : (a ++ d :: b)[a.length]'hj = d := by simp
      rw [this] at hs; exact hs
    obtain ⟨h1, h2, h3⟩ := List.pairwise_append.1 h
    have hset : (a ++ d :: b).set a.length c = a ++ c :: b := by simp
    simp only [hset]
    have ha : ∀ y ∈ a, y.sub ≠ c.sub := fun y hy => by rw [← hd]; exact h3 y hy d (List.mem_cons_self ..)
    have hb : ∀ y ∈ b, y.sub ≠ c.sub := fun y hy => by rw [← hd]; exact ((List.pairwise_cons.1 h2).1 y hy).symm
    simp only [List.mem_append, List.mem_cons]
    constructor
    · rintro (hx | rfl | hx)
      · exact .inr ⟨.inl hx, ha x hx⟩
      · exact .inl rfl
      · exact .inr ⟨.inr (.inr hx), hb x hx⟩
    · rintro (rfl | ⟨hx | rfl | hx, hne⟩)
      · exact .inr (.inl rfl)
      · exact .inl hx
      · exact absurd hd hne
      · exact .inr (.inr hx)
theorem keysOf_ents : ∀ (b : Nat) (l : List Chg), keysOf (entsC b l) = some (l.map Chg.sub)
  | _, [] => rfl
  | b, c :: r => by simp only [entsC, keysOf, keysOf_ents (b + 1) r, List.map_cons]
theorem born_ents : ∀ (b : Nat) (l : List Chg), (entsC b l).map (fun e => e.2.2) = List.range' b l.length
  | _, [] => rfl
  | b, c :: r => by simp only [entsC, List.map_cons, born_ents (b + 1) r, List.length_cons, List.range'_succ]
theorem born_nodup (l : List Chg) : ((entsC 0 l).map fun e => e.2.2).Nodup := by rw [born_ents]; exact List.nodup_range'
theorem born_lt (l : List Chg) : ∀ e ∈ entsC 0 l, e.2.2 < l.length := by
  intro e he
  have : e.2.2 ∈ (entsC 0 l).map fun e => e.2.2 := List.mem_map.2 ⟨e, he, rfl⟩
  rw [born_ents, List.mem_range'_1] at this
  omega
theorem once_nodup {l : List Chg} (h : OnceK Chg.sub l) : (l.map Chg.sub).Nodup := List.pairwise_map.2 h
theorem isort_seq {l cs : List Chg} (ho : OnceK Chg.sub cs) (hm : ∀ c, c ∈ cs ↔ c ∈ lasts l) : isort (cs.map Chg.sub) = (seqOf l).map Chg.sub := by
  have hr : ((seqOf l).map Chg.sub).Pairwise (· ≤ ·) := List.pairwise_map.2 ((seqOf_rises l).imp fun h => Int.le_of_lt h)
  have nd : ∀ {m : List Chg}, OnceK Chg.sub m → m.Nodup := fun h => h.imp fun hab e => hab (by rw [e])
  have hp : cs.Perm (seqOf l) := (List.perm_ext_iff_of_nodup (nd ho) (nd (seqOf_rises l).once)).2 fun c => by rw [hm c, seqOf_mem]
  exact rises_eq ((isort_perm _).trans (hp.map _)) (isort_rises _) hr

/-! ### maps.Keys -/
def keysS : Spec := fun args S => match args with
  | [.m i] => some (.f (.func 29) [] [.p S.length 0 0], S ++ [.cells [.m i] 0 none true])
  | _ => none
theorem keys_ok : SpecOK Try.prog 17 keysS := by
  intro args S x S' h
  unfold keysS at h
  split at h
  · cases h
    refine fn_of_wp f17 rfl (W_sound none_ok mixed _ _ _ _ _ ?_)
    simp (maxSteps := 1000000) (disch := omega) only [c17, go_sem]
    exact wkv_same
  · cases h
end Go.Proofs.Ytmdnohpolepcoaa

namespace Go.Proofs.Ytmdnohpolepcoaa
open Go.RowKit
set_option linter.unusedSimpArgs false
set_option linter.unusedVariables false
set_option maxRecDepth 10000

/-- No subscriber twice. -/
def Once (l : List Ent) : Prop := l.Pairwise fun a b => a.pol.sub ≠ b.pol.sub
def Rises (l : List Ent) : Prop := l.Pairwise fun a b => a.pol.sub < b.pol.sub
abbrev ofSub (l : List Ent) (id : Int) : Option Ent := l.find? (hasSub id)
theorem ofSub_some {l : List Ent} {id : Int} {x : Ent} (h : ofSub l id = some x) : x ∈ l ∧ x.pol.sub = id :=
  ⟨List.mem_of_find?_eq_some h, by have := List.find?_some h; simpa [hasSub] using this⟩
theorem ofSub_mem {l : List Ent} (ho : Once l) {x : Ent} (hx : x ∈ l) : ofSub l x.pol.sub = some x := by
  induction l with
  | nil => cases hx
  | cons a l ih =>
    obtain ⟨h1, h2⟩ := List.pairwise_cons.1 ho
    rcases List.mem_cons.1 hx with rfl | hx
    · simp [ofSub, hasSub]
    · have := h1 x hx
      simp only [ofSub, List.find?_cons]
      have hf : hasSub x.pol.sub a = false := by simpa [hasSub] using this
      rw [hf]
      exact ih h2 hx
theorem ofSub_iff {l : List Ent} (ho : Once l) {id : Int} {x : Ent} : ofSub l id = some x ↔ x ∈ l ∧ x.pol.sub = id :=
  ⟨ofSub_some, fun ⟨h1, h2⟩ => h2 ▸ ofSub_mem ho h1⟩
theorem Rises.once {l : List Ent} (h : Rises l) : Once l := h.imp fun h => Int.ne_of_lt h
theorem rises_ext : ∀ {l m : List Ent}, Rises l → Rises m → (∀ x, x ∈ l ↔ x ∈ m) → l = m
  | [], [], _, _, _ => rfl
  | [], b :: m, _, _, h => absurd ((h b).2 (by simp)) (by simp)
  | a :: l, [], _, _, h => absurd ((h a).1 (by simp)) (by simp)
  | a :: l, b :: m, h1, h2, h => by
    obtain ⟨a1, a2⟩ := List.pairwise_cons.1 h1
    obtain ⟨b1, b2⟩ := List.pairwise_cons.1 h2
    have hab : a = b := by
      rcases List.mem_cons.1 ((h a).1 (by simp)) with e | ha
      · exact e
      · rcases List.mem_cons.1 ((h b).2 (by simp)) with e | hb
        · exact e.symm
        · have := b1 a ha; have := a1 b hb; omega
    subst hab
    rw [rises_ext a2 b2 fun x => ?_]
    constructor
    · intro hx
      rcases List.mem_cons.1 ((h x).1 (by simp [hx])) with e | hm
      · have := a1 x hx; rw [e] at this; omega
      · exact hm
    · intro hx
      rcases List.mem_cons.1 ((h x).2 (by simp [hx])) with e | hm
      · have := b1 x hx; rw [e] at this; omega
      · exact hm
/-- All that subscribers have, in their order. -/
theorem mem_range_look {f : Int → Option Ent} (hf : ∀ id x, f id = some x → x.pol.sub = id) {k : Nat} {x : Ent} : x ∈ (List.range k).filterMap (fun i : Nat => f ((i : Int) + 1)) ↔ f x.pol.sub = some x ∧ 1 ≤ x.pol.sub ∧ x.pol.sub ≤ k := by
  constructor
  · intro h
    obtain ⟨i, hi, he⟩ := List.mem_filterMap.1 h
    have hs := hf _ _ he
    have := List.mem_range.1 hi
    exact ⟨by rw [hs]; exact he, by omega, by omega⟩
  · rintro ⟨h1, h2, h3⟩
    refine List.mem_filterMap.2 ⟨(x.pol.sub - 1).toNat, List.mem_range.2 (by omega), ?_⟩
    rw [show (((x.pol.sub - 1).toNat : Nat) : Int) + 1 = x.pol.sub by omega]; exact h1
theorem rises_range {f : Int → Option Ent} (hf : ∀ id x, f id = some x → x.pol.sub = id) : ∀ k : Nat, Rises ((List.range k).filterMap (fun i : Nat => f ((i : Int) + 1)))
  | 0 => by simp [Rises]
  | k + 1 => by
    rw [List.range_succ, List.filterMap_append]
    refine List.pairwise_append.2 ⟨rises_range hf k, ?_, fun a ha b hb => ?_⟩
    · simp only [List.filterMap_cons, List.filterMap_nil]
      cases f ((k : Int) + 1) <;> simp
    · have h1 := (mem_range_look hf).1 ha
      simp only [List.filterMap_cons, List.filterMap_nil] at hb
      cases he : f ((k : Int) + 1) with
      | none => rw [he] at hb; cases hb
      | some c =>
        rw [he] at hb
        have hbc := List.mem_singleton.1 hb
        have := hf _ _ he
        rw [hbc]; omega
theorem refOne_sub {old : List Ent} {e : Evt} (id : Int) (x : Ent) (h : refOne old e id = some x) : x.pol.sub = id := by
  unfold refOne at h
  split at h
  · cases h
  · split at h
    · rename_i y p h1 h2
      cases h
      have := List.find?_some h2
      simpa [subIsP] using this
    · rename_i y h1 h2; cases h; exact (ofSub_some h1).2
    · rename_i p h1 h2
      cases h
      have := List.find?_some h2
      simpa [subIsP] using this
    · cases h
/-- Whatever is sorted, and has what subscribers have, is the document's answer. -/
theorem sorted_ref {old d : List Ent} {e : Evt} (hd : Rises d) (hr : ∀ x ∈ d, 1 ≤ x.pol.sub ∧ x.pol.sub ≤ 255) (hl : ∀ id, 1 ≤ id → id ≤ 255 → ofSub d id = refOne old e id) : d = refEnts old e 255 := by
  refine rises_ext hd (rises_range refOne_sub 255) fun x => ?_
  show x ∈ d ↔ x ∈ (List.range 255).filterMap (fun i : Nat => refOne old e ((i : Int) + 1))
  rw [mem_range_look refOne_sub]
  constructor
  · intro hx
    obtain ⟨h1, h2⟩ := hr x hx
    exact ⟨by rw [← hl _ h1 h2]; exact ofSub_mem hd.once hx, h1, by omega⟩
  · rintro ⟨h1, h2, h3⟩
    rw [← hl _ h2 (by omega)] at h1
    exact (ofSub_some h1).1

/-! ### The program's way: one by one -/
theorem once_none {a : List Ent} {id : Int} (h : ∀ y ∈ a, y.pol.sub ≠ id) : ofSub a id = none := by
  rw [ofSub, List.find?_eq_none]
  intro y hy
  simpa [hasSub] using h y hy
theorem ofSub_app (a b : List Ent) (id : Int) : ofSub (a ++ b) id = (ofSub a id).or (ofSub b id) := by
  simp [ofSub, List.find?_append]
theorem ofSub_cons (x : Ent) (b : List Ent) (id : Int) : ofSub (x :: b) id = if x.pol.sub = id then some x else ofSub b id := by
  simp only [ofSub, List.find?_cons, hasSub]
  by_cases h : x.pol.sub = id <;> simp [h]
theorem once_mid {a b : List Ent} {x : Ent} (h : Once (a ++ x :: b)) : Once (a ++ b) ∧ (∀ y ∈ a, y.pol.sub ≠ x.pol.sub) ∧ (∀ y ∈ b, y.pol.sub ≠ x.pol.sub) := by
  obtain ⟨h1, h2, h3⟩ := List.pairwise_append.1 h
  obtain ⟨h4, h5⟩ := List.pairwise_cons.1 h2
  exact ⟨List.pairwise_append.2 ⟨h1, h5, fun y hy z hz => h3 y hy z (by simp [hz])⟩, fun y hy => h3 y hy x (by simp), fun y hy => (h4 y hy).symm⟩
theorem ofSub_erase {a b : List Ent} {x : Ent} (h : Once (a ++ x :: b)) (id : Int) : ofSub (a ++ b) id = if id = x.pol.sub then none else ofSub (a ++ x :: b) id := by
  obtain ⟨_, h1, h2⟩ := once_mid h
  rw [ofSub_app, ofSub_app, ofSub_cons]
  by_cases e : id = x.pol.sub
  · subst e
    rw [if_pos rfl, once_none h1, once_none h2]; rfl
  · rw [if_neg e, if_neg (Ne.symm e)]
theorem ofSub_set {a b : List Ent} {x y : Ent} (h : Once (a ++ x :: b)) (hy : y.pol.sub = x.pol.sub) (id : Int) : ofSub (a ++ y :: b) id = if id = x.pol.sub then some y else ofSub (a ++ x :: b) id := by
  obtain ⟨_, h1, h2⟩ := once_mid h
  rw [ofSub_app, ofSub_app, ofSub_cons, ofSub_cons, hy]
  by_cases e : id = x.pol.sub
  · subst e
    rw [if_pos rfl, if_pos rfl, once_none h1]; rfl
  · rw [if_neg e, if_neg (Ne.symm e), if_neg (Ne.symm e)]
theorem once_set {a b : List Ent} {x y : Ent} (h : Once (a ++ x :: b)) (hy : y.pol.sub = x.pol.sub) : Once (a ++ y :: b) := by
  obtain ⟨h0, h1, h2⟩ := once_mid h
  obtain ⟨g1, g2, g3⟩ := List.pairwise_append.1 h0
  refine List.pairwise_append.2 ⟨g1, List.pairwise_cons.2 ⟨fun z hz => by rw [hy]; exact (h2 z hz).symm, g2⟩, fun z hz w hw => ?_⟩
  rcases List.mem_cons.1 hw with rfl | hw
  · rw [hy]; exact h1 z hz
  · exact g3 z hz w hw
theorem ofSub_push {a : List Ent} {y : Ent} (h : ofSub a y.pol.sub = none) (id : Int) : ofSub (a ++ [y]) id = if id = y.pol.sub then some y else ofSub a id := by
  rw [ofSub_app, ofSub_cons]
  by_cases e : id = y.pol.sub
  · subst e
    rw [if_pos rfl, if_pos rfl, h]; rfl
  · rw [if_neg e, if_neg (Ne.symm e)]
    cases ofSub a id <;> rfl
theorem once_push {a : List Ent} {y : Ent} (ho : Once a) (h : ofSub a y.pol.sub = none) : Once (a ++ [y]) := by
  refine List.pairwise_append.2 ⟨ho, List.pairwise_singleton _ _, fun z hz w hw => ?_⟩
  rw [List.mem_singleton.1 hw]
  intro e
  have := ofSub_mem ho hz
  rw [e, h] at this
  cases this
/-- Where a subscriber's entry lies. -/
theorem split_sub {l : List Ent} {id : Int} {k : Nat} (h : l.findIdx? (hasSub id) = some k) : ∃ a x b, l = a ++ x :: b ∧ a.length = k ∧ x.pol.sub = id ∧ ofSub l id = some x := by
  obtain ⟨hk, hs, hb⟩ := List.findIdx?_eq_some_iff_getElem.1 h
  refine ⟨l.take k, l[k], l.drop (k + 1), by rw [← List.drop_eq_getElem_cons hk, List.take_append_drop], by rw [List.length_take]; omega, by simpa [hasSub] using hs, ?_⟩
  rw [ofSub, find_of_idx, h]
  exact List.getElem?_eq_getElem hk
theorem no_sub {l : List Ent} {id : Int} (h : l.findIdx? (hasSub id) = none) : ofSub l id = none := by
  rw [ofSub, find_of_idx, h]
def dropAll : List Int → List Ent → Option (List Ent)
  | [], l => some l
  | id :: ds, l => match l.findIdx? (hasSub id) with
    | some k => dropAll ds (l.eraseIdx k)
    | none => none
def putAll : List Pol → List Ent → List Ent
  | [], l => l
  | p :: ps, l => match l.findIdx? (hasSub p.sub) with
    | some k => putAll ps (l.set k ⟨p, (l.getD k noEnt).granted⟩)
    | none => putAll ps (l ++ [⟨p, 0⟩])
theorem erase_mid (a b : List Ent) (x : Ent) : (a ++ x :: b).eraseIdx a.length = a ++ b := by
  rw [List.eraseIdx_append_of_length_le (Nat.le_refl _), Nat.sub_self]; rfl
theorem set_mid (a b : List Ent) (x y : Ent) : (a ++ x :: b).set a.length y = a ++ y :: b := by
  rw [List.set_append_right _ _ (Nat.le_refl _), Nat.sub_self]; rfl
theorem getD_mid (a b : List Ent) (x d : Ent) : (a ++ x :: b).getD a.length d = x := by
  rw [List.getD_eq_getElem?_getD, List.getElem?_append_right (Nat.le_refl _), Nat.sub_self]; rfl
theorem dropAll_ok : ∀ (ds : List Int) (l : List Ent), ds.Nodup → Once l → match dropAll ds l with
    | some l' => Once l' ∧ (∀ id, ofSub l' id = if id ∈ ds then none else ofSub l id) ∧ (∀ id ∈ ds, ofSub l id ≠ none) ∧ (∀ x ∈ l', x ∈ l)
    | none => ∃ id ∈ ds, ofSub l id = none
  | [], l, _, ho => ⟨ho, fun id => by simp, by simp, fun x hx => hx⟩
  | id :: ds, l, hn, ho => by
    obtain ⟨hn1, hn2⟩ := List.nodup_cons.1 hn
    simp only [dropAll]
    cases hi : l.findIdx? (hasSub id) with
    | none => exact ⟨id, by simp, no_sub hi⟩
    | some k =>
      obtain ⟨a, x, b, rfl, rfl, hx, hf⟩ := split_sub hi
      simp only
      rw [erase_mid]
      have ho' := (once_mid ho).1
      have hl := ofSub_erase ho
      have ih := dropAll_ok ds (a ++ b) hn2 ho'
      cases hd : dropAll ds (a ++ b) with
      | none =>
        rw [hd] at ih
        obtain ⟨i, hi1, hi2⟩ := ih
        refine ⟨i, by simp [hi1], ?_⟩
        rw [hl, if_neg (fun e => hn1 (by rw [← hx, ← e]; exact hi1))] at hi2
        exact hi2
      | some l' =>
        rw [hd] at ih
        obtain ⟨i1, i2, i3, i4⟩ := ih
        refine ⟨i1, fun j => ?_, fun j hj => ?_, fun y hy => ?_⟩
        · rw [i2, hl]
          by_cases e : j = id
          · subst e; rw [hx]; simp
          · rw [hx, if_neg e]
            by_cases e2 : j ∈ ds <;> simp [e, e2]
        · rcases List.mem_cons.1 hj with rfl | hj
          · rw [hf]; simp
          · have := i3 j hj
            rw [hl, if_neg (fun e => hn1 (by rw [← hx, ← e]; exact hj))] at this
            exact this
        · rcases List.mem_append.1 (i4 y hy) with h | h
          · simp [h]
          · simp [h]
theorem putAll_ok : ∀ (ps : List Pol) (l : List Ent), (ps.Pairwise fun p q => p.sub ≠ q.sub) → Once l → Once (putAll ps l) ∧
    ∀ id, ofSub (putAll ps l) id = match ps.find? (subIsP id) with
      | some p => some ⟨p, match ofSub l id with | some x => x.granted | none => 0⟩
      | none => ofSub l id
  | [], l, _, ho => ⟨ho, fun id => rfl⟩
  | p :: ps, l, hn, ho => by
    obtain ⟨hn1, hn2⟩ := List.pairwise_cons.1 hn
    have hps : ps.find? (subIsP p.sub) = none := by
      rw [List.find?_eq_none]; intro q hq
      have := hn1 q hq
      simp only [subIsP, decide_eq_true_eq]
      exact fun e => this e.symm
    simp only [putAll]
    cases hi : l.findIdx? (hasSub p.sub) with
    | none =>
      have h0 := no_sub hi
      have h0' : ofSub l (Ent.mk p 0).pol.sub = none := h0
      obtain ⟨i1, i2⟩ := putAll_ok ps (l ++ [⟨p, 0⟩]) hn2 (once_push ho h0')
      refine ⟨i1, fun id => ?_⟩
      simp only
      rw [i2, ofSub_push h0', List.find?_cons]
      by_cases e : id = p.sub
      · subst e
        rw [hps]
        simp [subIsP, h0]
      · have e' : ¬ p.sub = id := fun z => e z.symm
        have hf : subIsP id p = false := by simp [subIsP, e']
        rw [hf, if_neg e]
    | some k =>
      obtain ⟨a, x, b, rfl, rfl, hx, hf⟩ := split_sub hi
      simp only
      rw [set_mid, getD_mid]
      have hy : (Ent.mk p x.granted).pol.sub = x.pol.sub := hx.symm
      obtain ⟨i1, i2⟩ := putAll_ok ps (a ++ ⟨p, x.granted⟩ :: b) hn2 (once_set ho hy)
      refine ⟨i1, fun id => ?_⟩
      rw [i2, ofSub_set ho hy, List.find?_cons]
      by_cases e : id = p.sub
      · subst e
        rw [hps, hx, if_pos rfl, hf]
        simp [subIsP]
      · have e' : ¬ p.sub = id := fun z => e z.symm
        have hff : subIsP id p = false := by simp [subIsP, e']
        rw [hff, hx, if_neg e]

/-! ### The program's commit is the document's -/
theorem ok_once {p : Int} {l : List Ent} (ho : (Bk.mk p l).ok) : Once l := by
  refine List.pairwise_iff_getElem.2 fun i j hi hj hij => ?_
  have := sub_lt ho hj hij
  omega
theorem ok_range {p : Int} {l : List Ent} (ho : (Bk.mk p l).ok) : ∀ x ∈ l, 1 ≤ x.pol.sub ∧ x.pol.sub ≤ 255 := by
  intro x hx
  obtain ⟨i, hi, rfl⟩ := List.getElem_of_mem hx
  have := (ho.2.2.1.2 i (by unfold polsOf; simpa using hi) (by unfold polsOf; simpa using hi)).1
  have h1 : l[i].pol.right := by simpa [polsOf] using this
  exact ⟨h1.1, h1.2.1⟩
theorem pols_once {ps : List Pol} (h : Pols ps) : ps.Pairwise fun p q => p.sub ≠ q.sub := by
  refine List.pairwise_iff_getElem.2 fun i j hi hj hij => ?_
  have := ((h.2 j hj hj).2 i hij).1
  omega
theorem pols_range {ps : List Pol} (h : Pols ps) : ∀ p ∈ ps, 1 ≤ p.sub ∧ p.sub ≤ 255 := by
  intro p hp
  obtain ⟨i, hi, rfl⟩ := List.getElem_of_mem hp
  have := (h.2 i hi hi).1
  exact ⟨this.1, this.2.1⟩
theorem rise_lt {ds : List Int} (h : riseTo ds ds.length) : ∀ j (hj : j < ds.length) i (hi : i < j), ds[i] < ds[j]
  | j + 1, hj, i, hi => by
    have h1 := (h (j + 1) hj hj).2 (by omega)
    simp only [Nat.add_sub_cancel] at h1
    by_cases e : i = j
    · subst e; exact h1
    · have := rise_lt h j (by omega) i (by omega); omega
theorem rise_nodup {ds : List Int} (h : riseTo ds ds.length) : ds.Nodup := by
  refine List.pairwise_iff_getElem.2 fun i j hi hj hij => ?_
  have := rise_lt h j hj i hij
  omega
theorem rise_range {ds : List Int} (h : riseTo ds ds.length) : ∀ d ∈ ds, 1 ≤ d ∧ d ≤ 255 := by
  intro d hd
  obtain ⟨i, hi, rfl⟩ := List.getElem_of_mem hd
  exact (h i hi hi).1
theorem commit_none {p : Int} {l : List Ent} {ps : List Pol} {ds : List Int} (ho : (Bk.mk p l).ok) (hr : Evt.right ⟨1, 0, ps, ds, 0, 0⟩) (h : dropAll ds l = none) : ∃ i : Nat, i < 255 ∧ refBad l ⟨1, 0, ps, ds, 0, 0⟩ ((i : Int) + 1) := by
  have hri := (right1.1 hr).2.2.2.2.2.1
  have := dropAll_ok ds l (rise_nodup hri) (ok_once ho)
  rw [h] at this
  obtain ⟨id, hid, hn⟩ := this
  have hrg := rise_range hri id hid
  refine ⟨(id - 1).toNat, by omega, ?_⟩
  rw [show (((id - 1).toNat : Nat) : Int) + 1 = id by omega]
  exact ⟨hid, hn⟩
theorem commit_some {p : Int} {l l1 d : List Ent} {ps : List Pol} {ds : List Int} (ho : (Bk.mk p l).ok) (hr : Evt.right ⟨1, 0, ps, ds, 0, 0⟩) (h : dropAll ds l = some l1) (hd : Rises d) (hm : ∀ x, x ∈ d ↔ x ∈ putAll ps l1) :
    (¬ ∃ i : Nat, i < 255 ∧ refBad l ⟨1, 0, ps, ds, 0, 0⟩ ((i : Int) + 1)) ∧ d = refEnts l ⟨1, 0, ps, ds, 0, 0⟩ 255 := by
  obtain ⟨_, _, _, _, hP, hri, hnd, _⟩ := right1.1 hr
  have hda := dropAll_ok ds l (rise_nodup hri) (ok_once ho)
  rw [h] at hda
  obtain ⟨o1, o2, o3, o4⟩ := hda
  obtain ⟨q1, q2⟩ := putAll_ok ps l1 (pols_once hP) o1
  refine ⟨?_, sorted_ref hd (fun x hx => ?_) fun id _ _ => ?_⟩
  · rintro ⟨i, _, hb1, hb2⟩
    exact o3 _ hb1 hb2
  · have hx := (hm x).1 hx
    have hl := ofSub_mem q1 hx
    rw [q2] at hl
    split at hl
    · rename_i pp hf
      have h1 := List.mem_of_find?_eq_some hf
      have h2 := List.find?_some hf
      have h3 : pp.sub = x.pol.sub := by simpa [subIsP] using h2
      rw [← h3]; exact pols_range hP pp h1
    · exact ok_range ho x (o4 x (ofSub_some hl).1)
  · have hdo := hd.once
    have e1 : ofSub d id = ofSub (putAll ps l1) id := by
      cases hx : ofSub (putAll ps l1) id with
      | some x => exact (ofSub_iff hdo).2 ⟨(hm x).2 (ofSub_some hx).1, (ofSub_some hx).2⟩
      | none =>
        cases hy : ofSub d id with
        | none => rfl
        | some y =>
          have := (ofSub_iff q1).2 ⟨(hm y).1 (ofSub_some hy).1, (ofSub_some hy).2⟩
          rw [hx] at this; cases this
    rw [e1, q2]
    unfold refOne
    by_cases hds : id ∈ ds
    · have hno : ps.find? (subIsP id) = none := by
        rw [List.find?_eq_none]; intro q hq
        simp only [subIsP, decide_eq_true_eq]
        exact fun e => hnd q hq (by rw [e]; exact hds)
      rw [hno, o2, if_pos hds, if_pos hds]
    · rw [if_neg hds, o2, if_neg hds]
      show _ = match ofSub l id, ps.find? (subIsP id) with
        | some x, some p => some (⟨p, x.granted⟩ : Ent)
        | some x, none => some x
        | none, some p => some ⟨p, 0⟩
        | none, none => none
      cases ps.find? (subIsP id) <;> cases ofSub l id <;> rfl
end Go.Proofs.Ytmdnohpolepcoaa

namespace Go.Proofs.Ytmdnohpolepcoaa
open Go.RowKit
set_option linter.unusedSimpArgs false
set_option linter.unusedVariables false
set_option maxRecDepth 10000

def cmpI (a b : Int) : Int := if a < b then -1 else if b < a then 1 else 0
end Go.Proofs.Ytmdnohpolepcoaa

namespace Go.Proofs.Ytmdnohpolepcoaa
open Go.RowKit
set_option linter.unusedSimpArgs false
set_option linter.unusedVariables false
set_option maxRecDepth 10000

def zero14 : List AV := noEnt.enc
/-- The cells behind a deletion at 'k' of 'n'. -/
def cutCells (cs : List AV) (k n : Nat) : List AV := cs.take (k * 14) ++ (cs.drop ((k + 1) * 14)).take ((n - (k + 1)) * 14) ++ zero14 ++ cs.drop (n * 14)
def delS : Spec := fun args S => match args with
  | [.sl i 0 v n cap false, .i .i64 a, .i .i64 b] => match S[i]? with
    | some (.cells cs ver (some 14) true) => if ver = v ∧ cs.length = cap * 14 ∧ n ≤ cap ∧ 0 ≤ a ∧ a < (n : Int) ∧ b = a + 1 ∧ n ≤ 1000000 ∧ cs.all AV.one = true then
        some (.sl i 0 v (n - 1) cap false, S.set i (.cells (cutCells cs a.toNat n) v (some 14) true)) else none
    | _ => none
  | _ => none
theorem splice_cut {cs : List AV} {k n : Nat} (hk : k < n) (hn : n * 14 ≤ cs.length) : splice (splice cs (k * 14) ((cs.drop ((k + 1) * 14)).take ((n - (k + 1)) * 14))) ((n - 1) * 14) zero14 = cutCells cs k n := by
  have hml : ((cs.drop ((k + 1) * 14)).take ((n - (k + 1)) * 14)).length = (n - (k + 1)) * 14 := by rw [List.length_take, List.length_drop]; omega
  have hkl : (cs.take (k * 14)).length = k * 14 := by rw [List.length_take]; omega
  have hz : zero14.length = 14 := rfl
  unfold cutCells
  generalize hm : (cs.drop ((k + 1) * 14)).take ((n - (k + 1)) * 14) = mid at hml
  unfold splice
  rw [hml, hz]
  have e1 : k * 14 + (n - (k + 1)) * 14 = (n - 1) * 14 := by omega
  rw [e1]
  have h1 : (cs.take (k * 14) ++ (mid ++ cs.drop ((n - 1) * 14))).take ((n - 1) * 14) = cs.take (k * 14) ++ mid := by
    rw [← List.append_assoc, List.take_append_of_le_length (by rw [List.length_append, hkl, hml]; omega), List.take_of_length_le (by rw [List.length_append, hkl, hml]; omega)]
  have h2 : (cs.take (k * 14) ++ (mid ++ cs.drop ((n - 1) * 14))).drop ((n - 1) * 14 + 14) = cs.drop (n * 14) := by
    rw [← List.append_assoc, List.drop_append, List.drop_of_length_le (by rw [List.length_append, hkl, hml]; omega), List.nil_append, List.length_append, hkl, hml, List.drop_drop]
    congr 1; omega
  rw [h1, h2, List.append_assoc (cs.take (k * 14) ++ mid)]
theorem del_ok : SpecOK Try.prog 44 delS := by
  intro args S x S' h
  simp only [delS] at h
  split at h
  · rename_i i v n cap a b
    split at h
    · rename_i cs ver hB
      split at h
      · rename_i hc
        obtain ⟨rfl, hcl, hnc, ha0, han, rfl, hlim, hone⟩ := hc
        cases h
        obtain ⟨k, rfl⟩ := Int.eq_ofNat_of_zero_le ha0
        rw [Int.toNat_natCast]
        have hkn : k < n := by omega
        have hk1 : ((k : Nat) : Int) + 1 = ((k + 1 : Nat) : Int) := by omega
        rw [hk1]
        have s1 : sliceV S 14 (.sl i 0 ver n cap false) (some (.i .i64 (k : Int))) (some (.i .i64 ((k + 1 : Nat) : Int))) (some (.i .i64 (n : Int))) = some (.sl i (cutAt 0 k n 14) ver 1 (n - k) true) := by
          simp only [sliceV, bnds, bndV, natV_nat, Option.isSome_some, Option.isNone_some]
          simp [show n ≤ cap from hnc, show k + 1 ≤ n from hkn, show k ≤ n by omega, natV]
        have s2 : sliceV S 14 (.sl i 0 ver n cap false) none (some (.i .i64 (k : Int))) none = some (.sl i 0 ver k cap false) := by
          refine slice_hi (by omega) ?_
          simp [openS, hB, Blk.opn]; omega
        have hne : ¬ ((k : Nat) : Int) = ((k + 1 : Nat) : Int) := by omega
        refine fn_of_wp f44 rfl (W_sound none_ok mixed _ _ _ _ _ ?_)
        by_cases hlast : k + 1 = n
        · subst hlast
          have hz : zerosV noEnt.enc 1 = noEnt.enc := by rfl
          have s4 : sliceV S 14 (.sl i 0 ver k cap false) (some (.i .i64 (k : Int))) (some (.i .i64 ((k + 1 : Nat) : Int))) none = some (.sl i (k * 14) ver 1 (cap - k) false) := by
            simp only [sliceV, bnds_both (q := .i64) (q' := .i64) (show k ≤ k + 1 by omega) hnc, Option.isSome_none, Bool.or_false, Bool.false_eq_true, if_false]
            rw [if_neg (by omega)]
            simp only [hB, Blk.opn, if_true, Nat.zero_add, Nat.add_sub_cancel_left]
          obtain ⟨S3, hS3⟩ : ∃ S3, S3 = S.set i (.cells (splice cs (k * 14) zero14) ver (some 14) true) := ⟨_, rfl⟩
          have hclr : clearV S noEnt.enc (.sl i (k * 14) ver 1 (cap - k) false) = some (.tu [], S3) := by
            simp only [clearV, hB]
            rw [if_neg (by omega), if_pos ⟨trivial, by show k * 14 + 1 * 14 ≤ cs.length; omega, by rw [hz]; rfl⟩, hS3, hz]; rfl
          simp only [noEnt, Ent.enc] at hclr
          have hfin : S3 = S.set i (.cells (cutCells cs k (k + 1)) ver (some 14) true) := by
            rw [hS3]
            have hz14 : zero14.length = 14 := rfl
            unfold cutCells splice
            rw [Nat.sub_self, Nat.zero_mul, List.take_zero, List.append_nil, hz14, show k * 14 + 14 = (k + 1) * 14 by omega, List.append_assoc]
          have ha : ∀ cs', appV S 14 88 (.sl i 0 ver k cap false) cs' 0 = some (.sl i 0 ver k cap false, S) := fun cs' => by simp [appV]
          rw [Nat.add_sub_cancel]
          by_cases hcap : k + 1 = cap
          · have s3 : sliceV S 14 (.sl i 0 ver (k + 1) cap false) (some (.i .i64 ((k + 1 : Nat) : Int))) none none = some .se := by
              simp only [sliceV, bnds_lo (q := .i64) (show k + 1 ≤ k + 1 by omega) hnc, Option.isSome_none, Bool.or_false, Bool.false_eq_true, if_false]
              rw [if_pos hcap]
            have hse : srcV S 14 .se = some ([], 0) := rfl
            simp (maxSteps := 1000000) (disch := omega) only [c44, s1, s2, s3, hne, hse, ha, s4, hclr, go_sem]
            rw [hfin]
            exact wkv_same
          · have s3 : sliceV S 14 (.sl i 0 ver (k + 1) cap false) (some (.i .i64 ((k + 1 : Nat) : Int))) none none = some (.sl i ((k + 1) * 14) ver 0 (cap - (k + 1)) false) := by
              simp only [sliceV, bnds_lo (q := .i64) (show k + 1 ≤ k + 1 by omega) hnc, Option.isSome_none, Bool.or_false, Bool.false_eq_true, if_false]
              rw [if_neg hcap]
              simp only [hB, Blk.opn, if_true, Nat.zero_add, Nat.sub_self]
            have hle3 : (k + 1) * 14 + 0 ≤ cs.length := by omega
            have hse : srcV S 14 (.sl i ((k + 1) * 14) ver 0 (cap - (k + 1)) false) = some ([], 0) := by
              rw [src_sl, hB, Nat.zero_mul, rowB_some, if_pos hle3]; rfl
            simp (maxSteps := 1000000) (disch := omega) only [c44, s1, s2, s3, hne, hse, ha, s4, hclr, go_sem]
            rw [hfin]
            exact wkv_same
        · have hn1 : k + 1 < n := by omega
          have s3 : sliceV S 14 (.sl i 0 ver n cap false) (some (.i .i64 ((k + 1 : Nat) : Int))) none none = some (.sl i (0 + (k + 1) * 14) ver (n - (k + 1)) (cap - (k + 1)) false) := by
            simp only [sliceV, bnds_lo (q := .i64) (show k + 1 ≤ n by omega) hnc, Option.isSome_none, Bool.or_false, Bool.false_eq_true, if_false]
            rw [if_neg (by omega)]
            simp only [hB, Blk.opn, if_true]
          have hle3 : (k + 1) * 14 + (n - (k + 1)) * 14 ≤ cs.length := by omega
          generalize hmid : (cs.drop ((k + 1) * 14)).take ((n - (k + 1)) * 14) = mid
          have hmidl : mid.length = (n - (k + 1)) * 14 := by rw [← hmid, List.length_take, List.length_drop]; omega
          have hmid1 : mid.all AV.one = true := by
            rw [List.all_eq_true] at hone ⊢
            intro y hy; rw [← hmid] at hy
            exact hone y (List.mem_of_mem_drop (List.mem_of_mem_take hy))
          obtain ⟨S2, hS2⟩ : ∃ S2, S2 = S.set i (.cells (splice cs (0 + k * 14) mid) ver (some 14) true) := ⟨_, rfl⟩
          have ha : appV S 14 88 (.sl i 0 ver k cap false) mid (n - (k + 1)) = some (.sl i 0 ver (n - 1) cap false, S2) := by
            simp only [appV, hB]
            rw [if_neg (by omega), if_pos (by omega), if_pos ⟨trivial, by omega, hmid1⟩, hS2, show k + (n - (k + 1)) = n - 1 by omega]
          have hB2 : S2[i]? = some (.cells (splice cs (0 + k * 14) mid) ver (some 14) true) := by rw [hS2]; exact at_set hB
          have s4 : sliceV S2 14 (.sl i 0 ver (n - 1) cap false) (some (.i .i64 ((n - 1 : Nat) : Int))) (some (.i .i64 (n : Int))) none = some (.sl i (0 + (n - 1) * 14) ver (n - (n - 1)) (cap - (n - 1)) false) := by
            simp only [sliceV, bnds_both (q := .i64) (q' := .i64) (show n - 1 ≤ n by omega) hnc, Option.isSome_none, Bool.or_false, Bool.false_eq_true, if_false]
            rw [if_neg (by omega)]
            simp only [hB2, Blk.opn, if_true]
          rw [show n - (n - 1) = 1 by omega, Nat.zero_add] at s4
          obtain ⟨S3, hS3⟩ : ∃ S3, S3 = S2.set i (.cells (splice (splice cs (0 + k * 14) mid) ((n - 1) * 14) zero14) ver (some 14) true) := ⟨_, rfl⟩
          have hsl : (splice cs (0 + k * 14) mid).length = cap * 14 := by
            unfold splice
            rw [List.length_append, List.length_append, List.length_take, List.length_drop, hmidl]; omega
          have hz : zerosV noEnt.enc 1 = noEnt.enc := by rfl
          have hclr : clearV S2 noEnt.enc (.sl i ((n - 1) * 14) ver 1 (cap - (n - 1)) false) = some (.tu [], S3) := by
            simp only [clearV, hB2]
            rw [if_neg (by omega), if_pos ⟨trivial, by rw [hsl]; show (n - 1) * 14 + 1 * 14 ≤ cap * 14; omega, by rw [hz]; rfl⟩, hS3, hz]; rfl
          simp only [noEnt, Ent.enc] at hclr
          simp (maxSteps := 1000000) (disch := omega) only [c44, s1, s2, s3, hne, src_sl, hB, hle3, hmid, srcN_some, ha, s4, hclr, go_sem]
          have hfin : S3 = S.set i (.cells (cutCells cs k n) ver (some 14) true) := by
            rw [hS3, hS2, List.set_set, ← hmid, Nat.zero_add, splice_cut hkn (by omega)]
          rw [hfin]
          exact wkv_same
      · cases h
    · cases h
  · cases h
end Go.Proofs.Ytmdnohpolepcoaa

namespace Go.Proofs.Ytmdnohpolepcoaa
open Go.RowKit
set_option linter.unusedSimpArgs false
set_option linter.unusedVariables false
set_option maxRecDepth 10000

/-- A list in a block of its own, perhaps with room behind it. -/
def Sp (i : Nat) (S : Mem) (x : AV) (l : List Ent) : Prop := ∃ v cap junk, x = .sl i 0 v l.length cap false ∧ S[i]? = some (.cells (l.flatMap entE.enc ++ junk) v (some 14) true) ∧ junk.length = (cap - l.length) * 14 ∧ l.length ≤ cap ∧ junk.all AV.one = true
theorem flat14 (l : List Ent) : (l.flatMap entE.enc).length = l.length * 14 := enc_length (E := entE) l
theorem Sp.lst {i : Nat} {S : Mem} {x : AV} {l : List Ent} (h : Sp i S x l) : lstV entE S x = some l := by
  obtain ⟨v, cap, junk, rfl, hB, hj, hlc, _⟩ := h
  refine lst_lstV (.inr (.inr ⟨_, _, _, _, _, _, rfl, rfl, ?_⟩))
  rw [rowAt_B, hB]
  show rowB _ 0 v (l.length * 14) = _
  rw [rowB_some, if_pos (by rw [List.length_append, flat14]; omega), List.drop_zero, List.take_append_of_le_length (by rw [flat14]; omega), ← flat14, List.take_length]
theorem Sp.del {i : Nat} {S : Mem} {x : AV} {l : List Ent} (h : Sp i S x l) {k : Nat} (hk : k < l.length) (hl : l.length ≤ 1000000) :
    ∃ x' B, delS [x, .i .i64 (k : Int), .i .i64 ((k : Int) + 1)] S = some (x', S.set i B) ∧ Sp i (S.set i B) x' (l.eraseIdx k) := by
  obtain ⟨v, cap, junk, rfl, hB, hj, hlc, hj1⟩ := h
  have hcl : (l.flatMap entE.enc ++ junk).length = cap * 14 := by rw [List.length_append, flat14, hj]; omega
  have hone : (l.flatMap entE.enc ++ junk).all AV.one = true := by rw [List.all_append, hj1, all_one entE_one l]; rfl
  refine ⟨_, _, by simp only [delS, hB]; rw [if_pos ⟨trivial, hcl, hlc, by omega, by omega, trivial, hl, hone⟩], ?_⟩
  rw [Int.toNat_natCast]
  have hle : (l.eraseIdx k).length = l.length - 1 := by rw [List.length_eraseIdx, if_pos hk]
  refine ⟨v, cap, zero14 ++ junk, by rw [hle], ?_, ?_, by omega, ?_⟩
  · rw [at_set hB]
    congr 2
    have he : l.eraseIdx k = l.take k ++ l.drop (k + 1) := List.eraseIdx_eq_take_drop_succ ..
    have t1 : (l.flatMap entE.enc ++ junk).take (k * 14) = (l.take k).flatMap entE.enc := by
      rw [List.take_append_of_le_length (by rw [flat14]; omega)]; exact flat_take (E := entE) l k
    have t2 : ((l.flatMap entE.enc ++ junk).drop ((k + 1) * 14)).take ((l.length - (k + 1)) * 14) = (l.drop (k + 1)).flatMap entE.enc := by
      rw [List.drop_append_of_le_length (by rw [flat14]; omega)]
      rw [show (l.flatMap entE.enc).drop ((k + 1) * 14) = (l.drop (k + 1)).flatMap entE.enc from flat_drop (E := entE) l (k + 1)]
      rw [List.take_append_of_le_length (by rw [flat14, List.length_drop]; omega), List.take_of_length_le (by rw [flat14, List.length_drop]; omega)]
    have t3 : (l.flatMap entE.enc ++ junk).drop (l.length * 14) = junk := by rw [← flat14, List.drop_left]
    unfold cutCells
    rw [t1, t2, t3, he, List.flatMap_append, List.append_assoc, List.append_assoc]
    first | done | simp [List.append_assoc]
  · rw [List.length_append, hj, hle]
    show 14 + _ = _
    omega
  · rw [List.all_append, hj1]; rfl
theorem Sp.app {i : Nat} {S : Mem} {x : AV} {l : List Ent} (h : Sp i S x l) (a : Ent) (hl : l.length ≤ 1000000) :
    ∃ x' B, appV S 14 88 x (entE.enc a) 1 = some (x', S.set i B) ∧ Sp i (S.set i B) x' (l ++ [a]) := by
  obtain ⟨v, cap, junk, rfl, hB, hj, hlc, hj1⟩ := h
  have ha14 : (entE.enc a).length = 14 := rfl
  have hlim1 : (l.length + 1) * 88 ≤ lim := by show _ ≤ 140737488355328; omega
  have hlim2 : l.length + 1 ≤ lim := by show _ ≤ 140737488355328; omega
  by_cases hc : l.length + 1 ≤ cap
  · refine ⟨.sl i 0 v (l.length + 1) cap false, .cells (splice (l.flatMap entE.enc ++ junk) (0 + l.length * 14) (entE.enc a)) v (some 14) true, ?_, ?_⟩
    · simp only [appV, hB]
      rw [if_neg (by omega), if_pos hc, if_pos ⟨trivial, by rw [List.length_append, flat14, hj]; omega, entE_one a⟩]
    · refine ⟨v, cap, junk.drop 14, by rw [List.length_append]; rfl, ?_, by rw [List.length_drop, hj, List.length_append]; simp; omega, by rw [List.length_append]; exact hc, ?_⟩
      · rw [at_set hB]
        congr 2
        unfold splice
        rw [Nat.zero_add, ha14, ← flat14, List.take_left, List.flatMap_append, List.drop_append, List.drop_of_length_le (by omega), List.nil_append, Nat.add_sub_cancel_left]
        simp [List.append_assoc]
      · rw [List.all_eq_true] at hj1 ⊢
        exact fun y hy => hj1 y (List.mem_of_mem_drop hy)
  · have hcl : cap = l.length := by omega
    obtain rfl : junk = [] := List.eq_nil_of_length_eq_zero (by rw [hj]; omega)
    rw [List.append_nil] at hB
    refine ⟨.sl i 0 (v + 1) (l.length + 1) (l.length + 1) false, .cells ((l.flatMap entE.enc).take (l.length * 14) ++ entE.enc a) (v + 1) (some 14) true, ?_, ?_⟩
    · simp only [appV, hB, Bool.false_eq_true, if_false]
      rw [if_neg (by omega), if_neg hc, if_pos ⟨hlim1, hlim2⟩, if_pos ⟨trivial, trivial, trivial, by rw [flat14]; omega, entE_one a⟩]
    · refine ⟨v + 1, l.length + 1, [], by rw [List.length_append]; rfl, ?_, by rw [List.length_append]; simp, by rw [List.length_append]; exact Nat.le_refl _, rfl⟩
      rw [at_set hB, ← flat14, List.take_length, List.append_nil, List.flatMap_append]
      simp
/-- A policy is laid in place. -/
theorem Sp.pol {i : Nat} {S : Mem} {x : AV} {l : List Ent} (h : Sp i S x l) {k : Nat} (hk : k < l.length) (p : Pol) :
    ∃ v cap cs, x = .sl i 0 v l.length cap false ∧ S[i]? = some (.cells cs v (some 14) true) ∧ k * 14 + 13 ≤ cs.length ∧ Sp i (S.set i (.cells (cs.take (k * 14) ++ (p.enc ++ cs.drop (k * 14 + 13))) v (some 14) true)) x (l.set k ⟨p, l[k].granted⟩) := by
  obtain ⟨v, cap, junk, rfl, hB, hj, hlc, hj1⟩ := h
  have hcs : k * 14 + 13 ≤ (l.flatMap entE.enc).length := by rw [flat14]; omega
  refine ⟨v, cap, _, rfl, hB, by rw [List.length_append]; omega, v, cap, junk, by rw [List.length_set], ?_, by rw [List.length_set]; exact hj, by rw [List.length_set]; exact hlc, hj1⟩
  rw [at_set hB]
  have hsp := splice_at (E := entE) l hk ⟨p, l[k].granted⟩ (f := 0) (ys := p.enc) (by simp [entE, Pol.enc]) (by rfl)
  have hsp : (l.flatMap entE.enc).take (k * 14) ++ p.enc ++ (l.flatMap entE.enc).drop (k * 14 + 13) = (l.set k ⟨p, l[k].granted⟩).flatMap entE.enc := by rw [← hsp]; show _ = (l.flatMap entE.enc).take (k * 14 + 0) ++ (p.enc ++ (l.flatMap entE.enc).drop (k * 14 + 0 + 13)); simp only [Nat.add_zero, List.append_assoc]
  rw [← hsp, List.take_append_of_le_length (by omega), List.drop_append_of_le_length (by omega)]
  simp [List.append_assoc]
end Go.Proofs.Ytmdnohpolepcoaa

namespace Go.Proofs.Ytmdnohpolepcoaa
open Go.RowKit
set_option linter.unusedSimpArgs false
set_option linter.unusedVariables false

theorem cmpI_neg {a b : Int} : cmpI a b < 0 ↔ a < b := by
  unfold cmpI
  split
  · rename_i h; exact ⟨fun _ => h, fun _ => by omega⟩
  · rename_i h
    split
    · exact ⟨fun z => by omega, fun z => absurd z h⟩
    · exact ⟨fun z => by omega, fun z => absurd z h⟩
/-- A permutation in which no later one is less than an earlier one: it rises, if no subscriber is there twice. -/
theorem rises_of_sorted {l d : List Ent} (hp : d.Perm l) (ho : Once l) (hs : ∀ i j (hij : i < j) (hj : j < d.length), ¬ cmpI d[j].pol.sub (d[i]'(by omega)).pol.sub < 0) : Rises d ∧ ∀ x, x ∈ d ↔ x ∈ l := by
  have hod : Once d := (hp.pairwise_iff fun h => Ne.symm h).2 ho
  refine ⟨List.pairwise_iff_getElem.2 fun i j hi hj hij => ?_, fun x => hp.mem_iff⟩
  have h1 := List.pairwise_iff_getElem.1 hod i j hi hj hij
  have h2 := hs i j hij hj
  rw [cmpI_neg] at h2
  omega
end Go.Proofs.Ytmdnohpolepcoaa

namespace Go.Proofs.Ytmdnohpolepcoaa
open Go.RowKit Go.Sort
set_option linter.unusedSimpArgs false
set_option linter.unusedVariables false
set_option maxRecDepth 10000

instance : Inhabited Ent := ⟨noEnt⟩
def entV (a : Ent) : List Value := [.int .i64 a.pol.sub, .int .u8 a.pol.a, .int .u8 a.pol.b, .int .u8 a.pol.c, .int .u8 a.pol.d, .int .i64 a.pol.bits, .int .u64 a.pol.rate, .int .u64 a.pol.burst, .int .u64 a.pol.srate, .int .u64 a.pol.sburst, .int .u64 a.pol.quota, .int .u64 a.pol.lease, .int .u64 a.pol.quantum, .int .u64 a.granted]
theorem entV_len (a : Ent) : (entV a).length = 14 := rfl
theorem entV_cell (a : Ent) : ∀ v ∈ entV a, v.oneCell' = true := by
  intro v hv
  simp only [entV, List.mem_cons, List.not_mem_nil, or_false] at hv
  rcases hv with rfl | rfl | rfl | rfl | rfl | rfl | rfl | rfl | rfl | rfl | rfl | rfl | rfl | rfl <;> rfl
theorem vr_i {K : Ctx} {S : Mem} {q : IntKind} {n : Int} {v : Value} (h : VR K S (.i q n) v) : v = .int q n := by cases h; rfl
theorem ent_cell {K : Ctx} {S : Mem} {a : Ent} {j : Nat} (hj : j < 14) {v : Value} (h : VR K S ((entE.enc a).getD j .u) v) : v = (entV a)[j]! := by
  simp only [entE, Ent.enc] at h
  match j, hj with
  | 0, _ | 1, _ | 2, _ | 3, _ | 4, _ | 5, _ | 6, _ | 7, _ | 8, _ | 9, _ | 10, _ | 11, _ | 12, _ | 13, _ => exact vr_i h
theorem cell_vr {K : Ctx} {S : Mem} {a : Ent} {j : Nat} (hj : j < 14) : VR K S ((entE.enc a).getD j .u) ((entV a)[j]!) := by
  simp only [entE, Ent.enc]
  match j, hj with
  | 0, _ | 1, _ | 2, _ | 3, _ | 4, _ | 5, _ | 6, _ | 7, _ | 8, _ | 9, _ | 10, _ | 11, _ | 12, _ | 13, _ => exact .i _ _
theorem flat_get {l : List Ent} {junk : List AV} {t : Nat} (ht : t < l.length * 14) : (l.flatMap entE.enc ++ junk).getD t .u = (entE.enc (l.toArray[t / 14]!)).getD (t % 14) .u := by
  have hk : t / 14 < l.length := by omega
  have e : l.toArray[t / 14]! = l[t / 14] := by rw [getElem!_pos l.toArray (t / 14) (by simpa using hk)]; simp
  rw [e]
  have hp := flat_part (f := entE.enc) (w := 14) (fun a => rfl) l (t / 14) hk
  simp only [List.getD_eq_getElem?_getD]
  congr 1
  rw [List.getElem?_append_left (by rw [flat14]; exact ht), ← hp, List.getElem?_take, if_pos (by omega), List.getElem?_drop]
  congr 1; omega
/-- A block of entries is what the kit's sort asks for. -/
theorem holds_of_sim {base : Bs} {w0 : World} {K : Ctx} {S : Mem} {w : World} (h : Sim base w0 K S w) {i v : Nat} {l : List Ent} {junk : List AV} {op : Option Nat} (hB : S[i]? = some (.cells (l.flatMap entE.enc ++ junk) v op true)) : HoldsK entV 14 w (K.μ i) 0 l.toArray := by
  intro j hj
  have hj' : j < l.length * 14 := by simpa using hj
  have hjl : j < (l.flatMap entE.enc ++ junk).length := by rw [List.length_append, flat14]; omega
  obtain ⟨x, h1, h2⟩ := h.load hB hjl
  have hf := (h.set1 hB hjl h2).1
  rw [Nat.zero_add]
  refine ⟨?_, hf⟩
  rw [h1]
  rw [flat_get hj'] at h2
  rw [get_flatK _ _ _ j (by simpa using hj')]
  exact congrArg some (ent_cell (by omega) h2)
theorem put_size (F arr : Array Value) : (putCells id 0 F arr).size = arr.size := by unfold putCells; simp
theorem put_get {F arr : Array Value} {k : Nat} (hk : k < arr.size) : (putCells id 0 F arr).getD k undef = if k < F.size then F[k]! else arr.getD k undef := by
  have h : (putCells id 0 F arr)[k]? = some (if 0 ≤ k ∧ k < 0 + F.size then id F[k - 0]! else arr[k]) := by
    unfold putCells
    rw [Array.getElem?_mapIdx, Array.getElem?_eq_getElem hk]; rfl
  rw [Array.getD_eq_getD_getElem?, h, Option.getD_some]
  by_cases c : k < F.size
  · rw [if_pos ⟨Nat.zero_le _, by omega⟩, if_pos c, Nat.sub_zero]; rfl
  · rw [if_neg (by omega), if_neg c, Array.getD_eq_getD_getElem?, Array.getElem?_eq_getElem hk]; rfl
/-- Behind the kit's sort. -/
theorem sim_sorted {base : Bs} {w0 : World} {K : Ctx} {S : Mem} {w : World} (h : Sim base w0 K S w) {i v : Nat} {l : List Ent} {junk : List AV} {op : Option Nat} (hB : S[i]? = some (.cells (l.flatMap entE.enc ++ junk) v op true)) {d : Array Ent} (hd : d.size = l.length) (n : Nat) (os : Array Obj) :
    Sim base w0 K (S.set i (.cells (d.toList.flatMap entE.enc ++ junk) v op true)) (sortWorldK entV 14 w (K.μ i) 0 n d os) ∧ Stp K S w K (S.set i (.cells (d.toList.flatMap entE.enc ++ junk) v op true)) (sortWorldK entV 14 w (K.μ i) 0 n d os) := by
  obtain ⟨c, et, fz, h1, h2, h3, h4, h5, h6⟩ := h.blk i _ hB
  have hdl : d.toList.length = l.length := by rw [Array.length_toList, hd]
  have hlen : (d.toList.flatMap entE.enc ++ junk).length = (l.flatMap entE.enc ++ junk).length := by rw [List.length_append, List.length_append, flat14, flat14, hdl]
  refine h.resort hB h1 (f := putCells id 0 (flatK entV 14 d)) (put_size _ _) hlen (fun k hk => ?_) n os
  have hkc : k < c.size := by rw [hlen] at hk; omega
  rw [put_get hkc, size_flatK]
  by_cases c1 : k < d.size * 14
  · rw [if_pos c1, get_flatK _ _ _ k c1, flat_get (l := d.toList) (by rw [hdl, ← hd]; exact c1)]
    rw [show d.toList.toArray = d by simp]
    exact cell_vr (by omega)
  · rw [if_neg c1]
    have h7 := h5 k (by rw [← hlen]; exact hk)
    have e : (d.toList.flatMap entE.enc ++ junk).getD k .u = (l.flatMap entE.enc ++ junk).getD k .u := by
      simp only [List.getD_eq_getElem?_getD]
      rw [List.getElem?_append_right (by rw [flat14, hdl, ← hd]; omega), List.getElem?_append_right (by rw [flat14, ← hd]; omega), flat14, flat14, hdl]
    rw [e]; exact h7
end Go.Proofs.Ytmdnohpolepcoaa

namespace Go.Proofs.Ytmdnohpolepcoaa
open Go.RowKit Go.Sort
set_option linter.unusedSimpArgs false
set_option linter.unusedVariables false
set_option maxRecDepth 100000

theorem nan_calls (a : Int) (W : World) : Calls Try.prog 62 #[.int .i64 a] W fun e w' => e = .returned (.bool false) ∧ w' = W := by
  go_enter Try.func62, Try.ntmps62
  go_wp2
  go_ret
  simp
set_option maxHeartbeats 1000000 in
theorem cmp_calls (a b : Int) (W : World) : Calls Try.prog 47 #[.int .i64 a, .int .i64 b] W fun e w' => e = .returned (.int .i64 (cmpI a b)) ∧ w' = W := by
  have h1 := fun (x : Int) (W : World) => nan_calls x W
  unfold cmpI
  go_enter Try.func47, Try.ntmps47
  by_cases c1 : a < b
  · go_wp2_with (go_at_call 62; refine (h1 _ _).mono ?_; rintro e w' ⟨rfl, rfl⟩)
    go_ret
    exact ⟨rfl, rfl⟩
  · by_cases c2 : b < a
    · go_wp2_with (go_at_call 62; refine (h1 _ _).mono ?_; rintro e w' ⟨rfl, rfl⟩)
      go_ret
      exact ⟨rfl, rfl⟩
    · go_wp2_with (go_at_call 62; refine (h1 _ _).mono ?_; rintro e w' ⟨rfl, rfl⟩)
      go_ret
      exact ⟨rfl, rfl⟩
set_option maxHeartbeats 1000000 in
theorem closure_calls (x y : Ent) (W : World) : Calls Try.prog 46 #[.agg (entV x).toArray, .agg (entV y).toArray] W fun e w' => e = .returned (.int .i64 (cmpI x.pol.sub y.pol.sub)) ∧ ∃ q os', w' = grow (W.drewN q) os' := by
  have hcon := fun W' => cmp_calls x.pol.sub y.pol.sub W'
  generalize cmpI x.pol.sub y.pol.sub = r at hcon ⊢
  obtain ⟨⟨s, a1, a2, a3, a4, a5, a6, a7, a8, a9, a10, a11, a12⟩, a13⟩ := x
  obtain ⟨⟨t, b1, b2, b3, b4, b5, b6, b7, b8, b9, b10, b11, b12⟩, b13⟩ := y
  simp only [entV] at hcon ⊢
  go_enter Try.func46, Try.ntmps46
  go_wp2_with (go_at_call 47; refine (hcon _).mono ?_; rintro e w' ⟨rfl, rfl⟩)
  go_ret
  exact ⟨rfl, 0, _, by rw [alloc_eq_grow, alloc_eq_grow, grow_grow]; rfl⟩
end Go.Proofs.Ytmdnohpolepcoaa

