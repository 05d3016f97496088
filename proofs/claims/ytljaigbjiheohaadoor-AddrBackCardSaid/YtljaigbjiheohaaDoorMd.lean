/- Proved here: what the law of this claim leans on (an evaluator of the model's code, contracts of functions). No condition. -/
import Derived.Test.YtljaigbjiheohaaDoorQCode
import Derived.Test.YtljaigbjiheohaaDoorMc
import Derived.Lib.Bytealg
import Derived.Lib.ItoaNum
import Derived.Lib.AtoiAll
import Derived.Shelf.Strings.OnBuilder
import Derived.Shelf.Strconv.Itoa3
import Derived.Shelf.Strconv.ErrVarAll
import Derived.Test.YtljaigbjiheohaaDoorProg
import Derived.Test.YtljaigbjiheohaaDoorMa
import Derived.Test.YtljaigbjiheohaaDoorCards
import Derived.Test.YtljaigbjiheohaaDoorTie
import Derived.LaidMore
import Derived.SevenTiedAt
import Derived.Stop.Joined
import Derived.MakeChecks
import Derived.OpenShut
import Derived.ShutString
namespace Go.Proofs.YtljaigbjiheohaaDoor
open Go.RowKit
attribute [go_sem] Option.map_none Option.map_some decide_true decide_false iaddr_i iaddr_sl_i not_true_eq_false not_false_eq_true ne_eq forall_const false_imp_iff true_imp_iff implies_true Int.cast_ofNat_Int Int.natCast_zero Int.natCast_one Int.add_zero Int.zero_add Nat.reduceBEq Nat.reduceAdd Nat.reduceSub Nat.reduceEqDiff Nat.reduceLeDiff Nat.reduceMul Nat.reduceLT Int.reduceLT Int.reduceLE Int.reduceAdd Int.reduceSub Int.reduceMul Int.reduceNeg Int.reduceEq Int.reduceNe Int.reduceToNat reduceCtorEq
attribute [go_sem ↓] reduceIte
end Go.Proofs.YtljaigbjiheohaaDoor
namespace Go.Proofs.YtljaigbjiheohaaDoor
open Go.RowKit
set_option linter.unusedSimpArgs false
set_option linter.unusedVariables false
set_option maxRecDepth 10000

/-! ### Plain -/
def u8 (n : Int) : Prop := 0 ≤ n ∧ n ≤ 255
instance (n : Int) : Decidable (u8 n) := by unfold u8; infer_instance
def u32 (n : Int) : Prop := 0 ≤ n ∧ n ≤ 4294967295
instance (n : Int) : Decidable (u32 n) := by unfold u32; infer_instance
def num (a b c d : Int) : Int := ((a * 256 + b) * 256 + c) * 256 + d
def b3 (n : Int) : Int := n / 16777216
def b2 (n : Int) : Int := n / 65536 % 256
def b1 (n : Int) : Int := n / 256 % 256
def b0 (n : Int) : Int := n % 256
def cl (k : Int) : Int := max 0 (min k 32)
def pw (k : Int) : Int := ((2 ^ (32 - k).toNat : Nat) : Int)
def cutv (n k : Int) : Int := n / pw k * pw k

theorem num_b {n : Int} (h : u32 n) : num (b3 n) (b2 n) (b1 n) (b0 n) = n := by unfold num b3 b2 b1 b0 u32 at *; omega
theorem u32_num {a b c d : Int} (ha : u8 a) (hb : u8 b) (hc : u8 c) (hd : u8 d) : u32 (num a b c d) := by unfold num u8 u32 at *; omega
theorem b_num {a b c d : Int} (ha : u8 a) (hb : u8 b) (hc : u8 c) (hd : u8 d) : b3 (num a b c d) = a ∧ b2 (num a b c d) = b ∧ b1 (num a b c d) = c ∧ b0 (num a b c d) = d := by
  unfold num b3 b2 b1 b0 u8 at *; omega
theorem cl_bound (k : Int) : 0 ≤ cl k ∧ cl k ≤ 32 := by unfold cl; omega
theorem pw_pos (k : Int) : 0 < pw k := by unfold pw; exact Int.natCast_pos.2 (Nat.two_pow_pos _)
theorem cutv_le {n k : Int} : cutv n k ≤ n := Int.ediv_mul_le n (by have := pw_pos k; omega)
theorem u32_cutv {n k : Int} (h : u32 n) : u32 (cutv n k) := by
  have h1 : cutv n k ≤ n := cutv_le
  have h2 : 0 ≤ n / pw k := Int.ediv_nonneg h.1 (Int.le_of_lt (pw_pos k))
  have h3 : 0 ≤ cutv n k := Int.mul_nonneg h2 (Int.le_of_lt (pw_pos k))
  unfold u32 at *; omega

/-! ### Bits -/
theorem or_low {a c : Int} (ha : 0 ≤ a) (ha2 : a ≤ 4294967295) (hm : a % 256 = 0) (hc : 0 ≤ c) (hc2 : c ≤ 255) : bitsV .u32 .or a c = some (a + c) := by
  obtain ⟨x, rfl⟩ := Int.eq_ofNat_of_zero_le ha
  obtain ⟨y, rfl⟩ := Int.eq_ofNat_of_zero_le hc
  have hx : x < 4294967296 := by omega
  have e1 : (BitVec.ofInt IntKind.u32.bits (x : Int)).toNat = x := by show (BitVec.ofInt 32 (x : Int)).toNat = x; simp [BitVec.toNat_ofInt]; omega
  have e2 : (BitVec.ofInt IntKind.u32.bits (y : Int)).toNat = y := by show (BitVec.ofInt 32 (y : Int)).toNat = y; simp [BitVec.toNat_ofInt]; omega
  have e3 : Nat.lor x y = x + y := by
    have := Nat.shiftLeft_add_eq_or_of_lt (show y < 2 ^ 8 by omega) (x / 256)
    have hs : (x / 256) <<< 8 = x := by rw [Nat.shiftLeft_eq]; omega
    rw [hs] at this
    exact this.symm
  simp only [bitsV, e1, e2, e3, wrapV]
  congr 1
  omega

theorem nat_and_mask {n j : Nat} (hn : n < 2 ^ 32) (hj : j ≤ 32) : n &&& (2 ^ 32 - 2 ^ j) = n / 2 ^ j * 2 ^ j := by
  have h1 : n / 2 ^ j * 2 ^ j = (n >>> j) <<< j := by rw [Nat.shiftLeft_eq, Nat.shiftRight_eq_div_pow]
  rw [h1]
  apply Nat.eq_of_testBit_eq
  intro i
  have h2 : 2 ^ 32 - 2 ^ j = 2 ^ 32 - ((2 ^ j - 1) + 1) := by have := Nat.two_pow_pos j; omega
  have h3 : 2 ^ j - 1 < 2 ^ 32 := by have := Nat.pow_le_pow_right (n := 2) (by omega) hj; have := Nat.two_pow_pos j; omega
  rw [h2, Nat.testBit_and, Nat.testBit_two_pow_sub_succ h3, Nat.testBit_two_pow_sub_one, Nat.testBit_shiftLeft, Nat.testBit_shiftRight]
  by_cases hi : i < j
  · simp [hi]; omega
  · have hji : j ≤ i := by omega
    rw [show j + (i - j) = i by omega]
    by_cases h32 : i < 32
    · simp [hi, hji, h32]
    · have : n.testBit i = false := Nat.testBit_lt_two_pow (Nat.lt_of_lt_of_le hn (Nat.pow_le_pow_right (by omega) (by omega)))
      simp [this]

theorem and_mask {n k : Int} (h : u32 n) (h0 : 0 ≤ k) (h1 : k ≤ 32) : bitsV .u32 .and n (4294967296 - pw k) = some (cutv n k) := by
  obtain ⟨x, rfl⟩ := Int.eq_ofNat_of_zero_le h.1
  unfold cutv pw
  generalize hj : (32 - k).toNat = j
  have hj2 : j ≤ 32 := by omega
  have hp := Nat.pow_le_pow_right (n := 2) (by omega) hj2
  have hp0 := Nat.two_pow_pos j
  have hx : x < 2 ^ 32 := by have := h.2; omega
  have e1 : (BitVec.ofInt IntKind.u32.bits (x : Int)).toNat = x := by show (BitVec.ofInt 32 (x : Int)).toNat = x; simp [BitVec.toNat_ofInt]; omega
  have e2 : (BitVec.ofInt IntKind.u32.bits (4294967296 - ((2 ^ j : Nat) : Int))).toNat = 2 ^ 32 - 2 ^ j := by
    show (BitVec.ofInt 32 _).toNat = _
    rw [show (4294967296 : Int) - ((2 ^ j : Nat) : Int) = ((2 ^ 32 - 2 ^ j : Nat) : Int) by omega]
    simp only [BitVec.toNat_ofInt]
    omega
  simp only [bitsV, e1, e2, wrapV]
  rw [show Nat.land x (2 ^ 32 - 2 ^ j) = x &&& (2 ^ 32 - 2 ^ j) from rfl, nat_and_mask hx hj2]
  congr 1
  have := Nat.div_mul_le_self x (2 ^ j)
  rw [← Int.natCast_ediv, ← Int.natCast_mul]
  omega

theorem shl_mask {k : Int} (h0 : 0 ≤ k) (h1 : k ≤ 32) : shiftV .shl .u32 4294967295 (32 - k) = some (.i .u32 (4294967296 - pw k)) := by
  unfold shiftV pw
  rw [if_neg (by omega)]
  have hb : IntKind.u32.bits = 32 := rfl
  simp only [hb, wrapV]
  rw [Nat.min_eq_left (by omega)]
  congr 2
  generalize hj : (32 - k).toNat = j
  have hp := Nat.pow_le_pow_right (n := 2) (by omega) (show j ≤ 32 by omega)
  have hp0 := Nat.two_pow_pos j
  omega

/-! ### Rules -/
theorem shr_24 {n : Int} (h : 0 ≤ n) : shiftV .shr .u32 n 24 = some (.i .u32 (n / 16777216)) := by
  simp only [shiftV, IntKind.bits]
  rw [if_neg (by omega), Int.fdiv_eq_ediv_of_nonneg _ (Int.natCast_nonneg _)]; rfl
theorem shr_16 {n : Int} (h : 0 ≤ n) : shiftV .shr .u32 n 16 = some (.i .u32 (n / 65536)) := by
  simp only [shiftV, IntKind.bits]
  rw [if_neg (by omega), Int.fdiv_eq_ediv_of_nonneg _ (Int.natCast_nonneg _)]; rfl
theorem shr_8 {n : Int} (h : 0 ≤ n) : shiftV .shr .u32 n 8 = some (.i .u32 (n / 256)) := by
  simp only [shiftV, IntKind.bits]
  rw [if_neg (by omega), Int.fdiv_eq_ediv_of_nonneg _ (Int.natCast_nonneg _)]; rfl
theorem shl_8 {n : Int} (h : 0 ≤ n) (h2 : n ≤ 16777215) : shiftV .shl .u32 n 8 = some (.i .u32 (n * 256)) := by
  simp only [shiftV, IntKind.bits, wrapV]
  rw [if_neg (by omega)]
  congr 2
  show n * 256 % 4294967296 = _
  omega
theorem wrap_mod {n : Int} : wrapV .u8 n = n % 256 := rfl
theorem bin_or {cst : Bool} {a c : Int} (ha : 0 ≤ a) (ha2 : a ≤ 4294967295) (hm : a % 256 = 0) (hc : 0 ≤ c) (hc2 : c ≤ 255) : binV .int cst .or (.i .u32 a) (.i .u32 c) = some (.i .u32 (a + c)) := by
  rw [bin_i rfl]
  simp only [intV, or_low ha ha2 hm hc hc2, Option.map_some]
theorem bin_and {cst : Bool} {n k : Int} (h : u32 n) (h0 : 0 ≤ k) (h1 : k ≤ 32) : binV .int cst .and (.i .u32 n) (.i .u32 (4294967296 - pw k)) = some (.i .u32 (cutv n k)) := by
  rw [bin_i rfl]
  simp only [intV, and_mask h h0 h1, Option.map_some]
theorem ixa_ag {l : Nat} {cs : List AV} {q : IntKind} {n : Int} (h0 : 0 ≤ n) (h1 : n < l) : ixaV l 1 none (.ag cs) (.i q n) = cs[n.toNat]? := by
  have hn : natV (.i q n) = some n.toNat := natV_i h0
  simp only [ixaV, hn]
  rw [if_pos (by omega)]
  simp [partV]

/-! ### Cells -/
def adr (n : Int) : AV := .ag [.i .u8 (b3 n), .i .u8 (b2 n), .i .u8 (b1 n), .i .u8 (b0 n)]
def net (n k : Int) : AV := .ag [.i .u8 (b3 n), .i .u8 (b2 n), .i .u8 (b1 n), .i .u8 (b0 n), .i .i64 k]
def right (n k : Int) : Prop := cl k = k ∧ cutv n k = n
instance (n k : Int) : Decidable (right n k) := by unfold right; infer_instance
def within (n j m k : Int) : Prop := right n j ∧ k ≤ j ∧ right m k ∧ cutv n k = m
instance (n j m k : Int) : Decidable (within n j m k) := by unfold within; infer_instance
theorem eq_adr {a b c d x y z w : Int} : eqAgV false [.int, .int, .int, .int] (.ag [.i .u8 a, .i .u8 b, .i .u8 c, .i .u8 d]) (.ag [.i .u8 x, .i .u8 y, .i .u8 z, .i .u8 w]) = some (.b (decide (a = x ∧ b = y ∧ c = z ∧ d = w))) := by
  simp [eqAgV, eqCells, eqCell, Bool.beq_eq_decide_eq]
theorem eq_net {a b c d x y z w j k : Int} : eqAgV false [.int, .int, .int, .int, .int] (.ag [.i .u8 a, .i .u8 b, .i .u8 c, .i .u8 d, .i .i64 j]) (.ag [.i .u8 x, .i .u8 y, .i .u8 z, .i .u8 w, .i .i64 k]) = some (.b (decide (a = x ∧ b = y ∧ c = z ∧ d = w ∧ j = k))) := by
  simp [eqAgV, eqCells, eqCell, Bool.beq_eq_decide_eq]
end Go.Proofs.YtljaigbjiheohaaDoor

namespace Go.Proofs.YtljaigbjiheohaaDoor
open Go.RowKit
set_option linter.unusedSimpArgs false
set_option linter.unusedVariables false
set_option maxRecDepth 10000

theorem none_ok : OK Tryd.prog (lamOf Tryd.prog) (orcOf []) := orc_ok (l := []) (fun p hp => by cases hp)

def u84 (a b c d : Int) : Prop := u8 a ∧ u8 b ∧ u8 c ∧ u8 d
instance (a b c d : Int) : Decidable (u84 a b c d) := by unfold u84; infer_instance
theorem u84_num {a b c d : Int} (h : u84 a b c d) : u32 (num a b c d) := u32_num h.1 h.2.1 h.2.2.1 h.2.2.2

def ofS : Spec := fun args S => match args with
  | [.i .u32 n] => if u32 n then some (adr n, S) else none
  | _ => none
theorem ofS_eq {n : Int} (h : u32 n) (S : Mem) : ofS [.i .u32 n] S = some (adr n, S) := by simp only [ofS, if_pos h]
theorem of_ok : SpecOK Tryd.prog 11 ofS := by
  intro args S x S' h
  simp only [ofS] at h
  split at h
  · rename_i n
    split at h
    · rename_i hn
      cases h
      unfold u32 at hn
      refine fn_of_wp f11 rfl (W_sound none_ok mixed _ _ _ _ _ ?_)
      simp (maxSteps := 1000000) (disch := omega) only [c11, shr_24, shr_16, shr_8, wrap_mod, go_sem]
      rw [show adr n = AV.ag [AV.i IntKind.u8 (n / 16777216 % 256), AV.i IntKind.u8 (n / 65536 % 256), AV.i IntKind.u8 (n / 256 % 256), AV.i IntKind.u8 (n % 256)] by rw [show n / 16777216 % 256 = n / 16777216 by omega]; rfl]
      exact wkv_drop rfl
    · cases h
  · cases h
def numS : Spec := fun args S => match args with
  | [.ag [.i .u8 a, .i .u8 b, .i .u8 c, .i .u8 d]] => if u84 a b c d then some (.i .u32 (num a b c d), S) else none
  | _ => none
theorem numS_eq {a b c d : Int} (h : u84 a b c d) (S : Mem) : numS [.ag [.i .u8 a, .i .u8 b, .i .u8 c, .i .u8 d]] S = some (.i .u32 (num a b c d), S) := by simp only [numS, if_pos h]
theorem num_ok : SpecOK Tryd.prog 13 numS := by
  intro args S x S' h
  simp only [numS] at h
  split at h
  · rename_i a b c d
    split at h
    · rename_i hn
      cases h
      obtain ⟨ha, hb, hc, hd⟩ := hn
      unfold u8 at ha hb hc hd
      refine fn_of_wp f13 rfl (W_sound none_ok mixed _ _ _ _ _ ?_)
      simp (maxSteps := 1000000) (disch := omega) only [c13, go_sem]
      refine wp_unroll none_ok mixed 5 ?_
      simp (maxSteps := 1000000) (disch := omega) only [c13l0, shl_8, bin_or, ixa_ag, go_sem]
      exact wkv_drop rfl
    · cases h
  · cases h
def maskS : Spec := fun args S => match args with
  | [.i .i64 k] => some (.i .u32 (4294967296 - pw (cl k)), S)
  | _ => none
theorem mask_ok : SpecOK Tryd.prog 32 maskS := by
  intro args S x S' h
  simp only [maskS] at h
  split at h
  · rename_i k
    cases h
    refine fn_of_wp f32 rfl (W_sound none_ok mixed _ _ _ _ _ ?_)
    have hk := cl_bound k
    simp (maxSteps := 1000000) (disch := omega) only [c32, show max 0 (min k 32) = cl k from rfl, shl_mask (cl_bound k).1 (cl_bound k).2, go_sem]
    exact wkv_same
  · cases h
theorem maskS_eq {k : Int} (S : Mem) : maskS [.i .i64 k] S = some (.i .u32 (4294967296 - pw (cl k)), S) := rfl
def cutS : Spec := fun args S => match args with
  | [.ag [.i .u8 a, .i .u8 b, .i .u8 c, .i .u8 d], .i .i64 k] => if u84 a b c d then some (net (cutv (num a b c d) (cl k)) (cl k), S) else none
  | _ => none
theorem cutS_eq {a b c d k : Int} (h : u84 a b c d) (S : Mem) : cutS [.ag [.i .u8 a, .i .u8 b, .i .u8 c, .i .u8 d], .i .i64 k] S = some (net (cutv (num a b c d) (cl k)) (cl k), S) := by simp only [cutS, if_pos h]
theorem o17_ok : OK Tryd.prog (lamOf Tryd.prog) (orcOf [(13, numS), (32, maskS), (11, ofS)]) := orc_ok (by simpa using ⟨num_ok, mask_ok, of_ok⟩)
theorem cut_ok : SpecOK Tryd.prog 17 cutS := by
  intro args S x S' h
  simp only [cutS] at h
  split at h
  · rename_i a b c d k
    split at h
    · rename_i hn
      cases h
      have hk := cl_bound k
      have h32 := u84_num hn
      refine fn_of_wp f17 rfl (W_sound o17_ok mixed _ _ _ _ _ ?_)
      simp (maxSteps := 1000000) (disch := omega) only [c17, orc_cons, numS_eq hn, maskS_eq, bin_and h32 hk.1 hk.2, ofS_eq (u32_cutv h32), show max 0 (min k 32) = cl k from rfl, adr, go_sem]
      exact wkv_drop rfl
    · cases h
  · cases h

def p2 (t : Int) : Int := ((2 ^ t.toNat : Nat) : Int)
end Go.Proofs.YtljaigbjiheohaaDoor

namespace Go.Proofs.YtljaigbjiheohaaDoor
open Go.RowKit
set_option linter.unusedSimpArgs false
set_option linter.unusedVariables false
set_option maxRecDepth 10000

theorem cl_id {k : Int} (h0 : 0 ≤ k) (h1 : k ≤ 32) : cl k = k := by unfold cl; omega
theorem adr_eq {n a b c d : Int} (hn : u32 n) (h : u84 a b c d) : (b3 n = a ∧ b2 n = b ∧ b1 n = c ∧ b0 n = d) ↔ n = num a b c d := by
  obtain ⟨q1, q2, q3, q4⟩ := b_num h.1 h.2.1 h.2.2.1 h.2.2.2
  constructor
  · rintro ⟨rfl, rfl, rfl, rfl⟩; exact (num_b hn).symm
  · rintro rfl; exact ⟨q1, q2, q3, q4⟩
theorem net_eq {a b c d k : Int} (h : u84 a b c d) (h0 : 0 ≤ k) (h1 : k ≤ 32) : (b3 (cutv (num a b c d) (cl k)) = a ∧ b2 (cutv (num a b c d) (cl k)) = b ∧ b1 (cutv (num a b c d) (cl k)) = c ∧ b0 (cutv (num a b c d) (cl k)) = d ∧ cl k = k) ↔ right (num a b c d) k := by
  rw [cl_id h0 h1]
  have := adr_eq (u32_cutv (k := k) (u84_num h)) h
  unfold right
  rw [cl_id h0 h1]
  constructor
  · rintro ⟨q1, q2, q3, q4, _⟩; exact ⟨rfl, this.1 ⟨q1, q2, q3, q4⟩⟩
  · rintro ⟨_, q⟩
    obtain ⟨q1, q2, q3, q4⟩ := this.2 q
    exact ⟨q1, q2, q3, q4, rfl⟩

theorem wkv_b {S L : Mem} {p q : Prop} [Decidable p] [Decidable q] (h : p ↔ q) : WkV S (.b (decide p)) S (.b (decide q)) (S ++ L) := by
  rw [show decide p = decide q by rw [decide_eq_decide]; exact h]
  exact wkv_drop rfl
theorem wkv_f {S L : Mem} {p : Prop} [Decidable p] (h : ¬ p) : WkV S (.b (decide p)) S (.b false) (S ++ L) := by
  rw [show decide p = false by simpa using h]
  exact wkv_drop rfl
theorem right_bound {n k : Int} (h : right n k) : 0 ≤ k ∧ k ≤ 32 := by
  have := cl_bound k; rw [h.1] at this; exact this

def rightS : Spec := fun args S => match args with
  | [.ag [.i .u8 a, .i .u8 b, .i .u8 c, .i .u8 d, .i .i64 k]] => if u84 a b c d then some (.b (decide (right (num a b c d) k)), S) else none
  | _ => none
theorem rightS_eq {a b c d k : Int} (h : u84 a b c d) (S : Mem) : rightS [.ag [.i .u8 a, .i .u8 b, .i .u8 c, .i .u8 d, .i .i64 k]] S = some (.b (decide (right (num a b c d) k)), S) := by simp only [rightS, if_pos h]
theorem o18_ok : OK Tryd.prog (lamOf Tryd.prog) (orcOf [(17, cutS)]) := orc_ok (by simpa using cut_ok)
theorem right_ok : SpecOK Tryd.prog 18 rightS := by
  intro args S x S' h
  simp only [rightS] at h
  split at h
  · rename_i a b c d k
    split at h
    · rename_i hn
      cases h
      refine fn_of_wp f18 rfl (W_sound o18_ok mixed _ _ _ _ _ ?_)
      simp (maxSteps := 1000000) (disch := omega) only [c18, orc_cons, cutS_eq hn, net, eq_net, go_sem]
      refine ⟨fun h0 => ⟨fun h1 => wkv_b (net_eq hn h0 h1).symm, fun h1 => wkv_f fun hr => ?_⟩, fun h0 => wkv_f fun hr => ?_⟩
      · exact h1 (right_bound hr).2
      · exact h0 (right_bound hr).1
    · cases h
  · cases h
/-- The address n lies in the network of m and k. -/
def isin (n m k : Int) : Prop := right m k ∧ cutv n k = m
instance (n m k : Int) : Decidable (isin n m k) := by unfold isin; infer_instance
end Go.Proofs.YtljaigbjiheohaaDoor

namespace Go.Proofs.YtljaigbjiheohaaDoor
open Go.RowKit
set_option linter.unusedSimpArgs false
set_option linter.unusedVariables false
set_option maxRecDepth 10000

/-! ### A text cut at a byte -/
def bef (c : UInt8) (l : List UInt8) : List UInt8 := l.takeWhile (· != c)
def aft (c : UInt8) (l : List UInt8) : List UInt8 := (l.dropWhile (· != c)).drop 1
def has (c : UInt8) (l : List UInt8) : Bool := l.any (· == c)
theorem has_true {c : UInt8} : ∀ {l : List UInt8}, has c l = true → l = bef c l ++ c :: aft c l
  | x :: r, h => by
    by_cases hx : x = c
    · subst hx; simp [bef, aft]
    · have h' : has c r = true := by simpa [has, hx] using h
      have ih := has_true h'
      have e1 : (x != c) = true := by simp [hx]
      simp only [bef, aft, List.takeWhile_cons, List.dropWhile_cons, e1, if_true, List.cons_append]
      exact congrArg (x :: ·) ih
theorem has_false {c : UInt8} : ∀ {l : List UInt8}, has c l = false → bef c l = l ∧ aft c l = []
  | [], _ => ⟨rfl, rfl⟩
  | x :: r, h => by
    have hx : x ≠ c := by rintro rfl; simp [has] at h
    have h' : has c r = false := by simpa [has, hx] using h
    obtain ⟨h1, h2⟩ := has_false h'
    have e1 : (x != c) = true := by simp [hx]
    simp only [bef, aft, List.takeWhile_cons, List.dropWhile_cons, e1, if_true]
    exact ⟨congrArg (x :: ·) h1, h2⟩
theorem cut_app {c : UInt8} (r : List UInt8) : ∀ {p : List UInt8}, (∀ x ∈ p, x ≠ c) → bef c (p ++ c :: r) = p ∧ aft c (p ++ c :: r) = r ∧ has c (p ++ c :: r) = true
  | [], _ => by simp [bef, aft, has]
  | x :: p, h => by
    have hx : x ≠ c := h x (by simp)
    obtain ⟨h1, h2, h3⟩ := cut_app r (p := p) fun y hy => h y (by simp [hy])
    have e1 : (x != c) = true := by simp [hx]
    simp only [bef, aft, has, List.cons_append, List.takeWhile_cons, List.dropWhile_cons, e1, if_true, List.any_cons] at *
    exact ⟨congrArg (x :: ·) h1, h2, by rw [h3, Bool.or_true]⟩
theorem cut_not {c : UInt8} {p : List UInt8} (h : ∀ x ∈ p, x ≠ c) : has c p = false := by
  simp only [has, List.any_eq_false, beq_iff_eq]
  exact h
theorem bef_pre {c : UInt8} (l : List UInt8) : l.take (bef c l).length = bef c l := by
  have key : ∀ p q : List UInt8, p ++ q = l → l.take p.length = p := by rintro p q rfl; exact List.take_left
  exact key _ (l.dropWhile (· != c)) List.takeWhile_append_dropWhile
theorem aft_suf {c : UInt8} (l : List UInt8) : l.drop ((bef c l).length + 1) = aft c l := by
  have key : ∀ p q : List UInt8, p ++ q = l → l.drop (p.length + 1) = q.drop 1 := by
    rintro p q rfl
    rw [← List.drop_drop, List.drop_left]
  exact key _ (l.dropWhile (· != c)) List.takeWhile_append_dropWhile
theorem ixb_has {c : UInt8} : ∀ {l : List UInt8}, has c l = true → Lib.indexByte l c = ((bef c l).length : Int)
  | x :: r, h => by
    by_cases hx : x = c
    · subst hx; simp [bef, Lib.indexByte]
    · have h' : has c r = true := by simpa [has, hx] using h
      have ih := ixb_has h'
      have e1 : (x != c) = true := by simp [hx]
      have e2 : (x == c) = false := by simp [hx]
      have e3 : ((((bef c r).length : Int)) == -1) = false := by simp
      simp only [Lib.indexByte, e2, ih, e3, bef, List.takeWhile_cons, e1, if_true, List.length_cons, Bool.false_eq_true, if_false]
      rfl
theorem ixb_no {c : UInt8} : ∀ {l : List UInt8}, has c l = false → Lib.indexByte l c = -1
  | [], _ => rfl
  | x :: r, h => by
    have hx : x ≠ c := by rintro rfl; simp [has] at h
    have h' : has c r = false := by simpa [has, hx] using h
    have ih := ixb_no h'
    have e2 : (x == c) = false := by simp [hx]
    simp only [Lib.indexByte, e2, ih, Bool.false_eq_true, if_false, beq_self_eq_true, if_true]


/-! ### The library's functions -/
theorem strN_ok : OK Tryd.prog (lamOf Tryd.prog) (orcOf []) := orc_ok (l := []) (fun p hp => by cases hp)
theorem ixs_one {c : UInt8} {q : IntKind} : ixsV (.s [c]) (.i q 0) = some (.i .u8 c.toNat) := (rfl)
theorem str_eqlS {a b : List UInt8} {cst : Bool} : binV .str cst .eql (.s a) (.s b) = some (.b (a == b)) := (rfl)
theorem toU8 (c : UInt8) : (c.toNat : Int).toNat.toUInt8 = c := by
  rw [Int.toNat_natCast]; simp
theorem sls_to {l : List UInt8} {q : IntKind} {n : Nat} (h : n ≤ l.length) : slsV (.s l) none (some (.i q (n : Int))) = some (.s (l.take n)) := by
  have h0 : (0 : Int) ≤ (n : Int) := by omega
  simp [slsV, bnds, bndV, natV, h0, h]
theorem sls_from {l : List UInt8} {q : IntKind} {n : Nat} (h : n ≤ l.length) : slsV (.s l) (some (.i q (n : Int))) none = some (.s (l.drop n)) := by
  have h0 : (0 : Int) ≤ (n : Int) := by omega
  simp [slsV, bnds, bndV, natV, h0, h]
def ixS : Spec := fun args S => match args with
  | [.s l, .i .u8 c] => some (.i .i64 (Lib.indexByte l c.toNat.toUInt8), S)
  | _ => none
theorem ixb_ok : SpecOK Tryd.prog 52 ixS := by
  intro args S x S' h
  unfold ixS at h
  split at h
  · rename_i l c
    cases h
    refine fn_of_wp f52 rfl (W_sound strN_ok mixed _ _ _ _ _ ?_)
    simp (maxSteps := 1000000) (disch := omega) only [c52, go_sem]
    exact wkv_same
  · cases h
def idxS : Spec := fun args S => match args with
  | [.s l, .s [c]] => some (.i .i64 (Lib.indexByte l c), S)
  | _ => none
theorem idx_eq {l : List UInt8} {c : UInt8} {S : Mem} : idxS [.s l, .s [c]] S = some (.i .i64 (Lib.indexByte l c), S) := rfl
theorem ixS_eq {l : List UInt8} {c : UInt8} {S : Mem} : ixS [.s l, .i .u8 (c.toNat : Int)] S = some (.i .i64 (Lib.indexByte l c), S) := by
  simp only [ixS, toU8]
theorem oIx_ok : OK Tryd.prog (lamOf Tryd.prog) (orcOf [(52, ixS)]) := orc_ok (by simpa using ixb_ok)
theorem idx_ok : SpecOK Tryd.prog 46 idxS := by
  intro args S x S' h
  unfold idxS at h
  split at h
  · rename_i l c
    cases h
    have e1 : ([c] : List UInt8).length = 1 := rfl
    refine fn_of_wp f46 rfl (W_sound oIx_ok mixed _ _ _ _ _ ?_)
    by_cases hc : [c] = l
    · have e2 : Lib.indexByte l c = 0 := by rw [← hc]; simp [Lib.indexByte]
      have e3 : ([c] == l) = true := by simp [hc]
      rw [e2]
      simp (maxSteps := 1000000) (disch := omega) only [c46, orc_cons, e1, str_eqlS, e3, go_sem]
      exact wkv_same
    · have e3 : ([c] == l) = false := by simp [hc]
      simp (maxSteps := 1000000) (disch := omega) only [c46, orc_cons, e1, str_eqlS, e3, ixs_one, ixS_eq, go_sem]
      exact wkv_same
  · cases h
def scutS : Spec := fun args S => match args with
  | [.s l, .s [c]] => if l.length ≤ 1000000 then some (.tu [.s (bef c l), .s (aft c l), .b (has c l)], S) else none
  | _ => none
theorem scut_eq {l : List UInt8} {c : UInt8} {S : Mem} (h : l.length ≤ 1000000) : scutS [.s l, .s [c]] S = some (.tu [.s (bef c l), .s (aft c l), .b (has c l)], S) := by
  simp only [scutS, if_pos h]
theorem oCut_ok : OK Tryd.prog (lamOf Tryd.prog) (orcOf [(46, idxS)]) := orc_ok (by simpa using idx_ok)
theorem cutl_ok : SpecOK Tryd.prog 40 scutS := by
  intro args S x S' h
  unfold scutS at h
  split at h
  · rename_i l c
    split at h
    · rename_i hlen
      cases h
      have e1 : ([c] : List UInt8).length = 1 := rfl
      cases hb : has c l with
      | true =>
        have hl : (bef c l).length + 1 ≤ l.length := by
          conv => rhs; rw [has_true hb]
          simp
        have h0 : (0 : Int) ≤ ((bef c l).length : Int) := by omega
        have ha : ∀ cst, binV .int cst .add (.i .i64 ((bef c l).length : Int)) (.i .i64 1) = some (.i .i64 (((bef c l).length + 1 : Nat) : Int)) := fun cst => by rw [bin_add, wrap_i64 (by omega) (by omega)]; rfl
        have hx := ixb_has hb
        have hp := bef_pre (c := c) l
        have hs := aft_suf (c := c) l
        refine fn_of_wp f40 rfl (W_sound oCut_ok mixed _ _ _ _ _ ?_)
        simp (maxSteps := 1000000) (disch := omega) only [c40, orc_cons, idx_eq, hx, h0, e1, ha, sls_to (show (bef c l).length ≤ l.length by omega), sls_from hl, hp, hs, go_sem]
        exact wkv_same
      | false =>
        obtain ⟨h1, h2⟩ := has_false hb
        have hx := ixb_no hb
        refine fn_of_wp f40 rfl (W_sound oCut_ok mixed _ _ _ _ _ ?_)
        simp (maxSteps := 1000000) (disch := omega) only [c40, orc_cons, idx_eq, hx, h1, h2, go_sem]
        exact wkv_same
    · cases h
  · cases h
theorem oCut2_ok : OK Tryd.prog (lamOf Tryd.prog) (orcOf [(40, scutS)]) := orc_ok (by simpa using cutl_ok)
theorem scut_ok : SpecOK Tryd.prog 34 scutS := by
  intro args S x S' h
  unfold scutS at h
  split at h
  · rename_i l c
    split at h
    · rename_i hlen
      cases h
      refine fn_of_wp f34 rfl (W_sound oCut2_ok mixed _ _ _ _ _ ?_)
      simp (maxSteps := 1000000) (disch := omega) only [c34, orc_cons, scut_eq hlen, go_sem]
      exact wkv_same
    · cases h
  · cases h
end Go.Proofs.YtljaigbjiheohaaDoor

namespace Go.Proofs.YtljaigbjiheohaaDoor
open Go.RowKit
set_option linter.unusedSimpArgs false
set_option linter.unusedVariables false

/-! ### Numbers of at most three digits -/
def dd (u : Nat) : List UInt8 := if u < 10 then [UInt8.ofNat (48 + u)] else if u < 100 then [UInt8.ofNat (48 + u / 10), UInt8.ofNat (48 + u % 10)] else [UInt8.ofNat (48 + u / 100), UInt8.ofNat (48 + u / 10 % 10), UInt8.ofNat (48 + u % 10)]
theorem dec_dd {u : Nat} (h : u < 1000) : Lib.decDigits u = dd u := by
  unfold dd
  split
  · rename_i h1
    exact Lib.decDigits_one h1
  · split
    · rename_i h1 h2
      exact Lib.decDigits_two h1 h2
    · rename_i h1 h2
      rw [Lib.decDigits, dif_neg h1, Lib.decDigits_two (i := u / 10) (by omega) (by omega), Nat.div_div_eq_div_mul]
      rfl
theorem atoi_ddF : ∀ u : Fin 256, Lib.atoiAll (dd u.val) = .ok (u.val : Int) := by decide +kernel
theorem atoi_dd {u : Nat} (h : u < 256) : Lib.atoiAll (dd u) = .ok (u : Int) := atoi_ddF ⟨u, h⟩
theorem dig_toNat {k : Nat} (h : k < 10) : (UInt8.ofNat (48 + k)).toNat = 48 + k := by
  rw [UInt8.toNat_ofNat']; omega
theorem dd_dig {u : Nat} (h : u < 1000) {c : UInt8} (hc : c ∈ dd u) : 48 ≤ c.toNat ∧ c.toNat ≤ 57 := by
  unfold dd at hc
  split at hc
  · rw [List.mem_singleton.1 hc, dig_toNat (by omega)]; omega
  · split at hc
    · simp only [List.mem_cons, List.not_mem_nil, or_false] at hc
      rcases hc with rfl | rfl <;> rw [dig_toNat (by omega)] <;> omega
    · simp only [List.mem_cons, List.not_mem_nil, or_false] at hc
      rcases hc with rfl | rfl | rfl <;> rw [dig_toNat (by omega)] <;> omega
theorem dd_ne (u : Nat) : dd u ≠ [] := by
  unfold dd; split
  · simp
  · split <;> simp
def numL (high : Nat) (l : List UInt8) : Option Nat := match Lib.atoiAll l with
  | .ok v => if 0 ≤ v ∧ v ≤ high ∧ Lib.itoa v = l then some v.toNat else none
  | _ => none
theorem numL_iff {high v : Nat} {l : List UInt8} (hh : high ≤ 255) : numL high l = some v ↔ v ≤ high ∧ l = dd v := by
  unfold numL
  constructor
  · intro h
    split at h
    · rename_i n hn
      split at h
      · rename_i hc
        obtain ⟨h1, h2, h3⟩ := hc
        injection h with h
        subst h
        refine ⟨by omega, ?_⟩
        rw [← h3, Lib.itoa, if_neg (by omega), dec_dd (by omega)]
      · cases h
    · cases h
  · rintro ⟨h1, rfl⟩
    rw [atoi_dd (by omega)]
    have : Lib.itoa (v : Int) = dd v := by rw [Lib.itoa, if_neg (by omega), Int.toNat_natCast, dec_dd (by omega)]
    simp only [this]
    rw [if_pos ⟨by omega, by omega, trivial⟩, Int.toNat_natCast]
theorem dd_no {u : Nat} (h : u < 1000) {c : UInt8} (hc : c.toNat < 48) : ∀ x ∈ dd u, x ≠ c := by
  rintro x hx rfl
  have := (dd_dig h hx).1
  omega

/-! ### Addresses -/
def text4 (a b c d : Nat) : List UInt8 := dd a ++ 46 :: (dd b ++ 46 :: (dd c ++ 46 :: dd d))
def parse1 (l : List UInt8) (more : Bool) : Option Nat := match numL 255 (bef 46 l) with
  | some n => if has 46 l = more then some n else none
  | none => none
def parseP (l : List UInt8) : Option (Nat × Nat × Nat × Nat) := match parse1 l true with
  | none => none
  | some a => match parse1 (aft 46 l) true with
    | none => none
    | some b => match parse1 (aft 46 (aft 46 l)) true with
      | none => none
      | some c => match parse1 (aft 46 (aft 46 (aft 46 l))) false with
        | none => none
        | some d => some (a, b, c, d)
theorem parse1_true {l : List UInt8} {n : Nat} : parse1 l true = some n ↔ n ≤ 255 ∧ l = dd n ++ 46 :: aft 46 l := by
  unfold parse1
  constructor
  · intro h
    split at h
    · rename_i m hm
      split at h
      · rename_i hb
        injection h with h; subst h
        obtain ⟨h1, h2⟩ := (numL_iff (by omega)).1 hm
        refine ⟨h1, ?_⟩
        rw [← h2]; exact has_true hb
      · cases h
    · cases h
  · rintro ⟨h1, h2⟩
    obtain ⟨e1, e2, e3⟩ := cut_app (c := 46) (aft 46 l) (dd_no (u := n) (by omega) (by decide))
    rw [← h2] at e1 e3
    rw [e1, (numL_iff (by omega)).2 ⟨h1, rfl⟩]
    simp only [e3, if_true]
theorem parse1_false {l : List UInt8} {n : Nat} : parse1 l false = some n ↔ n ≤ 255 ∧ l = dd n := by
  unfold parse1
  constructor
  · intro h
    split at h
    · rename_i m hm
      split at h
      · rename_i hb
        injection h with h; subst h
        obtain ⟨h1, h2⟩ := (numL_iff (by omega)).1 hm
        refine ⟨h1, ?_⟩
        rw [← h2]; exact (has_false hb).1.symm
      · cases h
    · cases h
  · rintro ⟨h1, rfl⟩
    have e3 := cut_not (c := 46) (dd_no (u := n) (by omega) (by decide))
    rw [(has_false e3).1, (numL_iff (by omega)).2 ⟨h1, rfl⟩]
    simp only [e3, if_true]
theorem parseP_iff {l : List UInt8} {a b c d : Nat} : parseP l = some (a, b, c, d) ↔ a ≤ 255 ∧ b ≤ 255 ∧ c ≤ 255 ∧ d ≤ 255 ∧ l = text4 a b c d := by
  constructor
  · intro h
    unfold parseP at h
    split at h
    · cases h
    · rename_i a' ha
      split at h
      · cases h
      · rename_i b' hb
        split at h
        · cases h
        · rename_i c' hc
          split at h
          · cases h
          · rename_i d' hd
            simp only [Option.some.injEq, Prod.mk.injEq] at h
            obtain ⟨rfl, rfl, rfl, rfl⟩ := h
            obtain ⟨a1, a2⟩ := parse1_true.1 ha
            obtain ⟨b1, b2⟩ := parse1_true.1 hb
            obtain ⟨c1, c2⟩ := parse1_true.1 hc
            obtain ⟨d1, d2⟩ := parse1_false.1 hd
            refine ⟨a1, b1, c1, d1, ?_⟩
            unfold text4
            rw [← d2, ← c2, ← b2, ← a2]
  · rintro ⟨h1, h2, h3, h4, rfl⟩
    have f1 := fun r => cut_app (c := 46) r (dd_no (u := a) (by omega) (by decide))
    have f2 := fun r => cut_app (c := 46) r (dd_no (u := b) (by omega) (by decide))
    have f3 := fun r => cut_app (c := 46) r (dd_no (u := c) (by omega) (by decide))
    unfold parseP text4
    rw [(f1 _).2.1, (f2 _).2.1, (f3 _).2.1, parse1_true.2 ⟨h1, by rw [(f1 _).2.1]⟩, parse1_true.2 ⟨h2, by rw [(f2 _).2.1]⟩, parse1_true.2 ⟨h3, by rw [(f3 _).2.1]⟩, parse1_false.2 ⟨h4, rfl⟩]

/-! ### The document's way: the numbers in a text -/
def netP (l : List UInt8) : Option (Nat × Nat × Nat × Nat × Nat) := match parseP (bef 47 l) with
  | none => none
  | some (a, b, c, d) => match numL 32 (aft 47 l) with
    | none => none
    | some e => if right (num a b c d) e then some (a, b, c, d, e) else none
theorem text4_no {a b c d : Nat} (h1 : a ≤ 255) (h2 : b ≤ 255) (h3 : c ≤ 255) (h4 : d ≤ 255) : ∀ x ∈ text4 a b c d, x ≠ 47 := by
  intro x hx
  have q : (47 : UInt8).toNat < 48 := by decide
  unfold text4 at hx
  simp only [List.mem_append, List.mem_cons] at hx
  rcases hx with hx | rfl | hx | rfl | hx | rfl | hx
  · exact dd_no (by omega) q x hx
  · decide
  · exact dd_no (by omega) q x hx
  · decide
  · exact dd_no (by omega) q x hx
  · decide
  · exact dd_no (by omega) q x hx
theorem netP_iff {l : List UInt8} {a b c d e : Nat} : netP l = some (a, b, c, d, e) ↔ a ≤ 255 ∧ b ≤ 255 ∧ c ≤ 255 ∧ d ≤ 255 ∧ right (num a b c d) e ∧ l = text4 a b c d ++ 47 :: dd e := by
  constructor
  · intro h
    unfold netP at h
    split at h
    · cases h
    · rename_i a' b' c' d' hp
      split at h
      · cases h
      · rename_i e' he
        split at h
        · rename_i hr
          simp only [Option.some.injEq, Prod.mk.injEq] at h
          obtain ⟨rfl, rfl, rfl, rfl, rfl⟩ := h
          obtain ⟨h1, h2, h3, h4, h5⟩ := parseP_iff.1 hp
          obtain ⟨h6, h7⟩ := (numL_iff (by omega)).1 he
          refine ⟨h1, h2, h3, h4, hr, ?_⟩
          cases hb : has 47 l with
          | true => rw [← h5, ← h7]; exact has_true hb
          | false => rw [(has_false hb).2] at h7; exact absurd h7.symm (dd_ne _)
        · cases h
  · rintro ⟨h1, h2, h3, h4, h5, rfl⟩
    obtain ⟨e1, e2, e3⟩ := cut_app (c := 47) (dd e) (text4_no h1 h2 h3 h4)
    have hb := right_bound h5
    unfold netP
    rw [e1, parseP_iff.2 ⟨h1, h2, h3, h4, rfl⟩]
    simp only
    rw [e2, (numL_iff (by omega)).2 ⟨by omega, rfl⟩]
    simp only [if_pos h5]
end Go.Proofs.YtljaigbjiheohaaDoor

namespace Go.Proofs.YtljaigbjiheohaaDoor
open Go.Shelf
def Tryd.lays156_ren : Go.Shelf.Ren := ⟨fun | 156 => 38 | 165 => 43 | 166 => 44 | 169 => 45 | 240 => 50 | 241 => 51 | 276 => 65 | 277 => 66 | n => n, fun | 31 => 60 | 9 => 9 | 3 => 3 | 4 => 4 | 0 => 0 | 20 => 20 | 72 => 70 | 76 => 65 | 70 => 67 | 37 => 68 | 75 => 64 | 127 => 76 | 164 => 90 | 5 => 5 | 80 => 72 | n => n, fun | n => n⟩
theorem Tryd.lays156 : Go.Proofs.Lays.n156 Tryd.prog Tryd.lays156_ren := {
  mixed := by kernel_rfl
  f156 := Tryd.func38.trans (congrArg some (by kernel_rfl))
  f165 := Tryd.func43.trans (congrArg some (by kernel_rfl))
  f166 := Tryd.func44.trans (congrArg some (by kernel_rfl))
  f169 := Tryd.func45.trans (congrArg some (by kernel_rfl))
  f240 := Tryd.func50.trans (congrArg some (by kernel_rfl))
  f241 := Tryd.func51.trans (congrArg some (by kernel_rfl))
  f276 := Tryd.func65.trans (congrArg some (by kernel_rfl))
  f277 := Tryd.func66.trans (congrArg some (by kernel_rfl))
  t0 := Tryd.underlying0
  a0 := Tryd.isAgg0
  z0 := Tryd.sizeOf0
  v0 := Tryd.zeroValue0
  t3 := Tryd.underlying3
  a3 := Tryd.isAgg3
  z3 := Tryd.sizeOf3
  v3 := Tryd.zeroValue3
  t4 := Tryd.underlying4
  a4 := Tryd.isAgg4
  z4 := Tryd.sizeOf4
  v4 := Tryd.zeroValue4
  t9 := Tryd.underlying9
  a9 := Tryd.isAgg9
  z9 := Tryd.sizeOf9
  v9 := Tryd.zeroValue9
  t20 := Tryd.underlying20
  a20 := Tryd.isAgg20
  z20 := Tryd.sizeOf20
  v20 := Tryd.zeroValue20
  t31 := Tryd.underlying60
  a31 := Tryd.isAgg60
  z31 := Tryd.sizeOf60
  v31 := Tryd.zeroValue60
  t37 := Tryd.underlying68
  a37 := Tryd.isAgg68
  z37 := Tryd.sizeOf68
  v37 := Tryd.zeroValue68
  t70 := Tryd.underlying67
  a70 := Tryd.isAgg67
  z70 := Tryd.sizeOf67
  v70 := Tryd.zeroValue67
  t72 := Tryd.underlying70
  a72 := Tryd.isAgg70
  z72 := Tryd.sizeOf70
  v72 := Tryd.zeroValue70
  t75 := Tryd.underlying64
  a75 := Tryd.isAgg64
  z75 := Tryd.sizeOf64
  v75 := Tryd.zeroValue64
  t76 := Tryd.underlying65
  a76 := Tryd.isAgg65
  z76 := Tryd.sizeOf65
  v76 := Tryd.zeroValue65
  t127 := Tryd.underlying76
  a127 := Tryd.isAgg76
  z127 := Tryd.sizeOf76
  v127 := Tryd.zeroValue76
  t164 := Tryd.underlying90
  a164 := Tryd.isAgg90
  z164 := Tryd.sizeOf90
  v164 := Tryd.zeroValue90 }
def Tryd.laysM171_ren : Go.Shelf.Ren := ⟨fun | 171 => 37 | 243 => 42 | 246 => 49 | 283 => 61 | 284 => 62 | 285 => 63 | 286 => 64 | 129 => 73 | 317 => 72 | 318 => 74 | 319 => 75 | 320 => 76 | 337 => 79 | 338 => 80 | n => n, fun | 3 => 3 | 9 => 9 | 2 => 2 | 4 => 4 | 171 => 84 | 0 => 0 | 53 => 85 | 37 => 68 | 5 => 5 | 173 => 88 | 212 => 102 | 51 => 22 | 20 => 20 | 213 => 103 | 46 => 51 | 232 => 112 | 233 => 113 | n => n, fun | 17 => 3 | 18 => 4 | 19 => 5 | n => n⟩
theorem Tryd.laysM171 : Go.Proofs.LaysM.n171 Tryd.prog Tryd.laysM171_ren := {
  mixed := by kernel_rfl
  f129 := Tryd.func73.trans (congrArg some (by kernel_rfl))
  f171 := Tryd.func37.trans (congrArg some (by kernel_rfl))
  f243 := Tryd.func42.trans (congrArg some (by kernel_rfl))
  f246 := Tryd.func49.trans (congrArg some (by kernel_rfl))
  f283 := Tryd.func61.trans (congrArg some (by kernel_rfl))
  f284 := Tryd.func62.trans (congrArg some (by kernel_rfl))
  f285 := Tryd.func63.trans (congrArg some (by kernel_rfl))
  f286 := Tryd.func64.trans (congrArg some (by kernel_rfl))
  f317 := Tryd.func72.trans (congrArg some (by kernel_rfl))
  f318 := Tryd.func74.trans (congrArg some (by kernel_rfl))
  f319 := Tryd.func75.trans (congrArg some (by kernel_rfl))
  f320 := Tryd.func76.trans (congrArg some (by kernel_rfl))
  f337 := Tryd.func79.trans (congrArg some (by kernel_rfl))
  f338 := Tryd.func80.trans (congrArg some (by kernel_rfl))
  t0 := Tryd.underlying0
  a0 := Tryd.isAgg0
  z0 := Tryd.sizeOf0
  v0 := Tryd.zeroValue0
  t2 := Tryd.underlying2
  a2 := Tryd.isAgg2
  z2 := Tryd.sizeOf2
  v2 := Tryd.zeroValue2
  t3 := Tryd.underlying3
  a3 := Tryd.isAgg3
  z3 := Tryd.sizeOf3
  v3 := Tryd.zeroValue3
  t4 := Tryd.underlying4
  a4 := Tryd.isAgg4
  z4 := Tryd.sizeOf4
  v4 := Tryd.zeroValue4
  t5 := Tryd.underlying5
  a5 := Tryd.isAgg5
  z5 := Tryd.sizeOf5
  v5 := Tryd.zeroValue5
  t9 := Tryd.underlying9
  a9 := Tryd.isAgg9
  z9 := Tryd.sizeOf9
  v9 := Tryd.zeroValue9
  t20 := Tryd.underlying20
  a20 := Tryd.isAgg20
  z20 := Tryd.sizeOf20
  v20 := Tryd.zeroValue20
  t37 := Tryd.underlying68
  a37 := Tryd.isAgg68
  z37 := Tryd.sizeOf68
  v37 := Tryd.zeroValue68
  t46 := Tryd.underlying51
  a46 := Tryd.isAgg51
  z46 := Tryd.sizeOf51
  v46 := Tryd.zeroValue51
  t51 := Tryd.underlying22
  a51 := Tryd.isAgg22
  z51 := Tryd.sizeOf22
  v51 := Tryd.zeroValue22
  t53 := Tryd.underlying85
  a53 := Tryd.isAgg85
  z53 := Tryd.sizeOf85
  v53 := Tryd.zeroValue85
  t171 := Tryd.underlying84
  a171 := Tryd.isAgg84
  z171 := Tryd.sizeOf84
  v171 := Tryd.zeroValue84
  t173 := Tryd.underlying88
  a173 := Tryd.isAgg88
  z173 := Tryd.sizeOf88
  v173 := Tryd.zeroValue88
  t212 := Tryd.underlying102
  a212 := Tryd.isAgg102
  z212 := Tryd.sizeOf102
  v212 := Tryd.zeroValue102
  t213 := Tryd.underlying103
  a213 := Tryd.isAgg103
  z213 := Tryd.sizeOf103
  t232 := Tryd.underlying112
  a232 := Tryd.isAgg112
  z232 := Tryd.sizeOf112
  v232 := Tryd.zeroValue112
  t233 := Tryd.underlying113
  a233 := Tryd.isAgg113
  z233 := Tryd.sizeOf113
  v233 := Tryd.zeroValue113
  g17 := by kernel_rfl
  g18 := by kernel_rfl
  g19 := by kernel_rfl
  i0 := by kernel_rfl
  i2 := by kernel_rfl
  i3 := by kernel_rfl
  i4 := by kernel_rfl
  i5 := by kernel_rfl
  i9 := by kernel_rfl
  i20 := by kernel_rfl
  i37 := by kernel_rfl
  i46 := by kernel_rfl
  i51 := by kernel_rfl
  i53 := by kernel_rfl
  i171 := by kernel_rfl
  i173 := by kernel_rfl
  i212 := by kernel_rfl
  i232 := by kernel_rfl
  i233 := by kernel_rfl
  m17 := by kernel_rfl
  m18 := by kernel_rfl
  m19 := by kernel_rfl }
def Tryd.laysC172_ren : Go.Shelf.Ren := ⟨fun | 172 => 41 | 244 => 47 | 245 => 48 | 247 => 56 | 279 => 57 | 280 => 58 | 281 => 59 | 282 => 60 | 287 => 69 | 316 => 70 | 171 => 37 | 205 => 71 | 321 => 77 | 322 => 78 | 243 => 42 | 246 => 49 | 283 => 61 | 284 => 62 | 285 => 63 | 286 => 64 | 129 => 73 | 317 => 72 | 318 => 74 | 319 => 75 | 320 => 76 | 337 => 79 | 338 => 80 | n => n, fun | 9 => 9 | 3 => 3 | 75 => 64 | 76 => 65 | 4 => 4 | 5 => 5 | 167 => 78 | 37 => 68 | 0 => 0 | 85 => 79 | 2 => 2 | 168 => 81 | 53 => 85 | 175 => 95 | 46 => 51 | 210 => 99 | 127 => 76 | 145 => 110 | 143 => 108 | 21 => 21 | 171 => 84 | 173 => 88 | 212 => 102 | 51 => 22 | 20 => 20 | 213 => 103 | 232 => 112 | 233 => 113 | 80 => 72 | n => n, fun | 15 => 1 | 16 => 2 | 17 => 3 | 18 => 4 | 19 => 5 | n => n⟩
theorem Tryd.laysC172 : Go.Proofs.LaysC.n172 Tryd.prog Tryd.laysC172_ren := {
  mixed := by kernel_rfl
  f129 := Tryd.func73.trans (congrArg some (by kernel_rfl))
  f171 := Tryd.func37.trans (congrArg some (by kernel_rfl))
  f172 := Tryd.func41.trans (congrArg some (by kernel_rfl))
  f205 := Tryd.func71.trans (congrArg some (by kernel_rfl))
  f243 := Tryd.func42.trans (congrArg some (by kernel_rfl))
  f244 := Tryd.func47.trans (congrArg some (by kernel_rfl))
  f245 := Tryd.func48.trans (congrArg some (by kernel_rfl))
  f246 := Tryd.func49.trans (congrArg some (by kernel_rfl))
  f247 := Tryd.func56.trans (congrArg some (by kernel_rfl))
  f279 := Tryd.func57.trans (congrArg some (by kernel_rfl))
  f280 := Tryd.func58.trans (congrArg some (by kernel_rfl))
  f281 := Tryd.func59.trans (congrArg some (by kernel_rfl))
  f282 := Tryd.func60.trans (congrArg some (by kernel_rfl))
  f283 := Tryd.func61.trans (congrArg some (by kernel_rfl))
  f284 := Tryd.func62.trans (congrArg some (by kernel_rfl))
  f285 := Tryd.func63.trans (congrArg some (by kernel_rfl))
  f286 := Tryd.func64.trans (congrArg some (by kernel_rfl))
  f287 := Tryd.func69.trans (congrArg some (by kernel_rfl))
  f316 := Tryd.func70.trans (congrArg some (by kernel_rfl))
  f317 := Tryd.func72.trans (congrArg some (by kernel_rfl))
  f318 := Tryd.func74.trans (congrArg some (by kernel_rfl))
  f319 := Tryd.func75.trans (congrArg some (by kernel_rfl))
  f320 := Tryd.func76.trans (congrArg some (by kernel_rfl))
  f321 := Tryd.func77.trans (congrArg some (by kernel_rfl))
  f322 := Tryd.func78.trans (congrArg some (by kernel_rfl))
  f337 := Tryd.func79.trans (congrArg some (by kernel_rfl))
  f338 := Tryd.func80.trans (congrArg some (by kernel_rfl))
  t0 := Tryd.underlying0
  a0 := Tryd.isAgg0
  z0 := Tryd.sizeOf0
  v0 := Tryd.zeroValue0
  t2 := Tryd.underlying2
  a2 := Tryd.isAgg2
  z2 := Tryd.sizeOf2
  v2 := Tryd.zeroValue2
  t3 := Tryd.underlying3
  a3 := Tryd.isAgg3
  z3 := Tryd.sizeOf3
  v3 := Tryd.zeroValue3
  t4 := Tryd.underlying4
  a4 := Tryd.isAgg4
  z4 := Tryd.sizeOf4
  v4 := Tryd.zeroValue4
  t5 := Tryd.underlying5
  a5 := Tryd.isAgg5
  z5 := Tryd.sizeOf5
  v5 := Tryd.zeroValue5
  t9 := Tryd.underlying9
  a9 := Tryd.isAgg9
  z9 := Tryd.sizeOf9
  v9 := Tryd.zeroValue9
  t20 := Tryd.underlying20
  a20 := Tryd.isAgg20
  z20 := Tryd.sizeOf20
  v20 := Tryd.zeroValue20
  t21 := Tryd.underlying21
  a21 := Tryd.isAgg21
  z21 := Tryd.sizeOf21
  v21 := Tryd.zeroValue21
  t37 := Tryd.underlying68
  a37 := Tryd.isAgg68
  z37 := Tryd.sizeOf68
  v37 := Tryd.zeroValue68
  t46 := Tryd.underlying51
  a46 := Tryd.isAgg51
  z46 := Tryd.sizeOf51
  v46 := Tryd.zeroValue51
  t51 := Tryd.underlying22
  a51 := Tryd.isAgg22
  z51 := Tryd.sizeOf22
  v51 := Tryd.zeroValue22
  t53 := Tryd.underlying85
  a53 := Tryd.isAgg85
  z53 := Tryd.sizeOf85
  v53 := Tryd.zeroValue85
  t75 := Tryd.underlying64
  a75 := Tryd.isAgg64
  z75 := Tryd.sizeOf64
  v75 := Tryd.zeroValue64
  t76 := Tryd.underlying65
  a76 := Tryd.isAgg65
  z76 := Tryd.sizeOf65
  v76 := Tryd.zeroValue65
  t85 := Tryd.underlying79
  a85 := Tryd.isAgg79
  z85 := Tryd.sizeOf79
  v85 := Tryd.zeroValue79
  t127 := Tryd.underlying76
  a127 := Tryd.isAgg76
  z127 := Tryd.sizeOf76
  v127 := Tryd.zeroValue76
  t143 := Tryd.underlying108
  a143 := Tryd.isAgg108
  z143 := Tryd.sizeOf108
  v143 := Tryd.zeroValue108
  t145 := Tryd.underlying110
  a145 := Tryd.isAgg110
  z145 := Tryd.sizeOf110
  v145 := Tryd.zeroValue110
  t167 := Tryd.underlying78
  a167 := Tryd.isAgg78
  z167 := Tryd.sizeOf78
  v167 := Tryd.zeroValue78
  t168 := Tryd.underlying81
  a168 := Tryd.isAgg81
  z168 := Tryd.sizeOf81
  v168 := Tryd.zeroValue81
  t171 := Tryd.underlying84
  a171 := Tryd.isAgg84
  z171 := Tryd.sizeOf84
  v171 := Tryd.zeroValue84
  t173 := Tryd.underlying88
  a173 := Tryd.isAgg88
  z173 := Tryd.sizeOf88
  v173 := Tryd.zeroValue88
  t175 := Tryd.underlying95
  a175 := Tryd.isAgg95
  z175 := Tryd.sizeOf95
  v175 := Tryd.zeroValue95
  t210 := Tryd.underlying99
  a210 := Tryd.isAgg99
  z210 := Tryd.sizeOf99
  v210 := Tryd.zeroValue99
  t212 := Tryd.underlying102
  a212 := Tryd.isAgg102
  z212 := Tryd.sizeOf102
  v212 := Tryd.zeroValue102
  t213 := Tryd.underlying103
  a213 := Tryd.isAgg103
  z213 := Tryd.sizeOf103
  t232 := Tryd.underlying112
  a232 := Tryd.isAgg112
  z232 := Tryd.sizeOf112
  v232 := Tryd.zeroValue112
  t233 := Tryd.underlying113
  a233 := Tryd.isAgg113
  z233 := Tryd.sizeOf113
  v233 := Tryd.zeroValue113
  g15 := by kernel_rfl
  g16 := by kernel_rfl
  g17 := by kernel_rfl
  g18 := by kernel_rfl
  g19 := by kernel_rfl
  t80 := Tryd.underlying72
  a80 := Tryd.isAgg72
  z80 := Tryd.sizeOf72
  v80 := Tryd.zeroValue72
  i0 := by kernel_rfl
  i2 := by kernel_rfl
  i3 := by kernel_rfl
  i4 := by kernel_rfl
  i5 := by kernel_rfl
  i9 := by kernel_rfl
  i20 := by kernel_rfl
  i21 := by kernel_rfl
  i37 := by kernel_rfl
  i46 := by kernel_rfl
  i51 := by kernel_rfl
  i53 := by kernel_rfl
  i75 := by kernel_rfl
  i76 := by kernel_rfl
  i80 := by kernel_rfl
  i85 := by kernel_rfl
  i127 := by kernel_rfl
  i143 := by kernel_rfl
  i145 := by kernel_rfl
  i167 := by kernel_rfl
  i168 := by kernel_rfl
  i171 := by kernel_rfl
  i173 := by kernel_rfl
  i175 := by kernel_rfl
  i210 := by kernel_rfl
  i212 := by kernel_rfl
  i232 := by kernel_rfl
  i233 := by kernel_rfl
  m15 := by kernel_rfl
  m16 := by kernel_rfl
  m17 := by kernel_rfl
  m18 := by kernel_rfl
  m19 := by kernel_rfl
  c0 := by kernel_rfl
  c2 := by kernel_rfl
  c3 := by kernel_rfl
  c4 := by kernel_rfl
  c5 := by kernel_rfl
  c9 := by kernel_rfl
  c20 := by kernel_rfl
  c21 := by kernel_rfl
  c37 := by kernel_rfl
  c46 := by kernel_rfl
  c51 := by kernel_rfl
  c53 := by kernel_rfl
  c75 := by kernel_rfl
  c76 := by kernel_rfl
  c80 := by kernel_rfl
  c85 := by kernel_rfl
  c127 := by kernel_rfl
  c143 := by kernel_rfl
  c145 := by kernel_rfl
  c167 := by kernel_rfl
  c168 := by kernel_rfl
  c171 := by kernel_rfl
  c173 := by kernel_rfl
  c175 := by kernel_rfl
  c210 := by kernel_rfl
  c212 := by kernel_rfl
  c213 := by kernel_rfl
  c232 := by kernel_rfl
  c233 := by kernel_rfl }
theorem Tryd.Builder_Extra_156 : Builder.Extra Tryd.prog Tryd.lays156_ren := {
  sizeBuilder := by kernel_rfl
  liesBuilder := by kernel_rfl
  t5 := Tryd.underlying5
  a5 := Tryd.isAgg5
  z5 := Tryd.sizeOf5
  v5 := Tryd.zeroValue5
  infoByte := by kernel_rfl
  cellsByte := by kernel_rfl
  sizeByte := by kernel_rfl
  neB5 := by decide }
end Go.Proofs.YtljaigbjiheohaaDoor

namespace Go.Proofs.YtljaigbjiheohaaDoor
open Go.RowKit
set_option linter.unusedVariables false
set_option maxRecDepth 1000000

theorem joinOK : SpecOK Tryd.prog 38 joinS := joinS_ok (by kernel_rfl) fun bk o c xs sep w h1 h2 h3 h4 h5 => Any.strings_Join Tryd.lays156 Tryd.Builder_Extra_156 bk o c xs sep w h1 h2 h3 h4 h5
theorem itoaOK : SpecOK Tryd.prog 37 itoaS := itoa_ok (by kernel_rfl) fun n w h0 h1 hF => (Any.strconv_Itoa Tryd.laysM171 n h0 h1 w hF.1).mono fun e w' ⟨he, k, os, hw⟩ => ⟨he, by rw [hw]; exact Lib.below_grow _ _ (Nat.le_refl _) k os⟩
theorem bytes_below {w w' : World} {t : TypeId} (h : w' = w ∨ ∃ u, w' = Lib.bytesWorld w t u) : Below w.heap.size w w' := by
  rcases h with rfl | ⟨u, rfl⟩
  · exact Below.refl _ _
  · exact Lib.bytesWorld_below _ _ _
theorem atoiOK : SpecOK Tryd.prog 41 (atoiS (Tryd.laysC172_ren.t 168)) := atoi_ok (by kernel_rfl)
  (fun s v w h1 h2 => (Any.strconv_Atoi_ok Tryd.laysC172 s h1 v h2 w).mono fun e w' ⟨he, hw⟩ => ⟨he, bytes_below hw⟩)
  (fun s w h1 h2 hF => by
    obtain ⟨tp, p, hv⟩ := hF.2.1
    exact (Any.strconv_Atoi_syntax_var Tryd.laysC172 s h1 h2 tp p w hv).mono fun e w' ⟨N, he, _, _, hb⟩ => ⟨_, he, hb⟩)
  (fun s w h1 h2 hF => by
    obtain ⟨tp, p, hv⟩ := hF.2.2
    exact (Any.strconv_Atoi_range_var Tryd.laysC172 s h1 h2 tp p w hv).mono fun e w' ⟨N, he, _, _, hb⟩ => ⟨_, he, hb⟩)
end Go.Proofs.YtljaigbjiheohaaDoor

namespace Go.Proofs.YtljaigbjiheohaaDoor
open Go.RowKit
set_option linter.unusedSimpArgs false
set_option linter.unusedVariables false
set_option maxRecDepth 10000

def numV (l : List UInt8) : Int := match Lib.atoiAll l with
  | .ok v => v
  | .syntax => 0
  | .range => Lib.atoiSat l
theorem numV_some {high v : Nat} {l : List UInt8} (h : numL high l = some v) : numV l = v := by
  unfold numL at h
  unfold numV
  split at h
  · rename_i n hn
    split at h
    · injection h with h; subst h
      rename_i hc
      rw [hn]
      simp only
      omega
    · cases h
  · cases h
def num2S : Spec := fun args S => match args with
  | [.s l, .i .i64 h] => if l.length ≤ 1000000 ∧ 0 ≤ h ∧ h ≤ 255 then some (.tu [.i .i64 (numV l), .b (numL h.toNat l).isSome], S) else none
  | _ => none
theorem num2_eq {l : List UInt8} {h : Int} {S : Mem} (h1 : l.length ≤ 1000000) (h2 : 0 ≤ h) (h3 : h ≤ 255) : num2S [.s l, .i .i64 h] S = some (.tu [.i .i64 (numV l), .b (numL h.toNat l).isSome], S) := by
  simp only [num2S, if_pos (And.intro h1 (And.intro h2 h3))]
theorem ieql_it {t : TypeId} {v : AV} : binV .iface true .eql (.it t v) .ni = some (.b false) := (rfl)
theorem ieql_ni : binV .iface true .eql .ni .ni = some (.b true) := (rfl)
theorem atoiS_eq {T : TypeId} {l : List UInt8} {S : Mem} (h : l.length ≤ 1000000) : atoiS T [.s l] S = some (atoiX T l, S) := by
  simp only [atoiS, if_pos (show l.length ≤ 281474976710656 by omega)]
theorem itoaS_eq {n : Int} {S : Mem} (h0 : -9223372036854775808 ≤ n) (h1 : n ≤ 9223372036854775807) : itoaS [.i .i64 n] S = some (.s (Lib.itoa n), S) := by
  simp only [itoaS, if_pos (And.intro h0 h1)]
theorem oNum_ok : OK Tryd.prog (lamOf Tryd.prog) (orcOf [(41, atoiS (Tryd.laysC172_ren.t 168)), (37, itoaS)]) := orc_ok (by simpa using ⟨atoiOK, itoaOK⟩)
theorem num2_ok : SpecOK Tryd.prog 35 num2S := by
  intro args S x S' h
  unfold num2S at h
  split at h
  · rename_i l hi
    split at h
    · rename_i hc
      cases h
      obtain ⟨hlen, hh0, hh1⟩ := hc
      refine fn_of_wp f35 rfl (W_sound oNum_ok mixed _ _ _ _ _ ?_)
      have hA := atoiS_eq (T := Tryd.laysC172_ren.t 168) (S := S) hlen
      cases hr : Lib.atoiAll l with
      | ok v =>
        have e1 : atoiX (Tryd.laysC172_ren.t 168) l = .tu [.i .i64 v, .ni] := by simp only [atoiX, hr]
        have e2 : numV l = v := by simp only [numV, hr]
        have e3 : numL hi.toNat l = if 0 ≤ v ∧ v ≤ (hi.toNat : Int) ∧ Lib.itoa v = l then some v.toNat else none := by simp only [numL, hr]
        rw [e1] at hA
        rw [e2, e3]
        clear e1 e2 e3 hr
        by_cases h1 : 0 ≤ v
        · by_cases h2 : v ≤ hi
          · have hI := itoaS_eq (n := v) (S := S) (by omega) (by omega)
            by_cases h3 : Lib.itoa v = l
            · have h3' : (Lib.itoa v == l) = true := by simp [h3]
              rw [if_pos ⟨h1, by omega, h3⟩]
              simp (maxSteps := 1000000) (disch := omega) only [c35, orc_cons, hA, ieql_ni, ge_iff_le, h1, h2, hI, str_eqlS, h3', Option.isSome_some, go_sem]
              exact wkv_same
            · have h3' : (Lib.itoa v == l) = false := by simp [h3]
              rw [if_neg fun q => h3 q.2.2]
              simp (maxSteps := 1000000) (disch := omega) only [c35, orc_cons, hA, ieql_ni, ge_iff_le, h1, h2, hI, str_eqlS, h3', Option.isSome_none, go_sem]
              exact wkv_same
          · rw [if_neg fun q => h2 (by omega)]
            simp (maxSteps := 1000000) (disch := omega) only [c35, orc_cons, hA, ieql_ni, ge_iff_le, h1, h2, Option.isSome_none, go_sem]
            exact wkv_same
        · rw [if_neg fun q => h1 q.1]
          simp (maxSteps := 1000000) (disch := omega) only [c35, orc_cons, hA, ieql_ni, ge_iff_le, h1, Option.isSome_none, go_sem]
          exact wkv_same
      | «syntax» =>
        have e1 : atoiX (Tryd.laysC172_ren.t 168) l = .tu [.i .i64 0, .it (Tryd.laysC172_ren.t 168) .u] := by simp only [atoiX, hr]
        have e2 : numV l = 0 := by simp only [numV, hr]
        have e3 : numL hi.toNat l = none := by simp only [numL, hr]
        rw [e1] at hA
        rw [e2, e3]
        simp (maxSteps := 1000000) (disch := omega) only [c35, orc_cons, hA, ieql_it, Option.isSome_none, go_sem]
        exact wkv_same
      | range =>
        have e1 : atoiX (Tryd.laysC172_ren.t 168) l = .tu [.i .i64 (Lib.atoiSat l), .it (Tryd.laysC172_ren.t 168) .u] := by simp only [atoiX, hr]
        have e2 : numV l = Lib.atoiSat l := by simp only [numV, hr]
        have e3 : numL hi.toNat l = none := by simp only [numL, hr]
        rw [e1] at hA
        rw [e2, e3]
        simp (maxSteps := 1000000) (disch := omega) only [c35, orc_cons, hA, ieql_it, Option.isSome_none, go_sem]
        exact wkv_same
    · cases h
  · cases h

/-! ### Addresses -/
def adrX : Option (Nat × Nat × Nat × Nat) → AV
  | some (a, b, c, d) => .tu [.ag [.i .u8 a, .i .u8 b, .i .u8 c, .i .u8 d], .i .i64 0]
  | none => .tu [.ag [.i .u8 0, .i .u8 0, .i .u8 0, .i .u8 0], .i .i64 41]
def parseS : Spec := fun args S => match args with
  | [.s l] => if l.length ≤ 1000000 then some (adrX (parseP l), S) else none
  | _ => none
theorem aft_len {c : UInt8} {l : List UInt8} : (aft c l).length ≤ l.length := by
  unfold aft
  rw [List.length_drop]
  have : (l.dropWhile (· != c)).length ≤ l.length := (List.dropWhile_suffix _).length_le
  omega
theorem bef_len {c : UInt8} {l : List UInt8} : (bef c l).length ≤ l.length := (List.takeWhile_prefix _).length_le
/-- What a round asks: the number ahead of the point. -/
theorem p1_some {l : List UInt8} {m : Bool} {n : Nat} (h : parse1 l m = some n) : n ≤ 255 ∧ (numL 255 (bef 46 l)).isSome = true ∧ numV (bef 46 l) = n ∧ has 46 l = m := by
  unfold parse1 at h
  split at h
  · rename_i k hk
    split at h
    · rename_i hb
      injection h with h; subst h
      exact ⟨((numL_iff (by omega)).1 hk).1, by rw [hk]; rfl, numV_some hk, hb⟩
    · cases h
  · cases h
theorem p1_no {l : List UInt8} {m : Bool} (h : parse1 l m = none) : (numL 255 (bef 46 l)).isSome = false ∨ ((numL 255 (bef 46 l)).isSome = true ∧ has 46 l = !m) := by
  unfold parse1 at h
  split at h
  · rename_i k hk
    split at h
    · cases h
    · rename_i hb
      right
      refine ⟨by rw [hk]; rfl, ?_⟩
      cases m <;> cases hh : has 46 l <;> simp_all
  · rename_i hk
    left; rw [hk]; rfl
theorem p1_none {l : List UInt8} (h : parse1 l true = none) : (numL 255 (bef 46 l)).isSome = false ∨ ((numL 255 (bef 46 l)).isSome = true ∧ has 46 l = false) := p1_no h
theorem p1_noneF {l : List UInt8} (h : parse1 l false = none) : (numL 255 (bef 46 l)).isSome = false ∨ ((numL 255 (bef 46 l)).isSome = true ∧ has 46 l = true) := p1_no h
theorem oPar_ok : OK Tryd.prog (lamOf Tryd.prog) (orcOf [(34, scutS), (35, num2S)]) := orc_ok (by simpa using ⟨scut_ok, num2_ok⟩)
theorem toU8_nat {n : Nat} (h : n ≤ 255) : toIntV .u8 (.i .i64 (n : Int)) = some (.i .u8 (n : Int)) := by
  rw [toInt_i]
  have : wrapV .u8 (n : Int) = n := by simp only [wrapV]; omega
  rw [this]
theorem neq_tt {cst : Bool} : binV .bool cst .neq (.b true) (.b true) = some (.b false) := (rfl)
theorem neq_ft {cst : Bool} : binV .bool cst .neq (.b false) (.b true) = some (.b true) := (rfl)
theorem neq_tf {cst : Bool} : binV .bool cst .neq (.b true) (.b false) = some (.b true) := (rfl)
theorem neq_ff {cst : Bool} : binV .bool cst .neq (.b false) (.b false) = some (.b false) := (rfl)
theorem parse_ok : SpecOK Tryd.prog 24 parseS := by
  intro args S x S' h
  unfold parseS at h
  split at h
  · rename_i l
    split at h
    · rename_i hlen
      cases h
      have q1 := aft_len (c := 46) (l := l)
      have q2 := aft_len (c := 46) (l := aft 46 l)
      have q3 := aft_len (c := 46) (l := aft 46 (aft 46 l))
      have r0 := bef_len (c := 46) (l := l)
      have r1 := bef_len (c := 46) (l := aft 46 l)
      have r2 := bef_len (c := 46) (l := aft 46 (aft 46 l))
      have r3 := bef_len (c := 46) (l := aft 46 (aft 46 (aft 46 l)))
      have c0 := fun T => scut_eq (S := T) (l := l) (c := 46) hlen
      have c1 := fun T => scut_eq (S := T) (l := aft 46 l) (c := 46) (by omega)
      have c2 := fun T => scut_eq (S := T) (l := aft 46 (aft 46 l)) (c := 46) (by omega)
      have c3 := fun T => scut_eq (S := T) (l := aft 46 (aft 46 (aft 46 l))) (c := 46) (by omega)
      have n0 := fun T => num2_eq (S := T) (l := bef 46 l) (h := 255) (by omega) (by omega) (by omega)
      have n1 := fun T => num2_eq (S := T) (l := bef 46 (aft 46 l)) (h := 255) (by omega) (by omega) (by omega)
      have n2 := fun T => num2_eq (S := T) (l := bef 46 (aft 46 (aft 46 l))) (h := 255) (by omega) (by omega) (by omega)
      have n3 := fun T => num2_eq (S := T) (l := bef 46 (aft 46 (aft 46 (aft 46 l)))) (h := 255) (by omega) (by omega) (by omega)
      refine fn_of_wp f24 rfl (W_sound oPar_ok mixed _ _ _ _ _ ?_)
      unfold parseP
      simp (maxSteps := 1000000) (disch := omega) only [c24, go_sem]
      refine wp_unroll oPar_ok mixed 5 ?_
      cases h0 : parse1 l true with
      | none =>
        rcases p1_none h0 with e | ⟨e, e'⟩
        · simp (maxSteps := 1000000) (disch := omega) only [c24l0, orc_cons, c0, n0, e, adrX, go_sem]
          exact wkv_drop rfl
        · simp (maxSteps := 1000000) (disch := omega) only [c24l0, orc_cons, c0, n0, e, e', adrX, neq_tt, neq_ft, neq_tf, neq_ff, go_sem]
          exact wkv_drop rfl
      | some a =>
        obtain ⟨a1, a2, a3, a4⟩ := p1_some h0
        have a5 := toU8_nat a1
        simp only
        cases h1 : parse1 (aft 46 l) true with
        | none =>
          rcases p1_none h1 with e | ⟨e, e'⟩
          · simp (maxSteps := 1000000) (disch := omega) only [c24l0, orc_cons, c0, n0, a2, a3, a4, a5, adrX, c1, n1, e, adrX, neq_tt, neq_ft, neq_tf, neq_ff, go_sem]
            exact wkv_drop rfl
          · simp (maxSteps := 1000000) (disch := omega) only [c24l0, orc_cons, c0, n0, a2, a3, a4, a5, adrX, c1, n1, e, e', adrX, neq_tt, neq_ft, neq_tf, neq_ff, go_sem]
            exact wkv_drop rfl
        | some b =>
          obtain ⟨b1, b2, b3, b4⟩ := p1_some h1
          have b5 := toU8_nat b1
          simp only
          cases h2 : parse1 (aft 46 (aft 46 l)) true with
          | none =>
            rcases p1_none h2 with e | ⟨e, e'⟩
            · simp (maxSteps := 1000000) (disch := omega) only [c24l0, orc_cons, c0, n0, a2, a3, a4, a5, adrX, c1, n1, b2, b3, b4, b5, c2, n2, e, adrX, neq_tt, neq_ft, neq_tf, neq_ff, go_sem]
              exact wkv_drop rfl
            · simp (maxSteps := 1000000) (disch := omega) only [c24l0, orc_cons, c0, n0, a2, a3, a4, a5, adrX, c1, n1, b2, b3, b4, b5, c2, n2, e, e', adrX, neq_tt, neq_ft, neq_tf, neq_ff, go_sem]
              exact wkv_drop rfl
          | some c =>
            obtain ⟨d1, d2, d3, d4⟩ := p1_some h2
            have d5 := toU8_nat d1
            simp only
            cases h3 : parse1 (aft 46 (aft 46 (aft 46 l))) false with
            | none =>
              rcases p1_noneF h3 with e | ⟨e, e'⟩
              · simp (maxSteps := 1000000) (disch := omega) only [c24l0, orc_cons, c0, n0, a2, a3, a4, a5, adrX, c1, n1, b2, b3, b4, b5, c2, n2, d2, d3, d4, d5, c3, n3, e, adrX, neq_tt, neq_ft, neq_tf, neq_ff, go_sem]
                exact wkv_drop rfl
              · simp (maxSteps := 1000000) (disch := omega) only [c24l0, orc_cons, c0, n0, a2, a3, a4, a5, adrX, c1, n1, b2, b3, b4, b5, c2, n2, d2, d3, d4, d5, c3, n3, e, e', adrX, neq_tt, neq_ft, neq_tf, neq_ff, go_sem]
                exact wkv_drop rfl
            | some d =>
              obtain ⟨g1, g2, g3, g4⟩ := p1_some h3
              have g5 := toU8_nat g1
              simp (maxSteps := 1000000) (disch := omega) only [c24l0, orc_cons, c0, n0, a2, a3, a4, a5, adrX, c1, n1, b2, b3, b4, b5, c2, n2, d2, d3, d4, d5, c3, n3, g2, g3, g4, g5, neq_tt, neq_ft, neq_tf, neq_ff, go_sem]
              exact wkv_drop rfl
    · cases h
  · cases h
end Go.Proofs.YtljaigbjiheohaaDoor

namespace Go.Proofs.YtljaigbjiheohaaDoor
open Go.RowKit
set_option linter.unusedSimpArgs false
set_option linter.unusedVariables false
set_option maxRecDepth 10000

/-! ### Networks of texts -/
def netX : Option (Nat × Nat × Nat × Nat × Nat) → AV
  | some (a, b, c, d, e) => .tu [.ag [.i .u8 a, .i .u8 b, .i .u8 c, .i .u8 d, .i .i64 e], .i .i64 0]
  | none => .tu [.ag [.i .u8 0, .i .u8 0, .i .u8 0, .i .u8 0, .i .i64 0], .i .i64 41]
def pnetS : Spec := fun args S => match args with
  | [.s l] => if l.length ≤ 1000000 then some (netX (netP l), S) else none
  | _ => none
theorem parse_eqS {l : List UInt8} {S : Mem} (h : l.length ≤ 1000000) : parseS [.s l] S = some (adrX (parseP l), S) := by
  simp only [parseS, if_pos h]
theorem oPn_ok : OK Tryd.prog (lamOf Tryd.prog) (orcOf [(34, scutS), (24, parseS), (35, num2S), (18, rightS)]) := orc_ok (by simpa using ⟨scut_ok, parse_ok, num2_ok, right_ok⟩)
theorem u84_nat {a b c d : Nat} (h1 : a ≤ 255) (h2 : b ≤ 255) (h3 : c ≤ 255) (h4 : d ≤ 255) : u84 (a : Int) b c d := by
  unfold u84 u8; omega
theorem pnet_ok : SpecOK Tryd.prog 26 pnetS := by
  intro args S x S' h
  unfold pnetS at h
  split at h
  · rename_i l
    split at h
    · rename_i hlen
      cases h
      have q1 := aft_len (c := 47) (l := l)
      have r0 := bef_len (c := 47) (l := l)
      have c0 := fun T => scut_eq (S := T) (l := l) (c := 47) hlen
      have p0 := fun T => parse_eqS (S := T) (l := bef 47 l) (by omega)
      have n0 := fun T => num2_eq (S := T) (l := aft 47 l) (h := 32) (by omega) (by omega) (by omega)
      refine fn_of_wp f26 rfl (W_sound oPn_ok mixed _ _ _ _ _ ?_)
      unfold netP
      cases h0 : parseP (bef 47 l) with
      | none =>
        rw [h0] at p0
        simp (maxSteps := 1000000) (disch := omega) only [c26, orc_cons, c0, p0, n0, adrX, netX, go_sem]
        exact wkv_drop rfl
      | some q =>
        obtain ⟨a, b, c, d⟩ := q
        obtain ⟨h1, h2, h3, h4, _⟩ := parseP_iff.1 h0
        rw [h0] at p0
        cases hn : numL 32 (aft 47 l) with
        | none =>
          have e1 : (numL (Int.toNat 32) (aft 47 l)).isSome = false := by rw [show Int.toNat 32 = 32 from rfl, hn]; rfl
          simp (maxSteps := 1000000) (disch := omega) only [c26, orc_cons, c0, p0, n0, e1, adrX, netX, hn, Option.isSome_none, go_sem]
          exact wkv_drop rfl
        | some e =>
          have e1 : (numL (Int.toNat 32) (aft 47 l)).isSome = true := by rw [show Int.toNat 32 = 32 from rfl, hn]; rfl
          have e2 := numV_some hn
          have e3 := fun T => rightS_eq (k := (e : Int)) (u84_nat h1 h2 h3 h4) T
          by_cases hr : right (num a b c d) e
          · have hd : decide (right (num a b c d) e) = true := decide_eq_true hr
            simp only [hd] at e3
            simp only [if_pos hr]
            simp (maxSteps := 1000000) (disch := omega) only [c26, orc_cons, c0, p0, n0, e1, e2, e3, hn, adrX, netX, Option.isSome_some, go_sem]
            exact wkv_drop rfl
          · have hd : decide (right (num a b c d) e) = false := decide_eq_false hr
            simp only [hd] at e3
            simp only [if_neg hr]
            simp (maxSteps := 1000000) (disch := omega) only [c26, orc_cons, c0, p0, n0, e1, e2, e3, hn, adrX, netX, Option.isSome_some, go_sem]
            exact wkv_drop rfl
    · cases h
  · cases h

/-! ### Texts -/
def textS : Spec := fun args S => match args with
  | [.ag [.i .u8 a, .i .u8 b, .i .u8 c, .i .u8 d]] => if u84 a b c d then some (.s (text4 a.toNat b.toNat c.toNat d.toNat), S) else none
  | _ => none
theorem textS_eq {a b c d : Int} {S : Mem} (h : u84 a b c d) : textS [.ag [.i .u8 a, .i .u8 b, .i .u8 c, .i .u8 d]] S = some (.s (text4 a.toNat b.toNat c.toNat d.toNat), S) := by
  simp only [textS, if_pos h]
theorem itoa_dd {n : Int} (h0 : 0 ≤ n) (h1 : n ≤ 999) (S : Mem) : itoaS [.i .i64 n] S = some (.s (dd n.toNat), S) := by
  rw [itoaS_eq (by omega) (by omega), Lib.itoa, if_neg (by omega), dec_dd (by omega)]
theorem toI_u8 {n : Int} (h : u8 n) : toIntV .i64 (.i .u8 n) = some (.i .i64 n) := by
  unfold u8 at h
  rw [toInt_i, wrap_i64 (by omega) (by omega)]
theorem dd_len (u : Nat) : (dd u).length ≤ 3 := by
  unfold dd; split
  · simp
  · split <;> simp
theorem text4_len (a b c d : Nat) : (text4 a b c d).length ≤ 15 := by
  have h1 := dd_len a
  have h2 := dd_len b
  have h3 := dd_len c
  have h4 := dd_len d
  unfold text4
  simp only [List.length_append, List.length_cons]
  omega
theorem join4 {a b c d : Nat} : Lib.join [dd a, dd b, dd c, dd d] [46] = text4 a b c d := by
  simp [Lib.join, text4]
theorem join_eq {S : Mem} {i o v len cap : Nat} {ex : Bool} {ls : List (List UInt8)} {sep : List UInt8} (hr : rowAt S i o v len = some (ls.map .s)) (h1 : (Lib.join ls sep).length ≤ 140737488355328) (h2 : len ≤ 140737488355328) (h3 : 0 < len) : joinS [.sl i o v len cap ex, .s sep] S = some (.s (Lib.join ls sep), S) := by
  have h4 : strsOf (ls.map AV.s) = some ls := by
    clear hr h1 h2 h3
    induction ls with
    | nil => rfl
    | cons l r ih => simp only [List.map_cons, strsOf, ih, Option.map_some]
  simp only [joinS, hr, h4, if_pos (And.intro h1 (And.intro h2 h3))]
theorem oTx_ok : OK Tryd.prog (lamOf Tryd.prog) (orcOf [(37, itoaS), (38, joinS)]) := orc_ok (by simpa using ⟨itoaOK, joinOK⟩)
theorem text_ok : SpecOK Tryd.prog 28 textS := by
  intro args S x S' h
  unfold textS at h
  split at h
  · rename_i a b c d
    split at h
    · rename_i hu
      cases h
      have a1 := toI_u8 hu.1
      have b1 := toI_u8 hu.2.1
      have c1 := toI_u8 hu.2.2.1
      have d1 := toI_u8 hu.2.2.2
      have hu' := hu
      unfold u84 u8 at hu'
      have a2 := itoa_dd (n := a) (by omega) (by omega)
      have b2 := itoa_dd (n := b) (by omega) (by omega)
      have c2 := itoa_dd (n := c) (by omega) (by omega)
      have d2 := itoa_dd (n := d) (by omega) (by omega)
      have hj : (Lib.join [dd a.toNat, dd b.toNat, dd c.toNat, dd d.toNat] [46]).length ≤ 140737488355328 := by
        rw [join4]; have := text4_len a.toNat b.toNat c.toNat d.toNat; omega
      refine fn_of_wp f28 rfl (W_sound oTx_ok mixed _ _ _ _ _ ?_)
      simp (maxSteps := 1000000) (disch := omega) only [c28, go_sem]
      refine wp_unroll oTx_ok mixed 5 ?_
      simp (maxSteps := 1000000) (disch := omega) only [c28l0, orc_cons, ixa_ag, a1, b1, c1, d1, a2, b2, c2, d2, app_room, appG_1 one_s, appG_2 one_s, appG_3 one_s, go_sem]
      rw [join_eq (ls := [dd a.toNat, dd b.toNat, dd c.toNat, dd d.toNat]) (by simp [rowAt_B]; rfl) hj (by omega) (by omega), join4]
      simp (maxSteps := 1000000) (disch := omega) only [go_sem]
      exact wkv_drop rfl
    · cases h
  · cases h
def ntextS : Spec := fun args S => match args with
  | [.ag [.i .u8 a, .i .u8 b, .i .u8 c, .i .u8 d, .i .i64 k]] => if u84 a b c d then some (.s (if right (num a b c d) k then text4 a.toNat b.toNat c.toNat d.toNat ++ 47 :: dd k.toNat else []), S) else none
  | _ => none
theorem ntextS_eq {a b c d k : Int} {S : Mem} (h : u84 a b c d) : ntextS [.ag [.i .u8 a, .i .u8 b, .i .u8 c, .i .u8 d, .i .i64 k]] S = some (.s (if right (num a b c d) k then text4 a.toNat b.toNat c.toNat d.toNat ++ 47 :: dd k.toNat else []), S) := by
  simp only [ntextS, if_pos h]
theorem oNt_ok : OK Tryd.prog (lamOf Tryd.prog) (orcOf [(18, rightS), (28, textS), (37, itoaS)]) := orc_ok (by simpa using ⟨right_ok, text_ok, itoaOK⟩)
theorem ntext_ok : SpecOK Tryd.prog 30 ntextS := by
  intro args S x S' h
  unfold ntextS at h
  split at h
  · rename_i a b c d k
    split at h
    · rename_i hu
      cases h
      have e3 := fun T => rightS_eq (k := k) hu T
      have t0 := fun T => textS_eq (S := T) hu
      refine fn_of_wp f30 rfl (W_sound oNt_ok mixed _ _ _ _ _ ?_)
      by_cases hr : right (num a b c d) k
      · have hk := right_bound hr
        have hd : decide (right (num a b c d) k) = true := decide_eq_true hr
        have i0 := itoa_dd (n := k) (by omega) (by omega)
        have l0 := text4_len a.toNat b.toNat c.toNat d.toNat
        have l1 := dd_len k.toNat
        have s1 : ∀ cst, binV .str cst .add (.s (text4 a.toNat b.toNat c.toNat d.toNat)) (.s [47]) = some (.s (text4 a.toNat b.toNat c.toNat d.toNat ++ [47])) := fun cst => bin_sadd (by simp only [List.length_cons, List.length_nil]; omega)
        have s2 : ∀ cst, binV .str cst .add (.s (text4 a.toNat b.toNat c.toNat d.toNat ++ [47])) (.s (dd k.toNat)) = some (.s (text4 a.toNat b.toNat c.toNat d.toNat ++ 47 :: dd k.toNat)) := fun cst => by
          rw [bin_sadd (by simp only [List.length_append, List.length_cons, List.length_nil]; omega), List.append_assoc]; rfl
        simp only [hd] at e3
        rw [if_pos hr]
        simp (maxSteps := 1000000) (disch := omega) only [c30, orc_cons, e3, t0, i0, s1, s2, go_sem]
        exact wkv_drop rfl
      · have hd : decide (right (num a b c d) k) = false := decide_eq_false hr
        simp only [hd] at e3
        rw [if_neg hr]
        simp (maxSteps := 1000000) (disch := omega) only [c30, orc_cons, e3, go_sem]
        exact wkv_drop rfl
    · cases h
  · cases h
end Go.Proofs.YtljaigbjiheohaaDoor

namespace Go.Proofs.YtljaigbjiheohaaDoor
open Go.RowKit
set_option linter.unusedSimpArgs false
set_option linter.unusedVariables false
set_option maxRecDepth 10000

/-! ### Digits -/
end Go.Proofs.YtljaigbjiheohaaDoor

namespace Go.Proofs.YtljaigbjiheohaaDoor
open Go.RowKit
set_option linter.unusedSimpArgs false
set_option linter.unusedVariables false
set_option maxRecDepth 10000

end Go.Proofs.YtljaigbjiheohaaDoor

namespace Go.Proofs.YtljaigbjiheohaaDoor
open Go.RowKit
set_option linter.unusedSimpArgs false
set_option linter.unusedVariables false
set_option maxRecDepth 10000

end Go.Proofs.YtljaigbjiheohaaDoor

namespace Go.Proofs.YtljaigbjiheohaaDoor
open Go.RowKit
set_option maxRecDepth 1000000
def specs : List (FuncId × Spec) := [(38, joinS)]
theorem specs_ok : ∀ p ∈ specs, SpecOK Tryd.prog p.1 p.2 := by
  intro p hp
  simp only [specs, List.mem_cons, List.not_mem_nil, or_false] at hp
  subst hp; exact joinOK
theorem aliveRuns : isTrue ((evMix specs tab 100000 100).fn 10 [] []) = true := by kernel_rfl
theorem alive (w : World) (hd : Door w.heap.size w) : Calls Tryd.prog 10 #[] w fun e w' => e = .returned (.bool true) ∧ Below w.heap.size w w' := calls_of_mix mixed specs_ok tab_ok aliveRuns w hd
end Go.Proofs.YtljaigbjiheohaaDoor

namespace Go.Proofs.YtljaigbjiheohaaDoor
open Go.RowKit Go.ChangeShapes
set_option linter.unusedVariables false
set_option maxRecDepth 100000

def laid0 : List (String × DataW Unit) := [("math/bits.deBruijn32tab", Rows.laid_math_bits_deBruijn32tab), ("math/bits.deBruijn64tab", Rows.laid_math_bits_deBruijn64tab), ("internal/strconv.uint64pow10", Rows.laid_internal_strconv_uint64pow10), ("strconv.ErrRange", Rows.laid_strconv_ErrRange), ("strconv.ErrSyntax", Rows.laid_strconv_ErrSyntax)]
theorem starErr : "*" ++ "errors.errorString" = "*errors.errorString" := by decide
theorem rowErr (u : TypeId) (h : Tryd.prog.typeName? 3 u = some "*errors.errorString") : u = 108 :=
  typeName_ptr_named (nm := "errors.errorString") (by rw [starErr]; kernel_rfl) (by kernel_rfl) (by decide) u (by rw [starErr]; exact h)
theorem facts_of_laid {w : World} (h : laidMetH Tryd.prog laid0 w) : Facts w := by
  rw [MakeChecks.laidMetH_plain _ _ _ (by kernel_rfl)] at h
  have h1 := h.tail.tail
  have h2 := h1.tail
  have h3 := h2.tail
  have e1 : (Rows.laid_internal_strconv_uint64pow10 : DataW Unit) = Lib.tabData .u64 Lib.pow10Tab := by kernel_rfl
  refine ⟨?_, ?_, ?_⟩
  · rw [e1] at h1
    exact Lib.tabIs_of_head (g := 3) (t := 102) (e := 85) (n := 20) (by kernel_rfl) (by kernel_rfl) Tryd.underlying102 Tryd.underlying85 (by kernel_rfl) (by kernel_rfl) h1
  · obtain ⟨a, s, hv, _⟩ := laid_sentinel h3 (g := 1) (ti := 64) (tp := 108) (te := 110) (ts := 9) (by kernel_rfl) (by kernel_rfl) Tryd.underlying64 rowErr Tryd.underlying108 Tryd.underlying110 rfl rfl Tryd.underlying9 (by kernel_rfl) (by kernel_rfl)
    exact ⟨_, _, hv⟩
  · obtain ⟨a, s, hv, _⟩ := laid_sentinel h2 (g := 2) (ti := 64) (tp := 108) (te := 110) (ts := 9) (by kernel_rfl) (by kernel_rfl) Tryd.underlying64 rowErr Tryd.underlying108 Tryd.underlying110 rfl rfl Tryd.underlying9 (by kernel_rfl) (by kernel_rfl)
    exact ⟨_, _, hv⟩
theorem door_of_laid {w : World} (h : laidMetH Tryd.prog laid0 w) : Door w.heap.size w := (facts_of_laid h).door
end Go.Proofs.YtljaigbjiheohaaDoor

namespace Go.Proofs.YtljaigbjiheohaaDoor
open Go.RowKit
set_option linter.unusedSimpArgs false
set_option linter.unusedVariables false
set_option maxRecDepth 10000

def aliveS : Spec := fun args S => match args with
  | [] => some (.b true, S)
  | _ => none
theorem alive_ok : SpecOK Tryd.prog 10 aliveS := by
  intro args S x S' h
  simp only [aliveS] at h
  split at h
  · cases h; exact fnOK_of_belowD (by kernel_rfl) alive S
  · cases h
theorem aliveS_eq (S : Mem) : aliveS [] S = some (.b true, S) := rfl
theorem pnet_eqS {l : List UInt8} {S : Mem} (h : l.length ≤ 1000000) : pnetS [.s l] S = some (netX (netP l), S) := by
  simp only [pnetS, if_pos h]
theorem ne_adr {a b c d x y z w : Int} : eqAgV true [.int, .int, .int, .int] (.ag [.i .u8 a, .i .u8 b, .i .u8 c, .i .u8 d]) (.ag [.i .u8 x, .i .u8 y, .i .u8 z, .i .u8 w]) = some (.b (decide (¬ (a = x ∧ b = y ∧ c = z ∧ d = w)))) := by
  simp [eqAgV, eqCells, eqCell, Bool.beq_eq_decide_eq]
theorem oBack_ok : OK Tryd.prog (lamOf Tryd.prog) (orcOf [(10, aliveS), (24, parseS), (26, pnetS), (28, textS), (30, ntextS), (11, ofS), (13, numS), (18, rightS)]) :=
  orc_ok (by simpa using ⟨alive_ok, parse_ok, pnet_ok, text_ok, ntext_ok, of_ok, num_ok, right_ok⟩)
theorem dd_len4 (a b c d k : Nat) : (text4 a b c d ++ 47 :: dd k).length ≤ 1000000 := by
  have h1 := text4_len a b c d
  have h2 := dd_len k
  simp only [List.length_append, List.length_cons]; omega
theorem back_ok (S : Mem) (a b c d x y z w j : Int) (h : u84 a b c d) (h2 : u84 x y z w) :
    FnOK Tryd.prog 8 [.ag [.i .u8 a, .i .u8 b, .i .u8 c, .i .u8 d], .ag [.i .u8 x, .i .u8 y, .i .u8 z, .i .u8 w, .i .i64 j]] S (.b true) S := by
  refine fn_of_wp f8 rfl (W_sound oBack_ok mixed _ _ _ _ _ ?_)
  have p0 := fun T => parse_eqS (S := T) (l := text4 a.toNat b.toNat c.toNat d.toNat) (by have := text4_len a.toNat b.toNat c.toNat d.toNat; omega)
  have hu := h
  unfold u84 u8 at hu
  have e1 : parseP (text4 a.toNat b.toNat c.toNat d.toNat) = some (a.toNat, b.toNat, c.toNat, d.toNat) := parseP_iff.2 ⟨by omega, by omega, by omega, by omega, rfl⟩
  rw [e1] at p0
  simp only [adrX, Int.toNat_of_nonneg h.1.1, Int.toNat_of_nonneg h.2.1.1, Int.toNat_of_nonneg h.2.2.1.1, Int.toNat_of_nonneg h.2.2.2.1] at p0
  obtain ⟨g3, g2, g1, g0⟩ := b_num h.1 h.2.1 h.2.2.1 h.2.2.2
  have o0 := fun T => ofS_eq (u84_num h) T
  simp only [adr, g3, g2, g1, g0] at o0
  by_cases hr : right (num x y z w) j
  · have hk := right_bound hr
    have n0 := fun T => ntextS_eq (S := T) (k := j) h2
    simp only [if_pos hr] at n0
    have r0 := fun T => rightS_eq (k := j) h2 T
    have hd : decide (right (num x y z w) j) = true := decide_eq_true hr
    simp only [hd] at r0
    have q0 := fun T => pnet_eqS (S := T) (l := text4 x.toNat y.toNat z.toNat w.toNat ++ 47 :: dd j.toNat) (dd_len4 _ _ _ _ _)
    have hv := h2
    unfold u84 u8 at hv
    have e2 : netP (text4 x.toNat y.toNat z.toNat w.toNat ++ 47 :: dd j.toNat) = some (x.toNat, y.toNat, z.toNat, w.toNat, j.toNat) := by
      refine netP_iff.2 ⟨by omega, by omega, by omega, by omega, ?_, rfl⟩
      rw [Int.toNat_of_nonneg h2.1.1, Int.toNat_of_nonneg h2.2.1.1, Int.toNat_of_nonneg h2.2.2.1.1, Int.toNat_of_nonneg h2.2.2.2.1, Int.toNat_of_nonneg hk.1]
      exact hr
    rw [e2] at q0
    simp only [netX, Int.toNat_of_nonneg h2.1.1, Int.toNat_of_nonneg h2.2.1.1, Int.toNat_of_nonneg h2.2.2.1.1, Int.toNat_of_nonneg h2.2.2.2.1, Int.toNat_of_nonneg hk.1] at q0
    simp (maxSteps := 1000000) (disch := omega) only [c8, orc_cons, aliveS_eq, textS_eq h, p0, numS_eq h, o0, n0, r0, q0, eq_adr, eq_net, ne_adr, eq_self, and_self, go_sem]
    exact wkv_drop rfl
  · have n0 := fun T => ntextS_eq (S := T) (k := j) h2
    simp only [if_neg hr] at n0
    have r0 := fun T => rightS_eq (k := j) h2 T
    have hd : decide (right (num x y z w) j) = false := decide_eq_false hr
    simp only [hd] at r0
    have q0 : ∀ T, pnetS [.s []] T = some (.tu [.ag [.i .u8 0, .i .u8 0, .i .u8 0, .i .u8 0, .i .i64 0], .i .i64 41], T) := fun T => rfl
    simp (maxSteps := 1000000) (disch := omega) only [c8, orc_cons, aliveS_eq, textS_eq h, p0, numS_eq h, o0, n0, r0, q0, eq_adr, eq_net, ne_adr, eq_self, and_self, go_sem]
    exact wkv_drop rfl

/-! ### The calls -/
section
variable {H : Type} {enc : TypeId × Value → H} {W : World}

theorem wf_u8 {n : Int} (h : (Lit.int .u8 n).wf = true) : u8 n := by
  simp only [Lit.wf, IntKind.min, IntKind.max, IntKind.signed, IntKind.bits, Bool.and_eq_true] at h
  unfold u8
  simpa using h
theorem row4 {cs : List Value} (h : RowIs enc Tryd.prog W [.int .u8, .int .u8, .int .u8, .int .u8] cs) : ∃ a b c d, cs = [.int .u8 a, .int .u8 b, .int .u8 c, .int .u8 d] ∧ u84 a b c d := by
  obtain ⟨h1, h2⟩ := h
  match cs, h1 with
  | [x, y, z, w], _ =>
    obtain ⟨a, rfl, wa⟩ := h2 0 (by simp) (by simp)
    obtain ⟨b, rfl, wb⟩ := h2 1 (by simp) (by simp)
    obtain ⟨c, rfl, wc⟩ := h2 2 (by simp) (by simp)
    obtain ⟨d, rfl, wd⟩ := h2 3 (by simp) (by simp)
    exact ⟨a, b, c, d, rfl, wf_u8 wa, wf_u8 wb, wf_u8 wc, wf_u8 wd⟩
theorem row5 {cs : List Value} (h : RowIs enc Tryd.prog W [.int .u8, .int .u8, .int .u8, .int .u8, .int .i64] cs) : ∃ a b c d k, cs = [.int .u8 a, .int .u8 b, .int .u8 c, .int .u8 d, .int .i64 k] ∧ u84 a b c d := by
  obtain ⟨h1, h2⟩ := h
  match cs, h1 with
  | [x, y, z, w, v], _ =>
    obtain ⟨a, rfl, wa⟩ := h2 0 (by simp) (by simp)
    obtain ⟨b, rfl, wb⟩ := h2 1 (by simp) (by simp)
    obtain ⟨c, rfl, wc⟩ := h2 2 (by simp) (by simp)
    obtain ⟨d, rfl, wd⟩ := h2 3 (by simp) (by simp)
    obtain ⟨k, rfl, _⟩ := h2 4 (by simp) (by simp)
    exact ⟨a, b, c, d, k, rfl, wf_u8 wa, wf_u8 wb, wf_u8 wc, wf_u8 wd⟩

theorem argAdr {v : Value} {base : Nat} {d : DataW H} {ps : List MemPlace} (o : Value.okWide Tryd.prog W .any base 24 v) (h : DataW.Trod enc Tryd.prog W 0 (fun _ => true) true 24 v d ps) :
    ∃ a b c d, absA W v = .ag [.i .u8 a, .i .u8 b, .i .u8 c, .i .u8 d] ∧ u84 a b c d := by
  have s0 : shapes Tryd.prog 20 24 = some [.int .u8, .int .u8, .int .u8, .int .u8] := by kernel_rfl
  obtain ⟨cs, rfl⟩ : ∃ cs, v = .agg cs := by
    unfold Value.okWide at o
    rw [show Tryd.prog.underlying 24 = some (.array 4 5) by kernel_rfl] at o
    obtain ⟨cs, h, _⟩ := o
    exact ⟨cs, h⟩
  obtain ⟨a, b, c, d, hcs, hu⟩ := row4 (arg_row h s0)
  refine ⟨a, b, c, d, ?_, hu⟩
  show AV.ag (cs.toList.map (absV W)) = _
  have : cs.toList = [.int .u8 a, .int .u8 b, .int .u8 c, .int .u8 d] := hcs
  rw [this]; rfl
theorem argNet {v : Value} {base : Nat} {d : DataW H} {ps : List MemPlace} (o : Value.okWide Tryd.prog W .any base 30 v) (h : DataW.Trod enc Tryd.prog W 0 (fun _ => true) true 30 v d ps) :
    ∃ a b c d k, absA W v = .ag [.i .u8 a, .i .u8 b, .i .u8 c, .i .u8 d, .i .i64 k] ∧ u84 a b c d := by
  have s0 : shapes Tryd.prog 20 30 = some [.int .u8, .int .u8, .int .u8, .int .u8, .int .i64] := by kernel_rfl
  obtain ⟨cs, rfl⟩ : ∃ cs, v = .agg cs := by
    unfold Value.okWide at o
    rw [Tryd.underlying30] at o
    obtain ⟨cs, h, _⟩ := o
    exact ⟨cs, h⟩
  obtain ⟨a, b, c, d, k, hcs, hu⟩ := row5 (arg_row h s0)
  refine ⟨a, b, c, d, k, ?_, hu⟩
  show AV.ag (cs.toList.map (absV W)) = _
  have : cs.toList = [.int .u8 a, .int .u8 b, .int .u8 c, .int .u8 d, .int .i64 k] := hcs
  rw [this]; rfl

theorem walkAddrBack (W : World) (v0 v1 : Value) {base : Nat} (o0 : Value.okWide Tryd.prog W .any base 24 v0) (o1 : Value.okWide Tryd.prog W .any base 30 v1) {d0 d1 : DataW H} {p0 p1 : List MemPlace}
    (h0 : DataW.Trod enc Tryd.prog W 0 (fun _ => true) true 24 v0 d0 p0) (h1 : DataW.Trod enc Tryd.prog W 0 (fun _ => true) true 30 v1 d1 p1) (hd : Door W.heap.size W) :
    Calls Tryd.prog 8 #[v0, v1] W fun e w' => e = .returned (.bool true) ∧ Below W.heap.size W w' := by
  obtain ⟨a, b, c, d, e0, u0⟩ := argAdr o0 h0
  obtain ⟨x, y, z, w, j, e1, u1⟩ := argNet o1 h1
  refine calls_of_fnOK (S' := absS W) ?_ hd
  show FnOK Tryd.prog _ [absA W v0, absA W v1] _ _ _
  rw [e0, e1]
  exact back_ok _ a b c d x y z w j u0 u1
end
end Go.Proofs.YtljaigbjiheohaaDoor

