/- Proved here: what the law of this claim leans on (an evaluator of the model's code, contracts of functions). No condition. -/
import Derived.Test.YtmolaemlenllmaaGreatQCode
import Derived.Test.YtmolaemlenllmaaGreatMc
import Derived.Laws.Externs
import Derived.WalkKit
import Derived.WalkSpells
namespace Go.Proofs.YtmolaemlenllmaaGreat
open Go.RowKit
attribute [go_sem] Option.map_none Option.map_some decide_true decide_false iaddr_i iaddr_sl_i not_true_eq_false not_false_eq_true ne_eq forall_const false_imp_iff true_imp_iff implies_true Int.cast_ofNat_Int Int.natCast_zero Int.natCast_one Int.add_zero Int.zero_add Nat.reduceBEq Nat.reduceAdd Nat.reduceSub Nat.reduceEqDiff Nat.reduceLeDiff Nat.reduceMul Nat.reduceLT Int.reduceLT Int.reduceLE Int.reduceAdd Int.reduceSub Int.reduceMul Int.reduceNeg Int.reduceEq Int.reduceNe Int.reduceToNat reduceCtorEq
attribute [go_sem ↓] reduceIte
end Go.Proofs.YtmolaemlenllmaaGreat
namespace Go.Proofs.YtmolaemlenllmaaGreat
open Go.RowKit
set_option linter.unusedSimpArgs false
set_option linter.unusedVariables false
set_option maxRecDepth 10000

theorem add64_run (x y : Int) (hx : 0 ≤ x) (hy : 0 ≤ y) (w : World) : (callFunc 118 #[.int .u64 x, .int .u64 y, .int .u64 0]).run Tryz.prog w =
    .ok (.value (.tuple #[.int .u64 ((x + y) % 18446744073709551616), .int .u64 ((x + y) / 18446744073709551616)])) w := by
  rw [run_callFunc_extern Tryz.func118 (by kernel_rfl) (by kernel_rfl) (by kernel_rfl) (e := add64Entry) (by kernel_rfl), run_add64 x y 0 hx hy (Int.le_refl 0) (by decide)]
  simp only [Result.andThen, Int.add_zero]
def satAdd (a b : Int) : Int := if a + b ≤ 18446744073709551615 then a + b else 18446744073709551615
theorem sadd_calls (a b : Int) (h1 : 0 ≤ a) (h2 : a ≤ 18446744073709551615) (h3 : 0 ≤ b) (h4 : b ≤ 18446744073709551615) (w : World) :
    Calls Tryz.prog 77 #[.int .u64 a, .int .u64 b] w fun e w' => e = .returned (.int .u64 (satAdd a b)) ∧ w' = w := by
  by_cases hc : a + b ≤ 18446744073709551615
  · have k0 : (a + b) / 18446744073709551616 = 0 := by omega
    have k1 : (a + b) % 18446744073709551616 = a + b := by omega
    have hr := fun w => add64_run a b h1 h3 w
    rw [k0, k1] at hr
    go_enter Tryz.func77, Tryz.ntmps77
    go_wp2_with (simp only [hr])
    go_ret
    simp [satAdd, hc]
  · have k0 : (a + b) / 18446744073709551616 = 1 := by omega
    have hr := fun w => add64_run a b h1 h3 w
    rw [k0] at hr
    go_enter Tryz.func77, Tryz.ntmps77
    go_wp2_with (simp only [hr])
    go_ret
    simp [satAdd, hc]
    omega
def saddS : Spec := fun args S => match args with
  | [.i .u64 a, .i .u64 b] => if 0 ≤ a ∧ a ≤ 18446744073709551615 ∧ 0 ≤ b ∧ b ≤ 18446744073709551615 then some (.i .u64 (satAdd a b), S) else none
  | _ => none
theorem sadd_ok : SpecOK Tryz.prog 77 saddS := by
  intro args S x S' h
  unfold saddS at h
  split at h
  · rename_i a b
    split at h
    · rename_i hc
      simp only [Option.some.injEq, Prod.mk.injEq] at h
      obtain ⟨rfl, rfl⟩ := h
      refine ⟨by kernel_rfl, fun base w0 K w vs hΛ hA hS => ?_⟩
      obtain ⟨v1, v2, hvs⟩ : ∃ v1 v2, vs.toList = [v1, v2] := by
        match hh : vs.toList, hA.1 with
        | [p, q], _ => exact ⟨p, q, rfl⟩
      rw [hvs] at hA
      have q1 : VR K S (.i .u64 a) v1 := hA.2 0 (by simp) (by simp)
      have q2 : VR K S (.i .u64 b) v2 := hA.2 1 (by simp) (by simp)
      have hvs' : vs = #[v1, v2] := by rw [← Array.toArray_toList (xs := vs), hvs]
      subst hvs'
      cases q1; cases q2
      refine (sadd_calls a b hc.1 hc.2.1 hc.2.2.1 hc.2.2.2 w).mono fun e w' ⟨he, hw⟩ => ?_
      subst he; subst hw
      exact post_of_below hS (Below.refl _ _) (.i _ _)
    · cases h
  · cases h
def specs : List (FuncId × Spec) := [(77, saddS)]
theorem specs_ok : ∀ p ∈ specs, SpecOK Tryz.prog p.1 p.2 := by
  intro p hp
  simp only [specs, List.mem_cons, List.not_mem_nil, or_false] at hp
  subst hp; exact sadd_ok
end Go.Proofs.YtmolaemlenllmaaGreat

namespace Go.Proofs.YtmolaemlenllmaaGreat
open Go.RowKit
set_option maxRecDepth 1000000
theorem aliveRuns : isTrue ((evMix specs tab 100000 100).fn 10 [] []) = true := by kernel_rfl
theorem alive (w : World) : Calls Tryz.prog 10 #[] w fun e w' => e = .returned (.bool true) ∧ Below w.heap.size w w' := calls_of_mix mixed specs_ok tab_ok aliveRuns w
end Go.Proofs.YtmolaemlenllmaaGreat

namespace Go.Proofs.YtmolaemlenllmaaGreat
open Go.RowKit
set_option linter.unusedSimpArgs false
set_option linter.unusedVariables false
set_option maxRecDepth 10000

/-! ### Plain -/
def u8 (n : Int) : Prop := 0 ≤ n ∧ n ≤ 255
instance (n : Int) : Decidable (u8 n) := by unfold u8; infer_instance
def u32 (n : Int) : Prop := 0 ≤ n ∧ n ≤ 4294967295
instance (n : Int) : Decidable (u32 n) := by unfold u32; infer_instance
def num (a b c d : Int) : Int := ((a * 256 + b) * 256 + c) * 256 + d
def b3 (n : Int) : Int := n / 16777216
def b2 (n : Int) : Int := n / 65536 % 256
def b1 (n : Int) : Int := n / 256 % 256
def b0 (n : Int) : Int := n % 256
def cl (k : Int) : Int := max 0 (min k 32)
def pw (k : Int) : Int := ((2 ^ (32 - k).toNat : Nat) : Int)
def cutv (n k : Int) : Int := n / pw k * pw k

theorem u8_b3 {n : Int} (h : u32 n) : u8 (b3 n) := by unfold b3 u8 u32 at *; omega
theorem u8_b2 (n : Int) : u8 (b2 n) := by unfold b2 u8; omega
theorem u8_b1 (n : Int) : u8 (b1 n) := by unfold b1 u8; omega
theorem u8_b0 (n : Int) : u8 (b0 n) := by unfold b0 u8; omega
theorem u32_num {a b c d : Int} (ha : u8 a) (hb : u8 b) (hc : u8 c) (hd : u8 d) : u32 (num a b c d) := by unfold num u8 u32 at *; omega
theorem b_num {a b c d : Int} (ha : u8 a) (hb : u8 b) (hc : u8 c) (hd : u8 d) : b3 (num a b c d) = a ∧ b2 (num a b c d) = b ∧ b1 (num a b c d) = c ∧ b0 (num a b c d) = d := by
  unfold num b3 b2 b1 b0 u8 at *; omega
theorem or_low {a c : Int} (ha : 0 ≤ a) (ha2 : a ≤ 4294967295) (hm : a % 256 = 0) (hc : 0 ≤ c) (hc2 : c ≤ 255) : bitsV .u32 .or a c = some (a + c) := by
  obtain ⟨x, rfl⟩ := Int.eq_ofNat_of_zero_le ha
  obtain ⟨y, rfl⟩ := Int.eq_ofNat_of_zero_le hc
  have hx : x < 4294967296 := by omega
  have e1 : (BitVec.ofInt IntKind.u32.bits (x : Int)).toNat = x := by show (BitVec.ofInt 32 (x : Int)).toNat = x; simp [BitVec.toNat_ofInt]; omega
  have e2 : (BitVec.ofInt IntKind.u32.bits (y : Int)).toNat = y := by show (BitVec.ofInt 32 (y : Int)).toNat = y; simp [BitVec.toNat_ofInt]; omega
  have e3 : Nat.lor x y = x + y := by
    have := Nat.shiftLeft_add_eq_or_of_lt (show y < 2 ^ 8 by omega) (x / 256)
    have hs : (x / 256) <<< 8 = x := by rw [Nat.shiftLeft_eq]; omega
    rw [hs] at this
    exact this.symm
  simp only [bitsV, e1, e2, e3, wrapV]
  congr 1
  omega

theorem shr_24 {n : Int} (h : 0 ≤ n) : shiftV .shr .u32 n 24 = some (.i .u32 (n / 16777216)) := by
  simp only [shiftV, IntKind.bits]
  rw [if_neg (by omega), Int.fdiv_eq_ediv_of_nonneg _ (Int.natCast_nonneg _)]; rfl
theorem shr_16 {n : Int} (h : 0 ≤ n) : shiftV .shr .u32 n 16 = some (.i .u32 (n / 65536)) := by
  simp only [shiftV, IntKind.bits]
  rw [if_neg (by omega), Int.fdiv_eq_ediv_of_nonneg _ (Int.natCast_nonneg _)]; rfl
theorem shr_8 {n : Int} (h : 0 ≤ n) : shiftV .shr .u32 n 8 = some (.i .u32 (n / 256)) := by
  simp only [shiftV, IntKind.bits]
  rw [if_neg (by omega), Int.fdiv_eq_ediv_of_nonneg _ (Int.natCast_nonneg _)]; rfl
theorem shl_8 {n : Int} (h : 0 ≤ n) (h2 : n ≤ 16777215) : shiftV .shl .u32 n 8 = some (.i .u32 (n * 256)) := by
  simp only [shiftV, IntKind.bits, wrapV]
  rw [if_neg (by omega)]
  congr 2
  show n * 256 % 4294967296 = _
  omega
theorem wrap_mod {n : Int} : wrapV .u8 n = n % 256 := rfl
theorem bin_or {cst : Bool} {a c : Int} (ha : 0 ≤ a) (ha2 : a ≤ 4294967295) (hm : a % 256 = 0) (hc : 0 ≤ c) (hc2 : c ≤ 255) : binV .int cst .or (.i .u32 a) (.i .u32 c) = some (.i .u32 (a + c)) := by
  rw [bin_i rfl]
  simp only [intV, or_low ha ha2 hm hc hc2, Option.map_some]
theorem ixa_ag {l : Nat} {cs : List AV} {q : IntKind} {n : Int} (h0 : 0 ≤ n) (h1 : n < l) : ixaV l 1 none (.ag cs) (.i q n) = cs[n.toNat]? := by
  have hn : natV (.i q n) = some n.toNat := natV_i h0
  simp only [ixaV, hn]
  rw [if_pos (by omega)]
  simp [partV]

/-! ### Cells -/
def adr (n : Int) : AV := .ag [.i .u8 (b3 n), .i .u8 (b2 n), .i .u8 (b1 n), .i .u8 (b0 n)]
def right (n k : Int) : Prop := cl k = k ∧ cutv n k = n
instance (n k : Int) : Decidable (right n k) := by unfold right; infer_instance
def within (n j m k : Int) : Prop := right n j ∧ k ≤ j ∧ right m k ∧ cutv n k = m
instance (n j m k : Int) : Decidable (within n j m k) := by unfold within; infer_instance
end Go.Proofs.YtmolaemlenllmaaGreat

namespace Go.Proofs.YtmolaemlenllmaaGreat
open Go.RowKit
set_option linter.unusedSimpArgs false
set_option linter.unusedVariables false
set_option maxRecDepth 10000

theorem none_ok : OK Tryz.prog (lamOf Tryz.prog) (orcOf []) := orc_ok (l := []) (fun p hp => by cases hp)

def u84 (a b c d : Int) : Prop := u8 a ∧ u8 b ∧ u8 c ∧ u8 d
instance (a b c d : Int) : Decidable (u84 a b c d) := by unfold u84; infer_instance
theorem u84_b {n : Int} (h : u32 n) : u84 (b3 n) (b2 n) (b1 n) (b0 n) := ⟨u8_b3 h, u8_b2 n, u8_b1 n, u8_b0 n⟩
theorem u84_num {a b c d : Int} (h : u84 a b c d) : u32 (num a b c d) := u32_num h.1 h.2.1 h.2.2.1 h.2.2.2

def ofS : Spec := fun args S => match args with
  | [.i .u32 n] => if u32 n then some (adr n, S) else none
  | _ => none
theorem ofS_eq {n : Int} (h : u32 n) (S : Mem) : ofS [.i .u32 n] S = some (adr n, S) := by simp only [ofS, if_pos h]
theorem of_ok : SpecOK Tryz.prog 105 ofS := by
  intro args S x S' h
  simp only [ofS] at h
  split at h
  · rename_i n
    split at h
    · rename_i hn
      cases h
      unfold u32 at hn
      refine fn_of_wp f105 rfl (W_sound none_ok mixed _ _ _ _ _ ?_)
      simp (maxSteps := 1000000) (disch := omega) only [c105, shr_24, shr_16, shr_8, wrap_mod, go_sem]
      rw [show adr n = AV.ag [AV.i IntKind.u8 (n / 16777216 % 256), AV.i IntKind.u8 (n / 65536 % 256), AV.i IntKind.u8 (n / 256 % 256), AV.i IntKind.u8 (n % 256)] by rw [show n / 16777216 % 256 = n / 16777216 by omega]; rfl]
      exact wkv_drop rfl
    · cases h
  · cases h
theorem rof_ok : SpecOK Tryz.prog 64 ofS := by
  intro args S x S' h
  simp only [ofS] at h
  split at h
  · rename_i n
    split at h
    · rename_i hn
      cases h
      unfold u32 at hn
      refine fn_of_wp f64 rfl (W_sound none_ok mixed _ _ _ _ _ ?_)
      simp (maxSteps := 1000000) (disch := omega) only [c64, go_sem]
      exact wkv_drop rfl
    · cases h
  · cases h

def numS : Spec := fun args S => match args with
  | [.ag [.i .u8 a, .i .u8 b, .i .u8 c, .i .u8 d]] => if u84 a b c d then some (.i .u32 (num a b c d), S) else none
  | _ => none
theorem numS_eq {a b c d : Int} (h : u84 a b c d) (S : Mem) : numS [.ag [.i .u8 a, .i .u8 b, .i .u8 c, .i .u8 d]] S = some (.i .u32 (num a b c d), S) := by simp only [numS, if_pos h]
theorem num_ok : SpecOK Tryz.prog 43 numS := by
  intro args S x S' h
  simp only [numS] at h
  split at h
  · rename_i a b c d
    split at h
    · rename_i hn
      cases h
      obtain ⟨ha, hb, hc, hd⟩ := hn
      unfold u8 at ha hb hc hd
      refine fn_of_wp f43 rfl (W_sound none_ok mixed _ _ _ _ _ ?_)
      simp (maxSteps := 1000000) (disch := omega) only [c43, go_sem]
      refine wp_unroll none_ok mixed 5 ?_
      simp (maxSteps := 1000000) (disch := omega) only [c43l0, shl_8, bin_or, ixa_ag, go_sem]
      exact wkv_drop rfl
    · cases h
  · cases h
theorem rnum_ok : SpecOK Tryz.prog 57 numS := by
  intro args S x S' h
  simp only [numS] at h
  split at h
  · rename_i a b c d
    split at h
    · rename_i hn
      cases h
      obtain ⟨ha, hb, hc, hd⟩ := hn
      unfold u8 at ha hb hc hd
      refine fn_of_wp f57 rfl (W_sound none_ok mixed _ _ _ _ _ ?_)
      simp (maxSteps := 1000000) (disch := omega) only [c57, go_sem]
      rw [show num a b c d = a * 16777216 + b * 65536 + c * 256 + d by unfold num; omega]
      exact wkv_drop rfl
    · cases h
  · cases h

def p2 (t : Int) : Int := ((2 ^ t.toNat : Nat) : Int)
end Go.Proofs.YtmolaemlenllmaaGreat

namespace Go.Proofs.YtmolaemlenllmaaGreat
open Go.RowKit
set_option linter.unusedSimpArgs false
set_option linter.unusedVariables false
set_option maxRecDepth 10000

/-! ### Plain -/
def i64 (n : Int) : Prop := -9223372036854775808 ≤ n ∧ n ≤ 9223372036854775807
def u64 (n : Int) : Prop := 0 ≤ n ∧ n ≤ 18446744073709551615
instance (n : Int) : Decidable (i64 n) := by unfold i64; infer_instance
instance (n : Int) : Decidable (u64 n) := by unfold u64; infer_instance
/-- The bytes of a number. -/
def leb (n : Int) : List Int := if n < 128 then [n] else (128 + n % 128) :: leb (n / 128)
  termination_by n.toNat
  decreasing_by omega
theorem leb_lt {n : Int} (h : n < 128) : leb n = [n] := by rw [leb, if_pos h]
theorem leb_ge {n : Int} (h : ¬ n < 128) : leb n = (128 + n % 128) :: leb (n / 128) := by rw [leb, if_neg h]
theorem leb_ne (n : Int) : leb n ≠ [] := by
  by_cases h : n < 128
  · rw [leb_lt h]; simp
  · rw [leb_ge h]; simp
theorem leb_len : ∀ (k : Nat) (n : Int), n < 128 * ((128 ^ k : Nat) : Int) → (leb n).length ≤ k + 1
  | 0, n, h => by rw [leb_lt (by simpa using h)]; simp
  | k + 1, n, h => by
    by_cases h1 : n < 128
    · rw [leb_lt h1]; simp
    · rw [leb_ge h1, List.length_cons]
      have : n / 128 < 128 * ((128 ^ k : Nat) : Int) := by rw [Nat.pow_succ] at h; omega
      have := leb_len k _ this
      omega
theorem leb_len10 {n : Int} (h : u64 n) : (leb n).length ≤ 10 := leb_len 9 n (by have := h.2; show n < 128 * 9223372036854775808; omega)
theorem leb_u8 {n : Int} (h : 0 ≤ n) : ∀ b ∈ leb n, u8 b := by
  by_cases h1 : n < 128
  · rw [leb_lt h1]; intro b hb; simp at hb; subst hb; unfold u8; omega
  · rw [leb_ge h1]
    intro b hb
    rcases List.mem_cons.1 hb with rfl | hb
    · unfold u8; omega
    · exact leb_u8 (n := n / 128) (by omega) b hb
  termination_by n.toNat
  decreasing_by omega
def lebs (l : List Int) : List Int := l.flatMap leb

/-! ### Rules -/
theorem or128 {cst : Bool} {a : Int} (h0 : 0 ≤ a) (h1 : a ≤ 255) : binV .int cst .or (.i .u8 a) (.i .u8 128) = some (.i .u8 (128 + a % 128)) := by
  rw [bin_i rfl]
  obtain ⟨x, rfl⟩ := Int.eq_ofNat_of_zero_le h0
  have hx : x < 256 := by omega
  have e1 : (BitVec.ofInt IntKind.u8.bits (x : Int)).toNat = x := by show (BitVec.ofInt 8 (x : Int)).toNat = x; simp [BitVec.toNat_ofInt]; omega
  have e2 : (BitVec.ofInt IntKind.u8.bits 128).toNat = 128 := rfl
  have e3 : Nat.lor x 128 = 128 + x % 128 := by
    have : ∀ y : Fin 256, Nat.lor y.val 128 = 128 + y.val % 128 := by decide
    exact this ⟨x, hx⟩
  simp only [intV, bitsV, e1, e2, e3, wrapV, Option.map_some]
  congr 2; omega
theorem shr_7 {n : Int} : shiftV .shr .u64 n 7 = some (.i .u64 (n / 128)) := by
  simp only [shiftV, IntKind.bits]
  rw [if_neg (by omega), Int.fdiv_eq_ediv_of_nonneg _ (Int.natCast_nonneg _)]; rfl
theorem wkv_head {S T : Mem} {cs : List AV} {op : Option Nat} {r ex : Bool} {l c : Nat} (hf : ∀ x ∈ cs, AV.Flat S.length x) : WkV S (.sl S.length 0 0 l c ex) (S ++ [.cells cs 0 op r]) (.sl S.length 0 0 l c ex) (S ++ (.cells cs 0 op r :: T)) := by
  have := wkv_keep (S0 := S) (L := .cells cs 0 op r :: T) (y := .sl S.length 0 0 l c ex) [0] (by simp [Blk.plain]) (by simp)
  have h1 : ren S.length (gKeep S.length (.cells cs 0 op r :: T) [0]) (.sl S.length 0 0 l c ex) = .sl S.length 0 0 l c ex := by
    rw [ren_sl0, gKeep_at0]
    simp [gQ_some, ver_cells, renS_some]
  have h2 : keepB S.length (.cells cs 0 op r :: T) [0] = [.cells cs 0 op r] := by
    simp only [keepB_eq, List.map_cons, List.map_nil, List.getD_cons_zero, renB_cells, renL_eq]
    congr 2
    exact (List.map_congr_left (g := id) fun c hc => hf _ hc _).trans (List.map_id _)
  rwa [h1, h2] at this

/-! ### leb.Put -/
def b8 (l : List Int) : List AV := l.map (.i .u8)
def buf (l : List Int) : List AV := b8 l ++ List.replicate (10 - l.length) (.i .u8 0)
theorem b8_enc (l : List Int) : l.flatMap (intE .u8).enc = b8 l := by
  induction l with
  | nil => rfl
  | cons a l ih => rw [List.flatMap_cons, ih]; rfl
theorem b8_len (l : List Int) : (b8 l).length = l.length := by unfold b8; simp
theorem buf_flat (l : List Int) (n : Nat) : ∀ x ∈ buf l, AV.Flat n x := by
  intro x hx
  unfold buf b8 at hx
  rcases List.mem_append.1 hx with h | h
  · obtain ⟨a, _, rfl⟩ := List.mem_map.1 h; exact Flat_i
  · rw [(List.mem_replicate.1 h).2]; exact Flat_i
theorem natV_0 : natV (.i .i64 0) = some 0 := (rfl)
theorem natV_10 : natV (.i .i64 10) = some 10 := (rfl)
theorem buf_app {S T : Mem} {l : List Int} {c : Int} (h : l.length < 10) : appV (S ++ (.cells (buf l) 0 none true :: T)) 1 1 (.sl S.length 0 0 l.length 10 true) [.i .u8 c] 1 = some (.sl S.length 0 0 (l.length + 1) 10 true, S ++ (.cells (buf (l ++ [c])) 0 none true :: T)) := by
  have hl : (buf l).length = 10 := by unfold buf; rw [List.length_append, b8_len, List.length_replicate]; omega
  simp only [appV]
  rw [if_neg (by omega), if_pos (by omega), at_app0, List.getElem?_cons_zero]
  simp only
  rw [if_pos ⟨trivial, by rw [hl]; omega, rfl⟩, set_app0, List.set_cons_zero]
  have : splice (buf l) (0 + l.length * 1) [.i .u8 c] = buf (l ++ [c]) := by
    unfold buf
    rw [splice, Nat.zero_add, Nat.mul_one, List.take_append_of_le_length (by rw [b8_len]; omega), List.take_of_length_le (by rw [b8_len]; omega)]
    rw [List.drop_append, List.drop_of_length_le (by rw [b8_len]; simp), List.nil_append, b8_len, List.drop_replicate]
    unfold b8
    rw [List.map_append, List.append_assoc]
    congr 3
    simp only [List.length_append, List.length_singleton]
    omega
  rw [this]
def putS : Spec := fun args S => match args with
  | [.i .u64 n] => if u64 n then some (.sl S.length 0 0 (leb n).length 10 true, S ++ [.cells (buf (leb n)) 0 none true]) else none
  | _ => none
theorem put_ok : SpecOK Tryz.prog 41 putS := by
  intro args S x S' h
  simp only [putS] at h
  split at h
  · rename_i n
    split at h
    · rename_i hn
      cases h
      refine fn_of_wp f41 rfl (W_sound none_ok mixed _ _ _ _ _ ?_)
      simp (maxSteps := 1000000) (disch := omega) only [c41, natV_0, natV_10, go_sem]
      refine wp_loop (fun j e M dl => dl = [] ∧ ∃ (pre : List Int) (m : Int) (T : Mem), j = m.toNat ∧ leb n = pre ++ leb m ∧ 0 ≤ m ∧ m * ((128 ^ pre.length : Nat) : Int) ≤ 18446744073709551615 ∧ pre.length ≤ 9 ∧
        M = S ++ (.cells (buf pre) 0 none true :: T) ∧ e.get 0 = .i .u64 m ∧ e.get 3 = .sl S.length 0 0 pre.length 10 true) (j := n.toNat)
        ⟨rfl, [], n, [], rfl, rfl, hn.1, by have := hn.2; simpa using this, by simp, rfl, rfl, rfl⟩ ?_
      rintro j e M d' ⟨rfl, pre, m, T, rfl, hleb, hm0, hm1, hp, rfl, h0, h3⟩
      refine W_sound none_ok mixed _ _ _ _ _ ?_
      by_cases h128 : m < 128
      · have hc : ¬ (128 : Int) ≤ m := by omega
        have ha := fun T c => buf_app (S := S) (T := T) (l := pre) (c := c) (by omega)
        have hw : wrapV .u8 m = m := wrap_u8 hm0 (by omega)
        simp (maxSteps := 1000000) (disch := omega) only [c41l0, h0, h3, hc, hw, src_sl, srcN_some, ha, List.replicate, go_sem]
        rw [hleb, leb_lt h128, List.length_append]
        exact wkv_head (buf_flat _ _)
      · have hc : (128 : Int) ≤ m := by omega
        have hp9 : pre.length < 9 := by
          rcases Nat.lt_or_ge pre.length 9 with h | h
          · exact h
          · rw [show pre.length = 9 by omega] at hm1
            have : m * 9223372036854775808 ≤ 18446744073709551615 := hm1
            omega
        have ha := fun T c => buf_app (S := S) (T := T) (l := pre) (c := c) (by omega)
        have hw : wrapV .u8 m = m % 256 := rfl
        have ho : ∀ cst, binV .int cst .or (.i .u8 (m % 256)) (.i .u8 128) = some (.i .u8 (128 + m % 128)) := fun cst => by rw [or128 (by omega) (by omega)]; congr 3; omega
        simp (maxSteps := 1000000) (disch := omega) only [c41l0, h0, h3, hc, hw, ho, shr_7, src_sl, srcN_some, ha, List.replicate, go_sem]
        refine ⟨(m / 128).toNat, by omega, pre ++ [128 + m % 128], m / 128, _, rfl, ?_, by omega, ?_, by simp; omega, rfl, rfl, by simp⟩
        · rw [hleb, leb_ge h128, List.append_assoc]; rfl
        · rw [List.length_append, List.length_singleton, Nat.pow_succ]
          have h1 : m / 128 * 128 ≤ m := by omega
          have h2 : (m / 128) * ((128 ^ pre.length * 128 : Nat) : Int) = (m / 128 * 128) * ((128 ^ pre.length : Nat) : Int) := by
            rw [Int.natCast_mul, Int.mul_assoc, Int.mul_comm (((128 ^ pre.length : Nat) : Int)) _]; rfl
          rw [h2]
          exact Int.le_trans (Int.mul_le_mul_of_nonneg_right h1 (Int.natCast_nonneg _)) hm1
    · cases h
  · cases h
theorem put_eq {n : Int} (h : u64 n) (S : Mem) : putS [.i .u64 n] S = some (.sl S.length 0 0 (leb n).length 10 true, S ++ [.cells (buf (leb n)) 0 none true]) := by
  simp only [putS, if_pos h]

/-! ### leb.Nums -/
def byteE : Enc Int := intE .u8
theorem byteE_one (a : Int) : (byteE.enc a).all AV.one = true := rfl
theorem byteE_flat : ∀ (n : Nat) (a : Int), ∀ c ∈ byteE.enc a, AV.Flat n c := by
  intro n a c hc
  have : c = .i .u8 a := by simpa [byteE, intE] using hc
  rw [this]; exact Flat_i
def numE : Enc Int := intE .u64
theorem numE_one (a : Int) : (numE.enc a).all AV.one = true := rfl
def lebsS (z : Bool) : Spec := fun args S => match args with
  | [x] => match lstV numE S x with
    | some l => if l.length ≤ 1000000 ∧ l.all (fun n => decide (u64 n)) = true then some (retX z S (lebs l), retM z byteE S (lebs l)) else none
    | none => none
  | _ => none
theorem lebs_len {l : List Int} (h : ∀ n ∈ l, u64 n) : (lebs l).length ≤ 10 * l.length := by
  induction l with
  | nil => simp [lebs]
  | cons a l ih =>
    have h1 := leb_len10 (h a (by simp))
    have h2 := ih fun n hn => h n (by simp [hn])
    unfold lebs at h2 ⊢
    rw [List.flatMap_cons, List.length_append, List.length_cons]; omega
theorem oNu_ok : OK Tryz.prog (lamOf Tryz.prog) (orcOf [(41, putS)]) := orc_ok (by simpa using put_ok)
theorem lebs_ok : SpecOK Tryz.prog 21 (lebsS false) := by
  intro args S x S' h
  simp only [lebsS] at h
  split at h
  · rename_i s
    split at h
    · rename_i l hl
      split at h
      · rename_i hc
        cases h
        obtain ⟨hlim, hu⟩ := hc
        have hu : ∀ n ∈ l, u64 n := fun n hn => of_decide_eq_true (List.all_eq_true.1 hu n hn)
        refine fn_of_wp f21 rfl (W_sound oNu_ok mixed _ _ _ _ _ ?_)
        simp (maxSteps := 1000000) (disch := omega) only [c21, lst_len hl, go_sem]
        refine wp_loop (fun j e M dl => dl = [] ∧ ∃ (k : Nat) (x : AV), j = l.length - k ∧ k ≤ l.length ∧ Acc false byteE S M x (lebs (l.take k)) ∧
          e.get 6 = s ∧ e.get 7 = .i .i64 l.length ∧ e.get 8 = .i .i64 k ∧ e.get 3 = x) (j := l.length) ⟨rfl, 0, .sn, rfl, Nat.zero_le _, acc_nil ext_refl, rfl, rfl, rfl, rfl⟩ ?_
        rintro j e M d' ⟨rfl, k, x, rfl, hk, hx, h6, h7, h8, h3⟩
        refine W_sound oNu_ok mixed _ _ _ _ _ ?_
        by_cases hkl : k < l.length
        · obtain ⟨bi, o, v, cap, ex, rfl⟩ := lst_sl hl hkl
          have hM := lst_ext hl hx.ext
          have hc : ∀ L, cellB ((M ++ L)[bi]?) (o + k) v = some (.i .u64 l[k]) := lstV_cell hM rfl (fun a => rfl) hkl
          have hc0 := hc []
          rw [List.append_nil] at hc0
          have hkI : (k : Int) < l.length := by omega
          have hw : wrapV .i64 ((k : Int) + 1) = ((k + 1 : Nat) : Int) := by rw [wrap_i64 (by omega) (by omega)]; omega
          have hlk := hu _ (List.getElem_mem hkl)
          have h10 := leb_len10 hlk
          have hlen : (lebs (l.take k)).length ≤ 10 * k := by
            have := lebs_len (l := l.take k) fun n hn => hu n (List.mem_of_mem_take hn)
            rw [List.length_take] at this; omega
          obtain ⟨x', M', ha, hx'⟩ := Acc.apps (bytes := 1) byteE_one (hx.grow [.cells (buf (leb l[k])) 0 none true]) (leb l[k]) (by omega) (by omega)
          rw [show (leb l[k]).flatMap byteE.enc = b8 (leb l[k]) from b8_enc _] at ha
          have ha : appV (M ++ [.cells (buf (leb l[k])) 0 none true]) 1 1 x (b8 (leb l[k])) (leb l[k]).length = some (x', M') := ha
          have hb : rowB (some (.cells (buf (leb l[k])) 0 none true)) 0 0 (leb l[k]).length = some (b8 (leb l[k])) := by
            rw [rowB_some, if_pos (by unfold buf; rw [List.length_append, b8_len]; omega), List.drop_zero]
            unfold buf
            rw [List.take_append_of_le_length (by rw [b8_len]; omega), List.take_of_length_le (by rw [b8_len]; omega)]
          simp (maxSteps := 1000000) (disch := omega) only [c21l0, h3, h6, h7, h8, hkI, Int.toNat_natCast, Nat.mul_one, hc0, orc_cons, put_eq hlk, src_sl, hb, srcN_some, ha, hw, go_sem]
          refine ⟨l.length - (k + 1), by omega, k + 1, x', rfl, hkl, ?_, rfl, rfl⟩
          rw [show lebs (l.take (k + 1)) = lebs (l.take k) ++ leb l[k] by unfold lebs; rw [List.take_succ_eq_append_getElem hkl, List.flatMap_append]; simp]
          exact hx'
        · have hkI : ¬ (k : Int) < l.length := by omega
          simp (maxSteps := 1000000) (disch := omega) only [c21l0, h3, h6, h7, h8, hkI, go_sem]
          rw [List.take_of_length_le (by omega)] at hx
          exact hx.ret byteE_flat
      · cases h
    · cases h
  · cases h
theorem lebs_eq {z : Bool} {S : Mem} {x : AV} {l : List Int} (hl : lstV numE S x = some l) (hn : l.length ≤ 1000000) (hu : ∀ n ∈ l, u64 n) : lebsS z [x] S = some (retX z S (lebs l), retM z byteE S (lebs l)) := by
  simp only [lebsS, hl, if_pos (And.intro hn (List.all_eq_true.2 fun n h => decide_eq_true (hu n h)))]

/-! ### The document's -/
def rputS (f : Nat) : Spec := fun args S => match args with
  | [.i .u64 n] => if 0 < f ∧ n < ((128 ^ f : Nat) : Int) ∧ u64 n then
      (if n < 128 then some (.sl S.length 0 0 1 1 true, S ++ [.cells [.i .u8 n] 0 none true]) else some (retX true S (leb n), retM true byteE S (leb n)))
    else none
  | _ => none
theorem rput_ok : ∀ f, SpecOK Tryz.prog 55 (rputS f)
  | 0 => by
    intro args S x S' h
    simp only [rputS] at h
    split at h
    · split at h
      · rename_i hc; exact absurd hc.1 (by omega)
      · cases h
    · cases h
  | f + 1 => by
    have hO : OK Tryz.prog (lamOf Tryz.prog) (orcOf [(55, rputS f)]) := orc_ok (by simpa using rput_ok f)
    intro args S x S' h
    simp only [rputS] at h
    split at h
    · rename_i n
      split at h
      · rename_i hc
        obtain ⟨_, hn1, hn⟩ := hc
        have hn0 := hn.1
        refine fn_of_wp f55 rfl (W_sound hO mixed _ _ _ _ _ ?_)
        by_cases h128 : n < 128
        · rw [if_pos h128] at h
          cases h
          have hw : wrapV .u8 n = n := wrap_u8 hn0 (by omega)
          simp (maxSteps := 1000000) (disch := omega) only [c55, h128, hw, List.replicate, go_sem]
          exact wkv_same
        · rw [if_neg h128] at h
          cases h
          have hw1 : wrapV .u64 (128 + n % 128) = 128 + n % 128 := wrap_u64 (by omega) (by omega)
          have hw2 : wrapV .u8 (128 + n % 128) = 128 + n % 128 := wrap_u8 (by omega) (by omega)
          have hw3 : wrapV .u64 (n / 128) = n / 128 := wrap_u64 (by omega) (by have := hn.2; omega)
          have hcall : ∃ x2 M2, rputS f [.i .u64 (n / 128)] (S ++ [.cells [.i .u8 (128 + n % 128)] 0 none true]) = some (x2, M2) ∧ lstV byteE M2 x2 = some (leb (n / 128)) ∧ ∃ U, M2 = S ++ [.cells [.i .u8 (128 + n % 128)] 0 none true] ++ U := by
            have hf0 : 0 < f := by
              rcases Nat.eq_zero_or_pos f with h | h
              · subst h; simp at hn1; omega
              · exact h
            have hc : 0 < f ∧ n / 128 < ((128 ^ f : Nat) : Int) ∧ u64 (n / 128) := ⟨hf0, by rw [Nat.pow_succ] at hn1; omega, by have := hn.2; unfold u64; omega⟩
            simp only [rputS]
            rw [if_pos hc]
            by_cases h2 : n / 128 < 128
            · rw [if_pos h2, leb_lt h2]
              refine ⟨_, _, rfl, ?_, _, rfl⟩
              exact own_lst (ownV_mk (E := byteE) (l := [n / 128]) (by rw [at_app0]; rfl))
            · rw [if_neg h2]
              refine ⟨_, _, rfl, retX_lst, ?_⟩
              obtain ⟨U, hU⟩ := retM_ext (z := true) (E := byteE) (S := S ++ [.cells [.i .u8 (128 + n % 128)] 0 none true]) (l := leb (n / 128))
              exact ⟨U, hU.symm⟩
          obtain ⟨x2, M2, hcall, hx2, U, rfl⟩ := hcall
          have h10 := leb_len10 hn
          rw [leb_ge h128, List.length_cons] at h10
          have hacc := accL_lit (E := byteE) (S := S) (M := S) (l := [128 + n % 128]) ext_refl
          obtain ⟨x3, M3, U3, ha, hM3, _, hx3⟩ := hacc.apps (bytes := 1) byteE_one U (leb (n / 128)) (by simp only [List.length_singleton]; omega) (by simp only [List.length_singleton]; omega)
          have hsrc : srcV (S ++ [.cells [.i .u8 (128 + n % 128)] 0 none true] ++ U) 1 x2 = some ((leb (n / 128)).flatMap byteE.enc, (leb (n / 128)).length) := by
            rcases lstV_lst hx2 with ⟨_, h⟩ | ⟨_, h⟩ | ⟨i, o, v, len, cap, ex, rfl, rfl, hrow⟩
            · exact absurd h (leb_ne _)
            · exact absurd h (leb_ne _)
            · have hrow : rowB ((S ++ [.cells [.i .u8 (128 + n % 128)] 0 none true] ++ U)[i]?) o v ((leb (n / 128)).length * 1) = some ((leb (n / 128)).flatMap byteE.enc) := by rw [← rowAt_B]; exact hrow
              rw [src_sl, hrow, srcN_some]
          have ha : appV (S ++ [.cells [.i .u8 (128 + n % 128)] 0 none true] ++ U) 1 1 (.sl S.length 0 0 1 1 true) ((leb (n / 128)).flatMap byteE.enc) (leb (n / 128)).length = some (x3, M3 ++ (U ++ U3)) := ha
          simp only [List.append_assoc, List.cons_append, List.nil_append] at hcall hsrc ha
          simp (maxSteps := 1000000) (disch := omega) only [c55, h128, hw1, hw2, hw3, orc_cons, hcall, hsrc, ha, List.replicate, go_sem]
          rw [leb_ge h128]
          exact (hx3 (leb_ne _) true).ret byteE_flat
      · cases h
    · cases h
theorem rput_len {n : Int} (S : Mem) (hn : u64 n) : ∃ x M, rputS 10 [.i .u64 n] S = some (x, M) ∧ lstV byteE M x = some (leb n) ∧ S <+: M := by
  have hc : 0 < 10 ∧ n < ((128 ^ 10 : Nat) : Int) ∧ u64 n := ⟨by omega, by have := hn.2; show n < 1180591620717411303424; omega, hn⟩
  simp only [rputS]
  rw [if_pos hc]
  by_cases h2 : n < 128
  · rw [if_pos h2, leb_lt h2]
    exact ⟨_, _, rfl, own_lst (ownV_mk (E := byteE) (l := [n]) (by rw [at_app0]; rfl)), ext_app _⟩
  · rw [if_neg h2]
    exact ⟨_, _, rfl, retX_lst, retM_ext⟩
theorem src_lst {α : Type} {E : Enc α} {S : Mem} {x : AV} {l : List α} (h : lstV E S x = some l) : srcV S E.sz x = some (l.flatMap E.enc, l.length) := by
  rcases lstV_lst h with ⟨rfl, rfl⟩ | ⟨rfl, rfl⟩ | ⟨i, o, v, len, cap, ex, rfl, rfl, hrow⟩
  · rfl
  · rfl
  · have hrow : rowB (S[i]?) o v (l.length * E.sz) = some (l.flatMap E.enc) := by rw [← rowAt_B]; exact hrow
    rw [src_sl, hrow, srcN_some]
theorem oRn_ok : OK Tryz.prog (lamOf Tryz.prog) (orcOf [(55, rputS 10)]) := orc_ok (by simpa using rput_ok 10)
theorem rlebs_ok : SpecOK Tryz.prog 29 (lebsS true) := by
  intro args S x S' h
  simp only [lebsS] at h
  split at h
  · rename_i s
    split at h
    · rename_i l hl
      split at h
      · rename_i hc
        cases h
        obtain ⟨hlim, hu⟩ := hc
        have hu : ∀ n ∈ l, u64 n := fun n hn => of_decide_eq_true (List.all_eq_true.1 hu n hn)
        refine fn_of_wp f29 rfl (W_sound oRn_ok mixed _ _ _ _ _ ?_)
        simp (maxSteps := 1000000) (disch := omega) only [c29, lst_len hl, go_sem]
        refine wp_loop (fun j e M dl => dl = [] ∧ ∃ (k : Nat) (x : AV), j = l.length - k ∧ k ≤ l.length ∧ Acc true byteE S M x (lebs (l.take k)) ∧
          e.get 7 = s ∧ e.get 8 = .i .i64 l.length ∧ e.get 9 = .i .i64 k ∧ e.get 3 = x) (j := l.length) ⟨rfl, 0, _, rfl, Nat.zero_le _, acc_lit ext_refl, rfl, rfl, rfl, rfl⟩ ?_
        rintro j e M d' ⟨rfl, k, x, rfl, hk, hx, h7, h8, h9, h3⟩
        refine W_sound oRn_ok mixed _ _ _ _ _ ?_
        by_cases hkl : k < l.length
        · obtain ⟨bi, o, v, cap, ex, rfl⟩ := lst_sl hl hkl
          have hM := lst_ext hl hx.ext
          have hc : ∀ L, cellB ((M ++ L)[bi]?) (o + k) v = some (.i .u64 l[k]) := lstV_cell hM rfl (fun a => rfl) hkl
          have hc0 := hc []
          rw [List.append_nil] at hc0
          have hkI : (k : Int) < l.length := by omega
          have hw : wrapV .i64 ((k : Int) + 1) = ((k + 1 : Nat) : Int) := by rw [wrap_i64 (by omega) (by omega)]; omega
          have hlk := hu _ (List.getElem_mem hkl)
          have h10 := leb_len10 hlk
          have hlen : (lebs (l.take k)).length ≤ 10 * k := by
            have := lebs_len (l := l.take k) fun n hn => hu n (List.mem_of_mem_take hn)
            rw [List.length_take] at this; omega
          obtain ⟨x2, M2, hp, hx2, hM2⟩ := rput_len M hlk
          obtain ⟨x', M', ha, hx'⟩ := Acc.apps (bytes := 1) byteE_one (hx.extM hM2) (leb l[k]) (by omega) (by omega)
          have hs : srcV M2 1 x2 = _ := src_lst hx2
          have ha : appV M2 1 1 x _ _ = _ := ha
          simp (maxSteps := 1000000) (disch := omega) only [c29l0, h3, h7, h8, h9, hkI, Int.toNat_natCast, Nat.mul_one, hc0, orc_cons, hp, hs, ha, hw, go_sem]
          refine ⟨l.length - (k + 1), by omega, k + 1, x', rfl, hkl, ?_, rfl, rfl⟩
          rw [show lebs (l.take (k + 1)) = lebs (l.take k) ++ leb l[k] by unfold lebs; rw [List.take_succ_eq_append_getElem hkl, List.flatMap_append]; simp]
          exact hx'
        · have hkI : ¬ (k : Int) < l.length := by omega
          simp (maxSteps := 1000000) (disch := omega) only [c29l0, h3, h7, h8, h9, hkI, go_sem]
          rw [List.take_of_length_le (by omega)] at hx
          exact hx.ret byteE_flat
      · cases h
    · cases h
  · cases h
end Go.Proofs.YtmolaemlenllmaaGreat

namespace Go.Proofs.YtmolaemlenllmaaGreat
open Go.RowKit
set_option linter.unusedSimpArgs false
set_option linter.unusedVariables false
set_option maxRecDepth 10000

/-! ### Policies -/
structure Pol where
  sub : Int
  a : Int
  b : Int
  c : Int
  d : Int
  bits : Int
  rate : Int
  burst : Int
  srate : Int
  sburst : Int
  quota : Int
  lease : Int
  quantum : Int
  deriving DecidableEq
def Pol.enc (p : Pol) : List AV := [.i .i64 p.sub, .i .u8 p.a, .i .u8 p.b, .i .u8 p.c, .i .u8 p.d, .i .i64 p.bits, .i .u64 p.rate, .i .u64 p.burst, .i .u64 p.srate, .i .u64 p.sburst, .i .u64 p.quota, .i .u64 p.lease, .i .u64 p.quantum]
def Pol.zero : Pol := ⟨0, 0, 0, 0, 0, 0, 0, 0, 0, 0, 0, 0, 0⟩
def Pol.good (p : Pol) : Prop := i64 p.sub ∧ u84 p.a p.b p.c p.d ∧ i64 p.bits ∧ u64 p.rate ∧ u64 p.burst ∧ u64 p.srate ∧ u64 p.sburst ∧ u64 p.quota ∧ u64 p.lease ∧ u64 p.quantum
instance (p : Pol) : Decidable p.good := by unfold Pol.good; infer_instance
theorem eq_pol {a b : Pol} : eqAgV false [.int, .int, .int, .int, .int, .int, .int, .int, .int, .int, .int, .int, .int] (.ag a.enc) (.ag b.enc) = some (.b (decide (a = b))) := by
  obtain ⟨a1, a2, a3, a4, a5, a6, a7, a8, a9, a10, a11, a12, a13⟩ := a
  obtain ⟨b1, b2, b3, b4, b5, b6, b7, b8, b9, b10, b11, b12, b13⟩ := b
  simp [eqAgV, eqCells, eqCell, Pol.enc, Bool.beq_eq_decide_eq, and_assoc]
theorem ne_pol {a b : Pol} : eqAgV true [.int, .int, .int, .int, .int, .int, .int, .int, .int, .int, .int, .int, .int] (.ag a.enc) (.ag b.enc) = some (.b (decide (¬ a = b))) := by
  obtain ⟨a1, a2, a3, a4, a5, a6, a7, a8, a9, a10, a11, a12, a13⟩ := a
  obtain ⟨b1, b2, b3, b4, b5, b6, b7, b8, b9, b10, b11, b12, b13⟩ := b
  simp [eqAgV, eqCells, eqCell, Pol.enc, Bool.beq_eq_decide_eq, and_assoc]

/-! ### Ops -/
def boolE : Enc Bool where
  enc b := [.b b]
  dec r := match r with
    | [.b b] => some b
    | _ => none
  sz := 1
  pos := by decide
  len _ := rfl
  de _ := rfl
  ed r a h := by
    split at h
    · injection h with h; subst h; rfl
    · cases h
theorem boolE_one (a : Bool) : (boolE.enc a).all AV.one = true := rfl
/-- A value of one cell. -/
structure Sl where
  v : AV
  h : v.one = true
structure Oq where
  kind : Int
  sub : Int
  m : Int
  n : Int
  x : Sl
  pol : Pol
  y : Sl
def Oq.enc (o : Oq) : List AV := [.i .i64 o.kind, .i .i64 o.sub, .i .i64 o.m, .i .u64 o.n, o.x.v, .i .i64 o.pol.sub, .i .u8 o.pol.a, .i .u8 o.pol.b, .i .u8 o.pol.c, .i .u8 o.pol.d, .i .i64 o.pol.bits, .i .u64 o.pol.rate, .i .u64 o.pol.burst, .i .u64 o.pol.srate, .i .u64 o.pol.sburst, .i .u64 o.pol.quota, .i .u64 o.pol.lease, .i .u64 o.pol.quantum, o.y.v]
def oqE : Enc Oq where
  enc := Oq.enc
  dec r := match r with
    | [.i .i64 k, .i .i64 s, .i .i64 m, .i .u64 n, x, .i .i64 sub, .i .u8 a, .i .u8 b, .i .u8 c, .i .u8 d, .i .i64 bits, .i .u64 rate, .i .u64 burst, .i .u64 srate, .i .u64 sburst, .i .u64 quota, .i .u64 lease, .i .u64 quantum, y] =>
      if h : x.one = true ∧ y.one = true then some ⟨k, s, m, n, ⟨x, h.1⟩, ⟨sub, a, b, c, d, bits, rate, burst, srate, sburst, quota, lease, quantum⟩, ⟨y, h.2⟩⟩ else none
    | _ => none
  sz := 19
  pos := by decide
  len _ := rfl
  de a := by
    obtain ⟨k, s, m, n, ⟨x, hx⟩, p, ⟨y, hy⟩⟩ := a
    simp only [Oq.enc]
    rw [dif_pos ⟨hx, hy⟩]
  ed r a h := by
    split at h
    · split at h
      · injection h with h; subst h; rfl
      · cases h
    · cases h
theorem oqE_one (a : Oq) : (oqE.enc a).all AV.one = true := by
  obtain ⟨k, s, m, n, ⟨x, hx⟩, p, ⟨y, hy⟩⟩ := a
  simp only [oqE, Oq.enc, List.all_cons, List.all_nil, hx, hy]
  rfl
structure Opx where
  kind : Int
  sub : Int
  brk : Int
  n : Int
  bs : List Int
  pol : Pol
  ks : List Bool
  deriving DecidableEq
def opz (k : Int) : Opx := ⟨k, 0, 0, 0, [], Pol.zero, []⟩
def Oq.val (S : Mem) (q : Oq) : Option Opx := match lstV byteE S q.x.v, lstV boolE S q.y.v with
  | some b, some k => some ⟨q.kind, q.sub, q.m, q.n, b, q.pol, k⟩
  | _, _ => none
def opOf (S : Mem) (cs : List AV) : Option Opx := match oqE.dec cs with
  | some q => q.val S
  | none => none
theorem Oq.val_ok {S : Mem} {q : Oq} {o : Opx} (h : q.val S = some o) : o.kind = q.kind ∧ o.sub = q.sub ∧ o.brk = q.m ∧ o.n = q.n ∧ o.pol = q.pol ∧ lstV byteE S q.x.v = some o.bs ∧ lstV boolE S q.y.v = some o.ks := by
  unfold Oq.val at h
  split at h
  · rename_i b k hb hk
    cases h
    exact ⟨rfl, rfl, rfl, rfl, rfl, hb, hk⟩
  · cases h
theorem Oq.val_mk {S : Mem} {q : Oq} {b : List Int} {k : List Bool} (hb : lstV byteE S q.x.v = some b) (hk : lstV boolE S q.y.v = some k) : q.val S = some ⟨q.kind, q.sub, q.m, q.n, b, q.pol, k⟩ := by
  simp only [Oq.val, hb, hk]
theorem Oq.val_ext {S M : Mem} {q : Oq} {o : Opx} (h : q.val S = some o) (hM : S <+: M) : q.val M = some o := by
  obtain ⟨h1, h2, h3, h4, h5, h6, h7⟩ := Oq.val_ok h
  rw [Oq.val_mk (lst_ext h6 hM) (lst_ext h7 hM), ← h1, ← h2, ← h3, ← h4, ← h5]
theorem opOf_enc {S : Mem} {q : Oq} : opOf S q.enc = q.val S := by
  have : oqE.dec q.enc = some q := oqE.de q
  simp only [opOf, this]
/-- An op's cells. -/
theorem opOf_ok {S : Mem} {cs : List AV} {o : Opx} (h : opOf S cs = some o) : ∃ x y, cs = [.i .i64 o.kind, .i .i64 o.sub, .i .i64 o.brk, .i .u64 o.n, x, .i .i64 o.pol.sub, .i .u8 o.pol.a, .i .u8 o.pol.b, .i .u8 o.pol.c, .i .u8 o.pol.d, .i .i64 o.pol.bits, .i .u64 o.pol.rate, .i .u64 o.pol.burst, .i .u64 o.pol.srate, .i .u64 o.pol.sburst, .i .u64 o.pol.quota, .i .u64 o.pol.lease, .i .u64 o.pol.quantum, y] ∧
    lstV byteE S x = some o.bs ∧ lstV boolE S y = some o.ks := by
  unfold opOf at h
  split at h
  · rename_i q hq
    obtain ⟨h1, h2, h3, h4, h5, h6, h7⟩ := Oq.val_ok h
    refine ⟨q.x.v, q.y.v, ?_, h6, h7⟩
    rw [oqE.ed _ _ hq, h1, h2, h3, h4, h5]; rfl
  · cases h
theorem opOf_mk {S : Mem} {k s m n : Int} {x y : AV} {p : Pol} {b : List Int} {c : List Bool} (hx : lstV byteE S x = some b) (hy : lstV boolE S y = some c) :
    opOf S [.i .i64 k, .i .i64 s, .i .i64 m, .i .u64 n, x, .i .i64 p.sub, .i .u8 p.a, .i .u8 p.b, .i .u8 p.c, .i .u8 p.d, .i .i64 p.bits, .i .u64 p.rate, .i .u64 p.burst, .i .u64 p.srate, .i .u64 p.sburst, .i .u64 p.quota, .i .u64 p.lease, .i .u64 p.quantum, y] = some ⟨k, s, m, n, b, p, c⟩ := by
  have h1 := lst_one hx
  have h2 := lst_one hy
  have := opOf_enc (S := S) (q := ⟨k, s, m, n, ⟨x, h1⟩, p, ⟨y, h2⟩⟩)
  rw [Oq.val_mk hx hy] at this
  exact this
theorem opOf_grow {S : Mem} {cs : List AV} {o : Opx} (h : opOf S cs = some o) (L : Mem) : opOf (S ++ L) cs = some o := by
  unfold opOf at h ⊢
  split at h
  · rename_i q hq
    exact Oq.val_ext h (ext_app L)
  · cases h
/-- A list of ops. -/
def OpsV (S : Mem) (x : AV) (l : List Opx) : Prop := ∃ qs, lstV oqE S x = some qs ∧ qs.map (Oq.val S) = l.map some
theorem OpsV.grow {S : Mem} {x : AV} {l : List Opx} (h : OpsV S x l) (L : Mem) : OpsV (S ++ L) x l := by
  obtain ⟨qs, h1, h2⟩ := h
  refine ⟨qs, lstV_grow h1 L, ?_⟩
  rw [← h2]
  refine List.map_congr_left fun q hq => ?_
  have : q.val S ∈ l.map some := by rw [← h2]; exact List.mem_map_of_mem hq
  obtain ⟨o, _, ho⟩ := List.mem_map.1 this
  rw [← ho]; exact Oq.val_ext ho.symm (ext_app L)
theorem OpsV.ext {S M : Mem} {x : AV} {l : List Opx} (h : OpsV S x l) (hM : S <+: M) : OpsV M x l := by
  obtain ⟨T, rfl⟩ := hM; exact h.grow T
theorem OpsV.len {S : Mem} {x : AV} {l : List Opx} (h : OpsV S x l) : ∀ M, lenQ LK.slice M x = some (.i .i64 l.length) := by
  obtain ⟨qs, h1, h2⟩ := h
  have := congrArg List.length h2
  rw [List.length_map, List.length_map] at this
  rw [← this]; exact lst_len h1
theorem OpsV.at {S : Mem} {x : AV} {l : List Opx} (h : OpsV S x l) {k : Nat} (hk : k < l.length) : ∃ (qs : List Oq) (hq : k < qs.length), lstV oqE S x = some qs ∧ (qs[k]).val S = some l[k] := by
  obtain ⟨qs, h1, h2⟩ := h
  have hl := congrArg List.length h2
  rw [List.length_map, List.length_map] at hl
  refine ⟨qs, by omega, h1, ?_⟩
  have := congrArg (fun m => m[k]?) h2
  simp only [List.getElem?_map, List.getElem?_eq_getElem hk, List.getElem?_eq_getElem (show k < qs.length by omega), Option.map_some, Option.some.injEq] at this
  exact this

/-! ### Numbers with a sign -/
def zig (n : Int) : Int := if n < 0 then -2 * n - 1 else 2 * n
def zag (u : Int) : Int := if u % 2 = 1 then -1 - u / 2 else u / 2
theorem zig_u64 {n : Int} (h : i64 n) : u64 (zig n) := by unfold zig u64; unfold i64 at h; split <;> omega
theorem zag_i64 {n : Int} (h : u64 n) : i64 (zag n) := by unfold zag i64; unfold u64 at h; split <;> omega
theorem zag_zig {n : Int} (h : i64 n) : zag (zig n) = n := by unfold zag zig; unfold i64 at h; split <;> split <;> omega

/-! ### Which ops can be -/
def Opx.right (o : Opx) : Prop := 0 ≤ o.kind ∧ o.kind ≤ 12 ∧ o.bs.length ≤ 2000 ∧ o.ks.length ≤ 64 ∧ (o.kind ≠ 0 → o.bs = []) ∧ (o.kind ≠ 1 → o.n = 0) ∧ (o.kind ≠ 4 → o.pol = Pol.zero) ∧ (o.kind ≠ 5 ∧ o.kind ≠ 8 → o.sub = 0) ∧ (o.kind ≠ 10 → o.brk = 0) ∧ (o.kind ≠ 11 → o.ks = [])
instance (o : Opx) : Decidable o.right := by unfold Opx.right; infer_instance
def Opx.good (o : Opx) : Prop := i64 o.kind ∧ i64 o.sub ∧ i64 o.brk ∧ u64 o.n ∧ (∀ b ∈ o.bs, u8 b) ∧ o.pol.good
def Opx.small (o : Opx) : Prop := o.bs.length ≤ 1000000 ∧ o.ks.length ≤ 1000000
instance (o : Opx) : Decidable o.small := by unfold Opx.small; infer_instance
instance (o : Opx) : Decidable o.good := by unfold Opx.good; infer_instance
def allR (l : List Opx) : Prop := l.length ≤ 400 ∧ ∀ o ∈ l, o.right
instance (l : List Opx) : Decidable (allR l) := by unfold allR; infer_instance

/-! ### Ops as bytes -/
def flagN (b : Bool) : Int := if b then 1 else 0
def Pol.zs (p : Pol) : List Int := [zig p.sub, num p.a p.b p.c p.d, zig p.bits, p.rate, p.burst, p.srate, p.sburst, p.quota, p.lease, p.quantum]
def Opx.ns (o : Opx) : List Int := o.kind :: (if o.kind = 0 then [(o.bs.length : Int)] else if o.kind = 1 then [o.n] else if o.kind = 4 then o.pol.zs else if o.kind = 5 ∨ o.kind = 8 then [zig o.sub] else if o.kind = 10 then [zig o.brk] else if o.kind = 11 then (o.ks.length : Int) :: o.ks.map flagN else [])
def Opx.code (o : Opx) : List Int := lebs o.ns ++ o.bs
def codeL (l : List Opx) : List Int := l.flatMap Opx.code
/-- What a script is played with. -/
structure Cfg where
  sectors : Int
  queue : Int
  period : Int
  deriving DecidableEq
def Cfg.good (c : Cfg) : Prop := i64 c.sectors ∧ i64 c.queue ∧ u64 c.period
instance (c : Cfg) : Decidable c.good := by unfold Cfg.good; infer_instance
def headN (c : Cfg) (n : Int) : List Int := [zig c.sectors, zig c.queue, c.period, n]
def scriptB (c : Cfg) (l : List Opx) : List Int := lebs (headN c l.length) ++ codeL l
theorem zs_u64 {p : Pol} (h : p.good) : ∀ n ∈ p.zs, u64 n := by
  obtain ⟨h1, ⟨ha, hb, hc, hd⟩, h2, h3, h4, h5, h6, h7, h8, h9⟩ := h
  have hn := u32_num ha hb hc hd
  have z1 := zig_u64 h1
  have z2 := zig_u64 h2
  intro n hn
  simp only [Pol.zs, List.mem_cons, List.not_mem_nil, or_false] at hn
  rcases hn with rfl | rfl | rfl | rfl | rfl | rfl | rfl | rfl | rfl | rfl <;> first | assumption | (unfold u64 u32 at *; omega)
theorem flag_u64 (b : Bool) : u64 (flagN b) := by cases b <;> (unfold u64 flagN; simp)
theorem ns_u64 {o : Opx} (hg : o.good) (hr : o.right) : ∀ n ∈ o.ns, u64 n := by
  obtain ⟨g1, g2, g3, g4, g5, g6⟩ := hg
  obtain ⟨r1, r2, r3, r4, _⟩ := hr
  intro n hn
  unfold Opx.ns at hn
  rcases List.mem_cons.1 hn with rfl | hn
  · unfold u64; omega
  · split at hn
    · simp only [List.mem_singleton] at hn; subst hn; unfold u64; omega
    · split at hn
      · simp only [List.mem_singleton] at hn; subst hn; exact g4
      · split at hn
        · exact zs_u64 g6 n hn
        · split at hn
          · simp only [List.mem_singleton] at hn; subst hn; exact zig_u64 g2
          · split at hn
            · simp only [List.mem_singleton] at hn; subst hn; exact zig_u64 g3
            · split at hn
              · rcases List.mem_cons.1 hn with rfl | hn
                · unfold u64; omega
                · obtain ⟨b, _, rfl⟩ := List.mem_map.1 hn; exact flag_u64 b
              · cases hn
theorem ns_len {o : Opx} (hr : o.right) : o.ns.length ≤ 66 := by
  obtain ⟨r1, r2, r3, r4, _⟩ := hr
  unfold Opx.ns
  rw [List.length_cons]
  split
  · simp
  · split
    · simp
    · split
      · simp [Pol.zs]
      · split
        · simp
        · split
          · simp
          · split
            · simp; omega
            · simp
theorem code_len {o : Opx} (hg : o.good) (hr : o.right) : o.code.length ≤ 2020 := by
  have h1 := lebs_len (l := o.ns) (ns_u64 hg hr)
  have h2 := ns_len hr
  have h3 := hr.2.2.1
  unfold Opx.code
  rw [List.length_append]
  by_cases h0 : o.kind = 0
  · have h4 : o.ns.length = 2 := by unfold Opx.ns; rw [if_pos h0]; rfl
    omega
  · rw [hr.2.2.2.2.1 h0, List.length_nil]; omega
theorem codeL_len {l : List Opx} (h : ∀ o ∈ l, o.good ∧ o.right) : (codeL l).length ≤ 2020 * l.length := by
  induction l with
  | nil => simp [codeL]
  | cons a l ih =>
    have h1 := code_len (h a (by simp)).1 (h a (by simp)).2
    have h2 := ih fun o ho => h o (by simp [ho])
    unfold codeL at h2 ⊢
    rw [List.flatMap_cons, List.length_append, List.length_cons]; omega
theorem script_len {c : Cfg} {l : List Opx} (hc : ∀ m ∈ headN c l.length, u64 m) (hl : allR l) (h : ∀ o ∈ l, o.good) : (scriptB c l).length ≤ 808040 := by
  have h1 := lebs_len hc
  have h2 := codeL_len fun o ho => ⟨h o ho, hl.2 o ho⟩
  have h3 := hl.1
  have h4 : (headN c (l.length : Int)).length = 4 := rfl
  unfold scriptB
  rw [List.length_append]; omega
theorem head_u64 {c : Cfg} {n : Int} (hc : c.good) (hn : u64 n) : ∀ m ∈ headN c n, u64 m := by
  obtain ⟨h1, h2, h3⟩ := hc
  intro m hm
  simp only [headN, List.mem_cons, List.not_mem_nil, or_false] at hm
  rcases hm with rfl | rfl | rfl | rfl
  · exact zig_u64 h1
  · exact zig_u64 h2
  · exact h3
  · exact hn
end Go.Proofs.YtmolaemlenllmaaGreat

namespace Go.Proofs.YtmolaemlenllmaaGreat
open Go.RowKit
set_option linter.unusedSimpArgs false
set_option linter.unusedVariables false
set_option maxRecDepth 10000

theorem wrapS {t : Nat} (h : t < 1000000) : wrapV .i64 ((t : Int) + 1) = ((t + 1 : Nat) : Int) := by rw [wrap_i64 (by omega) (by omega)]; omega
def byV (n : Int) : AV := .i .u8 n
def appzQ (S : Mem) (z : List AV) (bytes : Nat) (x n : AV) : Option (AV × Mem) := match natV n with
  | some n => if n ≤ lim ∧ n * bytes ≤ lim then appV S z.length bytes x (zerosV z n) n else none
  | none => none
theorem oi_appz {e : Env} {S : Mem} {k : AV → Mem → Prop} {z : List AV} {b : Nat} {x n : X} : optK (evIO e S (.appz z b x n)) k = optK (appzQ S z b (x.ev e) (n.ev e)) k := (rfl)
theorem enc_by (l : List Int) : l.flatMap byteE.enc = l.map byV := b8_enc l
theorem by_one (l : List Int) : (l.map byV).all AV.one = true := by rw [← enc_by]; exact all_one byteE_one l
def growS : Spec := fun args S => match args with
  | [.sn, .i .i64 n] => if 0 ≤ n ∧ n ≤ 4000000 then (if n = 0 then some (.sn, S) else some (.sl S.length 0 0 0 n.toNat false, S ++ [.cells (List.replicate n.toNat (.i .u8 0)) 0 (some 1) true])) else none
  | _ => none
theorem grow_ok : SpecOK Tryz.prog 66 growS := by
  intro args S x S' h
  simp only [growS] at h
  split at h
  · rename_i n
    split at h
    · rename_i hn
      obtain ⟨h0, hlim⟩ := hn
      obtain ⟨k, rfl⟩ := Int.eq_ofNat_of_zero_le h0
      rw [Int.toNat_natCast] at h
      have hc : capQ .sn = some (.i .i64 0) := rfl
      have hneg : ¬ ((k : Int) < 0) := by omega
      refine fn_of_wp f66 rfl (W_sound none_ok mixed _ _ _ _ _ ?_)
      split at h
      · rename_i hk0
        cases h
        have hk : k = 0 := by omega
        subst hk
        have hw : wrapV .i64 (0 - wrapV .i64 (0 - 0)) = 0 := by decide
        simp (maxSteps := 1000000) (disch := omega) only [c66, hc, hw, go_sem]
        first | exact wkv_same | (rw [hw]; exact wkv_same) | skip
      · rename_i hk0
        cases h
        have hw0 : wrapV .i64 (0 : Int) = 0 := by decide
        have hw1 : wrapV .i64 ((k : Int) - 0) = k := by rw [wrap_i64 (by omega) (by omega)]; omega
        have hpos : (0 : Int) < k := by omega
        have s1 : sliceV S 1 .sn none (some (.i .i64 0)) none = some .sn := rfl
        have hz : appzQ S [.i .u8 0] 1 .sn (.i .i64 k) = some (.sl S.length 0 0 k k false, S ++ [.cells (List.replicate k (.i .u8 0)) 0 (some 1) true]) := by
          simp only [appzQ, natV_nat]
          rw [if_pos ⟨by show _ ≤ 140737488355328; omega, by show _ ≤ 140737488355328; omega⟩]
          simp only [appV]
          rw [if_neg (by omega), if_pos ⟨by show _ ≤ 140737488355328; omega, by show _ ≤ 140737488355328; omega⟩, zerosV_one]; rfl
        have s2 : sliceV (S ++ [.cells (List.replicate k (.i .u8 0)) 0 (some 1) true]) 1 (.sl S.length 0 0 k k false) none (some (.i .i64 0)) none = some (.sl S.length 0 0 0 k false) := by
          have := slice_hi (S := S ++ [.cells (List.replicate k (.i .u8 0)) 0 (some 1) true]) (size := 1) (i := S.length) (o := 0) (v := 0) (len := k) (cap := k) (ex := false) (q := .i64) (n := 0) (Nat.zero_le _) (by simp [openS, Blk.opn]; omega)
          exact this
        simp (maxSteps := 1000000) (disch := omega) only [c66, hc, hneg, Int.sub_zero, hw0, hw1, hpos, s1, oi_appz, hz, s2, go_sem]
        exact wkv_same
    · cases h
  · cases h

/-! ### Concat -/
def partsV (S : Mem) : List AV → Option (List (List Int))
  | [] => some []
  | x :: r => match lstV byteE S x, partsV S r with
    | some l, some ls => some (l :: ls)
    | _, _ => none
theorem partsV_get {S : Mem} : ∀ {xs : List AV} {ls : List (List Int)}, partsV S xs = some ls → ls.length = xs.length ∧ ∀ k (h : k < xs.length) (h2 : k < ls.length), lstV byteE S xs[k] = some ls[k]
  | [], ls, h => by cases h; exact ⟨rfl, fun k h => absurd h (Nat.not_lt_zero _)⟩
  | x :: r, ls, h => by
    simp only [partsV] at h
    split at h
    · rename_i l m h1 h2
      cases h
      obtain ⟨g1, g2⟩ := partsV_get h2
      refine ⟨by rw [List.length_cons, List.length_cons, g1], fun k hk hk2 => ?_⟩
      cases k with
      | zero => exact h1
      | succ k => exact g2 k (by simpa using hk) (by simpa using hk2)
    · cases h
/-- What is built in a block that was made large enough. -/
def Cat (S M : Mem) (N : Nat) (y : AV) (l : List Int) : Prop := (N = 0 ∧ l = [] ∧ y = .sn ∧ M = S) ∨ (0 < N ∧ l.length ≤ N ∧ y = .sl S.length 0 0 l.length N false ∧ ∃ rest : List AV, rest.length = N - l.length ∧ M = S ++ [.cells (l.map byV ++ rest) 0 (some 1) true])
theorem Cat.ext {S M : Mem} {N : Nat} {y : AV} {l : List Int} (h : Cat S M N y l) : S <+: M := by
  rcases h with ⟨_, _, _, rfl⟩ | ⟨_, _, _, _, _, rfl⟩
  · exact ext_refl
  · exact ext_app _
theorem Cat.app {S M : Mem} {N : Nat} {y : AV} {l m : List Int} (h : Cat S M N y l) (hN : l.length + m.length ≤ N) : ∃ y' M', appV M 1 1 y (m.flatMap byteE.enc) m.length = some (y', M') ∧ Cat S M' N y' (l ++ m) := by
  rcases h with ⟨rfl, rfl, rfl, rfl⟩ | ⟨h0, h1, rfl, rest, h2, rfl⟩
  · have hm : m = [] := List.eq_nil_of_length_eq_zero (by simpa using hN)
    subst hm
    exact ⟨.sn, M, by simp [appV], .inl ⟨rfl, rfl, rfl, rfl⟩⟩
  · by_cases hm : m = []
    · subst hm
      refine ⟨.sl S.length 0 0 l.length N false, S ++ [.cells (l.map byV ++ rest) 0 (some 1) true], by simp only [appV]; rw [if_pos List.length_nil], .inr ⟨h0, by simpa using h1, by simp, rest, by simpa using h2, by simp⟩⟩
    · have hmp : 0 < m.length := List.length_pos_iff.2 hm
      have hB : (S ++ [Blk.cells (l.map byV ++ rest) 0 (some 1) true])[S.length]? = some (.cells (l.map byV ++ rest) 0 (some 1) true) := by simp
      refine ⟨.sl S.length 0 0 (l.length + m.length) N false, S ++ [.cells ((l ++ m).map byV ++ rest.drop m.length) 0 (some 1) true], ?_, .inr ⟨h0, by rw [List.length_append]; exact hN, by rw [List.length_append], rest.drop m.length, by rw [List.length_drop, List.length_append]; omega, rfl⟩⟩
      simp only [appV, hB]
      rw [if_neg (by omega), if_pos hN, if_pos ⟨trivial, by rw [List.length_append, List.length_map]; omega, by rw [enc_by]; exact by_one m⟩, set_app0]
      have hsp : splice (l.map byV ++ rest) (0 + l.length * 1) (m.flatMap byteE.enc) = (l ++ m).map byV ++ rest.drop m.length := by
        unfold splice
        have hll : (l.map byV).length = l.length := List.length_map ..
        rw [enc_by, Nat.zero_add, Nat.mul_one, List.take_append_of_le_length (by omega), List.take_of_length_le (by omega), List.length_map, List.drop_append, List.drop_of_length_le (by omega), List.nil_append, hll, Nat.add_sub_cancel_left, List.map_append, List.append_assoc]
      rw [hsp]; rfl
theorem Cat.ret {S M : Mem} {N : Nat} {y : AV} {l : List Int} (h : Cat S M N y l) (hl : l.length = N) : WkV S (retX false S l) (retM false byteE S l) y M := by
  rcases h with ⟨rfl, rfl, rfl, rfl⟩ | ⟨h0, h1, rfl, rest, h2, rfl⟩
  · exact wkv_same
  · have hr : rest = [] := List.eq_nil_of_length_eq_zero (by omega)
    subst hr
    cases l with
    | nil => simp at hl; omega
    | cons a l =>
      have e2 : retM false byteE S (a :: l) = S ++ [.cells ((a :: l).map byV ++ []) 0 (some 1) true] := by
        show S ++ [Blk.cells ((a :: l).flatMap byteE.enc) 0 (some 1) true] = _
        rw [enc_by, List.append_nil]
      rw [e2, ← hl]
      exact wkv_same
def catS : Spec := fun args S => match args with
  | [.sl j 0 0 n m true] => match S[j]? with
    | some (.cells xs 0 none true) => match partsV S xs with
      | some ls => if xs.length = n ∧ n ≤ 900000 ∧ ls.flatten.length ≤ 900000 then some (retX false S ls.flatten, retM false byteE S ls.flatten) else none
      | none => none
    | _ => none
  | _ => none
theorem oCat_ok : OK Tryz.prog (lamOf Tryz.prog) (orcOf [(66, growS)]) := orc_ok (by simpa using grow_ok)
theorem flat_take_len {ls : List (List Int)} {k : Nat} (hk : k < ls.length) : (ls.take (k + 1)).flatten = (ls.take k).flatten ++ ls[k] := by
  rw [List.take_succ_eq_append_getElem hk, List.flatten_append]; simp
theorem flat_le {ls : List (List Int)} (k : Nat) : (ls.take k).flatten.length ≤ ls.flatten.length := by
  have : ls.flatten = (ls.take k).flatten ++ (ls.drop k).flatten := by rw [← List.flatten_append, List.take_append_drop]
  rw [this, List.length_append]; omega
theorem cat_ok : SpecOK Tryz.prog 42 catS := by
  intro args S x S' h
  simp only [catS] at h
  split at h
  · rename_i j n m
    split at h
    · rename_i o xs hB
      split at h
      · rename_i ls hp
        split at h
        · rename_i hc
          obtain ⟨rfl, hn, hlim⟩ := hc
          cases h
          obtain ⟨hll, hget⟩ := partsV_get hp
          have hcell : ∀ k (hk : k < xs.length) L, cellB ((S ++ L)[j]?) k 0 = some xs[k] := fun k hk L => by
            rw [at_old hB, cellB_some, List.getElem?_eq_getElem hk]
          refine fn_of_wp f42 rfl (W_sound oCat_ok mixed _ _ _ _ _ ?_)
          simp (maxSteps := 1000000) (disch := omega) only [c42, go_sem]
          refine wp_loop (fun jj e M dl => dl = [] ∧ ∃ k : Nat, jj = xs.length - k ∧ k ≤ xs.length ∧ M = S ∧ e.get 9 = .sl j 0 0 xs.length m true ∧ e.get 0 = .sl j 0 0 xs.length m true ∧ e.get 10 = .i .i64 xs.length ∧ e.get 11 = .i .i64 k ∧ e.get 3 = .i .i64 ((ls.take k).flatten.length : Nat)) (j := xs.length)
            ⟨rfl, 0, rfl, Nat.zero_le _, rfl, rfl, rfl, rfl, rfl, rfl⟩ ?_
          rintro jj e M d' ⟨rfl, k, rfl, hk, rfl, e9, e0, e10, e11, e3⟩
          refine W_sound oCat_ok mixed _ _ _ _ _ ?_
          by_cases hkl : k < xs.length
          · have hk2 : k < ls.length := by omega
            have hkI : (k : Int) < xs.length := by omega
            have hk6 : k < 1000000 := by omega
            have hc := hcell k hkl []
            rw [List.append_nil] at hc
            have hlen := lst_len (hget k hkl hk2)
            have hf := congrArg List.length (flat_take_len hk2)
            rw [List.length_append] at hf
            have hf2 := flat_le (ls := ls) (k + 1)
            have hw : wrapV .i64 (((ls.take k).flatten.length : Int) + ls[k].length) = ((ls.take (k + 1)).flatten.length : Nat) := by rw [wrap_i64 (by omega) (by omega)]; omega
            have hneg : ¬ ((((ls.take (k + 1)).flatten.length : Nat) : Int) < 0) := by omega
            simp (maxSteps := 1000000) (disch := omega) only [c42l0, e9, e0, e10, e11, e3, hkI, Int.toNat_natCast, Nat.mul_one, Nat.zero_add, hc, hlen, hw, hneg, wrapS hk6, go_sem]
            exact ⟨xs.length - (k + 1), by omega, k + 1, rfl, hkl, rfl, rfl⟩
          · have hkI : ¬ (k : Int) < xs.length := by omega
            rw [List.take_of_length_le (by omega)] at e3
            have hgr : growS [.sn, .i .i64 (ls.flatten.length : Nat)] M = some (if ls.flatten.length = 0 then .sn else .sl M.length 0 0 0 ls.flatten.length false, if ls.flatten.length = 0 then M else M ++ [.cells (List.replicate ls.flatten.length (.i .u8 0)) 0 (some 1) true]) := by
              simp only [growS]
              rw [if_pos ⟨by omega, by omega⟩, Int.toNat_natCast]
              by_cases h0 : ls.flatten.length = 0
              · rw [if_pos (by omega), if_pos h0, if_pos h0]
              · rw [if_neg (by omega), if_neg h0, if_neg h0]
            have hcat0 : Cat M (if ls.flatten.length = 0 then M else M ++ [.cells (List.replicate ls.flatten.length (.i .u8 0)) 0 (some 1) true]) ls.flatten.length (if ls.flatten.length = 0 then .sn else .sl M.length 0 0 0 ls.flatten.length false) [] := by
              by_cases h0 : ls.flatten.length = 0
              · rw [if_pos h0, if_pos h0]; exact .inl ⟨h0, rfl, rfl, rfl⟩
              · rw [if_neg h0, if_neg h0]
                exact .inr ⟨by omega, Nat.zero_le _, rfl, List.replicate ls.flatten.length (.i .u8 0), by simp, rfl⟩
            generalize (if ls.flatten.length = 0 then M else M ++ [.cells (List.replicate ls.flatten.length (.i .u8 0)) 0 (some 1) true]) = M1 at hgr hcat0
            generalize (if ls.flatten.length = 0 then .sn else .sl M.length 0 0 0 ls.flatten.length false : AV) = y1 at hgr hcat0
            simp (maxSteps := 1000000) (disch := omega) only [c42l0, e9, e0, e10, e11, e3, hkI, orc_cons, hgr, go_sem]
            refine wp_loop (fun jj e M2 dl => dl = [] ∧ ∃ (k : Nat) (y : AV), jj = xs.length - k ∧ k ≤ xs.length ∧ Cat M M2 ls.flatten.length y (ls.take k).flatten ∧ e.get 25 = .sl j 0 0 xs.length m true ∧ e.get 26 = .i .i64 xs.length ∧ e.get 27 = .i .i64 k ∧ e.get 6 = y) (j := xs.length)
              ⟨rfl, 0, y1, rfl, Nat.zero_le _, hcat0, rfl, rfl, rfl, rfl⟩ ?_
            clear hgr hcat0 e9 e0 e10 e11 e3
            rintro jj e M2 d' ⟨rfl, k, y, rfl, hk, hC, e25, e26, e27, e6⟩
            refine W_sound oCat_ok mixed _ _ _ _ _ ?_
            by_cases hkl : k < xs.length
            · have hk2 : k < ls.length := by omega
              have hkI : (k : Int) < xs.length := by omega
              have hk6 : k < 1000000 := by omega
              have hMM := hC.ext
              have hc : cellB (M2[j]?) k 0 = some xs[k] := by
                obtain ⟨T, rfl⟩ := hMM
                exact hcell k hkl T
              have hsrc := src_lst (lst_ext (hget k hkl hk2) hMM)
              have hsrc : srcV M2 1 xs[k] = some (ls[k].flatMap byteE.enc, ls[k].length) := hsrc
              have hf := congrArg List.length (flat_take_len hk2)
              rw [List.length_append] at hf
              have hf2 := flat_le (ls := ls) (k + 1)
              obtain ⟨y', M', ha, hC'⟩ := hC.app (m := ls[k]) (by omega)
              rw [← flat_take_len hk2] at hC'
              simp (maxSteps := 1000000) (disch := omega) only [c42l1, e25, e26, e27, e6, hkI, Int.toNat_natCast, Nat.mul_one, Nat.zero_add, hc, hsrc, ha, wrapS hk6, go_sem]
              exact ⟨xs.length - (k + 1), by omega, k + 1, y', rfl, hkl, hC', rfl, rfl⟩
            · have hkI : ¬ (k : Int) < xs.length := by omega
              rw [List.take_of_length_le (by omega)] at hC
              simp (maxSteps := 1000000) (disch := omega) only [c42l1, e25, e26, e27, e6, hkI, go_sem]
              exact hC.ret rfl
        · cases h
      · cases h
    · cases h
  · cases h
def eqlBS : Spec := fun args S => match args with
  | [x, y] => match lstV byteE S x, lstV byteE S y with
    | some l, some m => if l.length ≤ 900000 then some (.b (decide (l = m)), S) else none
    | _, _ => none
  | _ => none
theorem eqlB_ok : SpecOK Tryz.prog 26 eqlBS := by
  intro args S x S' h
  simp only [eqlBS] at h
  split at h
  · rename_i s t
    split at h
    · rename_i l m hl hm
      split at h
      · rename_i hlim
        cases h
        refine fn_of_wp f26 rfl (W_sound none_ok mixed _ _ _ _ _ ?_)
        simp (maxSteps := 1000000) (disch := omega) only [c26, lst_len hl, lst_len hm, go_sem]
        refine ⟨fun hne => wkv_fP ext_refl fun q => hne (by rw [q]), fun he => ?_⟩
        have he : l.length = m.length := by omega
        refine wp_loop (fun j e M dl => dl = [] ∧ ∃ k : Nat, j = l.length - k ∧ k ≤ l.length ∧ M = S ∧ (∀ i (hi : i < k) (h1 : i < l.length) (h2 : i < m.length), l[i] = m[i]) ∧
          e.get 0 = s ∧ e.get 1 = t ∧ e.get 12 = .i .i64 l.length ∧ e.get 13 = .i .i64 k) (j := l.length) ⟨rfl, 0, rfl, Nat.zero_le _, rfl, fun i hi => absurd hi (Nat.not_lt_zero _), rfl, rfl, rfl, rfl⟩ ?_
        rintro j e M d' ⟨rfl, k, rfl, hk, rfl, hn, h0, h1, h12, h13⟩
        refine W_sound none_ok mixed _ _ _ _ _ ?_
        by_cases hkl : k < l.length
        · obtain ⟨bi, o, v, cap, ex, rfl⟩ := lst_sl hl hkl
          obtain ⟨bj, o2, v2, cap2, ex2, rfl⟩ := lst_sl hm (show k < m.length by omega)
          have hkI : (k : Int) < l.length := by omega
          have hkm : k < m.length := by omega
          have hkmI : (k : Int) < m.length := by omega
          have hk6 : k < 1000000 := by omega
          have ha := lstV_cell hl rfl (fun a => rfl) hkl []
          have hb := lstV_cell hm rfl (fun a => rfl) hkm []
          rw [List.append_nil] at ha hb
          simp (maxSteps := 1000000) (disch := omega) only [c26l1, h0, h1, h12, h13, hkI, hkmI, Int.toNat_natCast, Nat.mul_one, ha, hb, wrapS hk6, go_sem]
          refine ⟨fun hd => wkv_fP ext_refl fun q => hd (by subst q; rfl), fun hd => ⟨l.length - (k + 1), by omega, k + 1, rfl, hkl, fun i hi h1 h2 => ?_, rfl⟩⟩
          by_cases hik : i = k
          · subst hik; exact Decidable.not_not.1 hd
          · exact hn i (by omega) h1 h2
        · have hkI : ¬ (k : Int) < l.length := by omega
          simp (maxSteps := 1000000) (disch := omega) only [c26l1, h0, h1, h12, h13, hkI, go_sem]
          exact wkv_tP ext_refl (List.ext_getElem he fun i h1 h2 => hn i (by omega) h1 h2)
      · cases h
    · cases h
  · cases h
def cloneBS : Spec := fun args S => match args with
  | [.sn] => some (.sn, S)
  | [x] => match lstV byteE S x with
    | some l => if l.length ≤ 900000 then some (retX true S l, retM true byteE S l) else none
    | none => none
  | _ => none
theorem cloneB_ok : SpecOK Tryz.prog 61 cloneBS := by
  intro args S x S' h
  simp only [cloneBS] at h
  split at h
  · cases h
    refine fn_of_wp f61 rfl (W_sound none_ok mixed _ _ _ _ _ ?_)
    simp (maxSteps := 1000000) (disch := omega) only [c61, go_sem]
    exact wkv_same
  · rename_i y hy
    split at h
    · rename_i l hl
      split at h
      · rename_i hlim
        cases h
        have hs : ∀ L, srcV (S ++ L) 1 y = some (l.flatMap byteE.enc, l.length) := fun L => src_lst (lstV_grow hl L)
        obtain ⟨X1, M1, hap1, hX1⟩ := (acc_lit (E := byteE) (S := S) (M := S) ext_refl).apps (bytes := 1) byteE_one l (by simp only [List.length_nil]; omega) (by simp only [List.length_nil]; omega)
        rw [List.nil_append] at hX1
        have hap1 : appV (S ++ [.cells [] 0 none true]) 1 1 (.sl S.length 0 0 0 0 true) (l.flatMap byteE.enc) l.length = some (X1, M1) := hap1
        refine fn_of_wp f61 rfl (W_sound none_ok mixed _ _ _ _ _ ?_)
        rcases lstV_lst hl with ⟨rfl, rfl⟩ | ⟨rfl, rfl⟩ | ⟨i, o, v, len, cap, ex, rfl, h1, h3⟩
        · exact absurd rfl hy
        · simp (maxSteps := 1000000) (disch := omega) only [c61, hs, hap1, go_sem]
          exact (acc_lit (E := byteE) ext_refl).ret byteE_flat
        · simp (maxSteps := 1000000) (disch := omega) only [c61, hs, hap1, go_sem]
          exact hX1.ret byteE_flat
      · cases h
    · cases h
  · cases h
end Go.Proofs.YtmolaemlenllmaaGreat

namespace Go.Proofs.YtmolaemlenllmaaGreat
open Go.RowKit
set_option linter.unusedSimpArgs false
set_option linter.unusedVariables false
set_option maxRecDepth 10000

theorem row_b {B : Option Blk} {o v : Nat} {c : Bool} (h : rowB B (o) v 1 = some (boolE.enc c)) : cellB B o v = some (.b c) := by
  unfold rowB at h
  unfold cellB
  split at h
  · rename_i cs ver op r
    split at h
    · rename_i hc
      simp only [hc.1, if_true]
      injection h with h
      have hlt : o < cs.length := by omega
      rw [List.getElem?_eq_getElem hlt]
      rw [List.drop_eq_getElem_cons hlt, List.take_succ_cons, List.take_zero] at h
      exact congrArg some (List.cons.inj h).1
    · cases h
  · cases h
def eqlKS : Spec := fun args S => match args with
  | [x, y] => match lstV boolE S x, lstV boolE S y with
    | some l, some m => if l.length ≤ 900000 then some (.b (decide (l = m)), S) else none
    | _, _ => none
  | _ => none
theorem eqlK_ok : SpecOK Tryz.prog 27 eqlKS := by
  intro args S x S' h
  simp only [eqlKS] at h
  split at h
  · rename_i s t
    split at h
    · rename_i l m hl hm
      split at h
      · rename_i hlim
        cases h
        refine fn_of_wp f27 rfl (W_sound none_ok mixed _ _ _ _ _ ?_)
        simp (maxSteps := 1000000) (disch := omega) only [c27, lst_len hl, lst_len hm, go_sem]
        refine ⟨fun hne => wkv_fP ext_refl fun q => hne (by rw [q]), fun he => ?_⟩
        have he : l.length = m.length := by omega
        refine wp_loop (fun j e M dl => dl = [] ∧ ∃ k : Nat, j = l.length - k ∧ k ≤ l.length ∧ M = S ∧ (∀ i (hi : i < k) (h1 : i < l.length) (h2 : i < m.length), l[i] = m[i]) ∧
          e.get 0 = s ∧ e.get 1 = t ∧ e.get 12 = .i .i64 l.length ∧ e.get 13 = .i .i64 k) (j := l.length) ⟨rfl, 0, rfl, Nat.zero_le _, rfl, fun i hi => absurd hi (Nat.not_lt_zero _), rfl, rfl, rfl, rfl⟩ ?_
        rintro j e M d' ⟨rfl, k, rfl, hk, rfl, hn, h0, h1, h12, h13⟩
        refine W_sound none_ok mixed _ _ _ _ _ ?_
        by_cases hkl : k < l.length
        · obtain ⟨bi, o, v, cap, ex, rfl⟩ := lst_sl hl hkl
          obtain ⟨bj, o2, v2, cap2, ex2, rfl⟩ := lst_sl hm (show k < m.length by omega)
          have hkI : (k : Int) < l.length := by omega
          have hkm : k < m.length := by omega
          have hkmI : (k : Int) < m.length := by omega
          have hk6 : k < 1000000 := by omega
          have ha : cellB (M[bi]?) (o + k) v = some (.b l[k]) := by
            have := lstV_row hl hkl []
            rw [List.append_nil, show boolE.sz = 1 from rfl, Nat.mul_one] at this
            exact row_b this
          have hb : cellB (M[bj]?) (o2 + k) v2 = some (.b m[k]) := by
            have := lstV_row hm hkm []
            rw [List.append_nil, show boolE.sz = 1 from rfl, Nat.mul_one] at this
            exact row_b this
          simp (maxSteps := 1000000) (disch := omega) only [c27l1, h0, h1, h12, h13, hkI, hkmI, Int.toNat_natCast, Nat.mul_one, ha, hb, wrapS hk6, go_sem]
          refine ⟨fun hd => wkv_fP ext_refl fun q => hd (by subst q; rfl), fun hd => ⟨l.length - (k + 1), by omega, k + 1, rfl, hkl, fun i hi h1 h2 => ?_, rfl⟩⟩
          by_cases hik : i = k
          · subst hik; exact Decidable.not_not.1 hd
          · exact hn i (by omega) h1 h2
        · have hkI : ¬ (k : Int) < l.length := by omega
          simp (maxSteps := 1000000) (disch := omega) only [c27l1, h0, h1, h12, h13, hkI, go_sem]
          exact wkv_tP ext_refl (List.ext_getElem he fun i h1 h2 => hn i (by omega) h1 h2)
      · cases h
    · cases h
  · cases h
def sameS : Spec := fun args S => match args with
  | [.ag a, .ag b] => match opOf S a, opOf S b with
    | some x, some y => if x.bs.length ≤ 900000 ∧ x.ks.length ≤ 900000 then some (.b (decide (x = y)), S) else none
    | _, _ => none
  | _ => none
theorem sameS_eq {S : Mem} {a b : List AV} {x y : Opx} (ha : opOf S a = some x) (hb : opOf S b = some y) (h1 : x.bs.length ≤ 900000) (h2 : x.ks.length ≤ 900000) : sameS [.ag a, .ag b] S = some (.b (decide (x = y)), S) := by
  simp only [sameS, ha, hb, if_pos (And.intro h1 h2)]
theorem oSame_ok : OK Tryz.prog (lamOf Tryz.prog) (orcOf [(26, eqlBS), (27, eqlKS)]) := orc_ok (by simpa using ⟨eqlB_ok, eqlK_ok⟩)
theorem op_ne {a b : Opx} (h : ¬ (a.kind = b.kind ∧ a.sub = b.sub ∧ a.brk = b.brk ∧ a.n = b.n ∧ a.pol = b.pol ∧ a.bs = b.bs ∧ a.ks = b.ks)) : decide (a = b) = false :=
  decide_eq_false fun e => h (by subst e; exact ⟨rfl, rfl, rfl, rfl, rfl, rfl, rfl⟩)
theorem op_eq {a b : Opx} (h1 : a.kind = b.kind) (h2 : a.sub = b.sub) (h3 : a.brk = b.brk) (h4 : a.n = b.n) (h5 : a.pol = b.pol) (h6 : a.bs = b.bs) (h7 : a.ks = b.ks) : a = b := by
  cases a; cases b; simp only at *; subst_vars; rfl
theorem same_ok : SpecOK Tryz.prog 12 sameS := by
  intro args S x S' h
  simp only [sameS] at h
  split at h
  · rename_i ca cb
    split at h
    · rename_i a b ha hb
      split at h
      · rename_i hc
        obtain ⟨hl1, hl2⟩ := hc
        cases h
        obtain ⟨x1, y1, rfl, hx1, hy1⟩ := opOf_ok ha
        obtain ⟨x2, y2, rfl, hx2, hy2⟩ := opOf_ok hb
        have b1 : ∀ L, eqlBS [x1, x2] (S ++ L) = some (.b (decide (a.bs = b.bs)), S ++ L) := fun L => by simp only [eqlBS, lstV_grow hx1 L, lstV_grow hx2 L, if_pos hl1]
        have k1 : ∀ L, eqlKS [y1, y2] (S ++ L) = some (.b (decide (a.ks = b.ks)), S ++ L) := fun L => by simp only [eqlKS, lstV_grow hy1 L, lstV_grow hy2 L, if_pos hl2]
        have hp := eq_pol (a := a.pol) (b := b.pol)
        simp only [Pol.enc] at hp
        refine fn_of_wp f12 rfl (W_sound oSame_ok mixed _ _ _ _ _ ?_)
        by_cases e1 : a.kind = b.kind
        · by_cases e2 : a.sub = b.sub
          · by_cases e3 : a.brk = b.brk
            · by_cases e4 : a.n = b.n
              · by_cases e5 : a.pol = b.pol
                · by_cases e6 : a.bs = b.bs
                  · have d5 : decide (a.pol = b.pol) = true := decide_eq_true e5
                    have d6 : decide (a.bs = b.bs) = true := decide_eq_true e6
                    rw [d5] at hp
                    rw [d6] at b1
                    simp (maxSteps := 1000000) (disch := omega) only [c12, lst_cells hx1, lst_cells hx2, lst_cells hy1, lst_cells hy2, e1, e2, e3, e4, hp, orc_cons, b1, k1, go_sem]
                    by_cases e7 : a.ks = b.ks
                    · rw [decide_eq_true e7, decide_eq_true (op_eq e1 e2 e3 e4 e5 e6 e7)]; exact wkv_drop rfl
                    · rw [decide_eq_false e7, op_ne fun h => e7 h.2.2.2.2.2.2]; exact wkv_drop rfl
                  · have d5 : decide (a.pol = b.pol) = true := decide_eq_true e5
                    have d6 : decide (a.bs = b.bs) = false := decide_eq_false e6
                    rw [d5] at hp
                    rw [d6] at b1
                    simp (maxSteps := 1000000) (disch := omega) only [c12, lst_cells hx1, lst_cells hx2, lst_cells hy1, lst_cells hy2, e1, e2, e3, e4, hp, orc_cons, b1, go_sem]
                    rw [op_ne fun h => e6 h.2.2.2.2.2.1]; exact wkv_drop rfl
                · have d5 : decide (a.pol = b.pol) = false := decide_eq_false e5
                  rw [d5] at hp
                  simp (maxSteps := 1000000) (disch := omega) only [c12, lst_cells hx1, lst_cells hx2, lst_cells hy1, lst_cells hy2, e1, e2, e3, e4, hp, go_sem]
                  rw [op_ne fun h => e5 h.2.2.2.2.1]; exact wkv_drop rfl
              · simp (maxSteps := 1000000) (disch := omega) only [c12, lst_cells hx1, lst_cells hx2, lst_cells hy1, lst_cells hy2, e1, e2, e3, e4, go_sem]
                rw [op_ne fun h => e4 h.2.2.2.1]; exact wkv_drop rfl
            · simp (maxSteps := 1000000) (disch := omega) only [c12, lst_cells hx1, lst_cells hx2, lst_cells hy1, lst_cells hy2, e1, e2, e3, go_sem]
              rw [op_ne fun h => e3 h.2.2.1]; exact wkv_drop rfl
          · simp (maxSteps := 1000000) (disch := omega) only [c12, lst_cells hx1, lst_cells hx2, lst_cells hy1, lst_cells hy2, e1, e2, go_sem]
            rw [op_ne fun h => e2 h.2.1]; exact wkv_drop rfl
        · simp (maxSteps := 1000000) (disch := omega) only [c12, lst_cells hx1, lst_cells hx2, lst_cells hy1, lst_cells hy2, e1, go_sem]
          rw [op_ne fun h => e1 h.1]; exact wkv_drop rfl
      · cases h
    · cases h
  · cases h
end Go.Proofs.YtmolaemlenllmaaGreat

namespace Go.Proofs.YtmolaemlenllmaaGreat
open Go.RowKit
set_option linter.unusedSimpArgs false
set_option linter.unusedVariables false
set_option maxRecDepth 10000

/-! ### Bits -/
def len2 (n : Nat) : Nat := if n = 0 then 0 else Nat.log2 n + 1
theorem log2_div {n : Nat} : ∀ k : Nat, 0 < n / 2 ^ k → Nat.log2 n = k + Nat.log2 (n / 2 ^ k)
  | 0, _ => by simp
  | k + 1, h => by
    have h1 : n / 2 ^ (k + 1) = n / 2 ^ k / 2 := by rw [Nat.pow_succ, Nat.div_div_eq_div_mul]
    have h2 : 0 < n / 2 ^ k / 2 := by rw [← h1]; exact h
    rw [log2_div k (by omega), h1]
    have h3 : Nat.log2 (n / 2 ^ k) = Nat.log2 (n / 2 ^ k / 2) + 1 := by rw [Nat.log2_def, if_pos (by omega)]
    omega
theorem len2_div {n k : Nat} (h : 0 < n / 2 ^ k) : len2 n = k + len2 (n / 2 ^ k) := by
  unfold len2
  have hn : n ≠ 0 := by intro e; subst e; simp at h
  rw [if_neg hn, if_neg (by omega), log2_div k h]; omega
theorem len2_lt {n k : Nat} (h : n < 2 ^ k) : len2 n ≤ k := by
  unfold len2
  split
  · omega
  · rename_i hn
    have := (Nat.log2_lt hn).2 h
    omega
theorem len2_pos {n : Nat} (h : 0 < n) : 0 < len2 n := by unfold len2; rw [if_neg (by omega)]; omega
/-- How many bytes a number needs. -/
theorem size_leb {n : Int} (h : 0 ≤ n) : ((leb n).length : Int) = max 1 (((len2 n.toNat : Nat) + 6) / 7 : Int) := by
  by_cases h1 : n < 128
  · rw [leb_lt h1]
    have := len2_lt (n := n.toNat) (k := 7) (by omega)
    simp only [List.length_singleton]
    omega
  · have ih := size_leb (n := n / 128) (by omega)
    rw [leb_ge h1, List.length_cons]
    have hd : n.toNat / 2 ^ 7 = (n / 128).toNat := by omega
    have h2 := len2_div (n := n.toNat) (k := 7) (by omega)
    rw [hd] at h2
    have h3 := len2_pos (n := (n / 128).toNat) (by omega)
    omega
  termination_by n.toNat
  decreasing_by omega

/-! ### Reading back -/
def unleb : List Int → Option (Int × Nat)
  | [] => none
  | c :: r => if c < 128 then some (c, 1) else match unleb r with
    | some (m, k) => if m = 0 then none else some (c % 128 + 128 * m, k + 1)
    | none => none
def getL (b : List Int) : Option (Int × Nat) := match unleb (b.take 10) with
  | some (n, k) => if n ≤ 18446744073709551615 then some (n, k) else none
  | none => none
theorem unleb_pos : ∀ (b : List Int) (n : Int) (k : Nat), unleb b = some (n, k) → 0 < k ∧ k ≤ b.length
  | [], n, k, h => by simp [unleb] at h
  | c :: r, n, k, h => by
    simp only [unleb] at h
    split at h
    · cases h; simp
    · split at h
      · rename_i m j hm
        have := unleb_pos r m j hm
        split at h
        · cases h
        · cases h; simp; omega
      · cases h
/-- What is read is written so. -/
theorem leb_unleb : ∀ (b : List Int) (n : Int) (k : Nat), (∀ c ∈ b, u8 c) → unleb b = some (n, k) → 0 ≤ n ∧ leb n = b.take k ∧ k = (leb n).length
  | [], n, k, _, h => by simp [unleb] at h
  | c :: r, n, k, hu, h => by
    have hc := hu c (by simp)
    unfold u8 at hc
    simp only [unleb] at h
    split at h
    · rename_i h1
      cases h
      rw [leb_lt h1]; simp; omega
    · rename_i h1
      split at h
      · rename_i m j hm
        obtain ⟨g0, g1, g2⟩ := leb_unleb r m j (fun x hx => hu x (by simp [hx])) hm
        split at h
        · cases h
        · rename_i hm0
          cases h
          have h128 : ¬ c % 128 + 128 * m < 128 := by omega
          have e1 : 128 + (c % 128 + 128 * m) % 128 = c := by omega
          have e2 : (c % 128 + 128 * m) / 128 = m := by omega
          rw [leb_ge h128, e1, e2, g1]
          refine ⟨by omega, by rw [List.take_succ_cons], ?_⟩
          rw [List.length_cons, ← g1, ← g2]
      · cases h
/-- What is written is read. -/
theorem unleb_leb {n : Int} (h : 0 ≤ n) (r : List Int) : unleb (leb n ++ r) = some (n, (leb n).length) := by
  by_cases h1 : n < 128
  · rw [leb_lt h1]; simp [unleb, h1]
  · rw [leb_ge h1, List.cons_append, unleb, if_neg (by omega), unleb_leb (n := n / 128) (by omega) r]
    simp only
    rw [if_neg (by omega), List.length_cons]
    congr 2; omega
  termination_by n.toNat
  decreasing_by omega
theorem unleb_take {n : Int} (h : 0 ≤ n) (b : List Int) (j : Nat) (hj : (leb n).length ≤ j) (hb : leb n <+: b) : unleb (b.take j) = some (n, (leb n).length) := by
  obtain ⟨r, rfl⟩ := hb
  rw [List.take_append, List.take_of_length_le hj]
  exact unleb_leb h _
theorem getL_leb {n : Int} (h : u64 n) (r : List Int) : getL (leb n ++ r) = some (n, (leb n).length) := by
  unfold getL
  rw [unleb_take h.1 _ 10 (leb_len10 h) (List.prefix_append _ _)]
  simp only
  rw [if_pos h.2]
theorem getL_some {b : List Int} {n : Int} {k : Nat} (hu : ∀ c ∈ b, u8 c) (h : getL b = some (n, k)) : u64 n ∧ leb n = b.take k ∧ k = (leb n).length ∧ 0 < k ∧ k ≤ b.length := by
  unfold getL at h
  split at h
  · rename_i m j hm
    split at h
    · rename_i hle
      cases h
      obtain ⟨g0, g1, g2⟩ := leb_unleb _ _ _ (fun c hc => hu c (List.mem_of_mem_take hc)) hm
      obtain ⟨g3, g4⟩ := unleb_pos _ _ _ hm
      rw [List.length_take] at g4
      exact ⟨⟨g0, hle⟩, by rw [g1, List.take_take, Nat.min_eq_left (by omega)], g2, g3, by omega⟩
    · cases h
  · cases h

/-- The value of bytes. -/
def vals : List Int → Int
  | [] => 0
  | c :: r => c % 128 + 128 * vals r
theorem vals_bound : ∀ (l : List Int), 0 ≤ vals l ∧ vals l < ((128 ^ l.length : Nat) : Int)
  | [] => by simp [vals]
  | c :: r => by
    have := vals_bound r
    simp only [vals, List.length_cons, Nat.pow_succ]
    omega
theorem vals_snoc : ∀ (l : List Int) (c : Int), vals (l ++ [c]) = vals l + ((128 ^ l.length : Nat) : Int) * (c % 128)
  | [], c => by simp [vals]
  | a :: r, c => by
    simp only [List.cons_append, vals, vals_snoc r c, List.length_cons, Nat.pow_succ]
    have : (((128 ^ r.length * 128 : Nat) : Int)) * (c % 128) = 128 * (((128 ^ r.length : Nat) : Int) * (c % 128)) := by
      rw [Int.natCast_mul, Int.mul_comm (((128 ^ r.length : Nat)) : Int) _, Int.mul_assoc]; rfl
    omega
/-- Bytes that go on, ahead of others. -/
theorem unleb_more : ∀ (p r : List Int), (∀ c ∈ p, 128 ≤ c) → unleb (p ++ r) = match unleb r with
    | some (m, k) => if m = 0 ∧ p ≠ [] then none else some (vals p + ((128 ^ p.length : Nat) : Int) * m, k + p.length)
    | none => none
  | [], r, _ => by
    simp only [List.nil_append]
    cases unleb r with
    | none => rfl
    | some q => obtain ⟨m, k⟩ := q; simp [vals]
  | a :: p, r, h => by
    have ha := h a (by simp)
    have ih := unleb_more p r fun c hc => h c (by simp [hc])
    rw [List.cons_append, unleb, if_neg (by omega), ih]
    cases unleb r with
    | none => rfl
    | some q =>
      obtain ⟨m, k⟩ := q
      simp only
      by_cases hm : m = 0
      · subst hm
        by_cases hp : p = []
        · subst hp; simp [vals]
        · simp [hp]
      · rw [if_neg (by simp [hm]), if_neg (by simp [hm])]
        simp only
        have hb := vals_bound p
        have hpos : 0 < ((128 ^ p.length : Nat) : Int) := by exact_mod_cast Nat.pow_pos (by omega)
        have hne : vals p + ((128 ^ p.length : Nat) : Int) * m ≠ 0 := by
          intro e
          rcases Int.lt_or_gt_of_ne hm with h1 | h1
          · have := Int.mul_le_mul_of_nonneg_left (show m ≤ -1 by omega) (Int.le_of_lt hpos); omega
          · have := Int.mul_le_mul_of_nonneg_left (show 1 ≤ m by omega) (Int.le_of_lt hpos); omega
        rw [if_neg hne]
        congr 2
        · simp only [vals, List.length_cons, Nat.pow_succ]
          have : (((128 ^ p.length * 128 : Nat) : Int)) * m = 128 * (((128 ^ p.length : Nat) : Int) * m) := by
            rw [Int.natCast_mul, Int.mul_comm (((128 ^ p.length : Nat)) : Int) _, Int.mul_assoc]; rfl
          omega
theorem unleb_none (p : List Int) (h : ∀ c ∈ p, 128 ≤ c) : unleb p = none := by
  have := unleb_more p [] h
  rw [List.append_nil] at this
  rw [this]; rfl

/-! ### All -/
end Go.Proofs.YtmolaemlenllmaaGreat

namespace Go.Proofs.YtmolaemlenllmaaGreat
open Go.RowKit
set_option linter.unusedSimpArgs false
set_option linter.unusedVariables false
set_option maxRecDepth 10000

/-! ### Slicing -/
section
variable {α : Type} {E : Enc α} {S M : Mem}
/-- It can be sliced. -/
def openQ (S : Mem) (size : Nat) : AV → Bool
  | .sl i _ _ len cap ex => decide (len ≤ cap) && (ex || (match S[i]? with | some B => B.opn == some size | none => false))
  | _ => true
theorem openS_Q {size : Nat} {x : AV} (h : openS S size x = true) : openQ S size x = true := by
  unfold openS at h
  unfold openQ
  split
  · simp only [Bool.and_eq_true, decide_eq_true_eq] at h ⊢
    exact ⟨h.1.2, h.2⟩
  · rfl
theorem openQ_grow {size : Nat} {x : AV} (h : openQ S size x = true) (T : Mem) : openQ (S ++ T) size x = true := by
  unfold openQ at h ⊢
  split
  · rename_i i _ _ len cap ex
    simp only [Bool.and_eq_true, decide_eq_true_eq, Bool.or_eq_true] at h ⊢
    refine ⟨h.1, h.2.imp id fun h2 => ?_⟩
    split at h2
    · rename_i B hB
      rw [at_old hB]; exact h2
    · cases h2
  · rfl
theorem openQ_ext {size : Nat} {x : AV} (h : openQ S size x = true) (hM : S <+: M) : openQ M size x = true := by
  obtain ⟨T, rfl⟩ := hM
  exact openQ_grow h T
theorem slice_lst {x : AV} {l : List α} (h : lstV E S x = some l) (ho : openQ S E.sz x = true) {lo hi : Option AV} {a b : Nat} (hb : ∀ cap, l.length ≤ cap → bnds l.length cap lo hi none = some (a, b, cap)) (hab : a ≤ b) (hbl : b ≤ l.length) :
    ∃ x', sliceV S E.sz x lo hi none = some x' ∧ lstV E S x' = some ((l.drop a).take (b - a)) ∧ openQ S E.sz x' = true := by
  rcases lstV_lst h with ⟨rfl, rfl⟩ | ⟨rfl, rfl⟩ | ⟨i, o, v, len, cap, ex, rfl, rfl, hr⟩
  · have := hb 0 (Nat.le_refl _)
    exact ⟨.sn, by simp only [sliceV]; rw [show bnds 0 0 lo hi none = _ from this], by simp [lstV], rfl⟩
  · have := hb 0 (Nat.le_refl _)
    exact ⟨.se, by simp only [sliceV, Option.isSome_none]; rw [show bnds 0 0 lo hi none = _ from this]; simp, by simp [lstV], rfl⟩
  · simp only [openQ, Bool.and_eq_true, decide_eq_true_eq, Bool.or_eq_true] at ho
    obtain ⟨hlc, ho⟩ := ho
    have hle : a * E.sz + (b - a) * E.sz ≤ l.length * E.sz := by rw [← Nat.add_mul]; exact Nat.mul_le_mul_right _ (by omega)
    have hr2 := row_part hr hle
    rw [flat_drop, flat_take] at hr2
    have hlen : ((l.drop a).take (b - a)).length = b - a := by rw [List.length_take, List.length_drop]; omega
    have hnil : a = cap → (l.drop a).take (b - a) = [] := fun e => List.eq_nil_of_length_eq_zero (by omega)
    have hrow0 : ∀ o', o' = o → a = cap → rowAt S i o' v ((b - a) * E.sz) = some (((l.drop a).take (b - a)).flatMap E.enc) := fun o' e1 e2 => by
      subst e1
      rw [hnil e2, show (b - a) * E.sz = 0 by rw [show b - a = 0 by omega, Nat.zero_mul]]
      have := row_part hr (k := 0) (m := 0) (by omega)
      rw [Nat.add_zero] at this
      rw [this]; simp
    simp only [sliceV, hb cap hlc, Option.isSome_none, Bool.or_false]
    cases ex with
    | true =>
      simp only [if_true]
      refine ⟨_, rfl, ?_, ?_⟩
      · unfold cutAt
        refine lst_lstV (.inr (.inr ⟨_, _, _, _, _, _, rfl, hlen, ?_⟩))
        split
        · rename_i e; exact hrow0 _ rfl e.symm
        · exact hr2
      · simp [openQ]; omega
    | false =>
      simp only [Bool.false_eq_true, if_false, false_or] at ho ⊢
      by_cases e : a = cap
      · rw [if_pos e]
        exact ⟨.se, rfl, by rw [hnil e]; rfl, rfl⟩
      · rw [if_neg e]
        split at ho
        · rename_i B hB
          have hop : B.opn = some E.sz := by simpa using ho
          simp only [hB, if_pos hop]
          refine ⟨_, rfl, lst_lstV (.inr (.inr ⟨_, _, _, _, _, _, rfl, hlen, hr2⟩)), ?_⟩
          simp only [openQ, hB, hop, beq_self_eq_true, Bool.or_true, Bool.and_true, decide_eq_true_eq]; omega
        · cases ho
theorem bnds_hi {q : IntKind} {len cap b : Nat} (h : b ≤ cap) : bnds len cap none (some (.i q (b : Int))) none = some (0, b, cap) := by
  simp [bnds, bndV, natV, h]
theorem bnds_lo {q : IntKind} {len cap a : Nat} (h : a ≤ len) (h2 : len ≤ cap) : bnds len cap (some (.i q (a : Int))) none none = some (a, len, cap) := by
  simp [bnds, bndV, natV, h, h2]
theorem bnds_both {q q' : IntKind} {len cap a b : Nat} (h : a ≤ b) (h2 : b ≤ cap) : bnds len cap (some (.i q (a : Int))) (some (.i q' (b : Int))) none = some (a, b, cap) := by
  simp [bnds, bndV, natV, h, h2]
theorem take_lst {x : AV} {l : List α} (h : lstV E S x = some l) (ho : openQ S E.sz x = true) {q : IntKind} {b : Nat} (hb : b ≤ l.length) : ∃ x', sliceV S E.sz x none (some (.i q (b : Int))) none = some x' ∧ lstV E S x' = some (l.take b) ∧ openQ S E.sz x' = true := by
  have := slice_lst h ho (lo := none) (hi := some (.i q (b : Int))) (a := 0) (b := b) (fun cap hc => bnds_hi (by omega)) (Nat.zero_le _) hb
  simpa using this
theorem drop_lst {x : AV} {l : List α} (h : lstV E S x = some l) (ho : openQ S E.sz x = true) {q : IntKind} {a : Nat} (ha : a ≤ l.length) : ∃ x', sliceV S E.sz x (some (.i q (a : Int))) none none = some x' ∧ lstV E S x' = some (l.drop a) ∧ openQ S E.sz x' = true := by
  have := slice_lst h ho (lo := some (.i q (a : Int))) (hi := none) (a := a) (b := l.length) (fun cap hc => bnds_lo ha hc) ha (Nat.le_refl _)
  rwa [List.take_of_length_le (by rw [List.length_drop]; omega)] at this
theorem part_lst {x : AV} {l : List α} (h : lstV E S x = some l) (ho : openQ S E.sz x = true) {q q' : IntKind} {a b : Nat} (hab : a ≤ b) (hb : b ≤ l.length) : ∃ x', sliceV S E.sz x (some (.i q (a : Int))) (some (.i q' (b : Int))) none = some x' ∧ lstV E S x' = some ((l.drop a).take (b - a)) ∧ openQ S E.sz x' = true :=
  slice_lst h ho (fun cap hc => bnds_both hab (by omega)) hab hb
end

/-! ### bits.Len64 -/
theorem ixs_tab {L : List UInt8} (hL : ∀ m : Fin 256, L[m.val]? = some (UInt8.ofNat (len2 m.val))) {q : IntKind} {m : Int} (h0 : 0 ≤ m) (h1 : m < 256) : ixsV (.s L) (.i q m) = some (.i .u8 (len2 m.toNat)) := by
  obtain ⟨x, rfl⟩ := Int.eq_ofNat_of_zero_le h0
  have hx : x < 256 := by omega
  have h8 : len2 x ≤ 8 := len2_lt (k := 8) (by omega)
  have hL := hL ⟨x, hx⟩
  simp only at hL
  simp only [ixsV, natV_nat, hL, Int.toNat_natCast]
  congr 2
  simp [UInt8.toNat_ofNat]; omega
theorem shr_64 {n k : Int} {p : Int} (hk : 0 ≤ k) (h64 : k < 64) (hp : ((2 ^ k.toNat : Nat) : Int) = p) : shiftV .shr .u64 n k = some (.i .u64 (n / p)) := by
  simp only [shiftV, IntKind.bits]
  rw [if_neg (by omega), Nat.min_eq_left (by omega), Int.fdiv_eq_ediv_of_nonneg _ (Int.natCast_nonneg _), hp]
theorem shr_32 {n : Int} : shiftV .shr .u64 n 32 = some (.i .u64 (n / 4294967296)) := shr_64 (by omega) (by omega) rfl
theorem shr_16' {n : Int} : shiftV .shr .u64 n 16 = some (.i .u64 (n / 65536)) := shr_64 (by omega) (by omega) rfl
theorem shr_8' {n : Int} : shiftV .shr .u64 n 8 = some (.i .u64 (n / 256)) := shr_64 (by omega) (by omega) rfl
def len64S : Spec := fun args S => match args with
  | [.i .u64 n] => if u64 n then some (.i .i64 (len2 n.toNat), S) else none
  | _ => none
theorem len2_step {n d : Int} {k : Nat} (hd : d = ((2 ^ k : Nat) : Int)) (h0 : d ≤ n) : len2 n.toNat = k + len2 (n / d).toNat := by
  have hd0 : 0 < d := by rw [hd]; exact_mod_cast Nat.two_pow_pos k
  obtain ⟨x, rfl⟩ := Int.eq_ofNat_of_zero_le (show 0 ≤ n by omega)
  subst hd
  have e : (((x : Int) / ((2 ^ k : Nat) : Int)).toNat) = x / 2 ^ k := by rw [← Int.natCast_ediv, Int.toNat_natCast]
  rw [e, Int.toNat_natCast]
  refine len2_div ?_
  exact Nat.div_pos (by exact_mod_cast h0) (Nat.two_pow_pos k)
set_option maxHeartbeats 2000000 in
theorem len64_ok : SpecOK Tryz.prog 194 len64S := by
  intro args S x S' h
  simp only [len64S] at h
  split at h
  · rename_i n
    split at h
    · rename_i hn
      cases h
      obtain ⟨h0, h1⟩ := hn
      refine fn_of_wp f194 rfl (W_sound none_ok mixed _ _ _ _ _ ?_)
      by_cases c1 : (4294967296 : Int) ≤ n
      · skip
        by_cases c2 : (65536 : Int) ≤ n / 4294967296
        · skip
          by_cases c3 : (256 : Int) ≤ n / 4294967296 / 65536
          · skip
            have h8 := len2_lt (n := (n / 4294967296 / 65536 / 256).toNat) (k := 8) (by omega)
            have hst : len2 n.toNat = 56 + len2 (n / 4294967296 / 65536 / 256).toNat := by rw [len2_step (n := n) (d := 4294967296) (k := 32) rfl c1, len2_step (n := n / 4294967296) (d := 65536) (k := 16) rfl c2, len2_step (n := n / 4294967296 / 65536) (d := 256) (k := 8) rfl c3]; omega
            have hw : wrapV .u8 (n / 4294967296 / 65536 / 256) = n / 4294967296 / 65536 / 256 := wrap_u8 (by omega) (by omega)
            simp (maxSteps := 1000000) (disch := omega) only [c194, c1, c2, c3, shr_32, shr_16', shr_8', hw, wrap_i64, go_sem]
            rw [ixs_tab (by decide) (by omega) (by omega)]
            simp (maxSteps := 1000000) (disch := omega) only [wrap_i64, go_sem]
            rw [show (((56 : Int) + (len2 (n / 4294967296 / 65536 / 256).toNat : Nat)) : Int) = (len2 n.toNat : Nat) by omega]
            exact wkv_same
          · skip
            have h8 := len2_lt (n := (n / 4294967296 / 65536).toNat) (k := 8) (by omega)
            have hst : len2 n.toNat = 48 + len2 (n / 4294967296 / 65536).toNat := by rw [len2_step (n := n) (d := 4294967296) (k := 32) rfl c1, len2_step (n := n / 4294967296) (d := 65536) (k := 16) rfl c2]; omega
            have hw : wrapV .u8 (n / 4294967296 / 65536) = n / 4294967296 / 65536 := wrap_u8 (by omega) (by omega)
            simp (maxSteps := 1000000) (disch := omega) only [c194, c1, c2, c3, shr_32, shr_16', shr_8', hw, wrap_i64, go_sem]
            rw [ixs_tab (by decide) (by omega) (by omega)]
            simp (maxSteps := 1000000) (disch := omega) only [wrap_i64, go_sem]
            rw [show (((48 : Int) + (len2 (n / 4294967296 / 65536).toNat : Nat)) : Int) = (len2 n.toNat : Nat) by omega]
            exact wkv_same
        · skip
          by_cases c3 : (256 : Int) ≤ n / 4294967296
          · skip
            have h8 := len2_lt (n := (n / 4294967296 / 256).toNat) (k := 8) (by omega)
            have hst : len2 n.toNat = 40 + len2 (n / 4294967296 / 256).toNat := by rw [len2_step (n := n) (d := 4294967296) (k := 32) rfl c1, len2_step (n := n / 4294967296) (d := 256) (k := 8) rfl c3]; omega
            have hw : wrapV .u8 (n / 4294967296 / 256) = n / 4294967296 / 256 := wrap_u8 (by omega) (by omega)
            simp (maxSteps := 1000000) (disch := omega) only [c194, c1, c2, c3, shr_32, shr_16', shr_8', hw, wrap_i64, go_sem]
            rw [ixs_tab (by decide) (by omega) (by omega)]
            simp (maxSteps := 1000000) (disch := omega) only [wrap_i64, go_sem]
            rw [show (((40 : Int) + (len2 (n / 4294967296 / 256).toNat : Nat)) : Int) = (len2 n.toNat : Nat) by omega]
            exact wkv_same
          · skip
            have h8 := len2_lt (n := (n / 4294967296).toNat) (k := 8) (by omega)
            have hst : len2 n.toNat = 32 + len2 (n / 4294967296).toNat := by rw [len2_step (n := n) (d := 4294967296) (k := 32) rfl c1]
            have hw : wrapV .u8 (n / 4294967296) = n / 4294967296 := wrap_u8 (by omega) (by omega)
            simp (maxSteps := 1000000) (disch := omega) only [c194, c1, c2, c3, shr_32, shr_16', shr_8', hw, wrap_i64, go_sem]
            rw [ixs_tab (by decide) (by omega) (by omega)]
            simp (maxSteps := 1000000) (disch := omega) only [wrap_i64, go_sem]
            rw [show (((32 : Int) + (len2 (n / 4294967296).toNat : Nat)) : Int) = (len2 n.toNat : Nat) by omega]
            exact wkv_same
      · skip
        by_cases c2 : (65536 : Int) ≤ n
        · skip
          by_cases c3 : (256 : Int) ≤ n / 65536
          · skip
            have h8 := len2_lt (n := (n / 65536 / 256).toNat) (k := 8) (by omega)
            have hst : len2 n.toNat = 24 + len2 (n / 65536 / 256).toNat := by rw [len2_step (n := n) (d := 65536) (k := 16) rfl c2, len2_step (n := n / 65536) (d := 256) (k := 8) rfl c3]; omega
            have hw : wrapV .u8 (n / 65536 / 256) = n / 65536 / 256 := wrap_u8 (by omega) (by omega)
            simp (maxSteps := 1000000) (disch := omega) only [c194, c1, c2, c3, shr_32, shr_16', shr_8', hw, wrap_i64, go_sem]
            rw [ixs_tab (by decide) (by omega) (by omega)]
            simp (maxSteps := 1000000) (disch := omega) only [wrap_i64, go_sem]
            rw [show (((24 : Int) + (len2 (n / 65536 / 256).toNat : Nat)) : Int) = (len2 n.toNat : Nat) by omega]
            exact wkv_same
          · skip
            have h8 := len2_lt (n := (n / 65536).toNat) (k := 8) (by omega)
            have hst : len2 n.toNat = 16 + len2 (n / 65536).toNat := by rw [len2_step (n := n) (d := 65536) (k := 16) rfl c2]
            have hw : wrapV .u8 (n / 65536) = n / 65536 := wrap_u8 (by omega) (by omega)
            simp (maxSteps := 1000000) (disch := omega) only [c194, c1, c2, c3, shr_32, shr_16', shr_8', hw, wrap_i64, go_sem]
            rw [ixs_tab (by decide) (by omega) (by omega)]
            simp (maxSteps := 1000000) (disch := omega) only [wrap_i64, go_sem]
            rw [show (((16 : Int) + (len2 (n / 65536).toNat : Nat)) : Int) = (len2 n.toNat : Nat) by omega]
            exact wkv_same
        · skip
          by_cases c3 : (256 : Int) ≤ n
          · skip
            have h8 := len2_lt (n := (n / 256).toNat) (k := 8) (by omega)
            have hst : len2 n.toNat = 8 + len2 (n / 256).toNat := by rw [len2_step (n := n) (d := 256) (k := 8) rfl c3]
            have hw : wrapV .u8 (n / 256) = n / 256 := wrap_u8 (by omega) (by omega)
            simp (maxSteps := 1000000) (disch := omega) only [c194, c1, c2, c3, shr_32, shr_16', shr_8', hw, wrap_i64, go_sem]
            rw [ixs_tab (by decide) (by omega) (by omega)]
            simp (maxSteps := 1000000) (disch := omega) only [wrap_i64, go_sem]
            rw [show (((8 : Int) + (len2 (n / 256).toNat : Nat)) : Int) = (len2 n.toNat : Nat) by omega]
            exact wkv_same
          · skip
            have h8 := len2_lt (n := (n).toNat) (k := 8) (by omega)
            have hst : len2 n.toNat = 0 + len2 (n).toNat := by rw [Nat.zero_add]
            have hw : wrapV .u8 (n) = n := wrap_u8 (by omega) (by omega)
            simp (maxSteps := 1000000) (disch := omega) only [c194, c1, c2, c3, shr_32, shr_16', shr_8', hw, wrap_i64, go_sem]
            rw [ixs_tab (by decide) (by omega) (by omega)]
            simp (maxSteps := 1000000) (disch := omega) only [wrap_i64, go_sem]
            rw [hst, Nat.zero_add]
            exact wkv_same
    · cases h
  · cases h

/-! ### sat.Log, leb.Size -/
theorem oLog_ok : OK Tryz.prog (lamOf Tryz.prog) (orcOf [(194, len64S)]) := orc_ok (by simpa using len64_ok)
theorem len64_eq {n : Int} (h : u64 n) (S : Mem) : len64S [.i .u64 n] S = some (.i .i64 (len2 n.toNat), S) := by simp only [len64S, if_pos h]
theorem log_ok : SpecOK Tryz.prog 148 len64S := by
  intro args S x S' h
  simp only [len64S] at h
  split at h
  · rename_i n
    split at h
    · rename_i hn
      cases h
      refine fn_of_wp f148 rfl (W_sound oLog_ok mixed _ _ _ _ _ ?_)
      simp (maxSteps := 1000000) (disch := omega) only [c148, orc_cons, len64_eq hn, go_sem]
      exact wkv_same
    · cases h
  · cases h
def sizeS : Spec := fun args S => match args with
  | [.i .u64 n] => if u64 n then some (.i .i64 (leb n).length, S) else none
  | _ => none
theorem size_eq {n : Int} (h : u64 n) (S : Mem) : sizeS [.i .u64 n] S = some (.i .i64 (leb n).length, S) := by simp only [sizeS, if_pos h]
theorem len2_64 {n : Int} (h : u64 n) : len2 n.toNat ≤ 64 := len2_lt (by have := h.1; have := h.2; omega)
theorem oSz_ok : OK Tryz.prog (lamOf Tryz.prog) (orcOf [(148, len64S)]) := orc_ok (by simpa using log_ok)
theorem size_ok : SpecOK Tryz.prog 104 sizeS := by
  intro args S x S' h
  simp only [sizeS] at h
  split at h
  · rename_i n
    split at h
    · rename_i hn
      cases h
      have h64 := len2_64 hn
      have hsz := size_leb hn.1
      refine fn_of_wp f104 rfl (W_sound oSz_ok mixed _ _ _ _ _ ?_)
      simp (maxSteps := 1000000) (disch := omega) only [c104, orc_cons, len64_eq hn, wrap_i64, bin_quo_pos, go_sem]
      rw [hsz, show ((len2 n.toNat : Nat) : Int) + 7 - 1 = ((len2 n.toNat : Nat) : Int) + 6 by omega]
      exact wkv_same
    · cases h
  · cases h

/-! ### leb.Get -/
theorem and_127 {cst : Bool} {a : Int} (h : u8 a) : binV .int cst .and (.i .u8 a) (.i .u8 127) = some (.i .u8 (a % 128)) := by
  obtain ⟨h0, h1⟩ := h
  rw [bin_i rfl]
  obtain ⟨x, rfl⟩ := Int.eq_ofNat_of_zero_le h0
  have hx : x < 256 := by omega
  have e1 : (BitVec.ofInt IntKind.u8.bits (x : Int)).toNat = x := by show (BitVec.ofInt 8 (x : Int)).toNat = x; simp [BitVec.toNat_ofInt]; omega
  have e2 : (BitVec.ofInt IntKind.u8.bits 127).toNat = 127 := rfl
  have e3 : Nat.land x 127 = x % 128 := by
    have : ∀ y : Fin 256, Nat.land y.val 127 = y.val % 128 := by decide
    exact this ⟨x, hx⟩
  simp only [intV, bitsV, e1, e2, e3, wrapV, Option.map_some]
  congr 2; omega
theorem and_128 {cst : Bool} {a : Int} (h : u8 a) : binV .int cst .and (.i .u8 a) (.i .u8 128) = some (.i .u8 (if a < 128 then 0 else 128)) := by
  obtain ⟨h0, h1⟩ := h
  rw [bin_i rfl]
  obtain ⟨x, rfl⟩ := Int.eq_ofNat_of_zero_le h0
  have hx : x < 256 := by omega
  have e1 : (BitVec.ofInt IntKind.u8.bits (x : Int)).toNat = x := by show (BitVec.ofInt 8 (x : Int)).toNat = x; simp [BitVec.toNat_ofInt]; omega
  have e2 : (BitVec.ofInt IntKind.u8.bits 128).toNat = 128 := rfl
  have e3 : Nat.land x 128 = if x < 128 then 0 else 128 := by
    have : ∀ y : Fin 256, Nat.land y.val 128 = if y.val < 128 then 0 else 128 := by decide
    exact this ⟨x, hx⟩
  simp only [intV, bitsV, e1, e2, e3, wrapV, Option.map_some]
  congr 2
  split <;> split <;> omega
theorem p7 (k : Nat) : 2 ^ (7 * k) = 128 ^ k := by rw [Nat.pow_mul]
theorem shl_7k {v : Int} {k : Nat} (hk : k ≤ 9) : shiftV .shl .u64 v (7 * (k : Int)) = some (.i .u64 (wrapV .u64 (v * ((128 ^ k : Nat) : Int)))) := by
  simp only [shiftV, IntKind.bits]
  rw [if_neg (by omega), show min (7 * (k : Int)).toNat 64 = 7 * k by omega, p7]
theorem shr_7k {v : Int} {k : Nat} (hk : k ≤ 9) : shiftV .shr .u64 v (7 * (k : Int)) = some (.i .u64 (v / ((128 ^ k : Nat) : Int))) := by
  simp only [shiftV, IntKind.bits]
  rw [if_neg (by omega), show min (7 * (k : Int)).toNat 64 = 7 * k by omega, p7, Int.fdiv_eq_ediv_of_nonneg _ (Int.natCast_nonneg _)]
theorem or_7k {cst : Bool} {a v : Int} {k : Nat} (ha : 0 ≤ a) (ha2 : a < ((128 ^ k : Nat) : Int)) (hv : 0 ≤ v) (h : a + v * ((128 ^ k : Nat) : Int) ≤ 18446744073709551615) : binV .int cst .or (.i .u64 a) (.i .u64 (v * ((128 ^ k : Nat) : Int))) = some (.i .u64 (a + v * ((128 ^ k : Nat) : Int))) := by
  rw [bin_i rfl]
  obtain ⟨x, rfl⟩ := Int.eq_ofNat_of_zero_le ha
  obtain ⟨y, rfl⟩ := Int.eq_ofNat_of_zero_le hv
  have hxp : x < 128 ^ k := by exact_mod_cast ha2
  have hs : x + y * 128 ^ k ≤ 18446744073709551615 := by
    have : ((x + y * 128 ^ k : Nat) : Int) ≤ 18446744073709551615 := by rw [Int.natCast_add, Int.natCast_mul]; exact h
    omega
  rw [← Int.natCast_mul, ← Int.natCast_add]
  generalize hz : y * 128 ^ k = z at hs
  have e1 : (BitVec.ofInt IntKind.u64.bits (x : Int)).toNat = x := by show (BitVec.ofInt 64 (x : Int)).toNat = x; simp [BitVec.toNat_ofInt]; omega
  have e2 : (BitVec.ofInt IntKind.u64.bits (z : Int)).toNat = z := by show (BitVec.ofInt 64 (z : Int)).toNat = z; simp [BitVec.toNat_ofInt]; omega
  have e3 : Nat.lor x z = x + z := by
    have hz2 : z = y <<< (7 * k) := by rw [Nat.shiftLeft_eq, p7, hz]
    have := Nat.shiftLeft_add_eq_or_of_lt (b := x) (i := 7 * k) (by rw [p7]; exact hxp) y
    rw [← hz2] at this
    show x ||| z = x + z
    rw [Nat.or_comm, ← this, Nat.add_comm]
  simp only [intV, bitsV, e1, e2, e3, wrapV, Option.map_some]
  congr 2; omega
end Go.Proofs.YtmolaemlenllmaaGreat

namespace Go.Proofs.YtmolaemlenllmaaGreat
open Go.RowKit
set_option linter.unusedSimpArgs false
set_option linter.unusedVariables false
set_option maxRecDepth 10000

/-- What a reading answers. -/
def got : Option (Int × Nat) → AV
  | some (n, k) => .tu [.i .u64 n, .i .i64 (k : Int), .i .i64 0]
  | none => .tu [.i .u64 0, .i .i64 0, .i .i64 21]
def getS : Spec := fun args S => match args with
  | [x] => match lstV byteE S x with
    | some b => if openQ S 1 x = true ∧ b.all (fun c => decide (u8 c)) = true ∧ b.length ≤ 1000000 then some (got (getL b), S) else none
    | none => none
  | _ => none
theorem getS_eq {S : Mem} {x : AV} {b : List Int} (hl : lstV byteE S x = some b) (ho : openQ S 1 x = true) (hu : ∀ c ∈ b, u8 c) (hlen : b.length ≤ 1000000) : getS [x] S = some (got (getL b), S) := by
  simp only [getS, hl, if_pos (And.intro ho (And.intro (List.all_eq_true.2 fun c h => decide_eq_true (hu c h)) hlen))]
theorem got_flat (o : Option (Int × Nat)) (n : Nat) : (got o).flat n := by
  cases o <;> rfl
/-- One byte more: what the list read says. -/
theorem unleb_head {c : Int} {r : List Int} {m : Int} {k : Nat} (hc : u8 c) (hr : ∀ x ∈ r, u8 x) (h : unleb (c :: r) = some (m, k)) : c % 128 ≤ m := by
  have hc := hc
  unfold u8 at hc
  simp only [unleb] at h
  split at h
  · cases h; omega
  · split at h
    · rename_i m' j hm
      obtain ⟨g0, _, _⟩ := leb_unleb r m' j hr hm
      split at h
      · cases h
      · cases h; omega
    · cases h
theorem getL_over {b : List Int} {k : Nat} (hk : k < (b.take 10).length) (hu : ∀ c ∈ b, u8 c) (hp : ∀ c ∈ (b.take 10).take k, 128 ≤ c) (hv : 18446744073709551615 < ((b.take 10)[k] % 128) * ((128 ^ k : Nat) : Int)) : getL b = none := by
  have hu10 : ∀ c ∈ b.take 10, u8 c := fun c h => hu c (List.mem_of_mem_take h)
  unfold getL
  generalize b.take 10 = l at hk hp hv hu10
  have hsplit : l = l.take k ++ l[k] :: l.drop (k + 1) := by rw [← List.drop_eq_getElem_cons hk, List.take_append_drop]
  have hm := unleb_more (l.take k) (l[k] :: l.drop (k + 1)) hp
  rw [← hsplit] at hm
  rw [hm]
  cases hq : unleb (l[k] :: l.drop (k + 1)) with
  | none => rfl
  | some q =>
    obtain ⟨m, j⟩ := q
    have h1 := unleb_head (hu10 _ (List.getElem_mem hk)) (fun x hx => hu10 x (List.mem_of_mem_drop hx)) hq
    simp only
    split
    · rename_i he
      split at he
      · cases he
      · injection he with he; injection he with h2 h3
        have hlk : (l.take k).length = k := by rw [List.length_take]; omega
        rw [hlk] at h2
        have hb := vals_bound (l.take k)
        have : (l[k] % 128) * ((128 ^ k : Nat) : Int) ≤ m * ((128 ^ k : Nat) : Int) := Int.mul_le_mul_of_nonneg_right h1 (Int.natCast_nonneg _)
        rw [Int.mul_comm m] at this
        rw [if_neg (by omega)]
    · rfl
theorem getL_last {b : List Int} {k : Nat} (hk : k < (b.take 10).length) (hu : ∀ c ∈ b, u8 c) (hp : ∀ c ∈ (b.take 10).take k, 128 ≤ c) (hc : (b.take 10)[k] < 128) (hn : vals ((b.take 10).take k) + (b.take 10)[k] * ((128 ^ k : Nat) : Int) ≤ 18446744073709551615) :
    getL b = if (leb (vals ((b.take 10).take k) + (b.take 10)[k] * ((128 ^ k : Nat) : Int))).length = k + 1 then some (vals ((b.take 10).take k) + (b.take 10)[k] * ((128 ^ k : Nat) : Int), k + 1) else none := by
  have hu10 : ∀ c ∈ b.take 10, u8 c := fun c h => hu c (List.mem_of_mem_take h)
  unfold getL
  generalize b.take 10 = l at hk hp hc hn hu10
  have hsplit : l = l.take k ++ l[k] :: l.drop (k + 1) := by rw [← List.drop_eq_getElem_cons hk, List.take_append_drop]
  have hm := unleb_more (l.take k) (l[k] :: l.drop (k + 1)) hp
  rw [← hsplit] at hm
  have h1 : unleb (l[k] :: l.drop (k + 1)) = some (l[k], 1) := by simp [unleb, hc]
  have hlk : (l.take k).length = k := by rw [List.length_take]; omega
  have huk := hu10 _ (List.getElem_mem hk)
  unfold u8 at huk
  rw [h1] at hm
  simp only at hm
  by_cases h0 : l[k] = 0 ∧ l.take k ≠ []
  · rw [if_pos h0] at hm
    rw [hm, if_neg]
    rw [h0.1, Int.zero_mul, Int.add_zero]
    intro he
    have hb := vals_bound (l.take k)
    have hk0 : 0 < k := by
      rcases Nat.eq_zero_or_pos k with h | h
      · subst h; exact absurd (List.take_zero ..) h0.2
      · exact h
    have := leb_len (k - 1) (vals (l.take k)) (by
      have e : 128 * ((128 ^ (k - 1) : Nat) : Int) = ((128 ^ k : Nat) : Int) := by
        conv => rhs; rw [show k = (k - 1) + 1 by omega, Nat.pow_succ]
        rw [Int.natCast_mul, Int.mul_comm]; rfl
      rw [e, ← hlk]
      rw [hlk] at hb ⊢
      exact hb.2)
    omega
  · rw [if_neg h0, hlk, Int.mul_comm, Nat.add_comm 1 k] at hm
    rw [hm]
    obtain ⟨_, _, h3⟩ := leb_unleb _ _ _ hu10 hm
    simp only
    rw [if_pos hn, if_pos h3.symm]
theorem getL_none {b : List Int} (hp : ∀ c ∈ b.take 10, 128 ≤ c) : getL b = none := by
  unfold getL
  rw [unleb_none _ hp]
theorem sum7 {n v : Int} {k : Nat} (hk : k ≤ 9) (hn : n < ((128 ^ k : Nat) : Int)) (hv : v * ((128 ^ k : Nat) : Int) ≤ 18446744073709551615) : n + v * ((128 ^ k : Nat) : Int) ≤ 18446744073709551615 := by
  have : k = 0 ∨ k = 1 ∨ k = 2 ∨ k = 3 ∨ k = 4 ∨ k = 5 ∨ k = 6 ∨ k = 7 ∨ k = 8 ∨ k = 9 := by omega
  rcases this with rfl | rfl | rfl | rfl | rfl | rfl | rfl | rfl | rfl | rfl
  all_goals simp only [Nat.reducePow] at hn hv ⊢
  all_goals omega
/-- What a round of the loop computes. -/
theorem get_round {c n : Int} {k : Nat} (hu : u8 c) (hk : k ≤ 9) (hn0 : 0 ≤ n) (hn : n < ((128 ^ k : Nat) : Int)) :
    (∀ cst, binV .int cst .mul (.i .i64 7) (.i .i64 (k : Int)) = some (.i .i64 (7 * (k : Int)))) ∧ (∀ cst, binV .int cst .add (.i .i64 (k : Int)) (.i .i64 1) = some (.i .i64 ((k + 1 : Nat) : Int))) ∧ toIntV .u64 (.i .u8 (c % 128)) = some (.i .u64 (c % 128)) ∧
    ((∃ q z, (∀ cst, binV .int cst .shl (.i .u64 (c % 128)) (.i .i64 (7 * (k : Int))) = some (.i .u64 q)) ∧ (∀ cst, binV .int cst .shr (.i .u64 q) (.i .i64 (7 * (k : Int))) = some (.i .u64 z)) ∧ z ≠ c % 128 ∧ 18446744073709551615 < c % 128 * ((128 ^ k : Nat) : Int)) ∨
     (∃ q, (∀ cst, binV .int cst .shl (.i .u64 (c % 128)) (.i .i64 (7 * (k : Int))) = some (.i .u64 q)) ∧ (∀ cst, binV .int cst .shr (.i .u64 q) (.i .i64 (7 * (k : Int))) = some (.i .u64 (c % 128))) ∧ (∀ cst, binV .int cst .or (.i .u64 n) (.i .u64 q) = some (.i .u64 (n + q))) ∧
       q = c % 128 * ((128 ^ k : Nat) : Int) ∧ 0 ≤ q ∧ n + q ≤ 18446744073709551615)) := by
  unfold u8 at hu
  have hc128 : 0 ≤ c % 128 := by omega
  have hpow : 0 < ((128 ^ k : Nat) : Int) := by exact_mod_cast Nat.pow_pos (by omega)
  have hprod : 0 ≤ c % 128 * ((128 ^ k : Nat) : Int) := Int.mul_nonneg hc128 (by omega)
  refine ⟨fun cst => by rw [bin_mul, wrap_i64 (by omega) (by omega)], fun cst => by rw [bin_add, wrap_i64 (by omega) (by omega)]; rfl, by rw [toInt_i, wrap_u64 (by omega) (by omega)], ?_⟩
  by_cases hov : 18446744073709551615 < c % 128 * ((128 ^ k : Nat) : Int)
  · left
    refine ⟨_, _, fun cst => by rw [bin_shl, shl_7k hk], fun cst => by rw [bin_shr, shr_7k hk], ?_, hov⟩
    have hwl : wrapV .u64 (c % 128 * ((128 ^ k : Nat) : Int)) ≤ 18446744073709551615 := by simp only [wrapV]; omega
    intro he
    have := Int.ediv_mul_le (wrapV .u64 (c % 128 * ((128 ^ k : Nat) : Int))) (show ((128 ^ k : Nat) : Int) ≠ 0 by omega)
    rw [he] at this; omega
  · right
    have hs := sum7 (v := c % 128) hk hn (by omega)
    refine ⟨_, fun cst => by rw [bin_shl, shl_7k hk, wrap_u64 hprod (by omega)], fun cst => by rw [bin_shr, shr_7k hk, Int.mul_ediv_cancel _ (by omega)], fun cst => or_7k hn0 hn hc128 hs, rfl, hprod, hs⟩
theorem oGet_ok : OK Tryz.prog (lamOf Tryz.prog) (orcOf [(104, sizeS)]) := orc_ok (by simpa using size_ok)
theorem get_ok : SpecOK Tryz.prog 59 getS := by
  intro args S x S' h
  simp only [getS] at h
  split at h
  · rename_i s
    split at h
    · rename_i b hl
      split at h
      · rename_i hc
        cases h
        obtain ⟨ho, hu, hlen⟩ := hc
        have hu : ∀ c ∈ b, u8 c := fun c hc => of_decide_eq_true (List.all_eq_true.1 hu c hc)
        obtain ⟨t, ht, hlt, _⟩ := take_lst hl ho (q := .i64) (b := min b.length 10) (Nat.min_le_left _ _)
        have ht : sliceV S 1 s none (some (.i .i64 (min (b.length : Int) 10))) none = some t := by
          rw [show min (b.length : Int) 10 = ((min b.length 10 : Nat) : Int) by omega]; exact ht
        have hlt : lstV byteE S t = some (b.take 10) := by
          rw [hlt]; congr 1
          rcases Nat.le_total b.length 10 with h | h
          · rw [Nat.min_eq_left h, List.take_length, List.take_of_length_le h]
          · rw [Nat.min_eq_right h]
        refine fn_of_wp f59 rfl (W_sound oGet_ok mixed _ _ _ _ _ ?_)
        simp (maxSteps := 1000000) (disch := omega) only [c59, lst_len hl, ht, lst_len hlt, go_sem]
        have h10 : (b.take 10).length ≤ 10 := by rw [List.length_take]; omega
        refine wp_loop (fun j e M dl => dl = [] ∧ M = S ∧ ∃ (k : Nat), j = (b.take 10).length - k ∧ k ≤ (b.take 10).length ∧ (∀ c ∈ (b.take 10).take k, 128 ≤ c) ∧ vals ((b.take 10).take k) ≤ 18446744073709551615 ∧
          e.get 13 = t ∧ e.get 14 = .i .i64 (b.take 10).length ∧ e.get 15 = .i .i64 k ∧ e.get 5 = .i .u64 (vals ((b.take 10).take k))) (j := (b.take 10).length)
          ⟨rfl, rfl, 0, rfl, Nat.zero_le _, by simp, by simp [vals], rfl, rfl, rfl, rfl⟩ ?_
        rintro j e M d' ⟨rfl, rfl, k, rfl, hk, hp, hvl, h13, h14, h15, h5⟩
        refine W_sound oGet_ok mixed _ _ _ _ _ ?_
        by_cases hkl : k < (b.take 10).length
        · obtain ⟨bi, o, v, cap, ex, rfl⟩ := lst_sl hlt hkl
          have hc0 := lstV_cell hlt rfl (fun a => rfl) hkl []
          rw [List.append_nil] at hc0
          have hkI : (k : Int) < (b.take 10).length := by omega
          have hk9 : k ≤ 9 := by omega
          have huk : u8 (b.take 10)[k] := hu _ (List.mem_of_mem_take (List.getElem_mem hkl))
          have hover := getL_over hkl hu hp
          have hlast := getL_last hkl hu hp
          have hsnoc := vals_snoc ((b.take 10).take k) (b.take 10)[k]
          rw [show (b.take 10).take k ++ [(b.take 10)[k]] = (b.take 10).take (k + 1) from (List.take_succ_eq_append_getElem hkl).symm, show ((b.take 10).take k).length = k by rw [List.length_take]; omega] at hsnoc
          have hb := vals_bound ((b.take 10).take k)
          rw [show ((b.take 10).take k).length = k by rw [List.length_take]; omega] at hb
          have hp1 : (b.take 10)[k] ≥ 128 → ∀ c ∈ (b.take 10).take (k + 1), 128 ≤ c := fun h c hc => by
            rw [List.take_succ_eq_append_getElem hkl] at hc
            rcases List.mem_append.1 hc with hc | hc
            · exact hp c hc
            · rw [List.mem_singleton.1 hc]; exact h
          generalize hcv : (b.take 10)[k] = c at hc0 huk hover hlast hsnoc hp1
          generalize hvv : vals ((b.take 10).take k) = n at hvl h5 hlast hsnoc hb
          rw [Int.mul_comm _ (c % 128)] at hsnoc
          obtain ⟨hm7, ha1, ht8, hR⟩ := get_round huk hk9 hb.1 hb.2
          have hc128 : c < 128 → c % 128 = c := fun h => by unfold u8 at huk; omega
          rcases hR with ⟨q, z, hshl, hshr, hne, hq⟩ | ⟨q, hshl, hshr, hor, hq, hq0, hsum⟩
          · have hover := hover hq
            clear hlast hsnoc hb hq hvl hp1 hc128
            simp (maxSteps := 1000000) (disch := omega) only [c59l0, h13, h14, h15, h5, hkI, Int.toNat_natCast, Nat.mul_one, hc0, and_127 huk, ht8, hm7, hshl, hshr, hne, go_sem]
            rw [hover]
            exact wkv_same
          · rw [← hq] at hsnoc
            have hlast : c < 128 → getL b = if (leb (n + q)).length = k + 1 then some (n + q, k + 1) else none := fun h1 => by
              have e : c * ((128 ^ k : Nat) : Int) = q := by rw [hq, hc128 h1]
              have := hlast h1 (by rw [e]; exact hsum)
              rwa [e] at this
            have hsz := size_eq (n := n + q) ⟨by omega, hsum⟩
            clear hover hq hb
            by_cases h128 : c < 128
            · have hlast := hlast h128
              clear hsnoc hp1 hc128 hq0 hsum
              by_cases hs : (leb (n + q)).length = k + 1
              · rw [if_pos hs] at hlast
                rw [hs] at hsz
                clear hs
                simp (maxSteps := 1000000) (disch := omega) only [c59l0, h13, h14, h15, h5, hkI, Int.toNat_natCast, Nat.mul_one, hc0, and_127 huk, and_128 huk, h128, ht8, hm7, hshl, hshr, hor, orc_cons, hsz, ha1, go_sem]
                rw [hlast]
                exact wkv_same
              · rw [if_neg hs] at hlast
                have hsI : ¬ ((leb (n + q)).length : Int) = ((k + 1 : Nat) : Int) := fun h => hs (Int.ofNat_inj.1 h)
                clear hs
                simp (maxSteps := 1000000) (disch := omega) only [c59l0, h13, h14, h15, h5, hkI, Int.toNat_natCast, Nat.mul_one, hc0, and_127 huk, and_128 huk, h128, ht8, hm7, hshl, hshr, hor, orc_cons, hsz, ha1, hsI, go_sem]
                rw [hlast]
                exact wkv_same
            · clear hlast hsz hc128
              simp (maxSteps := 1000000) (disch := omega) only [c59l0, h13, h14, h15, h5, hkI, Int.toNat_natCast, Nat.mul_one, hc0, and_127 huk, and_128 huk, h128, ht8, hm7, hshl, hshr, hor, ha1, go_sem]
              refine ⟨(b.take 10).length - (k + 1), by omega, k + 1, rfl, hkl, hp1 (by omega), by rw [hsnoc]; exact hsum, rfl, ?_⟩
              rw [hsnoc]
        · have hkI : ¬ (k : Int) < (b.take 10).length := by omega
          simp (maxSteps := 1000000) (disch := omega) only [c59l0, h13, h14, h15, h5, hkI, go_sem]
          rw [List.take_of_length_le (by omega)] at hp
          rw [getL_none hp]
          exact wkv_same
      · cases h
    · cases h
  · cases h
end Go.Proofs.YtmolaemlenllmaaGreat

namespace Go.Proofs.YtmolaemlenllmaaGreat
open Go.RowKit
set_option linter.unusedSimpArgs false
set_option linter.unusedVariables false
set_option maxRecDepth 10000

/-! ### Bytes as texts -/
def strB (l : List Int) : List UInt8 := l.map fun n => UInt8.ofNat n.toNat
theorem bytesV_B (l : List Int) : bytesV (l.flatMap byteE.enc) = some (strB l) := by
  induction l with
  | nil => rfl
  | cons a l ih =>
    rw [List.flatMap_cons]
    show bytesV (.i .u8 a :: l.flatMap byteE.enc) = _
    simp only [bytesV, ih]; rfl
theorem toStr_B {S : Mem} {x : AV} {l : List Int} (h : lstV byteE S x = some l) : toStrV S x = some (.s (strB l)) := by
  rcases lstV_lst h with ⟨rfl, rfl⟩ | ⟨rfl, rfl⟩ | ⟨i, o, v, len, cap, ex, rfl, rfl, hrow⟩
  · rfl
  · rfl
  · have hrow : rowAt S i o v l.length = some (l.flatMap byteE.enc) := by rw [show l.length = l.length * byteE.sz from (Nat.mul_one _).symm]; exact hrow
    simp only [toStrV, hrow, bytesV_B]
theorem ofNat_inj8 {a b : Nat} (ha : a < 256) (hb : b < 256) (h : UInt8.ofNat a = UInt8.ofNat b) : a = b := by
  have := congrArg UInt8.toNat h
  simp [UInt8.toNat_ofNat] at this
  omega
theorem strB_inj : ∀ {l m : List Int}, (∀ c ∈ l, u8 c) → (∀ c ∈ m, u8 c) → strB l = strB m → l = m
  | [], [], _, _, _ => rfl
  | [], _ :: _, _, _, h => by simp [strB] at h
  | _ :: _, [], _, _, h => by simp [strB] at h
  | a :: l, b :: m, h1, h2, h => by
    simp only [strB, List.map_cons, List.cons.injEq] at h
    have ha := h1 a (by simp)
    have hb := h2 b (by simp)
    unfold u8 at ha hb
    have e := ofNat_inj8 (by omega) (by omega) h.1
    rw [show a = b by omega, strB_inj (fun c hc => h1 c (by simp [hc])) (fun c hc => h2 c (by simp [hc])) h.2]

/-! ### The first number -/
def cutN (n : Int) : Int := n % 18446744073709551616
theorem cutN_u64 (n : Int) : u64 (cutN n) := by unfold u64 cutN; omega
theorem cutN_step {v c : Int} : cutN (c % 128 + 128 * v) = wrapV .u64 (wrapV .u64 (cutN v * 128) + c % 128) := by
  unfold cutN; simp only [wrapV]; omega
theorem getL_cut {b : List Int} {k : Nat} (hk : k < (b.take 10).length) (hu : ∀ c ∈ b, u8 c) (hp : ∀ c ∈ (b.take 10).take k, 128 ≤ c) (hc : (b.take 10)[k] < 128) :
    getL b = if leb (cutN (vals (b.take (k + 1)))) = b.take (k + 1) then some (cutN (vals (b.take (k + 1))), k + 1) else none := by
  have hu10 : ∀ c ∈ b.take 10, u8 c := fun c h => hu c (List.mem_of_mem_take h)
  have h10 : (b.take 10).length ≤ 10 := by rw [List.length_take]; omega
  have htt : (b.take 10).take (k + 1) = b.take (k + 1) := by rw [List.take_take, Nat.min_eq_left (by omega)]
  have hlen : (b.take (k + 1)).length = k + 1 := by
    rw [← htt, List.length_take]; omega
  split
  · rename_i h
    unfold getL
    have h1 := unleb_take (n := cutN (vals (b.take (k + 1)))) (cutN_u64 _).1 b 10 (by rw [h, hlen]; omega) (by rw [h]; exact List.take_prefix ..)
    rw [h1]
    simp only
    rw [if_pos (cutN_u64 _).2, h, hlen]
  · rename_i h
    cases hg : getL b with
    | none => rfl
    | some q =>
      obtain ⟨m, j⟩ := q
      obtain ⟨g1, g2, g3, _⟩ := getL_some hu hg
      unfold getL at hg
      have hsplit : b.take 10 = (b.take 10).take k ++ (b.take 10)[k] :: (b.take 10).drop (k + 1) := by rw [← List.drop_eq_getElem_cons hk, List.take_append_drop]
      have hm := unleb_more ((b.take 10).take k) ((b.take 10)[k] :: (b.take 10).drop (k + 1)) hp
      rw [← hsplit] at hm
      have h1 : unleb ((b.take 10)[k] :: (b.take 10).drop (k + 1)) = some ((b.take 10)[k], 1) := by rw [unleb, if_pos hc]
      have hlk : ((b.take 10).take k).length = k := by rw [List.length_take]; omega
      have huk := hu10 _ (List.getElem_mem hk)
      unfold u8 at huk
      rw [h1] at hm
      simp only at hm
      have hs := vals_snoc ((b.take 10).take k) (b.take 10)[k]
      rw [show (b.take 10).take k ++ [(b.take 10)[k]] = (b.take 10).take (k + 1) from (List.take_succ_eq_append_getElem hk).symm, hlk, htt, show (b.take 10)[k] % 128 = (b.take 10)[k] by omega] at hs
      rw [hlk, ← hs] at hm
      rw [hm] at hg
      by_cases h0 : (b.take 10)[k] = 0 ∧ (b.take 10).take k ≠ []
      · rw [if_pos h0] at hg; cases hg
      · rw [if_neg h0] at hg
        simp only at hg
        split at hg
        · simp only [Option.some.injEq, Prod.mk.injEq] at hg
          obtain ⟨h2, h3⟩ := hg
          exfalso; apply h
          have hcut : cutN m = m := by unfold cutN; have := g1.1; have := g1.2; omega
          rw [h2, hcut, g2, ← h3, Nat.add_comm]
        · cases hg
theorem oRGet_ok : OK Tryz.prog (lamOf Tryz.prog) (orcOf [(55, rputS 10)]) := orc_ok (by simpa using rput_ok 10)
theorem rget_ok : SpecOK Tryz.prog 63 getS := by
  intro args S x S' h
  simp only [getS] at h
  split at h
  · rename_i s
    split at h
    · rename_i b hl
      split at h
      · rename_i hc
        cases h
        obtain ⟨ho, hu, hlen⟩ := hc
        have hu : ∀ c ∈ b, u8 c := fun c hc => of_decide_eq_true (List.all_eq_true.1 hu c hc)
        have h10 : (b.take 10).length ≤ 10 := by rw [List.length_take]; omega
        have hl10 : (b.take 10).length ≤ b.length := by rw [List.length_take]; omega
        refine fn_of_wp f63 rfl (W_sound oRGet_ok mixed _ _ _ _ _ ?_)
        simp (maxSteps := 1000000) (disch := omega) only [c63, go_sem]
        refine wp_loop (fun j e M dl => dl = [] ∧ M = S ∧ ∃ (k : Nat), j = (b.take 10).length - k ∧ k ≤ (b.take 10).length ∧ (∀ c ∈ (b.take 10).take k, 128 ≤ c) ∧ e.get 0 = s ∧ e.get 5 = .i .i64 k) (j := (b.take 10).length)
          ⟨rfl, rfl, 0, rfl, Nat.zero_le _, by simp, rfl, rfl⟩ ?_
        rintro j e M d' ⟨rfl, rfl, k, rfl, hk, hp, h0, h5⟩
        refine W_sound oRGet_ok mixed _ _ _ _ _ ?_
        by_cases hkl : k < (b.take 10).length
        · have hkb : k < b.length := by omega
          obtain ⟨bi, o, v, cap, ex, rfl⟩ := lst_sl hl hkb
          have hcell := fun (j : Nat) (hj : j < b.length) => lstV_cell hl rfl (fun a => rfl) hj []
          simp only [List.append_nil] at hcell
          have hc0 := hcell k hkb
          have hkI : (k : Int) < b.length := by omega
          have hk10 : (k : Int) < 10 := by omega
          have hgk : (b.take 10)[k] = b[k] := List.getElem_take
          have huk := hu _ (List.getElem_mem hkb)
          have hwk : wrapV .i64 ((k : Int) + 1) = ((k + 1 : Nat) : Int) := by rw [wrap_i64 (by omega) (by omega)]; omega
          have hcut := getL_cut hkl hu hp
          have hp1 : b[k] ≥ 128 → ∀ c ∈ (b.take 10).take (k + 1), 128 ≤ c := fun h c hc => by
            rw [List.take_succ_eq_append_getElem hkl] at hc
            rcases List.mem_append.1 hc with hc | hc
            · exact hp c hc
            · rw [List.mem_singleton.1 hc, hgk]; exact h
          by_cases h128 : b[k] < 128
          · have hnc : ¬ (128 : Int) ≤ b[k] := by omega
            have hcut := hcut (by rw [hgk]; exact h128)
            simp (maxSteps := 1000000) (disch := omega) only [c63l2, h0, h5, hkI, hk10, Int.toNat_natCast, Nat.mul_one, hc0, hnc, go_sem]
            clear hp1 hp hc0
            have hlen : (b.take (k + 1)).length = k + 1 := by rw [List.length_take]; omega
            refine wp_loop (fun j e M' dl => dl = [] ∧ M' = M ∧ ∃ (i : Nat), j = i ∧ i ≤ k + 1 ∧ e.get 0 = .sl bi o v b.length cap ex ∧ e.get 5 = .i .i64 k ∧ e.get 7 = .i .i64 ((i : Int) - 1) ∧ e.get 6 = .i .u64 (cutN (vals ((b.take (k + 1)).drop i)))) (j := k + 1)
              ⟨rfl, rfl, k + 1, rfl, Nat.le_refl _, rfl, rfl, by rw [show (((k + 1 : Nat) : Int) - 1) = k by omega]; rfl, by rw [List.drop_of_length_le (by omega)]; rfl⟩ ?_
            rintro i e M' d' ⟨rfl, rfl, _, rfl, hi, h0, h5, h7, h6⟩
            refine W_sound oRGet_ok mixed _ _ _ _ _ ?_
            rcases Nat.eq_zero_or_pos i with hi0 | hi0
            · subst hi0
              rw [List.drop_zero] at h6
              have hjI : ¬ (0 : Int) ≤ ((0 : Nat) : Int) - 1 := by omega
              obtain ⟨t, ht, hlt, _⟩ := take_lst hl ho (q := .i64) (b := k + 1) (by omega)
              obtain ⟨X, M2, hX, hXl, hSM⟩ := rput_len M' (cutN_u64 (vals (b.take (k + 1))))
              have hs1 := toStr_B hlt
              have hs2 := toStr_B hXl
              have hub : ∀ c ∈ b.take (k + 1), u8 c := fun c hc => hu c (List.mem_of_mem_take hc)
              have huL := leb_u8 (cutN_u64 (vals (b.take (k + 1)))).1
              generalize cutN (vals (b.take (k + 1))) = n at *
              have ht : sliceV M' 1 (.sl bi o v b.length cap ex) none (some (.i .i64 ((k + 1 : Nat) : Int))) none = some t := ht
              by_cases hq : leb n = b.take (k + 1)
              · have hqs : ¬ strB (leb n) ≠ strB (b.take (k + 1)) := fun h => h (by rw [hq])
                simp (maxSteps := 1000000) (disch := omega) only [c63l0, h0, h5, h7, h6, hjI, hwk, ht, hs1, orc_cons, hX, hs2, hqs, go_sem]
                rw [hcut, if_pos hq]
                exact ⟨hSM, wkv_dropP hSM (got_flat _ _)⟩
              · have hqs : strB (leb n) ≠ strB (b.take (k + 1)) := fun h => hq (strB_inj huL hub h)
                simp (maxSteps := 1000000) (disch := omega) only [c63l0, h0, h5, h7, h6, hjI, hwk, ht, hs1, orc_cons, hX, hs2, hqs, go_sem]
                rw [hcut, if_neg hq]
                exact ⟨hSM, wkv_dropP hSM (got_flat _ _)⟩
            · have hjI : (0 : Int) ≤ (i : Int) - 1 := by omega
              obtain ⟨j, rfl⟩ : ∃ j, i = j + 1 := ⟨i - 1, by omega⟩
              have hj1 : ((j + 1 : Nat) : Int) - 1 = (j : Int) := by omega
              rw [hj1] at h7 hjI
              have hjb : j < b.length := by omega
              have hjI2 : (j : Int) < b.length := by omega
              have hcj := hcell j hjb
              have huj := hu _ (List.getElem_mem hjb)
              unfold u8 at huj
              have hrem : ∀ cst, binV .int cst .rem (.i .u8 b[j]) (.i .u8 128) = some (.i .u8 (b[j] % 128)) := fun cst => bin_rem_pos huj.1 (by omega)
              have hwj : wrapV .i64 ((j : Int) - 1) = (j : Int) - 1 := wrap_i64 (by omega) (by omega)
              have hstep := cutN_step (v := vals ((b.take (k + 1)).drop (j + 1))) (c := b[j])
              rw [show b[j] % 128 + 128 * vals ((b.take (k + 1)).drop (j + 1)) = vals ((b.take (k + 1)).drop j) by rw [List.drop_eq_getElem_cons (show j < (b.take (k + 1)).length by omega), List.getElem_take]; rfl] at hstep
              simp (maxSteps := 1000000) (disch := omega) only [c63l0, h0, h5, h7, h6, hjI, hjI2, Int.toNat_natCast, Nat.mul_one, hcj, hrem, hwj, go_sem]
              exact ⟨j, by omega, j, rfl, by omega, rfl, by rw [hstep]⟩
          · have hc : (128 : Int) ≤ b[k] := by omega
            simp (maxSteps := 1000000) (disch := omega) only [c63l2, h0, h5, hkI, hk10, Int.toNat_natCast, Nat.mul_one, hc0, hc, hwk, go_sem]
            exact ⟨(b.take 10).length - (k + 1), by omega, k + 1, rfl, hkl, hp1 (by omega), rfl⟩
        · have hnone : getL b = none := getL_none (by rw [List.take_of_length_le (by omega)] at hp; exact hp)
          by_cases hkI : (k : Int) < b.length
          · have hk10 : ¬ (k : Int) < 10 := by rw [List.length_take] at hkl; omega
            simp (maxSteps := 1000000) (disch := omega) only [c63l2, h0, h5, lst_len hl, hkI, hk10, go_sem]
            rw [hnone]
            exact wkv_same
          · simp (maxSteps := 1000000) (disch := omega) only [c63l2, h0, h5, lst_len hl, hkI, go_sem]
            rw [hnone]
            exact wkv_same
      · cases h
    · cases h
  · cases h
end Go.Proofs.YtmolaemlenllmaaGreat

namespace Go.Proofs.YtmolaemlenllmaaGreat
open Go.RowKit
set_option linter.unusedSimpArgs false
set_option linter.unusedVariables false
set_option maxRecDepth 10000

def rsameS : Spec := fun args S => match args with
  | [.ag a, .ag b] => match opOf S a, opOf S b with
    | some x, some y => if (x.bs.length ≤ 900000 ∧ x.ks.length ≤ 900000) ∧ (x.bs.all (fun c => decide (u8 c)) = true ∧ y.bs.all (fun c => decide (u8 c)) = true) then some (.b (decide (x = y)), S) else none
    | _, _ => none
  | _ => none
theorem all_u8 {l : List Int} : l.all (fun c => decide (u8 c)) = true ↔ ∀ c ∈ l, u8 c := by
  rw [List.all_eq_true]; exact ⟨fun h c hc => of_decide_eq_true (h c hc), fun h c hc => decide_eq_true (h c hc)⟩
theorem rsameS_eq {S : Mem} {a b : List AV} {x y : Opx} (ha : opOf S a = some x) (hb : opOf S b = some y) (h1 : x.bs.length ≤ 900000) (h2 : x.ks.length ≤ 900000) (h3 : ∀ c ∈ x.bs, u8 c) (h4 : ∀ c ∈ y.bs, u8 c) : rsameS [.ag a, .ag b] S = some (.b (decide (x = y)), S) := by
  simp only [rsameS, ha, hb, if_pos (And.intro (And.intro h1 h2) (And.intro (all_u8.2 h3) (all_u8.2 h4)))]
theorem rsame_ok : SpecOK Tryz.prog 13 rsameS := by
  intro args S x S' h
  simp only [rsameS] at h
  split at h
  · rename_i ca cb
    split at h
    · rename_i a b ha hb
      split at h
      · rename_i hc
        obtain ⟨⟨hl1, hl2⟩, hu1, hu2⟩ := hc
        rw [all_u8] at hu1 hu2
        cases h
        obtain ⟨x1, y1, rfl, hx1, hy1⟩ := opOf_ok ha
        obtain ⟨x2, y2, rfl, hx2, hy2⟩ := opOf_ok hb
        have s1 : ∀ L, toStrV (S ++ L) x1 = some (.s (strB a.bs)) := fun L => toStr_B (lstV_grow hx1 L)
        have s2 : ∀ L, toStrV (S ++ L) x2 = some (.s (strB b.bs)) := fun L => toStr_B (lstV_grow hx2 L)
        have l1 := lst_len hy1
        have l2 := lst_len hy2
        have hp := ne_pol (a := a.pol) (b := b.pol)
        simp only [Pol.enc] at hp
        refine fn_of_wp f13 rfl (W_sound none_ok mixed _ _ _ _ _ ?_)
        by_cases e1 : a.kind = b.kind
        rotate_left
        · simp (maxSteps := 1000000) (disch := omega) only [c13, lst_cells hx1, lst_cells hx2, lst_cells hy1, lst_cells hy2, e1, go_sem]
          exact wkv_fP (ext_app _) fun h => e1 (by rw [h])
        by_cases e2 : a.sub = b.sub
        rotate_left
        · simp (maxSteps := 1000000) (disch := omega) only [c13, lst_cells hx1, lst_cells hx2, lst_cells hy1, lst_cells hy2, e1, e2, go_sem]
          exact wkv_fP (ext_app _) fun h => e2 (by rw [h])
        by_cases e3 : a.brk = b.brk
        rotate_left
        · simp (maxSteps := 1000000) (disch := omega) only [c13, lst_cells hx1, lst_cells hx2, lst_cells hy1, lst_cells hy2, e1, e2, e3, go_sem]
          exact wkv_fP (ext_app _) fun h => e3 (by rw [h])
        by_cases e4 : a.n = b.n
        rotate_left
        · simp (maxSteps := 1000000) (disch := omega) only [c13, lst_cells hx1, lst_cells hx2, lst_cells hy1, lst_cells hy2, e1, e2, e3, e4, go_sem]
          exact wkv_fP (ext_app _) fun h => e4 (by rw [h])
        by_cases e5 : a.pol = b.pol
        rotate_left
        · rw [decide_eq_true e5] at hp
          simp (maxSteps := 1000000) (disch := omega) only [c13, lst_cells hx1, lst_cells hx2, lst_cells hy1, lst_cells hy2, e1, e2, e3, e4, hp, go_sem]
          exact wkv_fP (ext_app _) fun h => e5 (by rw [h])
        rw [decide_eq_false (not_not_intro e5)] at hp
        by_cases e6 : strB a.bs = strB b.bs
        rotate_left
        · simp (maxSteps := 1000000) (disch := omega) only [c13, lst_cells hx1, lst_cells hx2, lst_cells hy1, lst_cells hy2, e1, e2, e3, e4, hp, s1, s2, e6, go_sem]
          exact wkv_fP (ext_app _) fun h => e6 (by rw [h])
        have e6' := strB_inj hu1 hu2 e6
        by_cases e7 : a.ks.length = b.ks.length
        rotate_left
        · have e7I : ¬ (a.ks.length : Int) = b.ks.length := by omega
          simp (maxSteps := 1000000) (disch := omega) only [c13, lst_cells hx1, lst_cells hx2, lst_cells hy1, lst_cells hy2, e1, e2, e3, e4, hp, s1, s2, e6, l1, l2, e7I, go_sem]
          exact wkv_fP (ext_app _) fun h => e7 (by rw [h])
        have e7I : (a.ks.length : Int) = b.ks.length := by omega
        simp (maxSteps := 1000000) (disch := omega) only [c13, lst_cells hx1, lst_cells hx2, lst_cells hy1, lst_cells hy2, e1, e2, e3, e4, hp, s1, s2, e6, l1, l2, e7I, go_sem]
        refine wp_loop (fun j e M dl => dl = [] ∧ ∃ (k : Nat), j = a.ks.length - k ∧ k ≤ a.ks.length ∧ (∃ T, M = S ++ T ∧ T[0]? = some (.cells [.i .i64 a.kind, .i .i64 a.sub, .i .i64 a.brk, .i .u64 a.n, x1, .i .i64 a.pol.sub, .i .u8 a.pol.a, .i .u8 a.pol.b, .i .u8 a.pol.c, .i .u8 a.pol.d, .i .i64 a.pol.bits, .i .u64 a.pol.rate, .i .u64 a.pol.burst, .i .u64 a.pol.srate, .i .u64 a.pol.sburst, .i .u64 a.pol.quota, .i .u64 a.pol.lease, .i .u64 a.pol.quantum, y1] 0 none true) ∧
            T[1]? = some (.cells [.i .i64 b.kind, .i .i64 b.sub, .i .i64 b.brk, .i .u64 b.n, x2, .i .i64 b.pol.sub, .i .u8 b.pol.a, .i .u8 b.pol.b, .i .u8 b.pol.c, .i .u8 b.pol.d, .i .i64 b.pol.bits, .i .u64 b.pol.rate, .i .u64 b.pol.burst, .i .u64 b.pol.srate, .i .u64 b.pol.sburst, .i .u64 b.pol.quota, .i .u64 b.pol.lease, .i .u64 b.pol.quantum, y2] 0 none true)) ∧
          (∀ i (hi : i < k) (h1 : i < a.ks.length) (h2 : i < b.ks.length), a.ks[i] = b.ks[i]) ∧ e.get 2 = .p S.length 0 0 ∧ e.get 3 = .p (S.length + 1) 0 0 ∧ e.get 59 = .i .i64 a.ks.length ∧ e.get 60 = .i .i64 k) (j := a.ks.length)
          ⟨rfl, 0, rfl, Nat.zero_le _, ⟨_, rfl, by simp [e1, e2, e3, e4], by simp⟩, fun i hi => absurd hi (Nat.not_lt_zero _), rfl, rfl, by rw [e7]; rfl, rfl⟩ ?_
        rintro j e M d' ⟨rfl, k, rfl, hk, ⟨T, rfl, hT0, hT1⟩, hn, g2, g3, g59, g60⟩
        refine W_sound none_ok mixed _ _ _ _ _ ?_
        have at0' : ∀ L, ((S ++ T) ++ L)[S.length]? = T[0]? := fun L => by
          have := at_old (L := L) (show (S ++ T)[S.length]? = some _ by rw [at_app0]; exact hT0)
          rw [this, hT0]
        have at1' : ∀ L, ((S ++ T) ++ L)[S.length + 1]? = T[1]? := fun L => by
          have := at_old (L := L) (show (S ++ T)[S.length + 1]? = some _ by rw [at_app]; exact hT1)
          rw [this, hT1]
        have a0 := at0' []
        have a1 := at1' []
        rw [List.append_nil] at a0 a1
        by_cases hkl : k < a.ks.length
        · obtain ⟨bi, o, v, cap, ex, rfl⟩ := lst_sl hy1 hkl
          obtain ⟨bj, o2, v2, cap2, ex2, rfl⟩ := lst_sl hy2 (show k < b.ks.length by omega)
          have hkI : (k : Int) < a.ks.length := by omega
          have hkJ : (k : Int) < b.ks.length := by omega
          have hkm : k < b.ks.length := by omega
          have hk6 : k < 1000000 := by omega
          have ha : cellB ((S ++ T)[bi]?) (o + k) v = some (.b a.ks[k]) := by
            have := lstV_row hy1 hkl T
            rw [show boolE.sz = 1 from rfl, Nat.mul_one] at this
            exact row_b this
          have hb : cellB ((S ++ T)[bj]?) (o2 + k) v2 = some (.b b.ks[k]) := by
            have := lstV_row hy2 hkm T
            rw [show boolE.sz = 1 from rfl, Nat.mul_one] at this
            exact row_b this
          simp (maxSteps := 1000000) (disch := omega) only [c13l1, g2, g3, g59, g60, hkI, hkJ, a0, a1, hT0, hT1, Int.toNat_natCast, Nat.mul_one, ha, hb, wrapS hk6, go_sem]
          refine ⟨fun hd => wkv_fP (ext_app _) fun q => hd (by cases q; rfl), fun hd => ⟨a.ks.length - (k + 1), by omega, k + 1, rfl, hkl, ⟨T, rfl, hT0, hT1⟩, fun i hi h1 h2 => ?_, rfl⟩⟩
          by_cases hik : i = k
          · subst hik; exact Decidable.not_not.1 hd
          · exact hn i (by omega) h1 h2
        · have hkI : ¬ (k : Int) < a.ks.length := by omega
          simp (maxSteps := 1000000) (disch := omega) only [c13l1, g2, g3, g59, g60, hkI, go_sem]
          exact wkv_tP (ext_app _) (op_eq e1 e2 e3 e4 e5 e6' (List.ext_getElem e7 fun i h1 h2 => hn i (by omega) h1 h2))
      · cases h
    · cases h
  · cases h
end Go.Proofs.YtmolaemlenllmaaGreat

namespace Go.Proofs.YtmolaemlenllmaaGreat
open Go.RowKit
set_option linter.unusedSimpArgs false
set_option linter.unusedVariables false
set_option maxRecDepth 10000

def Opx.own (o : Opx) : Opx := if o.kind = 0 then { opz o.kind with bs := o.bs } else if o.kind = 1 then { opz o.kind with n := o.n } else if o.kind = 4 then { opz o.kind with pol := o.pol } else if o.kind = 5 then { opz o.kind with sub := o.sub } else if o.kind = 8 then { opz o.kind with sub := o.sub }
  else if o.kind = 10 then { opz o.kind with brk := o.brk } else if o.kind = 11 then { opz o.kind with ks := o.ks } else opz o.kind
theorem own_iff {o : Opx} (h1 : 0 ≤ o.kind) (h2 : o.kind ≤ 12) (h3 : o.bs.length ≤ 2000) (h4 : o.ks.length ≤ 64) : o = o.own ↔ o.right := by
  obtain ⟨k, s, m, n, bs, p, ks⟩ := o
  simp only at h1 h2 h3 h4
  simp only [Opx.own, Opx.right, opz, h1, h2, h3, h4, true_and]
  by_cases e0 : k = 0
  · subst e0; simp; exact ⟨fun ⟨a, b, c, d, e⟩ => ⟨c, d, a, b, e⟩, fun ⟨c, d, a, b, e⟩ => ⟨a, b, c, d, e⟩⟩
  by_cases e1 : k = 1
  · subst e1; simp; exact ⟨fun ⟨a, b, c, d, e⟩ => ⟨c, d, a, b, e⟩, fun ⟨c, d, a, b, e⟩ => ⟨a, b, c, d, e⟩⟩
  by_cases e4 : k = 4
  · subst e4; simp; exact ⟨fun ⟨a, b, c, d, e⟩ => ⟨d, c, a, b, e⟩, fun ⟨d, c, a, b, e⟩ => ⟨a, b, c, d, e⟩⟩
  by_cases e5 : k = 5
  · subst e5; simp; exact ⟨fun ⟨a, b, c, d, e⟩ => ⟨c, b, d, a, e⟩, fun ⟨c, b, d, a, e⟩ => ⟨a, b, c, d, e⟩⟩
  by_cases e8 : k = 8
  · subst e8; simp; exact ⟨fun ⟨a, b, c, d, e⟩ => ⟨c, b, d, a, e⟩, fun ⟨c, b, d, a, e⟩ => ⟨a, b, c, d, e⟩⟩
  by_cases e10 : k = 10
  · subst e10; simp; exact ⟨fun ⟨a, b, c, d, e⟩ => ⟨c, b, d, a, e⟩, fun ⟨c, b, d, a, e⟩ => ⟨a, b, c, d, e⟩⟩
  by_cases e11 : k = 11
  · subst e11; simp; exact ⟨fun ⟨a, b, c, d, e⟩ => ⟨d, c, e, a, b⟩, fun ⟨d, c, e, a, b⟩ => ⟨a, b, c, d, e⟩⟩
  simp [e0, e1, e4, e5, e8, e10, e11]
  exact ⟨fun ⟨a, b, c, d, e, f⟩ => ⟨d, c, e, a, b, f⟩, fun ⟨d, c, e, a, b, f⟩ => ⟨a, b, c, d, e, f⟩⟩
def orightS : Spec := fun args S => match args with
  | [.ag a] => match opOf S a with
    | some o => if o.bs.length ≤ 900000 ∧ o.ks.length ≤ 900000 then some (.b (decide o.right), S) else none
    | none => none
  | _ => none
theorem orightS_eq {S : Mem} {a : List AV} {o : Opx} (ha : opOf S a = some o) (h1 : o.bs.length ≤ 900000) (h2 : o.ks.length ≤ 900000) : orightS [.ag a] S = some (.b (decide o.right), S) := by
  simp only [orightS, ha, if_pos (And.intro h1 h2)]
theorem oOr_ok : OK Tryz.prog (lamOf Tryz.prog) (orcOf [(12, sameS)]) := orc_ok (by simpa using same_ok)
set_option maxHeartbeats 4000000 in
theorem oright_ok : SpecOK Tryz.prog 15 orightS := by
  intro args S x S' h
  simp only [orightS] at h
  split at h
  · rename_i ca
    split at h
    · rename_i o ho
      split at h
      · rename_i hc
        obtain ⟨hl1, hl2⟩ := hc
        cases h
        obtain ⟨x, y, rfl, hx, hy⟩ := opOf_ok ho
        have lx := lst_len hx
        have ly := lst_len hy
        have cx := lst_cells hx
        have cy := lst_cells hy
        have ox := lst_one hx
        have oy := lst_one hy
        refine fn_of_wp f15 rfl (W_sound oOr_ok mixed _ _ _ _ _ ?_)
        by_cases e0 : o.kind = 0
        · have hw : ∀ L, opOf (S ++ L) [.i .i64 o.kind, .i .i64 0, .i .i64 0, .i .u64 0, x, .i .i64 0, .i .u8 0, .i .u8 0, .i .u8 0, .i .u8 0, .i .i64 0, .i .u64 0, .i .u64 0, .i .u64 0, .i .u64 0, .i .u64 0, .i .u64 0, .i .u64 0, .sn] = some ({ opz o.kind with bs := o.bs }) := fun L => opOf_mk (p := Pol.zero) (lstV_grow hx L) rfl
          have how : o.own = { opz o.kind with bs := o.bs } := by unfold Opx.own; rw [if_pos e0]
          have hs := fun L => sameS_eq (opOf_grow ho L) (hw L) hl1 hl2
          rw [← how] at hs
          rw [e0] at hs
          have c1 : 0 ≤ o.kind := by omega
          have c2 : o.kind ≤ 12 := by omega
          by_cases c3 : o.bs.length ≤ 2000
          · have c3I : (o.bs.length : Int) ≤ 2000 := by omega
            by_cases c4 : o.ks.length ≤ 64
            · have c4I : (o.ks.length : Int) ≤ 64 := by omega
              simp (maxSteps := 1000000) (disch := omega) only [c15, cx, cy, lx, ly, ox, oy, List.replicate, e0, c3I, c4I, orc_cons, hs, go_sem]
              exact wkv_bP (ext_app _) (own_iff c1 c2 c3 c4).symm
            · have c4I : ¬ (o.ks.length : Int) ≤ 64 := by omega
              simp (maxSteps := 1000000) (disch := omega) only [c15, cx, cy, lx, ly, ox, oy, List.replicate, e0, c3I, c4I, go_sem]
              exact wkv_fP (ext_app _) fun r => c4 r.2.2.2.1
          · have c3I : ¬ (o.bs.length : Int) ≤ 2000 := by omega
            simp (maxSteps := 1000000) (disch := omega) only [c15, cx, cy, lx, ly, ox, oy, List.replicate, e0, c3I, go_sem]
            exact wkv_fP (ext_app _) fun r => c3 r.2.2.1
        by_cases e1 : o.kind = 1
        · have hw : ∀ L, opOf (S ++ L) [.i .i64 o.kind, .i .i64 0, .i .i64 0, .i .u64 o.n, .sn, .i .i64 0, .i .u8 0, .i .u8 0, .i .u8 0, .i .u8 0, .i .i64 0, .i .u64 0, .i .u64 0, .i .u64 0, .i .u64 0, .i .u64 0, .i .u64 0, .i .u64 0, .sn] = some ({ opz o.kind with n := o.n }) := fun L => opOf_mk (p := Pol.zero) rfl rfl
          have how : o.own = { opz o.kind with n := o.n } := by unfold Opx.own; rw [if_neg e0]; rw [if_pos e1]
          have hs := fun L => sameS_eq (opOf_grow ho L) (hw L) hl1 hl2
          rw [← how] at hs
          rw [e1] at hs
          have c1 : 0 ≤ o.kind := by omega
          have c2 : o.kind ≤ 12 := by omega
          by_cases c3 : o.bs.length ≤ 2000
          · have c3I : (o.bs.length : Int) ≤ 2000 := by omega
            by_cases c4 : o.ks.length ≤ 64
            · have c4I : (o.ks.length : Int) ≤ 64 := by omega
              simp (maxSteps := 1000000) (disch := omega) only [c15, cx, cy, lx, ly, ox, oy, List.replicate, e1, e0, c3I, c4I, orc_cons, hs, go_sem]
              exact wkv_bP (ext_app _) (own_iff c1 c2 c3 c4).symm
            · have c4I : ¬ (o.ks.length : Int) ≤ 64 := by omega
              simp (maxSteps := 1000000) (disch := omega) only [c15, cx, cy, lx, ly, ox, oy, List.replicate, e1, e0, c3I, c4I, go_sem]
              exact wkv_fP (ext_app _) fun r => c4 r.2.2.2.1
          · have c3I : ¬ (o.bs.length : Int) ≤ 2000 := by omega
            simp (maxSteps := 1000000) (disch := omega) only [c15, cx, cy, lx, ly, ox, oy, List.replicate, e1, e0, c3I, go_sem]
            exact wkv_fP (ext_app _) fun r => c3 r.2.2.1
        by_cases e4 : o.kind = 4
        · have hw : ∀ L, opOf (S ++ L) [.i .i64 o.kind, .i .i64 0, .i .i64 0, .i .u64 0, .sn, .i .i64 o.pol.sub, .i .u8 o.pol.a, .i .u8 o.pol.b, .i .u8 o.pol.c, .i .u8 o.pol.d, .i .i64 o.pol.bits, .i .u64 o.pol.rate, .i .u64 o.pol.burst, .i .u64 o.pol.srate, .i .u64 o.pol.sburst, .i .u64 o.pol.quota, .i .u64 o.pol.lease, .i .u64 o.pol.quantum, .sn] = some ({ opz o.kind with pol := o.pol }) := fun L => opOf_mk (p := o.pol) rfl rfl
          have how : o.own = { opz o.kind with pol := o.pol } := by unfold Opx.own; rw [if_neg e0]; rw [if_neg e1]; rw [if_pos e4]
          have hs := fun L => sameS_eq (opOf_grow ho L) (hw L) hl1 hl2
          rw [← how] at hs
          rw [e4] at hs
          have c1 : 0 ≤ o.kind := by omega
          have c2 : o.kind ≤ 12 := by omega
          by_cases c3 : o.bs.length ≤ 2000
          · have c3I : (o.bs.length : Int) ≤ 2000 := by omega
            by_cases c4 : o.ks.length ≤ 64
            · have c4I : (o.ks.length : Int) ≤ 64 := by omega
              simp (maxSteps := 1000000) (disch := omega) only [c15, cx, cy, lx, ly, ox, oy, List.replicate, e4, e0, e1, c3I, c4I, orc_cons, hs, go_sem]
              exact wkv_bP (ext_app _) (own_iff c1 c2 c3 c4).symm
            · have c4I : ¬ (o.ks.length : Int) ≤ 64 := by omega
              simp (maxSteps := 1000000) (disch := omega) only [c15, cx, cy, lx, ly, ox, oy, List.replicate, e4, e0, e1, c3I, c4I, go_sem]
              exact wkv_fP (ext_app _) fun r => c4 r.2.2.2.1
          · have c3I : ¬ (o.bs.length : Int) ≤ 2000 := by omega
            simp (maxSteps := 1000000) (disch := omega) only [c15, cx, cy, lx, ly, ox, oy, List.replicate, e4, e0, e1, c3I, go_sem]
            exact wkv_fP (ext_app _) fun r => c3 r.2.2.1
        by_cases e5 : o.kind = 5
        · have hw : ∀ L, opOf (S ++ L) [.i .i64 o.kind, .i .i64 o.sub, .i .i64 0, .i .u64 0, .sn, .i .i64 0, .i .u8 0, .i .u8 0, .i .u8 0, .i .u8 0, .i .i64 0, .i .u64 0, .i .u64 0, .i .u64 0, .i .u64 0, .i .u64 0, .i .u64 0, .i .u64 0, .sn] = some ({ opz o.kind with sub := o.sub }) := fun L => opOf_mk (p := Pol.zero) rfl rfl
          have how : o.own = { opz o.kind with sub := o.sub } := by unfold Opx.own; rw [if_neg e0]; rw [if_neg e1]; rw [if_neg e4]; rw [if_pos e5]
          have hs := fun L => sameS_eq (opOf_grow ho L) (hw L) hl1 hl2
          rw [← how] at hs
          rw [e5] at hs
          have c1 : 0 ≤ o.kind := by omega
          have c2 : o.kind ≤ 12 := by omega
          by_cases c3 : o.bs.length ≤ 2000
          · have c3I : (o.bs.length : Int) ≤ 2000 := by omega
            by_cases c4 : o.ks.length ≤ 64
            · have c4I : (o.ks.length : Int) ≤ 64 := by omega
              simp (maxSteps := 1000000) (disch := omega) only [c15, cx, cy, lx, ly, ox, oy, List.replicate, e5, e0, e1, e4, c3I, c4I, orc_cons, hs, go_sem]
              exact wkv_bP (ext_app _) (own_iff c1 c2 c3 c4).symm
            · have c4I : ¬ (o.ks.length : Int) ≤ 64 := by omega
              simp (maxSteps := 1000000) (disch := omega) only [c15, cx, cy, lx, ly, ox, oy, List.replicate, e5, e0, e1, e4, c3I, c4I, go_sem]
              exact wkv_fP (ext_app _) fun r => c4 r.2.2.2.1
          · have c3I : ¬ (o.bs.length : Int) ≤ 2000 := by omega
            simp (maxSteps := 1000000) (disch := omega) only [c15, cx, cy, lx, ly, ox, oy, List.replicate, e5, e0, e1, e4, c3I, go_sem]
            exact wkv_fP (ext_app _) fun r => c3 r.2.2.1
        by_cases e8 : o.kind = 8
        · have hw : ∀ L, opOf (S ++ L) [.i .i64 o.kind, .i .i64 o.sub, .i .i64 0, .i .u64 0, .sn, .i .i64 0, .i .u8 0, .i .u8 0, .i .u8 0, .i .u8 0, .i .i64 0, .i .u64 0, .i .u64 0, .i .u64 0, .i .u64 0, .i .u64 0, .i .u64 0, .i .u64 0, .sn] = some ({ opz o.kind with sub := o.sub }) := fun L => opOf_mk (p := Pol.zero) rfl rfl
          have how : o.own = { opz o.kind with sub := o.sub } := by unfold Opx.own; rw [if_neg e0]; rw [if_neg e1]; rw [if_neg e4]; rw [if_neg e5]; rw [if_pos e8]
          have hs := fun L => sameS_eq (opOf_grow ho L) (hw L) hl1 hl2
          rw [← how] at hs
          rw [e8] at hs
          have c1 : 0 ≤ o.kind := by omega
          have c2 : o.kind ≤ 12 := by omega
          by_cases c3 : o.bs.length ≤ 2000
          · have c3I : (o.bs.length : Int) ≤ 2000 := by omega
            by_cases c4 : o.ks.length ≤ 64
            · have c4I : (o.ks.length : Int) ≤ 64 := by omega
              simp (maxSteps := 1000000) (disch := omega) only [c15, cx, cy, lx, ly, ox, oy, List.replicate, e8, e0, e1, e4, e5, c3I, c4I, orc_cons, hs, go_sem]
              exact wkv_bP (ext_app _) (own_iff c1 c2 c3 c4).symm
            · have c4I : ¬ (o.ks.length : Int) ≤ 64 := by omega
              simp (maxSteps := 1000000) (disch := omega) only [c15, cx, cy, lx, ly, ox, oy, List.replicate, e8, e0, e1, e4, e5, c3I, c4I, go_sem]
              exact wkv_fP (ext_app _) fun r => c4 r.2.2.2.1
          · have c3I : ¬ (o.bs.length : Int) ≤ 2000 := by omega
            simp (maxSteps := 1000000) (disch := omega) only [c15, cx, cy, lx, ly, ox, oy, List.replicate, e8, e0, e1, e4, e5, c3I, go_sem]
            exact wkv_fP (ext_app _) fun r => c3 r.2.2.1
        by_cases e10 : o.kind = 10
        · have hw : ∀ L, opOf (S ++ L) [.i .i64 o.kind, .i .i64 0, .i .i64 o.brk, .i .u64 0, .sn, .i .i64 0, .i .u8 0, .i .u8 0, .i .u8 0, .i .u8 0, .i .i64 0, .i .u64 0, .i .u64 0, .i .u64 0, .i .u64 0, .i .u64 0, .i .u64 0, .i .u64 0, .sn] = some ({ opz o.kind with brk := o.brk }) := fun L => opOf_mk (p := Pol.zero) rfl rfl
          have how : o.own = { opz o.kind with brk := o.brk } := by unfold Opx.own; rw [if_neg e0]; rw [if_neg e1]; rw [if_neg e4]; rw [if_neg e5]; rw [if_neg e8]; rw [if_pos e10]
          have hs := fun L => sameS_eq (opOf_grow ho L) (hw L) hl1 hl2
          rw [← how] at hs
          rw [e10] at hs
          have c1 : 0 ≤ o.kind := by omega
          have c2 : o.kind ≤ 12 := by omega
          by_cases c3 : o.bs.length ≤ 2000
          · have c3I : (o.bs.length : Int) ≤ 2000 := by omega
            by_cases c4 : o.ks.length ≤ 64
            · have c4I : (o.ks.length : Int) ≤ 64 := by omega
              simp (maxSteps := 1000000) (disch := omega) only [c15, cx, cy, lx, ly, ox, oy, List.replicate, e10, e0, e1, e4, e5, e8, c3I, c4I, orc_cons, hs, go_sem]
              exact wkv_bP (ext_app _) (own_iff c1 c2 c3 c4).symm
            · have c4I : ¬ (o.ks.length : Int) ≤ 64 := by omega
              simp (maxSteps := 1000000) (disch := omega) only [c15, cx, cy, lx, ly, ox, oy, List.replicate, e10, e0, e1, e4, e5, e8, c3I, c4I, go_sem]
              exact wkv_fP (ext_app _) fun r => c4 r.2.2.2.1
          · have c3I : ¬ (o.bs.length : Int) ≤ 2000 := by omega
            simp (maxSteps := 1000000) (disch := omega) only [c15, cx, cy, lx, ly, ox, oy, List.replicate, e10, e0, e1, e4, e5, e8, c3I, go_sem]
            exact wkv_fP (ext_app _) fun r => c3 r.2.2.1
        by_cases e11 : o.kind = 11
        · have hw : ∀ L, opOf (S ++ L) [.i .i64 o.kind, .i .i64 0, .i .i64 0, .i .u64 0, .sn, .i .i64 0, .i .u8 0, .i .u8 0, .i .u8 0, .i .u8 0, .i .i64 0, .i .u64 0, .i .u64 0, .i .u64 0, .i .u64 0, .i .u64 0, .i .u64 0, .i .u64 0, y] = some ({ opz o.kind with ks := o.ks }) := fun L => opOf_mk (p := Pol.zero) rfl (lstV_grow hy L)
          have how : o.own = { opz o.kind with ks := o.ks } := by unfold Opx.own; rw [if_neg e0]; rw [if_neg e1]; rw [if_neg e4]; rw [if_neg e5]; rw [if_neg e8]; rw [if_neg e10]; rw [if_pos e11]
          have hs := fun L => sameS_eq (opOf_grow ho L) (hw L) hl1 hl2
          rw [← how] at hs
          rw [e11] at hs
          have c1 : 0 ≤ o.kind := by omega
          have c2 : o.kind ≤ 12 := by omega
          by_cases c3 : o.bs.length ≤ 2000
          · have c3I : (o.bs.length : Int) ≤ 2000 := by omega
            by_cases c4 : o.ks.length ≤ 64
            · have c4I : (o.ks.length : Int) ≤ 64 := by omega
              simp (maxSteps := 1000000) (disch := omega) only [c15, cx, cy, lx, ly, ox, oy, List.replicate, e11, e0, e1, e4, e5, e8, e10, c3I, c4I, orc_cons, hs, go_sem]
              exact wkv_bP (ext_app _) (own_iff c1 c2 c3 c4).symm
            · have c4I : ¬ (o.ks.length : Int) ≤ 64 := by omega
              simp (maxSteps := 1000000) (disch := omega) only [c15, cx, cy, lx, ly, ox, oy, List.replicate, e11, e0, e1, e4, e5, e8, e10, c3I, c4I, go_sem]
              exact wkv_fP (ext_app _) fun r => c4 r.2.2.2.1
          · have c3I : ¬ (o.bs.length : Int) ≤ 2000 := by omega
            simp (maxSteps := 1000000) (disch := omega) only [c15, cx, cy, lx, ly, ox, oy, List.replicate, e11, e0, e1, e4, e5, e8, e10, c3I, go_sem]
            exact wkv_fP (ext_app _) fun r => c3 r.2.2.1
        have hw : ∀ L, opOf (S ++ L) [.i .i64 o.kind, .i .i64 0, .i .i64 0, .i .u64 0, .sn, .i .i64 0, .i .u8 0, .i .u8 0, .i .u8 0, .i .u8 0, .i .i64 0, .i .u64 0, .i .u64 0, .i .u64 0, .i .u64 0, .i .u64 0, .i .u64 0, .i .u64 0, .sn] = some (opz o.kind) := fun L => opOf_mk (p := Pol.zero) rfl rfl
        have how : o.own = opz o.kind := by unfold Opx.own; rw [if_neg e0]; rw [if_neg e1]; rw [if_neg e4]; rw [if_neg e5]; rw [if_neg e8]; rw [if_neg e10]; rw [if_neg e11]
        have hs := fun L => sameS_eq (opOf_grow ho L) (hw L) hl1 hl2
        rw [← how] at hs
        by_cases c1 : 0 ≤ o.kind
        · by_cases c2 : o.kind ≤ 12
          · by_cases c3 : o.bs.length ≤ 2000
            · have c3I : (o.bs.length : Int) ≤ 2000 := by omega
              by_cases c4 : o.ks.length ≤ 64
              · have c4I : (o.ks.length : Int) ≤ 64 := by omega
                simp (maxSteps := 1000000) (disch := omega) only [c15, cx, cy, lx, ly, ox, oy, List.replicate, e0, e1, e4, e5, e8, e10, e11, c1, c2, c3I, c4I, orc_cons, hs, go_sem]
                exact wkv_bP (ext_app _) (own_iff c1 c2 c3 c4).symm
              · have c4I : ¬ (o.ks.length : Int) ≤ 64 := by omega
                simp (maxSteps := 1000000) (disch := omega) only [c15, cx, cy, lx, ly, ox, oy, List.replicate, e0, e1, e4, e5, e8, e10, e11, c1, c2, c3I, c4I, go_sem]
                exact wkv_fP (ext_app _) fun r => c4 r.2.2.2.1
            · have c3I : ¬ (o.bs.length : Int) ≤ 2000 := by omega
              simp (maxSteps := 1000000) (disch := omega) only [c15, cx, cy, lx, ly, ox, oy, List.replicate, e0, e1, e4, e5, e8, e10, e11, c1, c2, c3I, go_sem]
              exact wkv_fP (ext_app _) fun r => c3 r.2.2.1
          · simp (maxSteps := 1000000) (disch := omega) only [c15, cx, cy, lx, ly, ox, oy, List.replicate, e0, e1, e4, e5, e8, e10, e11, c1, c2, go_sem]
            exact wkv_fP (ext_app _) fun r => c2 r.2.1
        · simp (maxSteps := 1000000) (disch := omega) only [c15, cx, cy, lx, ly, ox, oy, List.replicate, e0, e1, e4, e5, e8, e10, e11, c1, go_sem]
          exact wkv_fP (ext_app _) fun r => c1 r.1
      · cases h
    · cases h
  · cases h
set_option maxHeartbeats 4000000 in
theorem roright_ok : SpecOK Tryz.prog 16 orightS := by
  intro args S x S' h
  simp only [orightS] at h
  split at h
  · rename_i ca
    split at h
    · rename_i o ho
      split at h
      · rename_i hc
        obtain ⟨hl1, hl2⟩ := hc
        cases h
        obtain ⟨x, y, rfl, hx, hy⟩ := opOf_ok ho
        have lx := lst_len hx
        have ly := lst_len hy
        have cx := lst_cells hx
        have cy := lst_cells hy
        have ox := lst_one hx
        have oy := lst_one hy
        refine fn_of_wp f16 rfl (W_sound none_ok mixed _ _ _ _ _ ?_)
        have hzt : ¬ o.pol = Pol.zero → eqAgV true [.int, .int, .int, .int, .int, .int, .int, .int, .int, .int, .int, .int, .int] (.ag o.pol.enc) (.ag Pol.zero.enc) = some (.b true) := fun h => by rw [ne_pol, decide_eq_true h]
        have hzf : o.pol = Pol.zero → eqAgV true [.int, .int, .int, .int, .int, .int, .int, .int, .int, .int, .int, .int, .int] (.ag o.pol.enc) (.ag Pol.zero.enc) = some (.b false) := fun h => by rw [ne_pol, decide_eq_false (not_not_intro h)]
        simp only [Pol.enc, Pol.zero] at hzt hzf
        by_cases e0 : o.kind = 0
        · have c1 : 0 ≤ o.kind := by omega
          have c2 : o.kind ≤ 12 := by omega
          by_cases c3 : o.bs.length ≤ 2000
          rotate_left
          · have c3I : (2000 : Int) < o.bs.length := by omega
            simp (maxSteps := 1000000) (disch := omega) only [c16, cx, cy, lx, ly, e0, c3I, go_sem]
            exact wkv_fP (ext_app _) fun r => c3 r.2.2.1
          have c3I : ¬ (2000 : Int) < o.bs.length := by omega
          by_cases c4 : o.ks.length ≤ 64
          rotate_left
          · have c4I : (64 : Int) < o.ks.length := by omega
            simp (maxSteps := 1000000) (disch := omega) only [c16, cx, cy, lx, ly, e0, c3I, c4I, go_sem]
            exact wkv_fP (ext_app _) fun r => c4 r.2.2.2.1
          have c4I : ¬ (64 : Int) < o.ks.length := by omega
          by_cases c6 : o.n = 0
          · skip
            by_cases c7 : o.pol = Pol.zero
            · have hz := hzf c7
              by_cases c8 : o.sub = 0
              · skip
                by_cases c9 : o.brk = 0
                · skip
                  by_cases c10 : o.ks.length = 0
                  · have c10I : (o.ks.length : Int) = 0 := by omega
                    simp (maxSteps := 1000000) (disch := omega) only [c16, cx, cy, lx, ly, e0, c3I, c4I, c6, hz, c8, c9, c10I, go_sem]
                    exact wkv_tP (ext_app _) ⟨c1, c2, c3, c4, fun h => absurd e0 h, fun _ => c6, fun _ => c7, fun _ => c8, fun _ => c9, fun _ => List.eq_nil_of_length_eq_zero c10⟩
                  · have c10I : ¬ (o.ks.length : Int) = 0 := by omega
                    simp (maxSteps := 1000000) (disch := omega) only [c16, cx, cy, lx, ly, e0, c3I, c4I, c6, hz, c8, c9, c10I, go_sem]
                    exact wkv_fP (ext_app _) (fun r => c10 (by rw [r.2.2.2.2.2.2.2.2.2 (by omega)]; rfl))
                · simp (maxSteps := 1000000) (disch := omega) only [c16, cx, cy, lx, ly, e0, c3I, c4I, c6, hz, c8, c9, go_sem]
                  exact wkv_fP (ext_app _) (fun r => c9 (r.2.2.2.2.2.2.2.2.1 (by omega)))
              · simp (maxSteps := 1000000) (disch := omega) only [c16, cx, cy, lx, ly, e0, c3I, c4I, c6, hz, c8, go_sem]
                exact wkv_fP (ext_app _) (fun r => c8 (r.2.2.2.2.2.2.2.1 (by omega)))
            · have hz := hzt c7
              simp (maxSteps := 1000000) (disch := omega) only [c16, cx, cy, lx, ly, e0, c3I, c4I, c6, hz, go_sem]
              exact wkv_fP (ext_app _) (fun r => c7 (r.2.2.2.2.2.2.1 (by omega)))
          · simp (maxSteps := 1000000) (disch := omega) only [c16, cx, cy, lx, ly, e0, c3I, c4I, c6, go_sem]
            exact wkv_fP (ext_app _) (fun r => c6 (r.2.2.2.2.2.1 (by omega)))
        by_cases e1 : o.kind = 1
        · have c1 : 0 ≤ o.kind := by omega
          have c2 : o.kind ≤ 12 := by omega
          by_cases c3 : o.bs.length ≤ 2000
          rotate_left
          · have c3I : (2000 : Int) < o.bs.length := by omega
            simp (maxSteps := 1000000) (disch := omega) only [c16, cx, cy, lx, ly, e1, c3I, go_sem]
            exact wkv_fP (ext_app _) fun r => c3 r.2.2.1
          have c3I : ¬ (2000 : Int) < o.bs.length := by omega
          by_cases c4 : o.ks.length ≤ 64
          rotate_left
          · have c4I : (64 : Int) < o.ks.length := by omega
            simp (maxSteps := 1000000) (disch := omega) only [c16, cx, cy, lx, ly, e1, c3I, c4I, go_sem]
            exact wkv_fP (ext_app _) fun r => c4 r.2.2.2.1
          have c4I : ¬ (64 : Int) < o.ks.length := by omega
          by_cases c5 : o.bs.length = 0
          · have c5I : ¬ (0 : Int) < o.bs.length := by omega
            by_cases c7 : o.pol = Pol.zero
            · have hz := hzf c7
              by_cases c8 : o.sub = 0
              · skip
                by_cases c9 : o.brk = 0
                · skip
                  by_cases c10 : o.ks.length = 0
                  · have c10I : (o.ks.length : Int) = 0 := by omega
                    simp (maxSteps := 1000000) (disch := omega) only [c16, cx, cy, lx, ly, e1, c3I, c4I, c5I, hz, c8, c9, c10I, go_sem]
                    exact wkv_tP (ext_app _) ⟨c1, c2, c3, c4, fun _ => List.eq_nil_of_length_eq_zero c5, fun h => absurd e1 h, fun _ => c7, fun _ => c8, fun _ => c9, fun _ => List.eq_nil_of_length_eq_zero c10⟩
                  · have c10I : ¬ (o.ks.length : Int) = 0 := by omega
                    simp (maxSteps := 1000000) (disch := omega) only [c16, cx, cy, lx, ly, e1, c3I, c4I, c5I, hz, c8, c9, c10I, go_sem]
                    exact wkv_fP (ext_app _) (fun r => c10 (by rw [r.2.2.2.2.2.2.2.2.2 (by omega)]; rfl))
                · simp (maxSteps := 1000000) (disch := omega) only [c16, cx, cy, lx, ly, e1, c3I, c4I, c5I, hz, c8, c9, go_sem]
                  exact wkv_fP (ext_app _) (fun r => c9 (r.2.2.2.2.2.2.2.2.1 (by omega)))
              · simp (maxSteps := 1000000) (disch := omega) only [c16, cx, cy, lx, ly, e1, c3I, c4I, c5I, hz, c8, go_sem]
                exact wkv_fP (ext_app _) (fun r => c8 (r.2.2.2.2.2.2.2.1 (by omega)))
            · have hz := hzt c7
              simp (maxSteps := 1000000) (disch := omega) only [c16, cx, cy, lx, ly, e1, c3I, c4I, c5I, hz, go_sem]
              exact wkv_fP (ext_app _) (fun r => c7 (r.2.2.2.2.2.2.1 (by omega)))
          · have c5I : (0 : Int) < o.bs.length := by omega
            simp (maxSteps := 1000000) (disch := omega) only [c16, cx, cy, lx, ly, e1, c3I, c4I, c5I, go_sem]
            exact wkv_fP (ext_app _) (fun r => c5 (by rw [r.2.2.2.2.1 (by omega)]; rfl))
        by_cases e4 : o.kind = 4
        · have c1 : 0 ≤ o.kind := by omega
          have c2 : o.kind ≤ 12 := by omega
          by_cases c3 : o.bs.length ≤ 2000
          rotate_left
          · have c3I : (2000 : Int) < o.bs.length := by omega
            simp (maxSteps := 1000000) (disch := omega) only [c16, cx, cy, lx, ly, e4, c3I, go_sem]
            exact wkv_fP (ext_app _) fun r => c3 r.2.2.1
          have c3I : ¬ (2000 : Int) < o.bs.length := by omega
          by_cases c4 : o.ks.length ≤ 64
          rotate_left
          · have c4I : (64 : Int) < o.ks.length := by omega
            simp (maxSteps := 1000000) (disch := omega) only [c16, cx, cy, lx, ly, e4, c3I, c4I, go_sem]
            exact wkv_fP (ext_app _) fun r => c4 r.2.2.2.1
          have c4I : ¬ (64 : Int) < o.ks.length := by omega
          by_cases c5 : o.bs.length = 0
          · have c5I : ¬ (0 : Int) < o.bs.length := by omega
            by_cases c6 : o.n = 0
            · skip
              by_cases c8 : o.sub = 0
              · skip
                by_cases c9 : o.brk = 0
                · skip
                  by_cases c10 : o.ks.length = 0
                  · have c10I : (o.ks.length : Int) = 0 := by omega
                    simp (maxSteps := 1000000) (disch := omega) only [c16, cx, cy, lx, ly, e4, c3I, c4I, c5I, c6, c8, c9, c10I, go_sem]
                    exact wkv_tP (ext_app _) ⟨c1, c2, c3, c4, fun _ => List.eq_nil_of_length_eq_zero c5, fun _ => c6, fun h => absurd e4 h, fun _ => c8, fun _ => c9, fun _ => List.eq_nil_of_length_eq_zero c10⟩
                  · have c10I : ¬ (o.ks.length : Int) = 0 := by omega
                    simp (maxSteps := 1000000) (disch := omega) only [c16, cx, cy, lx, ly, e4, c3I, c4I, c5I, c6, c8, c9, c10I, go_sem]
                    exact wkv_fP (ext_app _) (fun r => c10 (by rw [r.2.2.2.2.2.2.2.2.2 (by omega)]; rfl))
                · simp (maxSteps := 1000000) (disch := omega) only [c16, cx, cy, lx, ly, e4, c3I, c4I, c5I, c6, c8, c9, go_sem]
                  exact wkv_fP (ext_app _) (fun r => c9 (r.2.2.2.2.2.2.2.2.1 (by omega)))
              · simp (maxSteps := 1000000) (disch := omega) only [c16, cx, cy, lx, ly, e4, c3I, c4I, c5I, c6, c8, go_sem]
                exact wkv_fP (ext_app _) (fun r => c8 (r.2.2.2.2.2.2.2.1 (by omega)))
            · simp (maxSteps := 1000000) (disch := omega) only [c16, cx, cy, lx, ly, e4, c3I, c4I, c5I, c6, go_sem]
              exact wkv_fP (ext_app _) (fun r => c6 (r.2.2.2.2.2.1 (by omega)))
          · have c5I : (0 : Int) < o.bs.length := by omega
            simp (maxSteps := 1000000) (disch := omega) only [c16, cx, cy, lx, ly, e4, c3I, c4I, c5I, go_sem]
            exact wkv_fP (ext_app _) (fun r => c5 (by rw [r.2.2.2.2.1 (by omega)]; rfl))
        by_cases e5 : o.kind = 5
        · have c1 : 0 ≤ o.kind := by omega
          have c2 : o.kind ≤ 12 := by omega
          by_cases c3 : o.bs.length ≤ 2000
          rotate_left
          · have c3I : (2000 : Int) < o.bs.length := by omega
            simp (maxSteps := 1000000) (disch := omega) only [c16, cx, cy, lx, ly, e5, c3I, go_sem]
            exact wkv_fP (ext_app _) fun r => c3 r.2.2.1
          have c3I : ¬ (2000 : Int) < o.bs.length := by omega
          by_cases c4 : o.ks.length ≤ 64
          rotate_left
          · have c4I : (64 : Int) < o.ks.length := by omega
            simp (maxSteps := 1000000) (disch := omega) only [c16, cx, cy, lx, ly, e5, c3I, c4I, go_sem]
            exact wkv_fP (ext_app _) fun r => c4 r.2.2.2.1
          have c4I : ¬ (64 : Int) < o.ks.length := by omega
          by_cases c5 : o.bs.length = 0
          · have c5I : ¬ (0 : Int) < o.bs.length := by omega
            by_cases c6 : o.n = 0
            · skip
              by_cases c7 : o.pol = Pol.zero
              · have hz := hzf c7
                by_cases c9 : o.brk = 0
                · skip
                  by_cases c10 : o.ks.length = 0
                  · have c10I : (o.ks.length : Int) = 0 := by omega
                    simp (maxSteps := 1000000) (disch := omega) only [c16, cx, cy, lx, ly, e5, c3I, c4I, c5I, c6, hz, c9, c10I, go_sem]
                    exact wkv_tP (ext_app _) ⟨c1, c2, c3, c4, fun _ => List.eq_nil_of_length_eq_zero c5, fun _ => c6, fun _ => c7, fun h => by omega, fun _ => c9, fun _ => List.eq_nil_of_length_eq_zero c10⟩
                  · have c10I : ¬ (o.ks.length : Int) = 0 := by omega
                    simp (maxSteps := 1000000) (disch := omega) only [c16, cx, cy, lx, ly, e5, c3I, c4I, c5I, c6, hz, c9, c10I, go_sem]
                    exact wkv_fP (ext_app _) (fun r => c10 (by rw [r.2.2.2.2.2.2.2.2.2 (by omega)]; rfl))
                · simp (maxSteps := 1000000) (disch := omega) only [c16, cx, cy, lx, ly, e5, c3I, c4I, c5I, c6, hz, c9, go_sem]
                  exact wkv_fP (ext_app _) (fun r => c9 (r.2.2.2.2.2.2.2.2.1 (by omega)))
              · have hz := hzt c7
                simp (maxSteps := 1000000) (disch := omega) only [c16, cx, cy, lx, ly, e5, c3I, c4I, c5I, c6, hz, go_sem]
                exact wkv_fP (ext_app _) (fun r => c7 (r.2.2.2.2.2.2.1 (by omega)))
            · simp (maxSteps := 1000000) (disch := omega) only [c16, cx, cy, lx, ly, e5, c3I, c4I, c5I, c6, go_sem]
              exact wkv_fP (ext_app _) (fun r => c6 (r.2.2.2.2.2.1 (by omega)))
          · have c5I : (0 : Int) < o.bs.length := by omega
            simp (maxSteps := 1000000) (disch := omega) only [c16, cx, cy, lx, ly, e5, c3I, c4I, c5I, go_sem]
            exact wkv_fP (ext_app _) (fun r => c5 (by rw [r.2.2.2.2.1 (by omega)]; rfl))
        by_cases e8 : o.kind = 8
        · have c1 : 0 ≤ o.kind := by omega
          have c2 : o.kind ≤ 12 := by omega
          by_cases c3 : o.bs.length ≤ 2000
          rotate_left
          · have c3I : (2000 : Int) < o.bs.length := by omega
            simp (maxSteps := 1000000) (disch := omega) only [c16, cx, cy, lx, ly, e8, c3I, go_sem]
            exact wkv_fP (ext_app _) fun r => c3 r.2.2.1
          have c3I : ¬ (2000 : Int) < o.bs.length := by omega
          by_cases c4 : o.ks.length ≤ 64
          rotate_left
          · have c4I : (64 : Int) < o.ks.length := by omega
            simp (maxSteps := 1000000) (disch := omega) only [c16, cx, cy, lx, ly, e8, c3I, c4I, go_sem]
            exact wkv_fP (ext_app _) fun r => c4 r.2.2.2.1
          have c4I : ¬ (64 : Int) < o.ks.length := by omega
          by_cases c5 : o.bs.length = 0
          · have c5I : ¬ (0 : Int) < o.bs.length := by omega
            by_cases c6 : o.n = 0
            · skip
              by_cases c7 : o.pol = Pol.zero
              · have hz := hzf c7
                by_cases c9 : o.brk = 0
                · skip
                  by_cases c10 : o.ks.length = 0
                  · have c10I : (o.ks.length : Int) = 0 := by omega
                    simp (maxSteps := 1000000) (disch := omega) only [c16, cx, cy, lx, ly, e8, c3I, c4I, c5I, c6, hz, c9, c10I, go_sem]
                    exact wkv_tP (ext_app _) ⟨c1, c2, c3, c4, fun _ => List.eq_nil_of_length_eq_zero c5, fun _ => c6, fun _ => c7, fun h => by omega, fun _ => c9, fun _ => List.eq_nil_of_length_eq_zero c10⟩
                  · have c10I : ¬ (o.ks.length : Int) = 0 := by omega
                    simp (maxSteps := 1000000) (disch := omega) only [c16, cx, cy, lx, ly, e8, c3I, c4I, c5I, c6, hz, c9, c10I, go_sem]
                    exact wkv_fP (ext_app _) (fun r => c10 (by rw [r.2.2.2.2.2.2.2.2.2 (by omega)]; rfl))
                · simp (maxSteps := 1000000) (disch := omega) only [c16, cx, cy, lx, ly, e8, c3I, c4I, c5I, c6, hz, c9, go_sem]
                  exact wkv_fP (ext_app _) (fun r => c9 (r.2.2.2.2.2.2.2.2.1 (by omega)))
              · have hz := hzt c7
                simp (maxSteps := 1000000) (disch := omega) only [c16, cx, cy, lx, ly, e8, c3I, c4I, c5I, c6, hz, go_sem]
                exact wkv_fP (ext_app _) (fun r => c7 (r.2.2.2.2.2.2.1 (by omega)))
            · simp (maxSteps := 1000000) (disch := omega) only [c16, cx, cy, lx, ly, e8, c3I, c4I, c5I, c6, go_sem]
              exact wkv_fP (ext_app _) (fun r => c6 (r.2.2.2.2.2.1 (by omega)))
          · have c5I : (0 : Int) < o.bs.length := by omega
            simp (maxSteps := 1000000) (disch := omega) only [c16, cx, cy, lx, ly, e8, c3I, c4I, c5I, go_sem]
            exact wkv_fP (ext_app _) (fun r => c5 (by rw [r.2.2.2.2.1 (by omega)]; rfl))
        by_cases e10 : o.kind = 10
        · have c1 : 0 ≤ o.kind := by omega
          have c2 : o.kind ≤ 12 := by omega
          by_cases c3 : o.bs.length ≤ 2000
          rotate_left
          · have c3I : (2000 : Int) < o.bs.length := by omega
            simp (maxSteps := 1000000) (disch := omega) only [c16, cx, cy, lx, ly, e10, c3I, go_sem]
            exact wkv_fP (ext_app _) fun r => c3 r.2.2.1
          have c3I : ¬ (2000 : Int) < o.bs.length := by omega
          by_cases c4 : o.ks.length ≤ 64
          rotate_left
          · have c4I : (64 : Int) < o.ks.length := by omega
            simp (maxSteps := 1000000) (disch := omega) only [c16, cx, cy, lx, ly, e10, c3I, c4I, go_sem]
            exact wkv_fP (ext_app _) fun r => c4 r.2.2.2.1
          have c4I : ¬ (64 : Int) < o.ks.length := by omega
          by_cases c5 : o.bs.length = 0
          · have c5I : ¬ (0 : Int) < o.bs.length := by omega
            by_cases c6 : o.n = 0
            · skip
              by_cases c7 : o.pol = Pol.zero
              · have hz := hzf c7
                by_cases c8 : o.sub = 0
                · skip
                  by_cases c10 : o.ks.length = 0
                  · have c10I : (o.ks.length : Int) = 0 := by omega
                    simp (maxSteps := 1000000) (disch := omega) only [c16, cx, cy, lx, ly, e10, c3I, c4I, c5I, c6, hz, c8, c10I, go_sem]
                    exact wkv_tP (ext_app _) ⟨c1, c2, c3, c4, fun _ => List.eq_nil_of_length_eq_zero c5, fun _ => c6, fun _ => c7, fun _ => c8, fun h => absurd e10 h, fun _ => List.eq_nil_of_length_eq_zero c10⟩
                  · have c10I : ¬ (o.ks.length : Int) = 0 := by omega
                    simp (maxSteps := 1000000) (disch := omega) only [c16, cx, cy, lx, ly, e10, c3I, c4I, c5I, c6, hz, c8, c10I, go_sem]
                    exact wkv_fP (ext_app _) (fun r => c10 (by rw [r.2.2.2.2.2.2.2.2.2 (by omega)]; rfl))
                · simp (maxSteps := 1000000) (disch := omega) only [c16, cx, cy, lx, ly, e10, c3I, c4I, c5I, c6, hz, c8, go_sem]
                  exact wkv_fP (ext_app _) (fun r => c8 (r.2.2.2.2.2.2.2.1 (by omega)))
              · have hz := hzt c7
                simp (maxSteps := 1000000) (disch := omega) only [c16, cx, cy, lx, ly, e10, c3I, c4I, c5I, c6, hz, go_sem]
                exact wkv_fP (ext_app _) (fun r => c7 (r.2.2.2.2.2.2.1 (by omega)))
            · simp (maxSteps := 1000000) (disch := omega) only [c16, cx, cy, lx, ly, e10, c3I, c4I, c5I, c6, go_sem]
              exact wkv_fP (ext_app _) (fun r => c6 (r.2.2.2.2.2.1 (by omega)))
          · have c5I : (0 : Int) < o.bs.length := by omega
            simp (maxSteps := 1000000) (disch := omega) only [c16, cx, cy, lx, ly, e10, c3I, c4I, c5I, go_sem]
            exact wkv_fP (ext_app _) (fun r => c5 (by rw [r.2.2.2.2.1 (by omega)]; rfl))
        by_cases e11 : o.kind = 11
        · have c1 : 0 ≤ o.kind := by omega
          have c2 : o.kind ≤ 12 := by omega
          by_cases c3 : o.bs.length ≤ 2000
          rotate_left
          · have c3I : (2000 : Int) < o.bs.length := by omega
            simp (maxSteps := 1000000) (disch := omega) only [c16, cx, cy, lx, ly, e11, c3I, go_sem]
            exact wkv_fP (ext_app _) fun r => c3 r.2.2.1
          have c3I : ¬ (2000 : Int) < o.bs.length := by omega
          by_cases c4 : o.ks.length ≤ 64
          rotate_left
          · have c4I : (64 : Int) < o.ks.length := by omega
            simp (maxSteps := 1000000) (disch := omega) only [c16, cx, cy, lx, ly, e11, c3I, c4I, go_sem]
            exact wkv_fP (ext_app _) fun r => c4 r.2.2.2.1
          have c4I : ¬ (64 : Int) < o.ks.length := by omega
          by_cases c5 : o.bs.length = 0
          · have c5I : ¬ (0 : Int) < o.bs.length := by omega
            by_cases c6 : o.n = 0
            · skip
              by_cases c7 : o.pol = Pol.zero
              · have hz := hzf c7
                by_cases c8 : o.sub = 0
                · skip
                  by_cases c9 : o.brk = 0
                  · skip
                    simp (maxSteps := 1000000) (disch := omega) only [c16, cx, cy, lx, ly, e11, c3I, c4I, c5I, c6, hz, c8, c9, go_sem]
                    exact wkv_tP (ext_app _) ⟨c1, c2, c3, c4, fun _ => List.eq_nil_of_length_eq_zero c5, fun _ => c6, fun _ => c7, fun _ => c8, fun _ => c9, fun h => absurd e11 h⟩
                  · simp (maxSteps := 1000000) (disch := omega) only [c16, cx, cy, lx, ly, e11, c3I, c4I, c5I, c6, hz, c8, c9, go_sem]
                    exact wkv_fP (ext_app _) (fun r => c9 (r.2.2.2.2.2.2.2.2.1 (by omega)))
                · simp (maxSteps := 1000000) (disch := omega) only [c16, cx, cy, lx, ly, e11, c3I, c4I, c5I, c6, hz, c8, go_sem]
                  exact wkv_fP (ext_app _) (fun r => c8 (r.2.2.2.2.2.2.2.1 (by omega)))
              · have hz := hzt c7
                simp (maxSteps := 1000000) (disch := omega) only [c16, cx, cy, lx, ly, e11, c3I, c4I, c5I, c6, hz, go_sem]
                exact wkv_fP (ext_app _) (fun r => c7 (r.2.2.2.2.2.2.1 (by omega)))
            · simp (maxSteps := 1000000) (disch := omega) only [c16, cx, cy, lx, ly, e11, c3I, c4I, c5I, c6, go_sem]
              exact wkv_fP (ext_app _) (fun r => c6 (r.2.2.2.2.2.1 (by omega)))
          · have c5I : (0 : Int) < o.bs.length := by omega
            simp (maxSteps := 1000000) (disch := omega) only [c16, cx, cy, lx, ly, e11, c3I, c4I, c5I, go_sem]
            exact wkv_fP (ext_app _) (fun r => c5 (by rw [r.2.2.2.2.1 (by omega)]; rfl))
        by_cases c1 : 0 ≤ o.kind
        rotate_left
        · have c1I : o.kind < 0 := by omega
          simp (maxSteps := 1000000) (disch := omega) only [c16, cx, cy, lx, ly, e0, e1, e4, e5, e8, e10, e11, c1I, go_sem]
          exact wkv_fP (ext_app _) fun r => c1 r.1
        have c1I : ¬ o.kind < 0 := by omega
        by_cases c2 : o.kind ≤ 12
        rotate_left
        · have c2I : 12 < o.kind := by omega
          simp (maxSteps := 1000000) (disch := omega) only [c16, cx, cy, lx, ly, e0, e1, e4, e5, e8, e10, e11, c1I, c2I, go_sem]
          exact wkv_fP (ext_app _) fun r => c2 r.2.1
        have c2I : ¬ 12 < o.kind := by omega
        by_cases c3 : o.bs.length ≤ 2000
        rotate_left
        · have c3I : (2000 : Int) < o.bs.length := by omega
          simp (maxSteps := 1000000) (disch := omega) only [c16, cx, cy, lx, ly, e0, e1, e4, e5, e8, e10, e11, c1I, c2I, c3I, go_sem]
          exact wkv_fP (ext_app _) fun r => c3 r.2.2.1
        have c3I : ¬ (2000 : Int) < o.bs.length := by omega
        by_cases c4 : o.ks.length ≤ 64
        rotate_left
        · have c4I : (64 : Int) < o.ks.length := by omega
          simp (maxSteps := 1000000) (disch := omega) only [c16, cx, cy, lx, ly, e0, e1, e4, e5, e8, e10, e11, c1I, c2I, c3I, c4I, go_sem]
          exact wkv_fP (ext_app _) fun r => c4 r.2.2.2.1
        have c4I : ¬ (64 : Int) < o.ks.length := by omega
        by_cases c5 : o.bs.length = 0
        · have c5I : ¬ (0 : Int) < o.bs.length := by omega
          by_cases c6 : o.n = 0
          · skip
            by_cases c7 : o.pol = Pol.zero
            · have hz := hzf c7
              by_cases c8 : o.sub = 0
              · skip
                by_cases c9 : o.brk = 0
                · skip
                  by_cases c10 : o.ks.length = 0
                  · have c10I : (o.ks.length : Int) = 0 := by omega
                    simp (maxSteps := 1000000) (disch := omega) only [c16, cx, cy, lx, ly, e0, e1, e4, e5, e8, e10, e11, c1I, c2I, c3I, c4I, c5I, c6, hz, c8, c9, c10I, go_sem]
                    exact wkv_tP (ext_app _) ⟨c1, c2, c3, c4, fun _ => List.eq_nil_of_length_eq_zero c5, fun _ => c6, fun _ => c7, fun _ => c8, fun _ => c9, fun _ => List.eq_nil_of_length_eq_zero c10⟩
                  · have c10I : ¬ (o.ks.length : Int) = 0 := by omega
                    simp (maxSteps := 1000000) (disch := omega) only [c16, cx, cy, lx, ly, e0, e1, e4, e5, e8, e10, e11, c1I, c2I, c3I, c4I, c5I, c6, hz, c8, c9, c10I, go_sem]
                    exact wkv_fP (ext_app _) (fun r => c10 (by rw [r.2.2.2.2.2.2.2.2.2 (by omega)]; rfl))
                · simp (maxSteps := 1000000) (disch := omega) only [c16, cx, cy, lx, ly, e0, e1, e4, e5, e8, e10, e11, c1I, c2I, c3I, c4I, c5I, c6, hz, c8, c9, go_sem]
                  exact wkv_fP (ext_app _) (fun r => c9 (r.2.2.2.2.2.2.2.2.1 (by omega)))
              · simp (maxSteps := 1000000) (disch := omega) only [c16, cx, cy, lx, ly, e0, e1, e4, e5, e8, e10, e11, c1I, c2I, c3I, c4I, c5I, c6, hz, c8, go_sem]
                exact wkv_fP (ext_app _) (fun r => c8 (r.2.2.2.2.2.2.2.1 (by omega)))
            · have hz := hzt c7
              simp (maxSteps := 1000000) (disch := omega) only [c16, cx, cy, lx, ly, e0, e1, e4, e5, e8, e10, e11, c1I, c2I, c3I, c4I, c5I, c6, hz, go_sem]
              exact wkv_fP (ext_app _) (fun r => c7 (r.2.2.2.2.2.2.1 (by omega)))
          · simp (maxSteps := 1000000) (disch := omega) only [c16, cx, cy, lx, ly, e0, e1, e4, e5, e8, e10, e11, c1I, c2I, c3I, c4I, c5I, c6, go_sem]
            exact wkv_fP (ext_app _) (fun r => c6 (r.2.2.2.2.2.1 (by omega)))
        · have c5I : (0 : Int) < o.bs.length := by omega
          simp (maxSteps := 1000000) (disch := omega) only [c16, cx, cy, lx, ly, e0, e1, e4, e5, e8, e10, e11, c1I, c2I, c3I, c4I, c5I, go_sem]
          exact wkv_fP (ext_app _) (fun r => c5 (by rw [r.2.2.2.2.1 (by omega)]; rfl))
      · cases h
    · cases h
  · cases h
end Go.Proofs.YtmolaemlenllmaaGreat

namespace Go.Proofs.YtmolaemlenllmaaGreat
open Go.RowKit
set_option linter.unusedSimpArgs false
set_option linter.unusedVariables false
set_option maxRecDepth 10000

/-! ### Zig -/
theorem xorq {cst : Bool} {a b : Int} : binV .int cst .xor (.i .u64 a) (.i .u64 b) = some (.i .u64 (wrapV .u64 ((Nat.xor (BitVec.ofInt 64 a).toNat (BitVec.ofInt 64 b).toNat : Nat) : Int))) := by
  rw [bin_i rfl]; rfl
theorem xor_0 {cst : Bool} {a : Int} (h : u64 a) : binV .int cst .xor (.i .u64 a) (.i .u64 0) = some (.i .u64 a) := by
  unfold u64 at h
  obtain ⟨n, rfl⟩ := Int.eq_ofNat_of_zero_le h.1
  have e1 : (BitVec.ofInt 64 (n : Int)).toNat = n := by simp [BitVec.toNat_ofInt]; omega
  have e2 : (BitVec.ofInt 64 0).toNat = 0 := rfl
  have e3 : Nat.xor n 0 = n := Nat.xor_zero n
  rw [xorq, e1, e2, e3, wrap_u64 h.1 h.2]
theorem xor_1 {cst : Bool} {a : Int} (h : u64 a) : binV .int cst .xor (.i .u64 a) (.i .u64 18446744073709551615) = some (.i .u64 (18446744073709551615 - a)) := by
  unfold u64 at h
  obtain ⟨n, rfl⟩ := Int.eq_ofNat_of_zero_le h.1
  have e1 : (BitVec.ofInt 64 (n : Int)).toNat = n := by simp [BitVec.toNat_ofInt]; omega
  have e2 : (BitVec.ofInt 64 18446744073709551615).toNat = 18446744073709551615 := rfl
  have e3 : Nat.xor n 18446744073709551615 = 18446744073709551615 - n := by
    have h1 : (BitVec.ofNat 64 n ^^^ BitVec.allOnes 64).toNat = (~~~ (BitVec.ofNat 64 n)).toNat := by rw [BitVec.xor_allOnes]
    rw [BitVec.toNat_xor, BitVec.toNat_not, BitVec.toNat_ofNat, BitVec.toNat_allOnes] at h1
    rw [show n % 2 ^ 64 = n from Nat.mod_eq_of_lt (by omega)] at h1
    exact h1
  rw [xorq, e1, e2, e3]
  have : ((18446744073709551615 - n : Nat) : Int) = 18446744073709551615 - (n : Int) := by omega
  rw [this, wrap_u64 (by omega) (by omega)]
def zigS : Spec := fun args S => match args with
  | [.i .i64 n] => if i64 n then some (.i .u64 (zig n), S) else none
  | _ => none
theorem zigS_eq {n : Int} (h : i64 n) (S : Mem) : zigS [.i .i64 n] S = some (.i .u64 (zig n), S) := by simp only [zigS, if_pos h]
theorem shl_1 {n : Int} : shiftV .shl .u64 n 1 = some (.i .u64 (wrapV .u64 (n * 2))) := rfl
theorem shr_63 {n : Int} : shiftV .shr .i64 n 63 = some (.i .i64 (Int.fdiv n 9223372036854775808)) := by
  simp only [shiftV, IntKind.bits]
  rfl
theorem zig_ok : SpecOK Tryz.prog 22 zigS := by
  intro args S x S' h
  simp only [zigS] at h
  split at h
  · rename_i n
    split at h
    · rename_i hn
      cases h
      unfold i64 at hn
      refine fn_of_wp f22 rfl (W_sound none_ok mixed _ _ _ _ _ ?_)
      by_cases h0 : n < 0
      · have hf : Int.fdiv n 9223372036854775808 = -1 := by rw [Int.fdiv_eq_ediv_of_nonneg _ (by omega)]; omega
        have w1 : wrapV .u64 n = n + 18446744073709551616 := by show n % 18446744073709551616 = _; omega
        have w2 : wrapV .u64 ((n + 18446744073709551616) * 2) = 2 * n + 18446744073709551616 := by show _ % 18446744073709551616 = _; omega
        have w3 : wrapV .u64 (-1) = 18446744073709551615 := rfl
        have hx := fun cst => xor_1 (cst := cst) (a := 2 * n + 18446744073709551616) ⟨by omega, by omega⟩
        have hz : zig n = 18446744073709551615 - (2 * n + 18446744073709551616) := by unfold zig; rw [if_pos h0]; omega
        rw [hz]
        simp (maxSteps := 1000000) (disch := omega) only [c22, shl_1, shr_63, hf, w1, w2, w3, hx, go_sem]
        exact wkv_same
      · have hf : Int.fdiv n 9223372036854775808 = 0 := by rw [Int.fdiv_eq_ediv_of_nonneg _ (by omega)]; omega
        have w1 : wrapV .u64 n = n := wrap_u64 (by omega) (by omega)
        have w2 : wrapV .u64 (n * 2) = 2 * n := by rw [wrap_u64 (by omega) (by omega)]; omega
        have w3 : wrapV .u64 0 = 0 := rfl
        have hx := fun cst => xor_0 (cst := cst) (a := 2 * n) ⟨by omega, by omega⟩
        have hz : zig n = 2 * n := by unfold zig; rw [if_neg h0]
        rw [hz]
        simp (maxSteps := 1000000) (disch := omega) only [c22, shl_1, shr_63, hf, w1, w2, w3, hx, go_sem]
        exact wkv_same
    · cases h
  · cases h
theorem rzig2_ok : SpecOK Tryz.prog 56 zigS := by
  intro args S x S' h
  simp only [zigS] at h
  split at h
  · rename_i n
    split at h
    · rename_i hn
      cases h
      unfold i64 at hn
      refine fn_of_wp f56 rfl (W_sound none_ok mixed _ _ _ _ _ ?_)
      by_cases h0 : 0 ≤ n
      · have w1 : wrapV .u64 n = n := wrap_u64 (by omega) (by omega)
        have w2 : wrapV .u64 (2 * n) = 2 * n := wrap_u64 (by omega) (by omega)
        have hz : zig n = 2 * n := by unfold zig; rw [if_neg (by omega)]
        rw [hz]
        simp (maxSteps := 1000000) (disch := omega) only [c56, h0, w1, w2, go_sem]
        exact wkv_same
      · have w0 : wrapV .i64 (-1 - n) = -1 - n := wrap_i64 (by omega) (by omega)
        have w1 : wrapV .u64 (-1 - n) = -1 - n := wrap_u64 (by omega) (by omega)
        have w2 : wrapV .u64 (2 * (-1 - n)) = 2 * (-1 - n) := wrap_u64 (by omega) (by omega)
        have w3 : wrapV .u64 (2 * (-1 - n) + 1) = 2 * (-1 - n) + 1 := wrap_u64 (by omega) (by omega)
        have hz : zig n = 2 * (-1 - n) + 1 := by unfold zig; rw [if_pos (by omega)]; omega
        rw [hz]
        simp (maxSteps := 1000000) (disch := omega) only [c56, h0, w0, w1, w2, w3, go_sem]
        exact wkv_same
    · cases h
  · cases h
theorem oRz_ok : OK Tryz.prog (lamOf Tryz.prog) (orcOf [(56, zigS)]) := orc_ok (by simpa using rzig2_ok)
theorem rzig_ok : SpecOK Tryz.prog 30 zigS := by
  intro args S x S' h
  simp only [zigS] at h
  split at h
  · rename_i n
    split at h
    · rename_i hn
      cases h
      refine fn_of_wp f30 rfl (W_sound oRz_ok mixed _ _ _ _ _ ?_)
      simp (maxSteps := 1000000) (disch := omega) only [c30, orc_cons, zigS_eq hn, go_sem]
      exact wkv_same
    · cases h
  · cases h

/-! ### Which scripts can be -/
def opsOf (S : Mem) (x : AV) : Option (List Opx) := match lstV oqE S x with
  | some qs => qs.mapM (Oq.val S)
  | none => none
theorem mapM_some {α β : Type} {f : α → Option β} : ∀ {l : List α} {m : List β}, l.mapM f = some m ↔ l.map f = m.map some
  | [], m => by
    simp only [List.mapM_nil, List.map_nil]
    constructor
    · intro h; cases h; rfl
    · intro h; cases m with
      | nil => rfl
      | cons => cases h
  | a :: l, m => by
    rw [List.mapM_cons, List.map_cons]
    cases ha : f a with
    | none =>
      constructor
      · intro h; cases h
      · intro h; cases m <;> cases h
    | some b =>
      cases hl : l.mapM f with
      | none =>
        constructor
        · intro h; cases h
        · intro h
          cases m with
          | nil => cases h
          | cons c m =>
            rw [List.map_cons] at h
            injection h with h1 h2
            rw [mapM_some.2 h2] at hl; cases hl
      | some m' =>
        constructor
        · intro h
          injection h with h
          subst h
          rw [List.map_cons, mapM_some.1 hl]
        · intro h
          cases m with
          | nil => cases h
          | cons c m =>
            rw [List.map_cons] at h
            injection h with h1 h2
            rw [mapM_some.2 h2] at hl
            injection hl with hl
            injection h1 with h1
            subst hl; subst h1; rfl
theorem opsOf_iff {S : Mem} {x : AV} {l : List Opx} : opsOf S x = some l ↔ OpsV S x l := by
  unfold opsOf OpsV
  cases h : lstV oqE S x with
  | none => simp
  | some qs =>
    simp only [Option.some.injEq]
    rw [mapM_some]
    exact ⟨fun h => ⟨qs, rfl, h⟩, fun ⟨q, e, h⟩ => by subst e; exact h⟩
def allSmall (l : List Opx) : Bool := l.all fun o => decide (o.bs.length ≤ 900000 ∧ o.ks.length ≤ 900000)
theorem allSmall_at {l : List Opx} (h : allSmall l = true) {k : Nat} (hk : k < l.length) : l[k].bs.length ≤ 900000 ∧ l[k].ks.length ≤ 900000 :=
  of_decide_eq_true (List.all_eq_true.1 h _ (List.getElem_mem hk))
def notRightS : Spec := fun args S => match args with
  | [.ag a] => match opOf S a with
    | some o => if o.bs.length ≤ 900000 ∧ o.ks.length ≤ 900000 then some (.b (decide (¬ o.right)), S) else none
    | none => none
  | _ => none
theorem oNr_ok : OK Tryz.prog (lamOf Tryz.prog) (orcOf [(15, orightS)]) := orc_ok (by simpa using oright_ok)
theorem notRight_ok : SpecOK Tryz.prog 40 notRightS := by
  intro args S x S' h
  simp only [notRightS] at h
  split at h
  · rename_i ca
    split at h
    · rename_i o ho
      split at h
      · rename_i hc
        obtain ⟨hl1, hl2⟩ := hc
        cases h
        have hr := fun L => orightS_eq (opOf_grow ho L) hl1 hl2
        obtain ⟨x, y, rfl, hx, hy⟩ := opOf_ok ho
        refine fn_of_wp f40 rfl (W_sound oNr_ok mixed _ _ _ _ _ ?_)
        by_cases h1 : o.right
        · rw [decide_eq_true h1] at hr
          simp (maxSteps := 1000000) (disch := omega) only [c40, lst_cells hx, lst_cells hy, orc_cons, hr, Bool.not_true, go_sem]
          exact wkv_fP (ext_app _) (not_not_intro h1)
        · rw [decide_eq_false h1] at hr
          simp (maxSteps := 1000000) (disch := omega) only [c40, lst_cells hx, lst_cells hy, orc_cons, hr, Bool.not_false, go_sem]
          exact wkv_tP (ext_app _) h1
      · cases h
    · cases h
  · cases h
end Go.Proofs.YtmolaemlenllmaaGreat

namespace Go.Proofs.YtmolaemlenllmaaGreat
open Go.RowKit
set_option linter.unusedSimpArgs false
set_option linter.unusedVariables false
set_option maxRecDepth 10000

/-- Where the first is that it holds of. -/
def idx {α : Type} (p : α → Bool) (l : List α) : Int := match l.findIdx? p with
  | some k => k
  | none => -1
theorem idx_ge {α : Type} (p : α → Bool) (l : List α) : (0 ≤ idx p l) = (l.any p = true) := by
  unfold idx
  cases h : l.findIdx? p with
  | some k =>
    have := List.findIdx?_eq_some_iff_getElem.1 h
    obtain ⟨hk, hp, _⟩ := this
    simp only [eq_iff_iff]
    exact ⟨fun _ => List.any_eq_true.2 ⟨l[k], List.getElem_mem hk, hp⟩, fun _ => by omega⟩
  | none =>
    have := List.findIdx?_eq_none_iff.1 h
    simp only [eq_iff_iff]
    refine ⟨fun h => by omega, fun h => ?_⟩
    obtain ⟨x, hx, hp⟩ := List.any_eq_true.1 h
    rw [this x hx] at hp; cases hp
theorem idx_at {α : Type} {p : α → Bool} {l : List α} {k : Nat} (hk : k < l.length) (hp : p l[k] = true) (hn : ∀ j (h : j < k), p (l[j]'(by omega)) = false) : idx p l = k := by
  unfold idx
  rw [List.findIdx?_eq_some_iff_getElem.2 ⟨hk, hp, fun j hj => by simpa using hn j hj⟩]
theorem idx_none {α : Type} {p : α → Bool} {l : List α} (h : ∀ j (hj : j < l.length), p l[j] = false) : idx p l = -1 := by
  unfold idx
  rw [List.findIdx?_eq_none_iff.2 fun x hx => by obtain ⟨j, hj, rfl⟩ := List.getElem_of_mem hx; exact h j hj]

theorem opsOf_len {S : Mem} {x : AV} {l : List Opx} (h : opsOf S x = some l) : ∀ M, lenQ LK.slice M x = some (.i .i64 l.length) := (opsOf_iff.1 h).len
theorem opsOf_grow {S : Mem} {x : AV} {l : List Opx} (h : opsOf S x = some l) (L : Mem) : opsOf (S ++ L) x = some l := opsOf_iff.2 ((opsOf_iff.1 h).grow L)
theorem opsOf_ext {S M : Mem} {x : AV} {l : List Opx} (h : opsOf S x = some l) (hM : S <+: M) : opsOf M x = some l := opsOf_iff.2 ((opsOf_iff.1 h).ext hM)
/-- A place in a list of ops: the slice, and the row there. -/
theorem opsOf_at {S : Mem} {x : AV} {l : List Opx} (h : opsOf S x = some l) {k : Nat} (hk : k < l.length) : ∃ (bi o v cap : Nat) (ex : Bool) (q : Oq), x = .sl bi o v l.length cap ex ∧ (∀ L : Mem, rowB ((S ++ L)[bi]?) (o + k * 19) v 19 = some q.enc) ∧ q.val S = some l[k] := by
  obtain ⟨qs, hq, h1, h2⟩ := (opsOf_iff.1 h).at hk
  have hl := (opsOf_iff.1 h).len S
  have hl2 := lst_len h1 S
  obtain ⟨bi, o, v, cap, ex, rfl⟩ := lst_sl h1 hq
  have e : qs.length = l.length := by rw [hl] at hl2; simp at hl2; omega
  refine ⟨bi, o, v, cap, ex, qs[k], by rw [e], fun L => lstV_row h1 hq L, h2⟩
theorem cells_of {S : Mem} {q : Oq} {o : Opx} (h : q.val S = some o) : opOf S q.enc = some o := by rw [opOf_enc]; exact h

def badP (o : Opx) : Bool := decide (¬ o.right)
def idxOS : Spec := fun args S => match args with
  | [x, .f (.func g) [] []] => match opsOf S x with
    | some l => if g = 40 ∧ l.length ≤ 900000 ∧ allSmall l = true then some (.i .i64 (idx badP l), S) else none
    | none => none
  | _ => none
theorem oIx_ok : OK Tryz.prog (lamOf Tryz.prog) (orcOf [(40, notRightS)]) := orc_ok (by simpa using notRight_ok)
theorem notRightS_eq {S : Mem} {a : List AV} {o : Opx} (ha : opOf S a = some o) (h1 : o.bs.length ≤ 900000) (h2 : o.ks.length ≤ 900000) : notRightS [.ag a] S = some (.b (badP o), S) := by
  simp only [notRightS, ha, if_pos (And.intro h1 h2), badP]
theorem idxO_ok : SpecOK Tryz.prog 65 idxOS := by
  intro args S x S' h
  simp only [idxOS] at h
  split at h
  · rename_i s g
    split at h
    · rename_i l hl
      split at h
      · rename_i hc
        obtain ⟨rfl, hlim, hsm⟩ := hc
        cases h
        refine fn_of_wp f65 rfl (W_sound oIx_ok mixed _ _ _ _ _ ?_)
        simp (maxSteps := 1000000) (disch := omega) only [c65, opsOf_len hl, go_sem]
        refine wp_loop (fun j e M dl => dl = [] ∧ ∃ k : Nat, j = l.length - k ∧ k ≤ l.length ∧ M = S ∧ (∀ i (hi : i < k) (hl : i < l.length), badP l[i] = false) ∧
          e.get 0 = s ∧ e.get 1 = .f (.func 40) [] [] ∧ e.get 7 = .i .i64 l.length ∧ e.get 8 = .i .i64 k) (j := l.length) ⟨rfl, 0, rfl, Nat.zero_le _, rfl, fun i hi => absurd hi (Nat.not_lt_zero _), rfl, rfl, rfl, rfl⟩ ?_
        rintro j e M d' ⟨rfl, k, rfl, hk, rfl, hn, h0, h1, h7, h8⟩
        refine W_sound oIx_ok mixed _ _ _ _ _ ?_
        by_cases hkl : k < l.length
        · obtain ⟨bi, o, v, cap, ex, q, rfl, hrow, hq⟩ := opsOf_at hl hkl
          have hro := hrow []
          rw [List.append_nil] at hro
          have hkI : (k : Int) < l.length := by omega
          have hk6 : k < 1000000 := by omega
          have hcall := notRightS_eq (cells_of hq) (allSmall_at hsm hkl).1 (allSmall_at hsm hkl).2
          simp (maxSteps := 1000000) (disch := omega) only [c65l0, h0, h1, h7, h8, hkI, Int.toNat_natCast, Nat.mul_one, hro, orc_cons, hcall, wrapS hk6, go_sem]
          cases hpk : badP l[k] with
          | true =>
            refine ⟨fun _ => ?_, fun h => by cases h⟩
            rw [idx_at hkl hpk fun j hj => hn j hj (by omega)]
            exact wkv_same
          | false =>
            refine ⟨(fun h => by cases h), fun _ => ⟨l.length - (k + 1), by omega, k + 1, rfl, hkl, fun i hi hil => ?_, rfl⟩⟩
            by_cases hik : i = k
            · subst hik; exact hpk
            · exact hn i (by omega) hil
        · have hkI : ¬ (k : Int) < l.length := by omega
          simp (maxSteps := 1000000) (disch := omega) only [c65l0, h0, h1, h7, h8, hkI, go_sem]
          rw [idx_none fun j hj => hn j (by omega) hj]
          exact wkv_same
      · cases h
    · cases h
  · cases h
def hasOS : Spec := fun args S => match args with
  | [x, .f (.func g) [] []] => match opsOf S x with
    | some l => if g = 40 ∧ l.length ≤ 900000 ∧ allSmall l = true then some (.b (l.any badP), S) else none
    | none => none
  | _ => none
theorem oHo_ok : OK Tryz.prog (lamOf Tryz.prog) (orcOf [(65, idxOS)]) := orc_ok (by simpa using idxO_ok)
theorem hasO_ok : SpecOK Tryz.prog 39 hasOS := by
  intro args S x S' h
  simp only [hasOS] at h
  split at h
  · rename_i s g
    split at h
    · rename_i l hl
      split at h
      · rename_i hc
        obtain ⟨rfl, hlim, hsm⟩ := hc
        cases h
        have hi : idxOS [s, .f (.func 40) [] []] S = some (.i .i64 (idx badP l), S) := by
          simp only [idxOS, hl]
          rw [if_pos ⟨trivial, hlim, hsm⟩]
        refine fn_of_wp f39 rfl (W_sound oHo_ok mixed _ _ _ _ _ ?_)
        simp (maxSteps := 1000000) (disch := omega) only [c39, orc_cons, hi, go_sem]
        refine wkv_eq wkv_same ?_ rfl
        congr 1
        have := idx_ge badP l
        cases h : l.any badP
        · rw [h] at this; simp [this]
        · rw [h] at this; simp [this]
      · cases h
    · cases h
  · cases h
/-- Scripts: which can be. -/
def allRS : Spec := fun args S => match args with
  | [x] => match opsOf S x with
    | some l => if l.length ≤ 900000 ∧ allSmall l = true then some (.b (decide (allR l)), S) else none
    | none => none
  | _ => none
theorem allRS_eq {S : Mem} {x : AV} {l : List Opx} (hl : opsOf S x = some l) (h1 : l.length ≤ 900000) (h2 : allSmall l = true) : allRS [x] S = some (.b (decide (allR l)), S) := by
  simp only [allRS, hl, if_pos (And.intro h1 h2)]
theorem any_bad {l : List Opx} : l.any badP = true ↔ ¬ ∀ o ∈ l, o.right := by
  rw [List.any_eq_true]
  constructor
  · rintro ⟨o, ho, hb⟩ h; exact of_decide_eq_true hb (h o ho)
  · intro h
    rcases Classical.em (∃ o ∈ l, badP o = true) with h1 | h1
    · exact h1
    · exact absurd (fun o ho => Classical.byContradiction fun hr => h1 ⟨o, ho, decide_eq_true hr⟩) h
theorem oRL_ok : OK Tryz.prog (lamOf Tryz.prog) (orcOf [(39, hasOS)]) := orc_ok (by simpa using hasO_ok)
theorem allR_ok : SpecOK Tryz.prog 20 allRS := by
  intro args S x S' h
  simp only [allRS] at h
  split at h
  · rename_i s
    split at h
    · rename_i l hl
      split at h
      · rename_i hc
        obtain ⟨hlim, hsm⟩ := hc
        cases h
        have hi : hasOS [s, .f (.func 40) [] []] S = some (.b (l.any badP), S) := by
          simp only [hasOS, hl]
          rw [if_pos ⟨trivial, hlim, hsm⟩]
        refine fn_of_wp f20 rfl (W_sound oRL_ok mixed _ _ _ _ _ ?_)
        by_cases h4 : l.length ≤ 400
        · have h4I : (l.length : Int) ≤ 400 := by omega
          cases hb : l.any badP with
          | true =>
            rw [hb] at hi
            simp (maxSteps := 1000000) (disch := omega) only [c20, opsOf_len hl, h4I, orc_cons, hi, Bool.not_true, go_sem]
            exact wkv_fP ext_refl fun h => (any_bad.1 hb) h.2
          | false =>
            rw [hb] at hi
            simp (maxSteps := 1000000) (disch := omega) only [c20, opsOf_len hl, h4I, orc_cons, hi, Bool.not_false, go_sem]
            exact wkv_tP ext_refl ⟨h4, Classical.byContradiction fun h => by rw [any_bad.2 h] at hb; cases hb⟩
        · have h4I : ¬ (l.length : Int) ≤ 400 := by omega
          simp (maxSteps := 1000000) (disch := omega) only [c20, opsOf_len hl, h4I, go_sem]
          exact wkv_fP ext_refl fun h => h4 h.1
      · cases h
    · cases h
  · cases h
theorem oRA_ok : OK Tryz.prog (lamOf Tryz.prog) (orcOf [(16, orightS)]) := orc_ok (by simpa using roright_ok)
theorem rallR_ok : SpecOK Tryz.prog 28 allRS := by
  intro args S x S' h
  simp only [allRS] at h
  split at h
  · rename_i s
    split at h
    · rename_i l hl
      split at h
      · rename_i hc
        obtain ⟨hlim, hsm⟩ := hc
        cases h
        refine fn_of_wp f28 rfl (W_sound oRA_ok mixed _ _ _ _ _ ?_)
        by_cases h4 : l.length ≤ 400
        rotate_left
        · have h4I : (400 : Int) < l.length := by omega
          simp (maxSteps := 1000000) (disch := omega) only [c28, opsOf_len hl, h4I, go_sem]
          exact wkv_fP ext_refl fun h => h4 h.1
        have h4I : ¬ (400 : Int) < l.length := by omega
        simp (maxSteps := 1000000) (disch := omega) only [c28, opsOf_len hl, h4I, go_sem]
        refine wp_loop (fun j e M dl => dl = [] ∧ ∃ k : Nat, j = l.length - k ∧ k ≤ l.length ∧ S <+: M ∧ (∀ i (hi : i < k) (hl : i < l.length), l[i].right) ∧
          e.get 8 = s ∧ e.get 9 = .i .i64 l.length ∧ e.get 10 = .i .i64 k) (j := l.length) ⟨rfl, 0, rfl, Nat.zero_le _, ext_refl, fun i hi => absurd hi (Nat.not_lt_zero _), rfl, rfl, rfl⟩ ?_
        rintro j e M d' ⟨rfl, k, rfl, hk, hSM, hn, h8, h9, h10⟩
        refine W_sound oRA_ok mixed _ _ _ _ _ ?_
        by_cases hkl : k < l.length
        · obtain ⟨bi, o, v, cap, ex, q, rfl, hrow, hq⟩ := opsOf_at (opsOf_ext hl hSM) hkl
          have hro := hrow []
          rw [List.append_nil] at hro
          have hkI : (k : Int) < l.length := by omega
          have hk6 : k < 1000000 := by omega
          have hcall := fun L => orightS_eq (opOf_grow (cells_of hq) L) (allSmall_at hsm hkl).1 (allSmall_at hsm hkl).2
          have h1 := q.x.h
          have h2 := q.y.h
          by_cases hr : l[k].right
          · rw [decide_eq_true hr] at hcall
            simp only [Oq.enc] at hro hcall
            simp (maxSteps := 1000000) (disch := omega) only [c28l0, h8, h9, h10, hkI, Int.toNat_natCast, Nat.mul_one, hro, List.replicate, orc_cons, hcall, Bool.not_true, wrapS hk6, h1, h2, go_sem]
            refine ⟨l.length - (k + 1), by omega, k + 1, rfl, hkl, ext_more hSM _, fun i hi hil => ?_, rfl⟩
            by_cases hik : i = k
            · subst hik; exact hr
            · exact hn i (by omega) hil
          · rw [decide_eq_false hr] at hcall
            simp only [Oq.enc] at hro hcall
            simp (maxSteps := 1000000) (disch := omega) only [c28l0, h8, h9, h10, hkI, Int.toNat_natCast, Nat.mul_one, hro, List.replicate, orc_cons, hcall, Bool.not_false, wrapS hk6, h1, h2, go_sem]
            exact wkv_fP (ext_more hSM _) fun h => hr (h.2 _ (List.getElem_mem hkl))
        · have hkI : ¬ (k : Int) < l.length := by omega
          simp (maxSteps := 1000000) (disch := omega) only [c28l0, h8, h9, h10, hkI, go_sem]
          exact wkv_tP hSM ⟨h4, fun o ho => by obtain ⟨i, hi, rfl⟩ := List.getElem_of_mem ho; exact hn i (by omega) hi⟩
      · cases h
    · cases h
  · cases h
end Go.Proofs.YtmolaemlenllmaaGreat

namespace Go.Proofs.YtmolaemlenllmaaGreat
open Go.RowKit
set_option linter.unusedSimpArgs false
set_option linter.unusedVariables false
set_option maxRecDepth 10000

/-- What is left to read, and whether it is bad. -/
abbrev St := List Int × Bool
def St.ok (s : St) : Prop := s.1.length ≤ 1000000 ∧ ∀ c ∈ s.1, u8 c
theorem St.ok.drop {r : List Int} {b c : Bool} (h : St.ok (r, b)) (k : Nat) : St.ok (r.drop k, c) := ⟨by have := h.1; simp only [List.length_drop] at this ⊢; omega, fun x hx => h.2 x (List.mem_of_mem_drop hx)⟩
theorem St.ok.nil {b : Bool} : St.ok ([], b) := ⟨by simp, by simp⟩
theorem St.ok.bad {r : List Int} {b c : Bool} (h : St.ok (r, b)) : St.ok (r, c) := h
def repF {α : Type} (f : St → α × St) : Nat → St → List α × St
  | 0, s => ([], s)
  | m + 1, s => ((f s).1 :: (repF f m (f s).2).1, (repF f m (f s).2).2)
def whF {α : Type} (f : St → α × St) : Nat → St → List α × St
  | 0, s => ([], s)
  | m + 1, s => if s.2 = true then ([], s) else ((f s).1 :: (whF f m (f s).2).1, (whF f m (f s).2).2)
theorem repF_code {α : Type} {f : St → α × St} {code : α → List Int} : ∀ (l : List α) (r : List Int), (∀ o ∈ l, ∀ r, f (code o ++ r, false) = (o, (r, false))) → repF f l.length (l.flatMap code ++ r, false) = (l, (r, false))
  | [], r, _ => rfl
  | a :: l, r, h => by
    rw [List.length_cons, List.flatMap_cons, List.append_assoc, repF, h a (by simp), repF_code l r fun o ho => h o (by simp [ho])]
theorem whF_code {α : Type} {f : St → α × St} {code : α → List Int} : ∀ (l : List α) (r : List Int), (∀ o ∈ l, ∀ r, f (code o ++ r, false) = (o, (r, false))) → whF f l.length (l.flatMap code ++ r, false) = (l, (r, false))
  | [], r, _ => rfl
  | a :: l, r, h => by
    rw [List.length_cons, List.flatMap_cons, List.append_assoc, whF, if_neg (by simp), h a (by simp), whF_code l r fun o ho => h o (by simp [ho])]
theorem whF_len {α : Type} {f : St → α × St} : ∀ (m : Nat) (s : St), (whF f m s).1.length ≤ m
  | 0, s => by simp [whF]
  | m + 1, s => by
    rw [whF]
    split
    · simp
    · rw [List.length_cons]; have := whF_len (f := f) m (f s).2; omega
theorem repF_len {α : Type} {f : St → α × St} : ∀ (m : Nat) (s : St), (repF f m s).1.length = m
  | 0, s => by simp [repF]
  | m + 1, s => by rw [repF, List.length_cons, repF_len m]

/-! ### The program's way -/
def numF (s : St) : Int × St := match getL s.1 with
  | some (n, k) => (n, (s.1.drop k, s.2))
  | none => (0, ([], true))
def manyF (most : Int) (s : St) : Int × St := if (numF s).1 ≤ most then numF s else (0, ((numF s).2.1, true))
def polF (s : St) : Pol × St :=
  match numF s with
  | (a, s) => match numF s with
  | (n, s) => match numF (s.1, s.2 || decide (4294967295 < n)) with
  | (c, s) => match numF s with
  | (n1, s) => match numF s with
  | (n2, s) => match numF s with
  | (n3, s) => match numF s with
  | (n4, s) => match numF s with
  | (n5, s) => match numF s with
  | (n6, s) => match numF s with
  | (n7, s) => (⟨zag a, b3 (n % 4294967296), b2 (n % 4294967296), b1 (n % 4294967296), b0 (n % 4294967296), zag c, n1, n2, n3, n4, n5, n6, n7⟩, s)
def keep1F (s : St) : Bool × St := (decide ((manyF 1 s).1 = 1), (manyF 1 s).2)
def opF (s : St) : Opx × St :=
  match manyF 12 s with
  | (k, s) => if k = 0 then (match manyF (min (2000 : Int) (s.1.length : Int)) s with
      | (n, s) => ({ opz k with bs := s.1.take (min n s.1.length).toNat }, (s.1.drop (min n s.1.length).toNat, s.2)))
    else if k = 1 then ({ opz k with n := (numF s).1 }, (numF s).2)
    else if k = 4 then ({ opz k with pol := (polF s).1 }, (polF s).2)
    else if k = 5 ∨ k = 8 then ({ opz k with sub := zag (numF s).1 }, (numF s).2)
    else if k = 10 then ({ opz k with brk := zag (numF s).1 }, (numF s).2)
    else if k = 11 then (match manyF 64 s with
      | (n, s) => ({ opz k with ks := (repF keep1F n.toNat s).1 }, (repF keep1F n.toNat s).2))
    else (opz k, s)
def readP (b : List Int) : Cfg × List Opx × Bool :=
  match numF (b, false) with
  | (a, s) => match numF s with
  | (q, s) => match numF s with
  | (p, s) => match manyF 400 s with
  | (n, s) => (⟨zag a, zag q, p⟩, (repF opF n.toNat s).1, (repF opF n.toNat s).2.2)

theorem numF_leb {n : Int} (h : u64 n) (r : List Int) (b : Bool) : numF (leb n ++ r, b) = (n, (r, b)) := by
  simp only [numF, getL_leb h, List.drop_left]
theorem manyF_leb {n most : Int} (h : u64 n) (hm : n ≤ most) (r : List Int) (b : Bool) : manyF most (leb n ++ r, b) = (n, (r, b)) := by
  rw [manyF, numF_leb h, if_pos hm]
theorem numF_ok {s : St} (h : s.ok) : u64 (numF s).1 ∧ (numF s).2.ok := by
  unfold numF
  split
  · rename_i n k hg
    exact ⟨(getL_some h.2 hg).1, h.drop k⟩
  · exact ⟨by unfold u64; simp, St.ok.nil⟩
theorem manyF_ok {s : St} {m : Int} (hm : 0 ≤ m) (h : s.ok) : 0 ≤ (manyF m s).1 ∧ (manyF m s).1 ≤ m ∧ (manyF m s).2.ok := by
  have h1 := numF_ok h
  unfold manyF
  split
  · exact ⟨h1.1.1, by assumption, h1.2⟩
  · exact ⟨by simp, hm, h1.2⟩
theorem u84_mod (n : Int) : u84 (b3 (n % 4294967296)) (b2 (n % 4294967296)) (b1 (n % 4294967296)) (b0 (n % 4294967296)) := u84_b ⟨by omega, by omega⟩
theorem polF_ok {s : St} (h : s.ok) : (polF s).1.good ∧ (polF s).2.ok := by
  unfold polF
  have h1 := numF_ok h
  generalize numF s = qq at h1 ⊢
  obtain ⟨a, s1⟩ := qq
  have h2 := numF_ok h1.2
  simp only at h1 h2 ⊢
  generalize numF s1 = qq at h2 ⊢
  obtain ⟨n, s2⟩ := qq
  simp only at h2 ⊢
  have h3 := numF_ok (s := (s2.1, s2.2 || decide (4294967295 < n))) h2.2
  generalize numF (s2.1, s2.2 || decide (4294967295 < n)) = qq at h3 ⊢
  obtain ⟨c, s3⟩ := qq
  have h4 := numF_ok h3.2
  simp only at h3 h4 ⊢
  generalize numF s3 = qq at h4 ⊢
  obtain ⟨n1, s4⟩ := qq
  have h5 := numF_ok h4.2
  simp only at h4 h5 ⊢
  generalize numF s4 = qq at h5 ⊢
  obtain ⟨n2, s5⟩ := qq
  have h6 := numF_ok h5.2
  simp only at h5 h6 ⊢
  generalize numF s5 = qq at h6 ⊢
  obtain ⟨n3, s6⟩ := qq
  have h7 := numF_ok h6.2
  simp only at h6 h7 ⊢
  generalize numF s6 = qq at h7 ⊢
  obtain ⟨n4, s7⟩ := qq
  have h8 := numF_ok h7.2
  simp only at h7 h8 ⊢
  generalize numF s7 = qq at h8 ⊢
  obtain ⟨n5, s8⟩ := qq
  have h9 := numF_ok h8.2
  simp only at h8 h9 ⊢
  generalize numF s8 = qq at h9 ⊢
  obtain ⟨n6, s9⟩ := qq
  have h10 := numF_ok h9.2
  simp only at h9 h10 ⊢
  exact ⟨⟨zag_i64 h1.1, u84_mod n, zag_i64 h3.1, h4.1, h5.1, h6.1, h7.1, h8.1, h9.1, h10.1⟩, h10.2⟩
theorem b_mod {n : Int} (h : u32 n) : n % 4294967296 = n := by unfold u32 at h; omega
theorem pol_eta {p : Pol} (h : p.good) : (⟨zag (zig p.sub), b3 (num p.a p.b p.c p.d % 4294967296), b2 (num p.a p.b p.c p.d % 4294967296), b1 (num p.a p.b p.c p.d % 4294967296), b0 (num p.a p.b p.c p.d % 4294967296), zag (zig p.bits), p.rate, p.burst, p.srate, p.sburst, p.quota, p.lease, p.quantum⟩ : Pol) = p := by
  obtain ⟨h1, h2, h3, _⟩ := h
  obtain ⟨ha, hb, hc, hd⟩ := h2
  obtain ⟨e1, e2, e3, e4⟩ := b_num ha hb hc hd
  rw [b_mod (u32_num ha hb hc hd), e1, e2, e3, e4, zag_zig h1, zag_zig h3]
theorem polF_code {p : Pol} (h : p.good) (r : List Int) : polF (lebs p.zs ++ r, false) = (p, (r, false)) := by
  have hu := zs_u64 h
  have hn := u84_num h.2.1
  have e : lebs p.zs ++ r = leb (zig p.sub) ++ (leb (num p.a p.b p.c p.d) ++ (leb (zig p.bits) ++ (leb p.rate ++ (leb p.burst ++ (leb p.srate ++ (leb p.sburst ++ (leb p.quota ++ (leb p.lease ++ (leb p.quantum ++ r))))))))) := by
    unfold lebs Pol.zs
    simp only [List.flatMap_cons, List.flatMap_nil, List.append_assoc, List.nil_append]
  have hd : (false || decide (4294967295 < num p.a p.b p.c p.d)) = false := by unfold u32 at hn; rw [decide_eq_false (by omega)]; rfl
  rw [e, polF, numF_leb (hu _ (by simp [Pol.zs]))]
  simp only
  rw [numF_leb (hu _ (by simp [Pol.zs]))]
  simp only [hd]
  rw [numF_leb (hu _ (by simp [Pol.zs]))]
  simp only
  rw [numF_leb (hu _ (by simp [Pol.zs]))]
  simp only
  rw [numF_leb (hu _ (by simp [Pol.zs]))]
  simp only
  rw [numF_leb (hu _ (by simp [Pol.zs]))]
  simp only
  rw [numF_leb (hu _ (by simp [Pol.zs]))]
  simp only
  rw [numF_leb (hu _ (by simp [Pol.zs]))]
  simp only
  rw [numF_leb (hu _ (by simp [Pol.zs]))]
  simp only
  rw [numF_leb (hu _ (by simp [Pol.zs]))]
  simp only [pol_eta h]
theorem keep1F_code (b : Bool) (r : List Int) : keep1F (leb (flagN b) ++ r, false) = (b, (r, false)) := by
  rw [keep1F, manyF_leb (flag_u64 b) (by cases b <;> simp [flagN])]
  cases b <;> simp [flagN]
theorem lebs_cons (n : Int) (l : List Int) : lebs (n :: l) = leb n ++ lebs l := by unfold lebs; rw [List.flatMap_cons]
theorem lebs_nil : lebs [] = [] := rfl
theorem lebs_flags (ks : List Bool) : lebs (ks.map flagN) = ks.flatMap fun b => leb (flagN b) := by unfold lebs; rw [List.flatMap_map]
/-- Which op it is, by its kind. -/
theorem op_cases {o : Opx} (hr : o.right) : (o.kind = 0 ∧ o = { opz 0 with bs := o.bs }) ∨ (o.kind = 1 ∧ o = { opz 1 with n := o.n }) ∨ (o.kind = 4 ∧ o = { opz 4 with pol := o.pol }) ∨
    ((o.kind = 5 ∨ o.kind = 8) ∧ o = { opz o.kind with sub := o.sub }) ∨ (o.kind = 10 ∧ o = { opz 10 with brk := o.brk }) ∨ (o.kind = 11 ∧ o = { opz 11 with ks := o.ks }) ∨
    ((o.kind ≠ 0 ∧ o.kind ≠ 1 ∧ o.kind ≠ 4 ∧ ¬ (o.kind = 5 ∨ o.kind = 8) ∧ o.kind ≠ 10 ∧ o.kind ≠ 11) ∧ o = opz o.kind) := by
  obtain ⟨_, _, _, _, h0, h1, h4, h5, h10, h11⟩ := hr
  obtain ⟨k, s, m, n, bs, p, ks⟩ := o
  simp only [opz] at *
  by_cases e0 : k = 0
  · subst e0
    rw [h1 (by omega), h4 (by omega), h5 (by omega), h10 (by omega), h11 (by omega)]
    exact .inl ⟨rfl, rfl⟩
  · rw [h0 e0]
    by_cases e1 : k = 1
    · subst e1
      rw [h4 (by omega), h5 (by omega), h10 (by omega), h11 (by omega)]
      exact .inr (.inl ⟨rfl, rfl⟩)
    · rw [h1 e1]
      by_cases e4 : k = 4
      · subst e4
        rw [h5 (by omega), h10 (by omega), h11 (by omega)]
        exact .inr (.inr (.inl ⟨rfl, rfl⟩))
      · rw [h4 e4]
        by_cases e5 : k = 5 ∨ k = 8
        · rw [h10 (by omega), h11 (by omega)]
          exact .inr (.inr (.inr (.inl ⟨e5, rfl⟩)))
        · rw [h5 (by omega)]
          by_cases e10 : k = 10
          · subst e10
            rw [h11 (by omega)]
            exact .inr (.inr (.inr (.inr (.inl ⟨rfl, rfl⟩))))
          · rw [h10 e10]
            by_cases e11 : k = 11
            · subst e11
              exact .inr (.inr (.inr (.inr (.inr (.inl ⟨rfl, rfl⟩)))))
            · rw [h11 e11]
              exact .inr (.inr (.inr (.inr (.inr (.inr ⟨⟨e0, e1, e4, e5, e10, e11⟩, rfl⟩)))))
/-- What an op's bytes are. -/
theorem code_form {o : Opx} (hr : o.right) (r : List Int) : o.code ++ r = leb o.kind ++ ((if o.kind = 0 then leb o.bs.length ++ o.bs else if o.kind = 1 then leb o.n else if o.kind = 4 then lebs o.pol.zs else if o.kind = 5 ∨ o.kind = 8 then leb (zig o.sub) else if o.kind = 10 then leb (zig o.brk) else if o.kind = 11 then leb o.ks.length ++ o.ks.flatMap (fun b => leb (flagN b)) else []) ++ r) := by
  have hb := hr.2.2.2.2.1
  unfold Opx.code Opx.ns
  rw [lebs_cons]
  by_cases e0 : o.kind = 0
  · rw [if_pos e0, if_pos e0]
    simp only [lebs_cons, lebs_nil, List.append_nil, List.append_assoc]
  · rw [if_neg e0, if_neg e0, hb e0, List.append_nil, List.append_assoc]
    congr 2
    split
    · simp only [lebs_cons, lebs_nil, List.append_nil]
    · split
      · rfl
      · split
        · simp only [lebs_cons, lebs_nil, List.append_nil]
        · split
          · simp only [lebs_cons, lebs_nil, List.append_nil]
          · split
            · rw [lebs_cons, lebs_flags]
            · rfl
theorem kind_u64 {o : Opx} (hr : o.right) : u64 o.kind := ⟨hr.1, by have := hr.2.1; omega⟩
theorem opF_code {o : Opx} (hg : o.good) (hr : o.right) (r : List Int) : opF (o.code ++ r, false) = (o, (r, false)) := by
  have hk := kind_u64 hr
  have h12 := hr.2.1
  have hbl := hr.2.2.1
  have hkl := hr.2.2.2.1
  rw [code_form hr, opF, manyF_leb hk h12]
  obtain ⟨g1, g2, g3, g4, g5, g6⟩ := hg
  simp only
  rcases op_cases hr with ⟨e, ho⟩ | ⟨e, ho⟩ | ⟨e, ho⟩ | ⟨e, ho⟩ | ⟨e, ho⟩ | ⟨e, ho⟩ | ⟨⟨e0, e1, e4, e5, e10, e11⟩, ho⟩
  · rw [if_pos e, if_pos e, List.append_assoc]
    have hm : (o.bs.length : Int) ≤ min (2000 : Int) ((leb (o.bs.length : Int) ++ (o.bs ++ r)).length : Int) := by
      rw [List.length_append, List.length_append]; omega
    rw [manyF_leb ⟨by omega, by omega⟩ hm]
    have hmin : (min (o.bs.length : Int) ((o.bs ++ r).length : Int)).toNat = o.bs.length := by rw [List.length_append]; omega
    simp only [hmin, List.take_left, List.drop_left]
    rw [e, ← ho]
  · simp only [e]
    simp only [show ¬ (1 : Int) = 0 by omega, if_false, if_true]
    rw [numF_leb g4]
    simp only
    rw [← ho]
  · simp only [e]
    simp only [show ¬ (4 : Int) = 0 by omega, show ¬ (4 : Int) = 1 by omega, if_false, if_true]
    rw [polF_code g6]
    simp only
    rw [← ho]
  · have n0 : ¬ o.kind = 0 := by omega
    have n1 : ¬ o.kind = 1 := by omega
    have n4 : ¬ o.kind = 4 := by omega
    simp only [if_neg n0, if_neg n1, if_neg n4, if_pos e]
    rw [numF_leb (zig_u64 g2)]
    simp only
    rw [zag_zig g2, ← ho]
  · simp only [e]
    simp only [show ¬ (10 : Int) = 0 by omega, show ¬ (10 : Int) = 1 by omega, show ¬ (10 : Int) = 4 by omega, show ¬ ((10 : Int) = 5 ∨ (10 : Int) = 8) by omega, if_false, if_true]
    rw [numF_leb (zig_u64 g3)]
    simp only
    rw [zag_zig g3, ← ho]
  · simp only [e]
    simp only [show ¬ (11 : Int) = 0 by omega, show ¬ (11 : Int) = 1 by omega, show ¬ (11 : Int) = 4 by omega, show ¬ ((11 : Int) = 5 ∨ (11 : Int) = 8) by omega, show ¬ (11 : Int) = 10 by omega, if_false, if_true]
    rw [List.append_assoc, manyF_leb ⟨by omega, by omega⟩ (by omega)]
    simp only [Int.toNat_natCast]
    rw [repF_code _ _ fun b _ r => keep1F_code b r]
    simp only
    rw [← ho]
  · simp only [if_neg e0, if_neg e1, if_neg e4, if_neg e5, if_neg e10, if_neg e11, List.nil_append]
    rw [← ho]
theorem readP_code {c : Cfg} {l : List Opx} (hc : c.good) (hl : allR l) (hg : ∀ o ∈ l, o.good) : readP (scriptB c l) = (c, l, false) := by
  obtain ⟨h1, h2, h3⟩ := hc
  have h400 := hl.1
  have e : scriptB c l = leb (zig c.sectors) ++ (leb (zig c.queue) ++ (leb c.period ++ (leb (l.length : Int) ++ (codeL l ++ [])))) := by
    unfold scriptB headN
    simp only [lebs_cons, lebs_nil, List.append_nil, List.append_assoc]
  rw [e, readP, numF_leb (zig_u64 h1)]
  simp only
  rw [numF_leb (zig_u64 h2)]
  simp only
  rw [numF_leb h3]
  simp only
  rw [manyF_leb ⟨by omega, by omega⟩ (by omega)]
  simp only [Int.toNat_natCast]
  unfold codeL
  rw [repF_code _ _ fun o ho r => opF_code (hg o ho) (hl.2 o ho) r, zag_zig h1, zag_zig h2]
theorem opz_good {k : Int} (h : i64 k) : (opz k).good := by
  refine ⟨h, ?_, ?_, ?_, by simp [opz], ?_⟩ <;> simp [opz, i64, u64, Pol.zero, Pol.good, u84, u8]
theorem take_u8 {r : List Int} (h : ∀ c ∈ r, u8 c) (n : Nat) : ∀ c ∈ r.take n, u8 c := fun c hc => h c (List.mem_of_mem_take hc)
theorem repF_ok {α : Type} {f : St → α × St} {p : α → Prop} (hf : ∀ s : St, s.ok → p (f s).1 ∧ (f s).2.ok) : ∀ (m : Nat) (s : St), s.ok → (∀ o ∈ (repF f m s).1, p o) ∧ (repF f m s).2.ok
  | 0, s, h => ⟨by simp [repF], h⟩
  | m + 1, s, h => by
    obtain ⟨h1, h2⟩ := hf s h
    obtain ⟨h3, h4⟩ := repF_ok hf m (f s).2 h2
    rw [repF]
    refine ⟨fun o ho => ?_, h4⟩
    rcases List.mem_cons.1 ho with rfl | ho
    · exact h1
    · exact h3 o ho
theorem whF_ok {α : Type} {f : St → α × St} {p : α → Prop} (hf : ∀ s : St, s.ok → p (f s).1 ∧ (f s).2.ok) : ∀ (m : Nat) (s : St), s.ok → (∀ o ∈ (whF f m s).1, p o) ∧ (whF f m s).2.ok
  | 0, s, h => ⟨by simp [whF], h⟩
  | m + 1, s, h => by
    obtain ⟨h1, h2⟩ := hf s h
    obtain ⟨h3, h4⟩ := whF_ok hf m (f s).2 h2
    rw [whF]
    split
    · exact ⟨by simp, h⟩
    · refine ⟨fun o ho => ?_, h4⟩
      rcases List.mem_cons.1 ho with rfl | ho
      · exact h1
      · exact h3 o ho
theorem keep1F_ok {s : St} (h : s.ok) : True ∧ (keep1F s).2.ok := ⟨trivial, (manyF_ok (by omega) h).2.2⟩
theorem opF_ok {s : St} (h : s.ok) : ((opF s).1.good ∧ (opF s).1.bs.length ≤ 2000 ∧ (opF s).1.ks.length ≤ 65) ∧ (opF s).2.ok := by
  unfold opF
  have hm := manyF_ok (m := 12) (by omega) h
  generalize manyF 12 s = qq at hm ⊢
  obtain ⟨k, s1⟩ := qq
  simp only at hm ⊢
  obtain ⟨hk0, hk1, hs1⟩ := hm
  have hk : i64 k := ⟨by omega, by omega⟩
  have hz := opz_good hk
  have hn := numF_ok hs1
  have hp := polF_ok hs1
  split
  · have hm2 := manyF_ok (m := min (2000 : Int) (s1.1.length : Int)) (by omega) hs1
    generalize manyF (min (2000 : Int) (s1.1.length : Int)) s1 = qq at hm2 ⊢
    obtain ⟨n, s2⟩ := qq
    simp only at hm2 ⊢
    refine ⟨⟨⟨hz.1, hz.2.1, hz.2.2.1, hz.2.2.2.1, take_u8 hm2.2.2.2 _, hz.2.2.2.2.2⟩, ?_, by simp [opz]⟩, hm2.2.2.drop _⟩
    simp only [List.length_take]; have h5 := hm2.2.1; have h6 := hm2.1; omega
  · split
    · exact ⟨⟨⟨hz.1, hz.2.1, hz.2.2.1, hn.1, hz.2.2.2.2.1, hz.2.2.2.2.2⟩, by simp [opz], by simp [opz]⟩, hn.2⟩
    · split
      · generalize polF s1 = qp at hp ⊢
        exact ⟨⟨⟨hz.1, hz.2.1, hz.2.2.1, hz.2.2.2.1, hz.2.2.2.2.1, hp.1⟩, by simp [opz], by simp [opz]⟩, hp.2⟩
      · split
        · have hzg := zag_i64 hn.1
          generalize zag (numF s1).1 = zz at hzg ⊢
          exact ⟨⟨⟨hz.1, hzg, hz.2.2.1, hz.2.2.2.1, hz.2.2.2.2.1, hz.2.2.2.2.2⟩, by simp [opz], by simp [opz]⟩, hn.2⟩
        · split
          · have hzg := zag_i64 hn.1
            generalize zag (numF s1).1 = zz at hzg ⊢
            exact ⟨⟨⟨hz.1, hz.2.1, hzg, hz.2.2.2.1, hz.2.2.2.2.1, hz.2.2.2.2.2⟩, by simp [opz], by simp [opz]⟩, hn.2⟩
          · split
            · have hm2 := manyF_ok (m := 64) (by omega) hs1
              generalize manyF 64 s1 = qq at hm2 ⊢
              obtain ⟨n, s2⟩ := qq
              simp only at hm2 ⊢
              have hr := repF_ok (f := keep1F) (p := fun _ => True) (fun s h => keep1F_ok h) n.toNat s2 hm2.2.2
              refine ⟨⟨⟨hz.1, hz.2.1, hz.2.2.1, hz.2.2.2.1, hz.2.2.2.2.1, hz.2.2.2.2.2⟩, by simp [opz], ?_⟩, hr.2⟩
              rw [repF_len]; omega
            · exact ⟨⟨hz, by simp [opz], by simp [opz]⟩, hs1⟩
def Opx.fine (o : Opx) : Prop := o.good ∧ o.bs.length ≤ 2000 ∧ o.ks.length ≤ 65
theorem readP_ok {b : List Int} (hb : ∀ c ∈ b, u8 c) (hl : b.length ≤ 1000000) : (readP b).1.good ∧ (∀ o ∈ (readP b).2.1, o.fine) ∧ (readP b).2.1.length ≤ 400 := by
  unfold readP
  have h1 := numF_ok (s := (b, false)) ⟨hl, hb⟩
  generalize numF (b, false) = qq at h1 ⊢
  obtain ⟨a, s1⟩ := qq
  have h2 := numF_ok h1.2
  simp only at h1 h2 ⊢
  generalize numF s1 = qq at h2 ⊢
  obtain ⟨q, s2⟩ := qq
  have h3 := numF_ok h2.2
  simp only at h2 h3 ⊢
  generalize numF s2 = qq at h3 ⊢
  obtain ⟨p, s3⟩ := qq
  have h4 := manyF_ok (m := 400) (by omega) h3.2
  simp only at h3 h4 ⊢
  generalize manyF 400 s3 = qq at h4 ⊢
  obtain ⟨n, s4⟩ := qq
  simp only at h4 ⊢
  have h5 := repF_ok (f := opF) (p := Opx.fine) (fun s h => opF_ok h) n.toNat s4 h4.2.2
  exact ⟨⟨zag_i64 h1.1, zag_i64 h2.1, h3.1⟩, h5.1, by rw [repF_len]; omega⟩
def fin (b : List Int) (q : Cfg × List Opx × Bool) : Option (Cfg × List Opx) := if q.2.2 = false ∧ allR q.2.1 ∧ scriptB q.1 q.2.1 = b then some (q.1, q.2.1) else none
def readF (b : List Int) : Option (Cfg × List Opx) := fin b (readP b)
theorem readF_code {c : Cfg} {l : List Opx} (hc : c.good) (hl : allR l) (hg : ∀ o ∈ l, o.good) : readF (scriptB c l) = some (c, l) := by
  rw [readF, readP_code hc hl hg, fin, if_pos ⟨rfl, hl, rfl⟩]
theorem readF_some {b : List Int} {c : Cfg} {l : List Opx} (hb : ∀ x ∈ b, u8 x) (hl : b.length ≤ 1000000) (h : readF b = some (c, l)) : c.good ∧ allR l ∧ (∀ o ∈ l, o.fine) ∧ scriptB c l = b := by
  unfold readF fin at h
  split at h
  · rename_i hc
    obtain ⟨g1, g2, _⟩ := readP_ok hb hl
    injection h with h
    injection h with h1 h2
    subst h1; subst h2
    exact ⟨g1, hc.2.1, g2, hc.2.2⟩
  · cases h
/-- Whoever reads codes so, and reads what can be, reads alike. -/
theorem fin_eq {b : List Int} {q : Cfg × List Opx × Bool} (hb : ∀ x ∈ b, u8 x) (hl : b.length ≤ 1000000) (hq : q.1.good ∧ ∀ o ∈ q.2.1, o.good)
    (hc : ∀ c l, c.good → allR l → (∀ o ∈ l, o.good) → scriptB c l = b → q = (c, l, false)) : fin b q = readF b := by
  cases hr : readF b with
  | some p =>
    obtain ⟨c, l⟩ := p
    obtain ⟨g1, g2, g3, g4⟩ := readF_some hb hl hr
    rw [hc c l g1 g2 (fun o ho => (g3 o ho).1) g4, fin, if_pos ⟨rfl, g2, g4⟩]
  | none =>
    unfold fin
    split
    · rename_i h
      have := readF_code hq.1 h.2.1 hq.2
      rw [h.2.2, hr] at this
      cases this
    · rfl
end Go.Proofs.YtmolaemlenllmaaGreat

namespace Go.Proofs.YtmolaemlenllmaaGreat
open Go.RowKit
set_option linter.unusedSimpArgs false
set_option linter.unusedVariables false
set_option maxRecDepth 10000

theorem enc8 (l : List Int) : l.flatMap byteE.enc = b8 l := b8_enc l
section
variable {S M : Mem}
def Bfr (S M : Mem) (x : AV) (l : List Int) : Prop := ∃ T p, M = S ++ T ∧ ((l.length ≤ 10 ∧ x = .sl (S.length + p) 0 0 l.length 10 true ∧ T[p]? = some (.cells (buf l) 0 none true)) ∨ (10 < l.length ∧ ∃ v, x = .sl (S.length + p) 0 v l.length l.length false ∧ T[p]? = some (.cells (l.flatMap byteE.enc) v (some 1) true)))
theorem Bfr.ext {x : AV} {l : List Int} (h : Bfr S M x l) : S <+: M := by obtain ⟨T, p, rfl, _⟩ := h; exact ext_app T
theorem Bfr.base {S2 : Mem} {x : AV} {l : List Int} (hS : S <+: S2) (h : Bfr S2 M x l) : Bfr S M x l := by
  obtain ⟨U, rfl⟩ := hS
  obtain ⟨T, p, rfl, h⟩ := h
  have at2 : ∀ p, (U ++ T)[U.length + p]? = T[p]? := fun p => at_app
  refine ⟨U ++ T, U.length + p, by rw [List.append_assoc], ?_⟩
  rcases h with ⟨h0, h1, h2⟩ | ⟨h0, v, h1, h2⟩
  · exact .inl ⟨h0, by rw [h1, List.length_append, Nat.add_assoc], by rw [at2]; exact h2⟩
  · exact .inr ⟨h0, v, by rw [h1, List.length_append, Nat.add_assoc], by rw [at2]; exact h2⟩
theorem Bfr.grow {x : AV} {l : List Int} (h : Bfr S M x l) (U : Mem) : Bfr S (M ++ U) x l := by
  obtain ⟨T, p, rfl, h⟩ := h
  refine ⟨T ++ U, p, by rw [List.append_assoc], ?_⟩
  rcases h with ⟨h0, h1, h2⟩ | ⟨h0, v, h1, h2⟩
  · exact .inl ⟨h0, h1, at_old h2⟩
  · exact .inr ⟨h0, v, h1, at_old h2⟩
theorem buf_len {l : List Int} (h : l.length ≤ 10) : (buf l).length = 10 := by unfold buf; rw [List.length_append, b8_len, List.length_replicate]; omega
theorem splice_buf {l r : List Int} (h : l.length + r.length ≤ 10) : splice (buf l) (0 + l.length * 1) (b8 r) = buf (l ++ r) := by
  unfold buf
  rw [splice, Nat.zero_add, Nat.mul_one, List.take_append_of_le_length (by rw [b8_len]; omega), List.take_of_length_le (by rw [b8_len]; omega)]
  rw [List.drop_append, List.drop_of_length_le (by rw [b8_len]; omega), List.nil_append, b8_len, List.drop_replicate, b8_len]
  unfold b8
  rw [List.map_append, List.append_assoc]
  congr 3
  simp only [List.length_append]
  omega
theorem b8_one (l : List Int) : (b8 l).all AV.one = true := by rw [← b8_enc]; exact all_one byteE_one l
theorem Bfr.apps {x : AV} {l : List Int} (h : Bfr S M x l) (r : List Int) (hn : l.length + r.length ≤ 1000000) :
    ∃ x' M', appV M 1 1 x (b8 r) r.length = some (x', M') ∧ Bfr S M' x' (l ++ r) := by
  by_cases hr : r = []
  · subst hr
    refine ⟨x, M, ?_, by rw [List.append_nil]; exact h⟩
    obtain ⟨T, p, rfl, ⟨h0, rfl, h2⟩ | ⟨h0, v, rfl, h2⟩⟩ := h <;> simp [appV, b8]
  · have hr0 : 0 < r.length := List.length_pos_iff.2 hr
    obtain ⟨T, p, rfl, ⟨h0, rfl, h2⟩ | ⟨h0, v, rfl, h2⟩⟩ := h
    · have hp : p < T.length := (List.getElem?_eq_some_iff.1 h2).1
      by_cases hc : l.length + r.length ≤ 10
      · refine ⟨.sl (S.length + p) 0 0 (l.length + r.length) 10 true, S ++ T.set p (.cells (buf (l ++ r)) 0 none true), ?_, T.set p (.cells (buf (l ++ r)) 0 none true), p, rfl, .inl ⟨by rw [List.length_append]; exact hc, by rw [List.length_append], by simp [hp]⟩⟩
        have hB : (S ++ T)[S.length + p]? = some (.cells (buf l) 0 none true) := by rw [at_app]; exact h2
        simp only [appV]
        rw [if_neg (by omega), if_pos hc]
        simp only [hB]
        rw [if_pos ⟨trivial, by rw [buf_len h0]; omega, b8_one r⟩, splice_buf hc, set_app]
      · refine ⟨.sl (S ++ T).length 0 0 (l.length + r.length) (l.length + r.length) false, (S ++ T) ++ [.cells ((l ++ r).flatMap byteE.enc) 0 (some 1) true], ?_, T ++ [.cells ((l ++ r).flatMap byteE.enc) 0 (some 1) true], T.length, by rw [List.append_assoc], .inr ⟨by rw [List.length_append]; omega, 0, by rw [List.length_append, List.length_append], by simp⟩⟩
        have hrow : rowAt (S ++ T) (S.length + p) 0 0 (l.length * 1) = some (b8 l) := by
          rw [rowAt_B, at_app, h2, rowB_some, if_pos (by rw [buf_len h0]; omega), List.drop_zero]
          unfold buf
          rw [List.take_append_of_le_length (by rw [b8_len]; omega), List.take_of_length_le (by rw [b8_len]; omega)]
        simp only [appV, hrow]
        rw [if_neg (by omega), if_neg hc, if_pos ⟨by unfold lim; omega, by unfold lim; omega⟩]
        simp only [if_true]
        rw [enc8]
        unfold b8
        rw [List.map_append]
    · have hacc : Acc true byteE S (S ++ T) (.sl (S.length + p) 0 v l.length l.length false) l := ⟨T, rfl, .inr (.inr ⟨by intro e; subst e; simp at h0, p, v, rfl, h2⟩)⟩
      obtain ⟨x', M', ha, T', hT', h3⟩ := hacc.apps (bytes := 1) byteE_one r (by omega) (by omega)
      rw [enc8] at ha
      refine ⟨x', M', ha, ?_⟩
      rcases h3 with ⟨h3, _⟩ | ⟨h3, _⟩ | ⟨_, q, v', h4, h5⟩
      · exact absurd (List.append_eq_nil_iff.1 h3).2 hr
      · exact absurd (List.append_eq_nil_iff.1 h3).2 hr
      · exact ⟨T', q, hT', .inr ⟨by rw [List.length_append]; omega, v', h4, h5⟩⟩
def outX (S : Mem) (l : List Int) : AV := if l.length ≤ 10 then .sl S.length 0 0 l.length 10 true else .sl S.length 0 0 l.length l.length false
def outM (S : Mem) (l : List Int) : Mem := if l.length ≤ 10 then S ++ [.cells (buf l) 0 none true] else S ++ [.cells (l.flatMap byteE.enc) 0 (some 1) true]
theorem Bfr.ret {x : AV} {l : List Int} (h : Bfr S M x l) : WkV S (outX S l) (outM S l) x M := by
  obtain ⟨T, p, rfl, ⟨h0, rfl, h2⟩ | ⟨h0, v, rfl, h2⟩⟩ := h
  · unfold outX outM
    rw [if_pos h0, if_pos h0]
    exact wkv_at h2 (buf_flat l _)
  · unfold outX outM
    rw [if_neg (by omega), if_neg (by omega)]
    exact wkv_at h2 fun c hc => by
      obtain ⟨a, _, ha⟩ := List.mem_flatMap.1 hc
      exact byteE_flat _ a c ha
theorem out_lst (l : List Int) : lstV byteE (outM S l) (outX S l) = some l := by
  unfold outX outM
  split
  · rename_i h
    refine lst_lstV (.inr (.inr ⟨_, _, _, _, _, _, rfl, rfl, ?_⟩))
    rw [rowAt_B, at_app0, List.getElem?_cons_zero, rowB_some, if_pos (by rw [buf_len h]; show 0 + l.length * 1 ≤ 10; omega), List.drop_zero, enc8]
    unfold buf
    rw [List.take_append_of_le_length (by rw [b8_len]; exact Nat.le_of_eq (Nat.mul_one _)), List.take_of_length_le (by rw [b8_len]; exact Nat.le_of_eq (Nat.mul_one _).symm)]
  · refine lst_lstV (.inr (.inr ⟨_, _, _, _, _, _, rfl, rfl, ?_⟩))
    rw [rowAt_B, at_app0, List.getElem?_cons_zero, rowB_some, if_pos (by rw [enc_length]; omega), List.drop_zero, ← enc_length, List.take_length]
theorem out_ext (l : List Int) : S <+: outM S l := by unfold outM; split <;> exact ext_app _
end

def flagS : Spec := fun args S => match args with
  | [.b b] => some (.i .u64 (flagN b), S)
  | _ => none
theorem flag_ok : SpecOK Tryz.prog 44 flagS := by
  intro args S x S' h
  simp only [flagS] at h
  split at h
  · rename_i b
    cases h
    refine fn_of_wp f44 rfl (W_sound none_ok mixed _ _ _ _ _ ?_)
    cases b with
    | true => simp (maxSteps := 1000000) (disch := omega) only [c44, go_sem]; exact wkv_same
    | false => simp (maxSteps := 1000000) (disch := omega) only [c44, go_sem]; exact wkv_same
  · cases h
def opBytesS : Spec := fun args S => match args with
  | [.ag a] => match opOf S a with
    | some o => if o.good ∧ o.right then (if o.kind = 0 then some (retX false S o.code, retM false byteE S o.code) else some (outX S o.code, outM S o.code)) else none
    | none => none
  | _ => none
theorem opBytes_call {S : Mem} {a : List AV} {o : Opx} (h : opOf S a = some o) (hg : o.good) (hr : o.right) : ∃ X M, opBytesS [.ag a] S = some (X, M) ∧ lstV byteE M X = some o.code ∧ S <+: M := by
  by_cases h0 : o.kind = 0
  · exact ⟨retX false S o.code, retM false byteE S o.code, by simp only [opBytesS, h, if_pos (And.intro hg hr), if_pos h0], retX_lst, retM_ext⟩
  · exact ⟨_, _, by simp only [opBytesS, h, if_pos (And.intro hg hr), if_neg h0], out_lst _, out_ext _⟩
def boxC (k : Int) (o : Opx) (x y : AV) : List AV := [.i .i64 k, .i .i64 o.sub, .i .i64 o.brk, .i .u64 o.n, x, .i .i64 o.pol.sub, .i .u8 o.pol.a, .i .u8 o.pol.b, .i .u8 o.pol.c, .i .u8 o.pol.d, .i .i64 o.pol.bits, .i .u64 o.pol.rate, .i .u64 o.pol.burst, .i .u64 o.pol.srate, .i .u64 o.pol.sburst, .i .u64 o.pol.quota, .i .u64 o.pol.lease, .i .u64 o.pol.quantum, y]
theorem buf_lst {M : Mem} {i : Nat} {l : List Int} (h : l.length ≤ 10) (hB : M[i]? = some (.cells (buf l) 0 none true)) : lstV byteE M (.sl i 0 0 l.length 10 true) = some l := by
  refine lst_lstV (.inr (.inr ⟨_, _, _, _, _, _, rfl, rfl, ?_⟩))
  rw [rowAt_B, hB, enc8, show l.length * byteE.sz = l.length from Nat.mul_one _]
  rw [rowB_some, if_pos (by rw [buf_len h]; omega), List.drop_zero]
  unfold buf
  rw [List.take_append_of_le_length (by rw [b8_len]; omega), List.take_of_length_le (by rw [b8_len]; omega)]
theorem leb_1 {k : Int} (h : k < 128) : leb k = [k] := leb_lt h
theorem oOb_ok : OK Tryz.prog (lamOf Tryz.prog) (orcOf [(41, putS), (42, catS), (22, zigS), (43, numS), (21, lebsS false), (44, flagS)]) := orc_ok (by simpa using ⟨put_ok, cat_ok, zig_ok, num_ok, lebs_ok, flag_ok⟩)
theorem buf_row {l : List Int} (h : l.length ≤ 10) : rowB (some (.cells (buf l) 0 none true)) 0 0 l.length = some (b8 l) := by
  rw [rowB_some, if_pos (by rw [buf_len h]; omega), List.drop_zero]
  unfold buf
  rw [List.take_append_of_le_length (by rw [b8_len]; omega), List.take_of_length_le (by rw [b8_len]; omega)]
set_option maxHeartbeats 4000000 in
theorem opBytes_ok : SpecOK Tryz.prog 23 opBytesS := by
  intro args S x S' h
  simp only [opBytesS] at h
  split at h
  · rename_i ca
    split at h
    · rename_i o ho
      split at h
      · rename_i hc
        obtain ⟨hg, hr⟩ := hc
        have hcl := code_len hg hr
        have hcode := code_form hr []
        rw [List.append_nil, List.append_nil, leb_1 (by have := hr.2.1; omega)] at hcode
        obtain ⟨x, y, rfl, hx, hy⟩ := opOf_ok ho
        have hk0 := hr.1
        have hk12 := hr.2.1
        have wk : wrapV .u64 o.kind = o.kind := wrap_u64 (by omega) (by omega)
        have hput := fun M => put_eq (n := o.kind) ⟨by omega, by omega⟩ M
        rw [leb_1 (by omega)] at hput
        have lx := lst_len hx
        have ly := lst_len hy
        have cx := lst_cells hx
        have cy := lst_cells hy
        refine fn_of_wp f23 rfl (W_sound oOb_ok mixed _ _ _ _ _ ?_)
        by_cases e0 : o.kind = 0
        · rw [if_pos e0] at h
          cases h
          rw [if_pos e0] at hcode
          have hbl := hr.2.2.1
          have wl : wrapV .u64 (o.bs.length : Int) = o.bs.length := wrap_u64 (by omega) (by omega)
          have hput2 := fun M => put_eq (n := (o.bs.length : Int)) ⟨by omega, by omega⟩ M
          rw [e0] at hput
          have hcat : ∀ B0 : Blk, catS [.sl (S.length + 3) 0 0 3 3 true] (S ++ [B0, .cells (buf [0]) 0 none true, .cells (buf (leb (o.bs.length : Int))) 0 none true, .cells [.sl (S.length + 1) 0 0 1 10 true, .sl (S.length + 2) 0 0 (leb (o.bs.length : Int)).length 10 true, x] 0 none true]) =
              some (retX false (S ++ [B0, .cells (buf [0]) 0 none true, .cells (buf (leb (o.bs.length : Int))) 0 none true, .cells [.sl (S.length + 1) 0 0 1 10 true, .sl (S.length + 2) 0 0 (leb (o.bs.length : Int)).length 10 true, x] 0 none true]) o.code,
                retM false byteE (S ++ [B0, .cells (buf [0]) 0 none true, .cells (buf (leb (o.bs.length : Int))) 0 none true, .cells [.sl (S.length + 1) 0 0 1 10 true, .sl (S.length + 2) 0 0 (leb (o.bs.length : Int)).length 10 true, x] 0 none true]) o.code) := fun B0 => by
            have hp : partsV (S ++ [B0, .cells (buf [0]) 0 none true, .cells (buf (leb (o.bs.length : Int))) 0 none true, .cells [.sl (S.length + 1) 0 0 1 10 true, .sl (S.length + 2) 0 0 (leb (o.bs.length : Int)).length 10 true, x] 0 none true]) [.sl (S.length + 1) 0 0 1 10 true, .sl (S.length + 2) 0 0 (leb (o.bs.length : Int)).length 10 true, x] = some [[0], leb (o.bs.length : Int), o.bs] := by
              have p1 := buf_lst (M := S ++ [B0, .cells (buf [0]) 0 none true, .cells (buf (leb (o.bs.length : Int))) 0 none true, .cells [.sl (S.length + 1) 0 0 1 10 true, .sl (S.length + 2) 0 0 (leb (o.bs.length : Int)).length 10 true, x] 0 none true]) (i := S.length + 1) (l := [0]) (by simp) (by rw [at_app]; rfl)
              have p2 := buf_lst (M := S ++ [B0, .cells (buf [0]) 0 none true, .cells (buf (leb (o.bs.length : Int))) 0 none true, .cells [.sl (S.length + 1) 0 0 1 10 true, .sl (S.length + 2) 0 0 (leb (o.bs.length : Int)).length 10 true, x] 0 none true]) (i := S.length + 2) (l := leb (o.bs.length : Int)) (leb_len10 ⟨by omega, by omega⟩) (by rw [at_app]; rfl)
              have p3 := lstV_grow hx [B0, .cells (buf [0]) 0 none true, .cells (buf (leb (o.bs.length : Int))) 0 none true, .cells [.sl (S.length + 1) 0 0 1 10 true, .sl (S.length + 2) 0 0 (leb (o.bs.length : Int)).length 10 true, x] 0 none true]
              have p1 : lstV byteE _ (.sl (S.length + 1) 0 0 1 10 true) = some [0] := p1
              simp only [partsV, p1, p2, p3]
            have hf : [[0], leb (o.bs.length : Int), o.bs].flatten = o.code := by rw [hcode, e0]; simp
            simp only [catS]
            rw [at_app]
            simp only [List.getElem?_cons_succ, List.getElem?_cons_zero, hp, hf]
            rw [if_pos ⟨rfl, by omega, by omega⟩]
          simp (maxSteps := 1000000) (disch := omega) only [c23, cx, cy, lx, ly, e0, wk, wl, orc_cons, hput, hput2, List.replicate, lst_one hx, hcat, go_sem]
          exact ((retX_acc (z := false) (E := byteE)).base (ext_app _)).ret byteE_flat
        · rw [if_neg e0] at h
          cases h
          rw [if_neg e0] at hcode
          by_cases e1 : o.kind = 1
          · rw [if_pos e1] at hcode
            rw [e1] at hput
            have hput2 := fun M => put_eq (n := o.n) hg.2.2.2.1 M
            have h10 := leb_len10 hg.2.2.2.1
            obtain ⟨x1, M1, ha, hB1⟩ := Bfr.apps (S := S) (M := S ++ [.cells (boxC 1 o x y) 0 none true, .cells (buf [1]) 0 none true, .cells (buf (leb o.n)) 0 none true]) (l := [1]) ⟨_, 1, rfl, .inl ⟨by simp, rfl, rfl⟩⟩ (leb o.n) (by simp; omega)
            have ha : appV (S ++ [.cells (boxC 1 o x y) 0 none true, .cells (buf [1]) 0 none true, .cells (buf (leb o.n)) 0 none true]) 1 1 (.sl (S.length + 1) 0 0 1 10 true) (b8 (leb o.n)) (leb o.n).length = some (x1, M1) := ha
            simp only [boxC] at ha
            have hb := buf_row h10
            simp (maxSteps := 1000000) (disch := omega) only [c23, cx, cy, lx, ly, e1, wk, orc_cons, hput, hput2, src_sl, hb, srcN_some, Nat.mul_one, ha, go_sem]
            rw [hcode, e1]
            exact hB1.ret
          rw [if_neg e1] at hcode
          by_cases e4 : o.kind = 4
          · rw [if_pos e4] at hcode
            rw [e4] at hput
            obtain ⟨g1, g2, g3, g4, g5, g6⟩ := hg
            have hzs := zs_u64 g6
            have z1 := zigS_eq g6.1
            have z2 := zigS_eq g6.2.2.1
            have hnum := numS_eq g6.2.1
            have hn32 := u84_num g6.2.1
            have w3 : wrapV .u64 (num o.pol.a o.pol.b o.pol.c o.pol.d) = num o.pol.a o.pol.b o.pol.c o.pol.d := wrap_u64 (by unfold u32 at hn32; omega) (by unfold u32 at hn32; omega)
            have hzl : (lebs o.pol.zs).length ≤ 100 := lebs_len hzs
            have hne : lebs o.pol.zs ≠ [] := by unfold Pol.zs lebs; rw [List.flatMap_cons]; intro h; exact leb_ne _ (List.append_eq_nil_iff.1 h).1
            have hN : ∀ B0 B1 B2 : Blk, lebsS false [.sl (S.length + 3) 0 0 10 10 true] (S ++ [B0, B1, B2, .cells (o.pol.zs.map (.i .u64)) 0 none true]) = some (.sl (S.length + 4) 0 0 (lebs o.pol.zs).length (lebs o.pol.zs).length false, S ++ [B0, B1, B2, .cells (o.pol.zs.map (.i .u64)) 0 none true, .cells ((lebs o.pol.zs).flatMap byteE.enc) 0 (some 1) true]) := fun B0 B1 B2 => by
              have hl : lstV numE (S ++ [B0, B1, B2, .cells (o.pol.zs.map (.i .u64)) 0 none true]) (.sl (S.length + 3) 0 0 10 10 true) = some o.pol.zs := by
                refine lst_lstV (.inr (.inr ⟨_, _, _, _, _, _, rfl, rfl, ?_⟩))
                rw [rowAt_B, at_app]
                rfl
              rw [lebs_eq hl (by simp [Pol.zs]) hzs, retX_ne hne, retM_ne hne]
              simp only [List.length_append, List.append_assoc]
              rfl
            obtain ⟨x1, M1, ha, hB1⟩ := Bfr.apps (S := S) (M := S ++ [.cells (boxC 4 o x y) 0 none true, .cells (buf [4]) 0 none true, .cells o.pol.enc 0 none true, .cells (o.pol.zs.map (.i .u64)) 0 none true, .cells ((lebs o.pol.zs).flatMap byteE.enc) 0 (some 1) true]) (l := [4]) ⟨_, 1, rfl, .inl ⟨by simp, rfl, rfl⟩⟩ (lebs o.pol.zs) (by simp; omega)
            have ha : appV (S ++ [.cells (boxC 4 o x y) 0 none true, .cells (buf [4]) 0 none true, .cells o.pol.enc 0 none true, .cells (o.pol.zs.map (.i .u64)) 0 none true, .cells ((lebs o.pol.zs).flatMap byteE.enc) 0 (some 1) true]) 1 1 (.sl (S.length + 1) 0 0 1 10 true) (b8 (lebs o.pol.zs)) (lebs o.pol.zs).length = some (x1, M1) := ha
            simp only [boxC, Pol.enc, Pol.zs, List.map_cons, List.map_nil] at ha hN
            have hb : rowB (some (.cells ((lebs [zig o.pol.sub, num o.pol.a o.pol.b o.pol.c o.pol.d, zig o.pol.bits, o.pol.rate, o.pol.burst, o.pol.srate, o.pol.sburst, o.pol.quota, o.pol.lease, o.pol.quantum]).flatMap byteE.enc) 0 (some 1) true)) 0 0 (lebs [zig o.pol.sub, num o.pol.a o.pol.b o.pol.c o.pol.d, zig o.pol.bits, o.pol.rate, o.pol.burst, o.pol.srate, o.pol.sburst, o.pol.quota, o.pol.lease, o.pol.quantum]).length = some (b8 (lebs [zig o.pol.sub, num o.pol.a o.pol.b o.pol.c o.pol.d, zig o.pol.bits, o.pol.rate, o.pol.burst, o.pol.srate, o.pol.sburst, o.pol.quota, o.pol.lease, o.pol.quantum])) := by
              rw [rowB_some, if_pos (by rw [enc8, b8_len]; omega), List.drop_zero, enc8, List.take_of_length_le (by rw [b8_len]; omega)]
            simp (maxSteps := 1000000) (disch := omega) only [c23, cx, cy, lx, ly, e4, wk, orc_cons, hput, z1, z2, hnum, w3, List.replicate, hN, src_sl, hb, srcN_some, Nat.mul_one, ha, go_sem]
            rw [hcode, e4]
            exact hB1.ret
          rw [if_neg e4] at hcode
          by_cases e5 : o.kind = 5
          · rw [if_pos (.inl e5)] at hcode
            rw [e5] at hput
            have hu2 := zig_u64 hg.2.1
            have z1 := zigS_eq hg.2.1
            have h10 := leb_len10 hu2
            have hput2 := fun M => put_eq (n := zig o.sub) hu2 M
            obtain ⟨x1, M1, ha, hB1⟩ := Bfr.apps (S := S) (M := S ++ [.cells (boxC 5 o x y) 0 none true, .cells (buf [5]) 0 none true, .cells (buf (leb (zig o.sub))) 0 none true]) (l := [5]) ⟨_, 1, rfl, .inl ⟨by simp, rfl, rfl⟩⟩ (leb (zig o.sub)) (by simp; omega)
            have ha : appV (S ++ [.cells (boxC 5 o x y) 0 none true, .cells (buf [5]) 0 none true, .cells (buf (leb (zig o.sub))) 0 none true]) 1 1 (.sl (S.length + 1) 0 0 1 10 true) (b8 (leb (zig o.sub))) (leb (zig o.sub)).length = some (x1, M1) := ha
            simp only [boxC] at ha
            have hb := buf_row h10
            simp (maxSteps := 1000000) (disch := omega) only [c23, cx, cy, lx, ly, e5, wk, orc_cons, hput, hput2, z1, src_sl, hb, srcN_some, Nat.mul_one, ha, go_sem]
            rw [hcode, e5]
            exact hB1.ret
          by_cases e8 : o.kind = 8
          · rw [if_pos (.inr e8)] at hcode
            rw [e8] at hput
            have hu2 := zig_u64 hg.2.1
            have z1 := zigS_eq hg.2.1
            have h10 := leb_len10 hu2
            have hput2 := fun M => put_eq (n := zig o.sub) hu2 M
            obtain ⟨x1, M1, ha, hB1⟩ := Bfr.apps (S := S) (M := S ++ [.cells (boxC 8 o x y) 0 none true, .cells (buf [8]) 0 none true, .cells (buf (leb (zig o.sub))) 0 none true]) (l := [8]) ⟨_, 1, rfl, .inl ⟨by simp, rfl, rfl⟩⟩ (leb (zig o.sub)) (by simp; omega)
            have ha : appV (S ++ [.cells (boxC 8 o x y) 0 none true, .cells (buf [8]) 0 none true, .cells (buf (leb (zig o.sub))) 0 none true]) 1 1 (.sl (S.length + 1) 0 0 1 10 true) (b8 (leb (zig o.sub))) (leb (zig o.sub)).length = some (x1, M1) := ha
            simp only [boxC] at ha
            have hb := buf_row h10
            simp (maxSteps := 1000000) (disch := omega) only [c23, cx, cy, lx, ly, e8, wk, orc_cons, hput, hput2, z1, src_sl, hb, srcN_some, Nat.mul_one, ha, go_sem]
            rw [hcode, e8]
            exact hB1.ret
          rw [if_neg (by omega)] at hcode
          by_cases e10 : o.kind = 10
          · rw [if_pos e10] at hcode
            rw [e10] at hput
            have hu2 := zig_u64 hg.2.2.1
            have z1 := zigS_eq hg.2.2.1
            have h10 := leb_len10 hu2
            have hput2 := fun M => put_eq (n := zig o.brk) hu2 M
            obtain ⟨x1, M1, ha, hB1⟩ := Bfr.apps (S := S) (M := S ++ [.cells (boxC 10 o x y) 0 none true, .cells (buf [10]) 0 none true, .cells (buf (leb (zig o.brk))) 0 none true]) (l := [10]) ⟨_, 1, rfl, .inl ⟨by simp, rfl, rfl⟩⟩ (leb (zig o.brk)) (by simp; omega)
            have ha : appV (S ++ [.cells (boxC 10 o x y) 0 none true, .cells (buf [10]) 0 none true, .cells (buf (leb (zig o.brk))) 0 none true]) 1 1 (.sl (S.length + 1) 0 0 1 10 true) (b8 (leb (zig o.brk))) (leb (zig o.brk)).length = some (x1, M1) := ha
            simp only [boxC] at ha
            have hb := buf_row h10
            simp (maxSteps := 1000000) (disch := omega) only [c23, cx, cy, lx, ly, e10, wk, orc_cons, hput, hput2, z1, src_sl, hb, srcN_some, Nat.mul_one, ha, go_sem]
            rw [hcode, e10]
            exact hB1.ret
          rw [if_neg e10] at hcode
          by_cases e11 : o.kind = 11
          · rw [if_pos e11] at hcode
            rw [e11] at hput
            have hkl := hr.2.2.2.1
            have hu2 : u64 (o.ks.length : Int) := ⟨by omega, by omega⟩
            have wl : wrapV .u64 (o.ks.length : Int) = o.ks.length := wrap_u64 (by omega) (by omega)
            have h10 := leb_len10 hu2
            have hput2 := fun M => put_eq (n := (o.ks.length : Int)) hu2 M
            obtain ⟨x1, M1, ha, hB1⟩ := Bfr.apps (S := S ++ [.cells (boxC 11 o x y) 0 none true]) (M := S ++ [.cells (boxC 11 o x y) 0 none true, .cells (buf [11]) 0 none true, .cells (buf (leb (o.ks.length : Int))) 0 none true]) (l := [11]) (x := .sl (S.length + 1) 0 0 1 10 true) ⟨[.cells (buf [11]) 0 none true, .cells (buf (leb (o.ks.length : Int))) 0 none true], 0, by rw [List.append_assoc]; rfl, .inl ⟨by simp, by rw [List.length_append]; rfl, rfl⟩⟩ (leb (o.ks.length : Int)) (by simp; omega)
            have hbx : M1[S.length]? = some (.cells (boxC 11 o x y) 0 none true) := at_pre hB1.ext (by rw [at_app0]; rfl)
            simp only [boxC] at ha hbx
            have hb := buf_row h10
            simp (maxSteps := 1000000) (disch := omega) only [c23, cx, cy, lx, ly, e11, wk, wl, orc_cons, hput, hput2, src_sl, hb, srcN_some, Nat.mul_one, ha, hbx, go_sem]
            refine wp_loop (fun j e M dl => dl = [] ∧ ∃ (k : Nat) (z : AV), j = o.ks.length - k ∧ k ≤ o.ks.length ∧ Bfr S M z ([11] ++ leb (o.ks.length : Int) ++ (o.ks.take k).flatMap fun b => leb (flagN b)) ∧
              e.get 93 = y ∧ e.get 94 = .i .i64 o.ks.length ∧ e.get 95 = .i .i64 k ∧ e.get 3 = z) (j := o.ks.length) ⟨rfl, 0, x1, rfl, Nat.zero_le _, by rw [List.take_zero, List.flatMap_nil, List.append_nil]; exact hB1.base (ext_app _), rfl, rfl, rfl, rfl⟩ ?_
            rintro j e M d' ⟨rfl, k, z, rfl, hk, hB, e93, e94, e95, e3⟩
            refine W_sound oOb_ok mixed _ _ _ _ _ ?_
            by_cases hkl2 : k < o.ks.length
            · have hyM := lst_ext hy hB.ext
              obtain ⟨bi, oo, v, cap, ex, rfl⟩ := lst_sl hyM hkl2
              have hkI : (k : Int) < o.ks.length := by omega
              have hk6 : k < 1000000 := by omega
              have hc : cellB (M[bi]?) (oo + k) v = some (.b o.ks[k]) := by
                have := lstV_row hyM hkl2 []
                rw [List.append_nil, show boolE.sz = 1 from rfl, Nat.mul_one] at this
                exact row_b this
              have hfl : ∀ M, flagS [.b o.ks[k]] M = some (.i .u64 (flagN o.ks[k]), M) := fun M => rfl
              have hu3 := flag_u64 o.ks[k]
              have hput3 := fun M => put_eq (n := flagN o.ks[k]) hu3 M
              have hlf : leb (flagN o.ks[k]) = [flagN o.ks[k]] := leb_1 (by cases o.ks[k] <;> simp [flagN])
              have hts : (o.ks.take k).flatMap (fun b => leb (flagN b)) ++ leb (flagN o.ks[k]) = (o.ks.take (k + 1)).flatMap fun b => leb (flagN b) := by
                rw [List.take_succ_eq_append_getElem hkl2, List.flatMap_append]; simp
              have hlen : ((o.ks.take k).flatMap fun b => leb (flagN b)).length ≤ 640 := by
                rw [← lebs_flags]
                have := lebs_len (l := (o.ks.take k).map flagN) fun n hn => by obtain ⟨b, _, rfl⟩ := List.mem_map.1 hn; exact flag_u64 b
                rw [List.length_map, List.length_take] at this; omega
              obtain ⟨z2, M2, ha2, hB2⟩ := (hB.grow [.cells (buf (leb (flagN o.ks[k]))) 0 none true]).apps (leb (flagN o.ks[k])) (by rw [List.length_append, List.length_append, hlf]; simp only [List.length_cons, List.length_nil]; omega)
              rw [List.append_assoc, hts] at hB2
              have hb2 := buf_row (leb_len10 hu3)
              simp (maxSteps := 1000000) (disch := omega) only [c23l2, e93, e94, e95, e3, hkI, Int.toNat_natCast, Nat.mul_one, hc, orc_cons, hfl, hput3, src_sl, hb2, srcN_some, ha2, wrapS hk6, go_sem]
              exact ⟨o.ks.length - (k + 1), by omega, k + 1, z2, rfl, hkl2, hB2, rfl, rfl⟩
            · have hkI : ¬ (k : Int) < o.ks.length := by omega
              rw [List.take_of_length_le (by omega), List.append_assoc] at hB
              simp (maxSteps := 1000000) (disch := omega) only [c23l2, e93, e94, e95, e3, hkI, go_sem]
              rw [hcode, e11]
              exact hB.ret
          rw [if_neg e11, List.append_nil] at hcode
          simp (maxSteps := 1000000) (disch := omega) only [c23, cx, cy, lx, ly, e0, e1, e4, e5, e8, e10, e11, wk, orc_cons, hput, go_sem]
          rw [hcode]
          exact Bfr.ret ⟨_, 1, rfl, .inl ⟨by simp, rfl, rfl⟩⟩
      · cases h
    · cases h
  · cases h
end Go.Proofs.YtmolaemlenllmaaGreat

namespace Go.Proofs.YtmolaemlenllmaaGreat
open Go.RowKit
set_option linter.unusedSimpArgs false
set_option linter.unusedVariables false
set_option maxRecDepth 10000

def rOneS : Spec := fun args S => match args with
  | [.ag a] => match opOf S a with
    | some o => if o.good ∧ o.right then some (retX true S o.code, retM true byteE S o.code) else none
    | none => none
  | _ => none
theorem rOne_call {S : Mem} {a : List AV} {o : Opx} (h : opOf S a = some o) (hg : o.good) (hr : o.right) : ∃ X M, rOneS [.ag a] S = some (X, M) ∧ lstV byteE M X = some o.code ∧ S <+: M :=
  ⟨retX true S o.code, retM true byteE S o.code, by simp only [rOneS, h, if_pos (And.intro hg hr)], retX_lst, retM_ext⟩
theorem lebs_nne {n : Int} {l : List Int} : lebs (n :: l) ≠ [] := by
  unfold lebs; rw [List.flatMap_cons]; intro h; exact leb_ne _ (List.append_eq_nil_iff.1 h).1
/-- The end: the numbers as bytes, and the op's bytes behind them. -/
theorem one_fin {S M : Mem} {B0 : Blk} {L x : AV} {o : Opx} (hM : S ++ [B0] <+: M) (hl : lstV numE M L = some o.ns) (hg : o.good) (hr : o.right) (hx : lstV byteE S x = some o.bs) :
    ∃ X M' x2 M2, lebsS true [L] M = some (X, M') ∧ M[S.length]? = some B0 ∧ appV M' 1 1 X (o.bs.flatMap byteE.enc) o.bs.length = some (x2, M2) ∧ srcV M' 1 x = some (o.bs.flatMap byteE.enc, o.bs.length) ∧ Acc true byteE S M2 x2 o.code ∧ M <+: M' := by
  have hu := ns_u64 hg hr
  have h66 := ns_len hr
  have hSM : S <+: M := (ext_app _).trans hM
  have hbl := hr.2.2.1
  have hll := lebs_len hu
  have hA : Acc true byteE S (retM true byteE M (lebs o.ns)) (retX true M (lebs o.ns)) (lebs o.ns) := (retX_acc (z := true) (E := byteE)).base hSM
  obtain ⟨x2, M2, ha, hA2⟩ := hA.apps (bytes := 1) byteE_one o.bs (by omega) (by omega)
  exact ⟨_, _, x2, M2, lebs_eq hl (by omega) hu, at_pre hM (by rw [at_app0]; rfl), ha, src_lst (lst_ext hx (hSM.trans retM_ext)), hA2, retM_ext⟩
theorem oRo_ok : OK Tryz.prog (lamOf Tryz.prog) (orcOf [(30, zigS), (57, numS), (29, lebsS true)]) := orc_ok (by simpa using ⟨rzig_ok, rnum_ok, rlebs_ok⟩)
theorem u64E (l : List Int) : l.flatMap numE.enc = l.map (.i .u64) := by
  induction l with
  | nil => rfl
  | cons a l ih => rw [List.flatMap_cons, ih]; rfl
theorem lit_num {M : Mem} {i v n cap : Nat} {op : Option Nat} {ex : Bool} {l : List Int} (hn : l.length = n) (hB : M[i]? = some (.cells (l.map (.i .u64)) v op true)) : lstV numE M (.sl i 0 v n cap ex) = some l := by
  refine lst_lstV (.inr (.inr ⟨_, _, _, _, _, _, rfl, hn, ?_⟩))
  rw [rowAt_B, hB, rowB_some, if_pos (by rw [List.length_map, hn]; exact Nat.le_of_eq (by rw [Nat.zero_add]; exact Nat.mul_one n)), List.drop_zero, u64E, List.take_of_length_le (by rw [List.length_map, hn]; exact Nat.le_of_eq (Nat.mul_one n).symm)]
set_option maxHeartbeats 4000000 in
theorem rOne_ok : SpecOK Tryz.prog 31 rOneS := by
  intro args S x S' h
  simp only [rOneS] at h
  split at h
  · rename_i ca
    split at h
    · rename_i o ho
      split at h
      · rename_i hc
        obtain ⟨hg, hr⟩ := hc
        cases h
        obtain ⟨x, y, rfl, hx, hy⟩ := opOf_ok ho
        have hk0 := hr.1
        have hk12 := hr.2.1
        have wk : wrapV .u64 o.kind = o.kind := wrap_u64 (by omega) (by omega)
        have lx := lst_len hx
        have ly := lst_len hy
        have cx := lst_cells hx
        have cy := lst_cells hy
        refine fn_of_wp f31 rfl (W_sound oRo_ok mixed _ _ _ _ _ ?_)
        by_cases e0 : o.kind = 0
        · have hns : o.ns = [0, (o.bs.length : Int)] := by unfold Opx.ns; rw [if_pos e0, e0]
          have hbl := hr.2.2.1
          have wl : wrapV .u64 (o.bs.length : Int) = o.bs.length := wrap_u64 (by omega) (by omega)
          obtain ⟨X, M', x2, M2, hN, hB, ha, hs, hA, hE⟩ := one_fin (B0 := .cells (boxC 0 o x y) 0 none true) (M := S ++ [.cells (boxC 0 o x y) 0 none true, .cells [.i .u64 0] 0 none true, .cells [.i .u64 (o.bs.length : Int)] 0 none true, .cells [.i .u64 0, .i .u64 (o.bs.length : Int)] 0 (some 1) true]) (L := .sl (S.length + 3) 0 0 2 2 false)
            ⟨[.cells [.i .u64 0] 0 none true, .cells [.i .u64 (o.bs.length : Int)] 0 none true, .cells [.i .u64 0, .i .u64 (o.bs.length : Int)] 0 (some 1) true], by rw [List.append_assoc]; rfl⟩ (by rw [hns]; exact lit_num rfl (by rw [at_app]; rfl)) hg hr hx
          simp only [boxC] at hN hB hE
          simp (maxSteps := 1000000) (disch := omega) only [c31, cx, cy, lx, ly, e0, wk, wl, List.replicate, src_sl, srcN_some, app_ex, appN_some, orc_cons, hN, hB, hs, ha, go_sem]
          exact ⟨hE, hA.ret byteE_flat⟩
        by_cases e1 : o.kind = 1
        · have hns : o.ns = [1, o.n] := by unfold Opx.ns; rw [if_neg e0, if_pos e1, e1]
          obtain ⟨X, M', x2, M2, hN, hB, ha, hs, hA, hE⟩ := one_fin (B0 := .cells (boxC 1 o x y) 0 none true) (M := S ++ [.cells (boxC 1 o x y) 0 none true, .cells [.i .u64 1] 0 none true, .cells [.i .u64 o.n] 0 none true, .cells [.i .u64 1, .i .u64 o.n] 0 (some 1) true]) (L := .sl (S.length + 3) 0 0 2 2 false)
            ⟨[.cells [.i .u64 1] 0 none true, .cells [.i .u64 o.n] 0 none true, .cells [.i .u64 1, .i .u64 o.n] 0 (some 1) true], by rw [List.append_assoc]; rfl⟩ (by rw [hns]; exact lit_num rfl (by rw [at_app]; rfl)) hg hr hx
          simp only [boxC] at hN hB hE
          simp (maxSteps := 1000000) (disch := omega) only [c31, cx, cy, lx, ly, e1, wk, List.replicate, src_sl, srcN_some, app_ex, appN_some, orc_cons, hN, hB, hs, ha, go_sem]
          exact ⟨hE, hA.ret byteE_flat⟩
        by_cases e4 : o.kind = 4
        · have hns : o.ns = 4 :: o.pol.zs := by unfold Opx.ns; rw [if_neg e0, if_neg e1, if_pos e4, e4]
          have g6 := hg.2.2.2.2.2
          have z1 := zigS_eq g6.1
          have z2 := zigS_eq g6.2.2.1
          have hnum := numS_eq g6.2.1
          have hn32 := u84_num g6.2.1
          have w3 : wrapV .u64 (num o.pol.a o.pol.b o.pol.c o.pol.d) = num o.pol.a o.pol.b o.pol.c o.pol.d := wrap_u64 (by unfold u32 at hn32; omega) (by unfold u32 at hn32; omega)
          have happ : ∀ B0 : Blk, appV (S ++ [B0, .cells [.i .u64 4] 0 none true, .cells o.pol.enc 0 none true, .cells [.i .u64 (zig o.pol.sub), .i .u64 (num o.pol.a o.pol.b o.pol.c o.pol.d), .i .u64 (zig o.pol.bits)] 0 none true, .cells [.i .u64 4, .i .u64 (zig o.pol.sub), .i .u64 (num o.pol.a o.pol.b o.pol.c o.pol.d), .i .u64 (zig o.pol.bits)] 0 (some 1) true, .cells [.i .u64 o.pol.rate, .i .u64 o.pol.burst, .i .u64 o.pol.srate, .i .u64 o.pol.sburst, .i .u64 o.pol.quota, .i .u64 o.pol.lease, .i .u64 o.pol.quantum] 0 none true]) 1 8 (.sl (S.length + 4) 0 0 4 4 false) [.i .u64 o.pol.rate, .i .u64 o.pol.burst, .i .u64 o.pol.srate, .i .u64 o.pol.sburst, .i .u64 o.pol.quota, .i .u64 o.pol.lease, .i .u64 o.pol.quantum] 7 =
              some (.sl (S.length + 4) 0 1 11 11 false, S ++ [B0, .cells [.i .u64 4] 0 none true, .cells o.pol.enc 0 none true, .cells [.i .u64 (zig o.pol.sub), .i .u64 (num o.pol.a o.pol.b o.pol.c o.pol.d), .i .u64 (zig o.pol.bits)] 0 none true, .cells [.i .u64 4, .i .u64 (zig o.pol.sub), .i .u64 (num o.pol.a o.pol.b o.pol.c o.pol.d), .i .u64 (zig o.pol.bits), .i .u64 o.pol.rate, .i .u64 o.pol.burst, .i .u64 o.pol.srate, .i .u64 o.pol.sburst, .i .u64 o.pol.quota, .i .u64 o.pol.lease, .i .u64 o.pol.quantum] 1 (some 1) true, .cells [.i .u64 o.pol.rate, .i .u64 o.pol.burst, .i .u64 o.pol.srate, .i .u64 o.pol.sburst, .i .u64 o.pol.quota, .i .u64 o.pol.lease, .i .u64 o.pol.quantum] 0 none true]) := fun B0 => by
            simp only [appV]
            rw [if_neg (by omega), if_neg (by omega), if_pos ⟨by unfold lim; omega, by unfold lim; omega⟩, at_app]
            simp only [List.getElem?_cons_succ, List.getElem?_cons_zero, Bool.false_eq_true, if_false]
            rw [if_pos ⟨trivial, trivial, trivial, by simp, rfl⟩, set_app]
            rfl
          obtain ⟨X, M', x2, M2, hN, hB, ha, hs, hA, hE⟩ := one_fin (B0 := .cells (boxC 4 o x y) 0 none true) (M := S ++ [.cells (boxC 4 o x y) 0 none true, .cells [.i .u64 4] 0 none true, .cells o.pol.enc 0 none true, .cells [.i .u64 (zig o.pol.sub), .i .u64 (num o.pol.a o.pol.b o.pol.c o.pol.d), .i .u64 (zig o.pol.bits)] 0 none true, .cells [.i .u64 4, .i .u64 (zig o.pol.sub), .i .u64 (num o.pol.a o.pol.b o.pol.c o.pol.d), .i .u64 (zig o.pol.bits), .i .u64 o.pol.rate, .i .u64 o.pol.burst, .i .u64 o.pol.srate, .i .u64 o.pol.sburst, .i .u64 o.pol.quota, .i .u64 o.pol.lease, .i .u64 o.pol.quantum] 1 (some 1) true, .cells [.i .u64 o.pol.rate, .i .u64 o.pol.burst, .i .u64 o.pol.srate, .i .u64 o.pol.sburst, .i .u64 o.pol.quota, .i .u64 o.pol.lease, .i .u64 o.pol.quantum] 0 none true]) (L := .sl (S.length + 4) 0 1 11 11 false)
            ⟨[.cells [.i .u64 4] 0 none true, .cells o.pol.enc 0 none true, .cells [.i .u64 (zig o.pol.sub), .i .u64 (num o.pol.a o.pol.b o.pol.c o.pol.d), .i .u64 (zig o.pol.bits)] 0 none true, .cells [.i .u64 4, .i .u64 (zig o.pol.sub), .i .u64 (num o.pol.a o.pol.b o.pol.c o.pol.d), .i .u64 (zig o.pol.bits), .i .u64 o.pol.rate, .i .u64 o.pol.burst, .i .u64 o.pol.srate, .i .u64 o.pol.sburst, .i .u64 o.pol.quota, .i .u64 o.pol.lease, .i .u64 o.pol.quantum] 1 (some 1) true, .cells [.i .u64 o.pol.rate, .i .u64 o.pol.burst, .i .u64 o.pol.srate, .i .u64 o.pol.sburst, .i .u64 o.pol.quota, .i .u64 o.pol.lease, .i .u64 o.pol.quantum] 0 none true], by rw [List.append_assoc]; rfl⟩ (by rw [hns]; exact lit_num rfl (by rw [at_app]; rfl)) hg hr hx
          simp only [boxC, Pol.enc] at hN hB hE happ
          simp (maxSteps := 1000000) (disch := omega) only [c31, cx, cy, lx, ly, e4, wk, z1, z2, hnum, w3, List.replicate, src_sl, srcN_some, app_ex, appN_some, happ, orc_cons, hN, hB, hs, ha, go_sem]
          exact ⟨hE, hA.ret byteE_flat⟩
        by_cases e5 : o.kind = 5
        · have hns : o.ns = [5, zig o.sub] := by unfold Opx.ns; rw [if_neg e0, if_neg e1, if_neg e4, if_pos (.inl e5), e5]
          have z1 := zigS_eq hg.2.1
          obtain ⟨X, M', x2, M2, hN, hB, ha, hs, hA, hE⟩ := one_fin (B0 := .cells (boxC 5 o x y) 0 none true) (M := S ++ [.cells (boxC 5 o x y) 0 none true, .cells [.i .u64 5] 0 none true, .cells [.i .u64 (zig o.sub)] 0 none true, .cells [.i .u64 5, .i .u64 (zig o.sub)] 0 (some 1) true]) (L := .sl (S.length + 3) 0 0 2 2 false)
            ⟨[.cells [.i .u64 5] 0 none true, .cells [.i .u64 (zig o.sub)] 0 none true, .cells [.i .u64 5, .i .u64 (zig o.sub)] 0 (some 1) true], by rw [List.append_assoc]; rfl⟩ (by rw [hns]; exact lit_num rfl (by rw [at_app]; rfl)) hg hr hx
          simp only [boxC] at hN hB hE
          simp (maxSteps := 1000000) (disch := omega) only [c31, cx, cy, lx, ly, e5, wk, z1, List.replicate, src_sl, srcN_some, app_ex, appN_some, orc_cons, hN, hB, hs, ha, go_sem]
          exact ⟨hE, hA.ret byteE_flat⟩
        by_cases e8 : o.kind = 8
        · have hns : o.ns = [8, zig o.sub] := by unfold Opx.ns; rw [if_neg e0, if_neg e1, if_neg e4, if_pos (.inr e8), e8]
          have z1 := zigS_eq hg.2.1
          obtain ⟨X, M', x2, M2, hN, hB, ha, hs, hA, hE⟩ := one_fin (B0 := .cells (boxC 8 o x y) 0 none true) (M := S ++ [.cells (boxC 8 o x y) 0 none true, .cells [.i .u64 8] 0 none true, .cells [.i .u64 (zig o.sub)] 0 none true, .cells [.i .u64 8, .i .u64 (zig o.sub)] 0 (some 1) true]) (L := .sl (S.length + 3) 0 0 2 2 false)
            ⟨[.cells [.i .u64 8] 0 none true, .cells [.i .u64 (zig o.sub)] 0 none true, .cells [.i .u64 8, .i .u64 (zig o.sub)] 0 (some 1) true], by rw [List.append_assoc]; rfl⟩ (by rw [hns]; exact lit_num rfl (by rw [at_app]; rfl)) hg hr hx
          simp only [boxC] at hN hB hE
          simp (maxSteps := 1000000) (disch := omega) only [c31, cx, cy, lx, ly, e8, wk, z1, List.replicate, src_sl, srcN_some, app_ex, appN_some, orc_cons, hN, hB, hs, ha, go_sem]
          exact ⟨hE, hA.ret byteE_flat⟩
        by_cases e10 : o.kind = 10
        · have hns : o.ns = [10, zig o.brk] := by unfold Opx.ns; rw [if_neg e0, if_neg e1, if_neg e4, if_neg (by omega), if_pos e10, e10]
          have z1 := zigS_eq hg.2.2.1
          obtain ⟨X, M', x2, M2, hN, hB, ha, hs, hA, hE⟩ := one_fin (B0 := .cells (boxC 10 o x y) 0 none true) (M := S ++ [.cells (boxC 10 o x y) 0 none true, .cells [.i .u64 10] 0 none true, .cells [.i .u64 (zig o.brk)] 0 none true, .cells [.i .u64 10, .i .u64 (zig o.brk)] 0 (some 1) true]) (L := .sl (S.length + 3) 0 0 2 2 false)
            ⟨[.cells [.i .u64 10] 0 none true, .cells [.i .u64 (zig o.brk)] 0 none true, .cells [.i .u64 10, .i .u64 (zig o.brk)] 0 (some 1) true], by rw [List.append_assoc]; rfl⟩ (by rw [hns]; exact lit_num rfl (by rw [at_app]; rfl)) hg hr hx
          simp only [boxC] at hN hB hE
          simp (maxSteps := 1000000) (disch := omega) only [c31, cx, cy, lx, ly, e10, wk, z1, List.replicate, src_sl, srcN_some, app_ex, appN_some, orc_cons, hN, hB, hs, ha, go_sem]
          exact ⟨hE, hA.ret byteE_flat⟩
        by_cases e11 : o.kind = 11
        · have hns : o.ns = 11 :: (o.ks.length : Int) :: o.ks.map flagN := by unfold Opx.ns; rw [if_neg e0, if_neg e1, if_neg e4, if_neg (by omega), if_neg e10, if_pos e11, e11]
          have hkl := hr.2.2.2.1
          have wl : wrapV .u64 (o.ks.length : Int) = o.ks.length := wrap_u64 (by omega) (by omega)
          simp (maxSteps := 1000000) (disch := omega) only [c31, cx, cy, lx, ly, e11, wk, wl, List.replicate, src_sl, srcN_some, app_ex, appN_some, go_sem]
          refine wp_loop (fun j e M dl => dl = [] ∧ ∃ (k : Nat) (z : AV), j = o.ks.length - k ∧ k ≤ o.ks.length ∧ AccL numE (S ++ [.cells (boxC 11 o x y) 0 none true]) M z (11 :: (o.ks.length : Int) :: (o.ks.take k).map flagN) ∧
            e.get 93 = y ∧ e.get 1 = .p S.length 0 0 ∧ e.get 94 = .i .i64 o.ks.length ∧ e.get 95 = .i .i64 k ∧ e.get 3 = z) (j := o.ks.length)
            ⟨rfl, 0, .sl (S.length + 3) 0 0 2 2 false, rfl, Nat.zero_le _, ⟨[.cells [.i .u64 11] 0 none true, .cells [.i .u64 (o.ks.length : Int)] 0 none true, .cells [.i .u64 11, .i .u64 (o.ks.length : Int)] 0 (some 1) true], by rw [List.append_assoc]; rfl, .inr ⟨2, 0, false, some 1, by rw [List.length_append]; rfl, rfl, .inr rfl⟩⟩, rfl, rfl, rfl, rfl, rfl⟩ ?_
          rintro j e M d' ⟨rfl, k, z, rfl, hk, hA0, e93, e1', e94, e95, e3⟩
          refine W_sound oRo_ok mixed _ _ _ _ _ ?_
          by_cases hkl2 : k < o.ks.length
          · have hyM := lst_ext hy ((ext_app _).trans hA0.ext)
            obtain ⟨bi, oo, v, cap, ex, rfl⟩ := lst_sl hyM hkl2
            have hkI : (k : Int) < o.ks.length := by omega
            have hk6 : k < 1000000 := by omega
            have hc : cellB (M[bi]?) (oo + k) v = some (.b o.ks[k]) := by
              have := lstV_row hyM hkl2 []
              rw [List.append_nil, show boolE.sz = 1 from rfl, Nat.mul_one] at this
              exact row_b this
            have hts : 11 :: (o.ks.length : Int) :: (o.ks.take (k + 1)).map flagN = (11 :: (o.ks.length : Int) :: (o.ks.take k).map flagN) ++ [flagN o.ks[k]] := by
              rw [List.take_succ_eq_append_getElem hkl2, List.map_append]; rfl
            have hlen : (11 :: (o.ks.length : Int) :: (o.ks.take k).map flagN).length ≤ 70 := by simp; omega
            obtain ⟨z2, M2, U2, ha2, hM2, hz2, _⟩ := hA0.apps (bytes := 8) numE_one [.cells [.i .u64 (flagN o.ks[k])] 0 none true] [flagN o.ks[k]] (by simp only [List.length_singleton]; omega) (by simp only [List.length_singleton]; omega)
            rw [← hts] at hz2
            have ha2 : appV (M ++ [.cells [.i .u64 (flagN o.ks[k])] 0 none true]) 1 8 z [.i .u64 (flagN o.ks[k])] 1 = some (z2, M2 ++ (.cells [.i .u64 (flagN o.ks[k])] 0 none true :: U2)) := ha2
            cases hb : o.ks[k] with
            | true =>
              rw [hb] at hc ha2 hz2
              simp only [flagN, if_true] at ha2 hz2
              simp (maxSteps := 1000000) (disch := omega) only [c31l1, e93, e1', e94, e95, e3, hkI, Int.toNat_natCast, Nat.mul_one, hc, List.replicate, src_sl, srcN_some, ha2, wrapS hk6, go_sem]
              exact ⟨o.ks.length - (k + 1), by omega, k + 1, z2, rfl, hkl2, hz2, rfl, rfl⟩
            | false =>
              rw [hb] at hc ha2 hz2
              simp only [flagN, Bool.false_eq_true, if_false] at ha2 hz2
              simp (maxSteps := 1000000) (disch := omega) only [c31l1, e93, e1', e94, e95, e3, hkI, Int.toNat_natCast, Nat.mul_one, hc, List.replicate, src_sl, srcN_some, ha2, wrapS hk6, go_sem]
              exact ⟨o.ks.length - (k + 1), by omega, k + 1, z2, rfl, hkl2, hz2, rfl, rfl⟩
          · have hkI : ¬ (k : Int) < o.ks.length := by omega
            rw [List.take_of_length_le (by omega), ← hns] at hA0
            obtain ⟨X, M', x2, M2, hN, hB, ha, hs, hA, hE⟩ := one_fin hA0.ext hA0.lst hg hr hx
            simp only [boxC] at hB
            simp (maxSteps := 1000000) (disch := omega) only [c31l1, e93, e1', e94, e95, e3, hkI, orc_cons, hN, hB, hs, ha, go_sem]
            exact ⟨hE, hA.ret byteE_flat⟩
        have hns : o.ns = [o.kind] := by unfold Opx.ns; rw [if_neg e0, if_neg e1, if_neg e4, if_neg (by omega), if_neg e10, if_neg e11]
        obtain ⟨X, M', x2, M2, hN, hB, ha, hs, hA, hE⟩ := one_fin (B0 := .cells (boxC o.kind o x y) 0 none true) (M := S ++ [.cells (boxC o.kind o x y) 0 none true, .cells [.i .u64 o.kind] 0 none true]) (L := .sl (S.length + 1) 0 0 1 1 true)
          ⟨[.cells [.i .u64 o.kind] 0 none true], by rw [List.append_assoc]; rfl⟩ (by rw [hns]; exact lit_num rfl (by rw [at_app]; rfl)) hg hr hx
        simp only [boxC] at hN hB hE
        simp (maxSteps := 1000000) (disch := omega) only [c31, cx, cy, lx, ly, e0, e1, e4, e5, e8, e10, e11, wk, List.replicate, orc_cons, hN, hB, hs, ha, go_sem]
        exact ⟨hE, hA.ret byteE_flat⟩
      · cases h
    · cases h
  · cases h
end Go.Proofs.YtmolaemlenllmaaGreat

