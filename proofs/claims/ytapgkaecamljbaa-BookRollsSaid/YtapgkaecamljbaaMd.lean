/- Proved here: what the law of this claim leans on (an evaluator of the model's code, contracts of functions). No condition. -/
import Derived.Test.YtapgkaecamljbaaMc
import Derived.Lib.Join
import Derived.Test.YtapgkaecamljbaaQCode
namespace Go.Proofs.Ytapgkaecamljbaa
open Go.RowKit
set_option linter.unusedSimpArgs false
set_option linter.unusedVariables false

section
variable {P : Program}

/-- The evaluator, some functions by their contracts. -/
def evMix (sp : List (FuncId × Spec)) (T : FuncId → Option IFunc) (m : Nat) : Nat → Orc
  | 0 => ⟨fun _ _ _ => none, fun _ _ _ => none⟩
  | n + 1 => ⟨fun f => match sp.find? (fun p => Nat.beq p.1 f) with
    | some p => p.2
    | none => match T f with
      | some F => evFunc (evMix sp T m n) m F
      | none => fun _ _ => none, evRound (evMix sp T m n) m T⟩

theorem evMix_ok (hmix : P.follows .mixedOrders = true) {sp : List (FuncId × Spec)} (hsp : ∀ p ∈ sp, SpecOK P p.1 p.2) {T : FuncId → Option IFunc} (hT : ∀ f F, T f = some F → compFunc P f = some (stripF F)) (m : Nat) : ∀ n, OK P (lamOf P) (evMix sp T m n)
  | 0 => ⟨fun f args S x S' h => by simp [evMix] at h, fun i args S x S' h => by simp [evMix] at h⟩
  | n + 1 => by
    have ih := evMix_ok hmix hsp hT m n
    refine ⟨fun f args S x S' h => ?_, fun i args S x S' h base w0 K w l vs hΛ hy hA hS => round_ok ih hmix hT h base w0 K w l vs hΛ hy hA hS⟩
    cases hq : sp.find? (fun p => Nat.beq p.1 f) with
    | some p =>
      simp only [evMix, hq] at h
      have hp := List.mem_of_find?_eq_some hq
      have he := List.find?_some hq
      have he := Nat.eq_of_beq_eq_true he
      subst he
      exact hsp p hp args S x S' h
    | none =>
      cases hF : T f with
      | none => simp [evMix, hq, hF] at h
      | some F =>
        simp only [evMix, hq, hF] at h
        exact func_ok ih hmix (hT f F hF) h

theorem calls_of_mix (hmix : P.follows .mixedOrders = true) {sp : List (FuncId × Spec)} (hsp : ∀ p ∈ sp, SpecOK P p.1 p.2) {T : FuncId → Option IFunc} (hT : ∀ f F, T f = some F → compFunc P f = some (stripF F)) {m n : Nat} {f : FuncId}
    (hv : isTrue ((evMix sp T m n).fn f [] []) = true) (w : World) : Calls P f #[] w fun e w' => e = .returned (.bool true) ∧ Below w.heap.size w w' := by
  have hO := evMix_ok (P := P) hmix hsp (T := T) hT m n
  cases hr : (evMix sp T m n).fn f [] [] with
  | none => rw [hr] at hv; cases hv
  | some p =>
    obtain ⟨x, S'⟩ := p
    rw [hr] at hv
    have hx : x = .b true := by
      unfold isTrue at hv
      split at hv
      · rename_i h; simp only [Option.some.injEq, Prod.mk.injEq] at h; exact h.1
      · cases hv
    subst hx
    refine ((hO.fn _ _ _ _ _ hr).2 ⟨w.heap.size, lamOf P⟩ w _ w #[] rfl ⟨rfl, fun k hk => by simp at hk⟩ (Sim.start _ w)).mono fun e w' hp => ?_
    obtain ⟨K', v, rfl, hV, hS, _⟩ := hp
    cases hV
    exact ⟨rfl, hS.below⟩

/-- A call that changes nothing that was there, with whatever arguments. -/
theorem post_of_below {base : Bs} {w0 : World} {K : Ctx} {S : Mem} {w w' : World} {x : AV} {v : Value} (hS : Sim base w0 K S w) (hb : Below w.heap.size w w') (hv : VR K S x v) : Post base w0 K S w x S (.returned v) w' := by
  obtain ⟨h1, h2, h3, h4, h5⟩ := hb
  have hst : Stp K S w K S w' := ⟨.refl K S, h1, h2, h3, h4, fun b hb _ => h5 b hb, fun _ B' h => .inl ⟨B', h, id, rfl⟩⟩
  exact ⟨K, v, rfl, hv, ⟨fun i B hB => (hS.blk i B hB).mono (.refl K S) rfl rfl (h5 _ (hS.blk i B hB).lt), hS.inj, hS.step_below hst, Nat.le_trans hS.hb h4⟩, hst⟩

/-! ### strings.Join -/
def strOf : AV → Option (List UInt8)
  | .s l => some l
  | _ => none
def strsOf : List AV → Option (List (List UInt8))
  | [] => some []
  | .s l :: r => (strsOf r).map (l :: ·)
  | _ => none
def joinS : Spec := fun args S => match args with
  | [.sl i o v len cap ex, .s sep] => match rowAt S i o v len with
    | some xs => match strsOf xs with
      | some ls => if (Lib.join ls sep).length ≤ 140737488355328 ∧ len ≤ 140737488355328 ∧ 0 < len then some (.s (Lib.join ls sep), S) else none
      | none => none
    | none => none
  | _ => none

theorem strsOf_ok : ∀ (xs : List AV) (ls : List (List UInt8)), strsOf xs = some ls → xs = ls.map .s
  | [], ls, h => by simp only [strsOf, Option.some.injEq] at h; subst h; rfl
  | x :: r, ls, h => by
    cases x <;> simp only [strsOf, reduceCtorEq] at h
    obtain ⟨l, hl, rfl⟩ := Option.map_eq_some_iff.1 h
    rw [strsOf_ok r l hl]; rfl

theorem joinS_ok {f : FuncId} (hen : enterable P f = true)
    (hJ : ∀ (bk o c : Nat) (xs : List ByteArray) (sep : ByteArray) (w : World), (∀ (j : Nat) x, xs[j]? = some x → w.cell? ⟨bk, o + j, none⟩ = some (.string x)) → bk < w.heap.size → xs.length ≤ 140737488355328 → xs.length ≤ c →
      (Lib.join (xs.map (·.data.toList)) sep.data.toList).length ≤ 140737488355328 → Calls P f #[.slice (some ⟨bk, o, none⟩) xs.length c, .string sep] w fun e w' => e = .returned (.string ⟨(Lib.join (xs.map (·.data.toList)) sep.data.toList).toArray⟩) ∧ Below w.heap.size w w') : SpecOK P f joinS := by
  intro args S x S' h
  unfold joinS at h
  split at h
  · rename_i i o v len cap ex sep
    split at h
    · rename_i xs hrow
      split at h
      · rename_i ls hls
        split at h
        · rename_i hc
          obtain ⟨hc1, hc2, hc3⟩ := hc
          simp only [Option.some.injEq, Prod.mk.injEq] at h
          obtain ⟨rfl, rfl⟩ := h
          have hxs := strsOf_ok _ _ hls
          refine ⟨hen, fun base w0 K w vs hΛ hA hS => ?_⟩
          obtain ⟨hlen, g, hg1, hg2⟩ := rowAt_ok hS hrow
          obtain ⟨v1, v2, hvs⟩ : ∃ v1 v2, vs.toList = [v1, v2] := by
            match hh : vs.toList, hA.1 with
            | [p, q], _ => exact ⟨p, q, rfl⟩
          rw [hvs] at hA
          have q1 : VR K S (.sl i o v len cap ex) v1 := hA.2 0 (by simp) (by simp)
          have q2 : VR K S (.s sep) v2 := hA.2 1 (by simp) (by simp)
          have hvs' : vs = #[v1, v2] := by rw [← Array.toArray_toList (xs := vs), hvs]
          subst hvs'
          have hB : ∃ cs ver op r, S[i]? = some (.cells cs ver op r) ∧ ver = v := by
            unfold rowAt at hrow
            split at hrow
            · rename_i cs ver op r hB
              split at hrow
              · rename_i hq; exact ⟨cs, ver, op, r, hB, hq.1⟩
              · cases hrow
            · cases hrow
          obtain ⟨cs, ver, op, r, hB, rfl⟩ := hB
          have hlt := (hS.blk i _ hB).lt
          cases q2
          cases q1 with
          | sl _ _ _ _ _ _ a c B' hB' hle' hl' hcc hex ha =>
            rw [hB] at hB'; obtain rfl := Option.some.inj hB'
            obtain ⟨rfl, _⟩ := ha rfl
            have hll : ls.length = len := by rw [← hlen, hxs]; simp
            have hm : (ls.map fun l => ByteArray.mk l.toArray).map (·.data.toList) = ls := by
              rw [List.map_map]; exact (List.map_congr_left fun l _ => rfl).trans (List.map_id ls)
            have := hJ (K.μ i) o c (ls.map fun l => ByteArray.mk l.toArray) ⟨sep.toArray⟩ w (fun j y hj => ?_) hlt (by simpa [hll] using hc2) (by simp [hll]; omega) (by rw [hm]; exact hc1)
            · rw [List.length_map, hll, hm] at this
              refine this.mono fun e w' ⟨he, hb⟩ => ?_
              subst he
              exact post_of_below hS hb (.s _)
            · rw [List.getElem?_map] at hj
              obtain ⟨l, hl, rfl⟩ := Option.map_eq_some_iff.1 hj
              have hjl : j < ls.length := (List.getElem?_eq_some_iff.1 hl).1
              have e1 := hg1 j (by omega)
              have e2 := hg2 j (by omega)
              have e3 : xs.getD j .u = .s l := by rw [hxs]; simp [List.getD_eq_getElem?_getD, List.getElem?_map, hl]
              rw [e3] at e2
              generalize hgj : g j = gj at *
              cases e2
              rw [← e1]
              unfold Addr.add
              by_cases h0 : j = 0
              · subst h0; rfl
              · rw [if_neg h0]
        · cases h
      · cases h
    · cases h
  · cases h
end
end Go.Proofs.Ytapgkaecamljbaa

namespace Go.Proofs.Ytapgkaecamljbaa
open Go.RowKit
set_option linter.unusedSimpArgs false
set_option linter.unusedVariables false
set_option maxRecDepth 10000

/-! ### Plain -/
def u8 (n : Int) : Prop := 0 ≤ n ∧ n ≤ 255
instance (n : Int) : Decidable (u8 n) := by unfold u8; infer_instance
def u32 (n : Int) : Prop := 0 ≤ n ∧ n ≤ 4294967295
instance (n : Int) : Decidable (u32 n) := by unfold u32; infer_instance
def num (a b c d : Int) : Int := ((a * 256 + b) * 256 + c) * 256 + d
def b3 (n : Int) : Int := n / 16777216
def b2 (n : Int) : Int := n / 65536 % 256
def b1 (n : Int) : Int := n / 256 % 256
def b0 (n : Int) : Int := n % 256
def cl (k : Int) : Int := max 0 (min k 32)
def pw (k : Int) : Int := ((2 ^ (32 - k).toNat : Nat) : Int)
def cutv (n k : Int) : Int := n / pw k * pw k

theorem num_b {n : Int} (h : u32 n) : num (b3 n) (b2 n) (b1 n) (b0 n) = n := by unfold num b3 b2 b1 b0 u32 at *; omega
theorem u8_b3 {n : Int} (h : u32 n) : u8 (b3 n) := by unfold b3 u8 u32 at *; omega
theorem u8_b2 (n : Int) : u8 (b2 n) := by unfold b2 u8; omega
theorem u8_b1 (n : Int) : u8 (b1 n) := by unfold b1 u8; omega
theorem u8_b0 (n : Int) : u8 (b0 n) := by unfold b0 u8; omega
theorem u32_num {a b c d : Int} (ha : u8 a) (hb : u8 b) (hc : u8 c) (hd : u8 d) : u32 (num a b c d) := by unfold num u8 u32 at *; omega
theorem b_num {a b c d : Int} (ha : u8 a) (hb : u8 b) (hc : u8 c) (hd : u8 d) : b3 (num a b c d) = a ∧ b2 (num a b c d) = b ∧ b1 (num a b c d) = c ∧ b0 (num a b c d) = d := by
  unfold num b3 b2 b1 b0 u8 at *; omega
theorem cl_bound (k : Int) : 0 ≤ cl k ∧ cl k ≤ 32 := by unfold cl; omega
theorem pw_pos (k : Int) : 0 < pw k := by unfold pw; exact Int.natCast_pos.2 (Nat.two_pow_pos _)
theorem cutv_le {n k : Int} : cutv n k ≤ n := Int.ediv_mul_le n (by have := pw_pos k; omega)
theorem u32_cutv {n k : Int} (h : u32 n) : u32 (cutv n k) := by
  have h1 : cutv n k ≤ n := cutv_le
  have h2 : 0 ≤ n / pw k := Int.ediv_nonneg h.1 (Int.le_of_lt (pw_pos k))
  have h3 : 0 ≤ cutv n k := Int.mul_nonneg h2 (Int.le_of_lt (pw_pos k))
  unfold u32 at *; omega

/-! ### Bits -/
theorem or_low {a c : Int} (ha : 0 ≤ a) (ha2 : a ≤ 4294967295) (hm : a % 256 = 0) (hc : 0 ≤ c) (hc2 : c ≤ 255) : bitsV .u32 .or a c = some (a + c) := by
  obtain ⟨x, rfl⟩ := Int.eq_ofNat_of_zero_le ha
  obtain ⟨y, rfl⟩ := Int.eq_ofNat_of_zero_le hc
  have hx : x < 4294967296 := by omega
  have e1 : (BitVec.ofInt IntKind.u32.bits (x : Int)).toNat = x := by show (BitVec.ofInt 32 (x : Int)).toNat = x; simp [BitVec.toNat_ofInt]; omega
  have e2 : (BitVec.ofInt IntKind.u32.bits (y : Int)).toNat = y := by show (BitVec.ofInt 32 (y : Int)).toNat = y; simp [BitVec.toNat_ofInt]; omega
  have e3 : Nat.lor x y = x + y := by
    have := Nat.shiftLeft_add_eq_or_of_lt (show y < 2 ^ 8 by omega) (x / 256)
    have hs : (x / 256) <<< 8 = x := by rw [Nat.shiftLeft_eq]; omega
    rw [hs] at this
    exact this.symm
  simp only [bitsV, e1, e2, e3, wrapV]
  congr 1
  omega

theorem nat_and_mask {n j : Nat} (hn : n < 2 ^ 32) (hj : j ≤ 32) : n &&& (2 ^ 32 - 2 ^ j) = n / 2 ^ j * 2 ^ j := by
  have h1 : n / 2 ^ j * 2 ^ j = (n >>> j) <<< j := by rw [Nat.shiftLeft_eq, Nat.shiftRight_eq_div_pow]
  rw [h1]
  apply Nat.eq_of_testBit_eq
  intro i
  have h2 : 2 ^ 32 - 2 ^ j = 2 ^ 32 - ((2 ^ j - 1) + 1) := by have := Nat.two_pow_pos j; omega
  have h3 : 2 ^ j - 1 < 2 ^ 32 := by have := Nat.pow_le_pow_right (n := 2) (by omega) hj; have := Nat.two_pow_pos j; omega
  rw [h2, Nat.testBit_and, Nat.testBit_two_pow_sub_succ h3, Nat.testBit_two_pow_sub_one, Nat.testBit_shiftLeft, Nat.testBit_shiftRight]
  by_cases hi : i < j
  · simp [hi]; omega
  · have hji : j ≤ i := by omega
    rw [show j + (i - j) = i by omega]
    by_cases h32 : i < 32
    · simp [hi, hji, h32]
    · have : n.testBit i = false := Nat.testBit_lt_two_pow (Nat.lt_of_lt_of_le hn (Nat.pow_le_pow_right (by omega) (by omega)))
      simp [this]

theorem and_mask {n k : Int} (h : u32 n) (h0 : 0 ≤ k) (h1 : k ≤ 32) : bitsV .u32 .and n (4294967296 - pw k) = some (cutv n k) := by
  obtain ⟨x, rfl⟩ := Int.eq_ofNat_of_zero_le h.1
  unfold cutv pw
  generalize hj : (32 - k).toNat = j
  have hj2 : j ≤ 32 := by omega
  have hp := Nat.pow_le_pow_right (n := 2) (by omega) hj2
  have hp0 := Nat.two_pow_pos j
  have hx : x < 2 ^ 32 := by have := h.2; omega
  have e1 : (BitVec.ofInt IntKind.u32.bits (x : Int)).toNat = x := by show (BitVec.ofInt 32 (x : Int)).toNat = x; simp [BitVec.toNat_ofInt]; omega
  have e2 : (BitVec.ofInt IntKind.u32.bits (4294967296 - ((2 ^ j : Nat) : Int))).toNat = 2 ^ 32 - 2 ^ j := by
    show (BitVec.ofInt 32 _).toNat = _
    rw [show (4294967296 : Int) - ((2 ^ j : Nat) : Int) = ((2 ^ 32 - 2 ^ j : Nat) : Int) by omega]
    simp only [BitVec.toNat_ofInt]
    omega
  simp only [bitsV, e1, e2, wrapV]
  rw [show Nat.land x (2 ^ 32 - 2 ^ j) = x &&& (2 ^ 32 - 2 ^ j) from rfl, nat_and_mask hx hj2]
  congr 1
  have := Nat.div_mul_le_self x (2 ^ j)
  rw [← Int.natCast_ediv, ← Int.natCast_mul]
  omega

theorem shl_mask {k : Int} (h0 : 0 ≤ k) (h1 : k ≤ 32) : shiftV .shl .u32 4294967295 (32 - k) = some (.i .u32 (4294967296 - pw k)) := by
  unfold shiftV pw
  rw [if_neg (by omega)]
  have hb : IntKind.u32.bits = 32 := rfl
  simp only [hb, wrapV]
  rw [Nat.min_eq_left (by omega)]
  congr 2
  generalize hj : (32 - k).toNat = j
  have hp := Nat.pow_le_pow_right (n := 2) (by omega) (show j ≤ 32 by omega)
  have hp0 := Nat.two_pow_pos j
  omega

/-! ### Rules -/
theorem shr_24 {n : Int} (h : 0 ≤ n) : shiftV .shr .u32 n 24 = some (.i .u32 (n / 16777216)) := by
  simp only [shiftV, IntKind.bits]
  rw [if_neg (by omega), Int.fdiv_eq_ediv_of_nonneg _ (Int.natCast_nonneg _)]; rfl
theorem shr_16 {n : Int} (h : 0 ≤ n) : shiftV .shr .u32 n 16 = some (.i .u32 (n / 65536)) := by
  simp only [shiftV, IntKind.bits]
  rw [if_neg (by omega), Int.fdiv_eq_ediv_of_nonneg _ (Int.natCast_nonneg _)]; rfl
theorem shr_8 {n : Int} (h : 0 ≤ n) : shiftV .shr .u32 n 8 = some (.i .u32 (n / 256)) := by
  simp only [shiftV, IntKind.bits]
  rw [if_neg (by omega), Int.fdiv_eq_ediv_of_nonneg _ (Int.natCast_nonneg _)]; rfl
theorem shl_8 {n : Int} (h : 0 ≤ n) (h2 : n ≤ 16777215) : shiftV .shl .u32 n 8 = some (.i .u32 (n * 256)) := by
  simp only [shiftV, IntKind.bits, wrapV]
  rw [if_neg (by omega)]
  congr 2
  show n * 256 % 4294967296 = _
  omega
theorem wrap_mod {n : Int} : wrapV .u8 n = n % 256 := rfl
theorem bin_or {cst : Bool} {a c : Int} (ha : 0 ≤ a) (ha2 : a ≤ 4294967295) (hm : a % 256 = 0) (hc : 0 ≤ c) (hc2 : c ≤ 255) : binV .int cst .or (.i .u32 a) (.i .u32 c) = some (.i .u32 (a + c)) := by
  rw [bin_i rfl]
  simp only [intV, or_low ha ha2 hm hc hc2, Option.map_some]
theorem bin_and {cst : Bool} {n k : Int} (h : u32 n) (h0 : 0 ≤ k) (h1 : k ≤ 32) : binV .int cst .and (.i .u32 n) (.i .u32 (4294967296 - pw k)) = some (.i .u32 (cutv n k)) := by
  rw [bin_i rfl]
  simp only [intV, and_mask h h0 h1, Option.map_some]
theorem ixa_ag {l : Nat} {cs : List AV} {q : IntKind} {n : Int} (h0 : 0 ≤ n) (h1 : n < l) : ixaV l 1 none (.ag cs) (.i q n) = cs[n.toNat]? := by
  have hn : natV (.i q n) = some n.toNat := natV_i h0
  simp only [ixaV, hn]
  rw [if_pos (by omega)]
  simp [partV]

/-! ### Cells -/
def adr (n : Int) : AV := .ag [.i .u8 (b3 n), .i .u8 (b2 n), .i .u8 (b1 n), .i .u8 (b0 n)]
def net (n k : Int) : AV := .ag [.i .u8 (b3 n), .i .u8 (b2 n), .i .u8 (b1 n), .i .u8 (b0 n), .i .i64 k]
def right (n k : Int) : Prop := cl k = k ∧ cutv n k = n
instance (n k : Int) : Decidable (right n k) := by unfold right; infer_instance
def within (n j m k : Int) : Prop := right n j ∧ k ≤ j ∧ right m k ∧ cutv n k = m
instance (n j m k : Int) : Decidable (within n j m k) := by unfold within; infer_instance
theorem adr_inj {n m : Int} (hn : u32 n) (hm : u32 m) : (b3 n = b3 m ∧ b2 n = b2 m ∧ b1 n = b1 m ∧ b0 n = b0 m) ↔ n = m := by
  constructor
  · rintro ⟨h1, h2, h3, h4⟩
    rw [← num_b hn, ← num_b hm, h1, h2, h3, h4]
  · rintro rfl; exact ⟨rfl, rfl, rfl, rfl⟩
theorem eq_adr {a b c d x y z w : Int} : eqAgV false [.int, .int, .int, .int] (.ag [.i .u8 a, .i .u8 b, .i .u8 c, .i .u8 d]) (.ag [.i .u8 x, .i .u8 y, .i .u8 z, .i .u8 w]) = some (.b (decide (a = x ∧ b = y ∧ c = z ∧ d = w))) := by
  simp [eqAgV, eqCells, eqCell, Bool.beq_eq_decide_eq]
theorem eq_net {a b c d x y z w j k : Int} : eqAgV false [.int, .int, .int, .int, .int] (.ag [.i .u8 a, .i .u8 b, .i .u8 c, .i .u8 d, .i .i64 j]) (.ag [.i .u8 x, .i .u8 y, .i .u8 z, .i .u8 w, .i .i64 k]) = some (.b (decide (a = x ∧ b = y ∧ c = z ∧ d = w ∧ j = k))) := by
  simp [eqAgV, eqCells, eqCell, Bool.beq_eq_decide_eq]
theorem ne_net {a b c d x y z w j k : Int} : eqAgV true [.int, .int, .int, .int, .int] (.ag [.i .u8 a, .i .u8 b, .i .u8 c, .i .u8 d, .i .i64 j]) (.ag [.i .u8 x, .i .u8 y, .i .u8 z, .i .u8 w, .i .i64 k]) = some (.b (decide (¬ (a = x ∧ b = y ∧ c = z ∧ d = w ∧ j = k)))) := by
  simp [eqAgV, eqCells, eqCell, Bool.beq_eq_decide_eq]
end Go.Proofs.Ytapgkaecamljbaa

namespace Go.Proofs.Ytapgkaecamljbaa
open Go.RowKit
set_option linter.unusedSimpArgs false
set_option linter.unusedVariables false
set_option maxRecDepth 10000

theorem none_ok : OK Try.prog (lamOf Try.prog) (orcOf []) := orc_ok (l := []) (fun p hp => by cases hp)

def u84 (a b c d : Int) : Prop := u8 a ∧ u8 b ∧ u8 c ∧ u8 d
instance (a b c d : Int) : Decidable (u84 a b c d) := by unfold u84; infer_instance
theorem u84_b {n : Int} (h : u32 n) : u84 (b3 n) (b2 n) (b1 n) (b0 n) := ⟨u8_b3 h, u8_b2 n, u8_b1 n, u8_b0 n⟩
theorem u84_num {a b c d : Int} (h : u84 a b c d) : u32 (num a b c d) := u32_num h.1 h.2.1 h.2.2.1 h.2.2.2

def ofS : Spec := fun args S => match args with
  | [.i .u32 n] => if u32 n then some (adr n, S) else none
  | _ => none
theorem ofS_eq {n : Int} (h : u32 n) (S : Mem) : ofS [.i .u32 n] S = some (adr n, S) := by simp only [ofS, if_pos h]
theorem of_ok : SpecOK Try.prog 70 ofS := by
  intro args S x S' h
  simp only [ofS] at h
  split at h
  · rename_i n
    split at h
    · rename_i hn
      cases h
      unfold u32 at hn
      refine fn_of_wp f70 rfl (W_sound none_ok mixed _ _ _ _ _ ?_)
      simp (maxSteps := 1000000) (disch := omega) only [c70, shr_24, shr_16, shr_8, wrap_mod, go_sem, Option.map_none, Option.map_some, ↓reduceIte, Nat.reduceBEq, Nat.reduceAdd, Nat.reduceSub, Nat.reduceEqDiff, Nat.reduceLeDiff, Nat.reduceMul, Nat.reduceLT, Int.reduceLT, Int.reduceLE, Int.reduceAdd, Int.reduceSub, Int.reduceMul, Int.reduceNeg, Int.reduceEq, Int.reduceNe, Int.reduceToNat, decide_true, decide_false, iaddr_i, iaddr_sl_i, not_true_eq_false, not_false_eq_true, reduceCtorEq, ne_eq, forall_const, false_imp_iff, true_imp_iff, implies_true, Int.cast_ofNat_Int, Int.natCast_zero, Int.natCast_one, Int.add_zero, Int.zero_add]
      rw [show adr n = AV.ag [AV.i IntKind.u8 (n / 16777216 % 256), AV.i IntKind.u8 (n / 65536 % 256), AV.i IntKind.u8 (n / 256 % 256), AV.i IntKind.u8 (n % 256)] by rw [show n / 16777216 % 256 = n / 16777216 by omega]; rfl]
      exact wkv_drop rfl
    · cases h
  · cases h
theorem rof_ok : SpecOK Try.prog 72 ofS := by
  intro args S x S' h
  simp only [ofS] at h
  split at h
  · rename_i n
    split at h
    · rename_i hn
      cases h
      unfold u32 at hn
      refine fn_of_wp f72 rfl (W_sound none_ok mixed _ _ _ _ _ ?_)
      simp (maxSteps := 1000000) (disch := omega) only [c72, go_sem, Option.map_none, Option.map_some, ↓reduceIte, Nat.reduceBEq, Nat.reduceAdd, Nat.reduceSub, Nat.reduceEqDiff, Nat.reduceLeDiff, Nat.reduceMul, Nat.reduceLT, Int.reduceLT, Int.reduceLE, Int.reduceAdd, Int.reduceSub, Int.reduceMul, Int.reduceNeg, Int.reduceEq, Int.reduceNe, Int.reduceToNat, decide_true, decide_false, iaddr_i, iaddr_sl_i, not_true_eq_false, not_false_eq_true, reduceCtorEq, ne_eq, forall_const, false_imp_iff, true_imp_iff, implies_true, Int.cast_ofNat_Int, Int.natCast_zero, Int.natCast_one, Int.add_zero, Int.zero_add]
      exact wkv_drop rfl
    · cases h
  · cases h

def numS : Spec := fun args S => match args with
  | [.ag [.i .u8 a, .i .u8 b, .i .u8 c, .i .u8 d]] => if u84 a b c d then some (.i .u32 (num a b c d), S) else none
  | _ => none
theorem numS_eq {a b c d : Int} (h : u84 a b c d) (S : Mem) : numS [.ag [.i .u8 a, .i .u8 b, .i .u8 c, .i .u8 d]] S = some (.i .u32 (num a b c d), S) := by simp only [numS, if_pos h]
theorem num_ok : SpecOK Try.prog 61 numS := by
  intro args S x S' h
  simp only [numS] at h
  split at h
  · rename_i a b c d
    split at h
    · rename_i hn
      cases h
      obtain ⟨ha, hb, hc, hd⟩ := hn
      unfold u8 at ha hb hc hd
      refine fn_of_wp f61 rfl (W_sound none_ok mixed _ _ _ _ _ ?_)
      simp (maxSteps := 1000000) (disch := omega) only [c61, go_sem, Option.map_none, Option.map_some, ↓reduceIte, Nat.reduceBEq, Nat.reduceAdd, Nat.reduceSub, Nat.reduceEqDiff, Nat.reduceLeDiff, Nat.reduceMul, Nat.reduceLT, Int.reduceLT, Int.reduceLE, Int.reduceAdd, Int.reduceSub, Int.reduceMul, Int.reduceNeg, Int.reduceEq, Int.reduceNe, Int.reduceToNat, decide_true, decide_false, iaddr_i, iaddr_sl_i, not_true_eq_false, not_false_eq_true, reduceCtorEq, ne_eq, forall_const, false_imp_iff, true_imp_iff, implies_true, Int.cast_ofNat_Int, Int.natCast_zero, Int.natCast_one, Int.add_zero, Int.zero_add]
      refine wp_unroll none_ok mixed 5 ?_
      simp (maxSteps := 1000000) (disch := omega) only [c61l0, shl_8, bin_or, ixa_ag, go_sem, Option.map_none, Option.map_some, ↓reduceIte, Nat.reduceBEq, Nat.reduceAdd, Nat.reduceSub, Nat.reduceEqDiff, Nat.reduceLeDiff, Nat.reduceMul, Nat.reduceLT, Int.reduceLT, Int.reduceLE, Int.reduceAdd, Int.reduceSub, Int.reduceMul, Int.reduceNeg, Int.reduceEq, Int.reduceNe, Int.reduceToNat, decide_true, decide_false, iaddr_i, iaddr_sl_i, not_true_eq_false, not_false_eq_true, reduceCtorEq, ne_eq, forall_const, false_imp_iff, true_imp_iff, implies_true, Int.cast_ofNat_Int, Int.natCast_zero, Int.natCast_one, Int.add_zero, Int.zero_add]
      exact wkv_drop rfl
    · cases h
  · cases h
theorem rnum_ok : SpecOK Try.prog 64 numS := by
  intro args S x S' h
  simp only [numS] at h
  split at h
  · rename_i a b c d
    split at h
    · rename_i hn
      cases h
      obtain ⟨ha, hb, hc, hd⟩ := hn
      unfold u8 at ha hb hc hd
      refine fn_of_wp f64 rfl (W_sound none_ok mixed _ _ _ _ _ ?_)
      simp (maxSteps := 1000000) (disch := omega) only [c64, go_sem, Option.map_none, Option.map_some, ↓reduceIte, Nat.reduceBEq, Nat.reduceAdd, Nat.reduceSub, Nat.reduceEqDiff, Nat.reduceLeDiff, Nat.reduceMul, Nat.reduceLT, Int.reduceLT, Int.reduceLE, Int.reduceAdd, Int.reduceSub, Int.reduceMul, Int.reduceNeg, Int.reduceEq, Int.reduceNe, Int.reduceToNat, decide_true, decide_false, iaddr_i, iaddr_sl_i, not_true_eq_false, not_false_eq_true, reduceCtorEq, ne_eq, forall_const, false_imp_iff, true_imp_iff, implies_true, Int.cast_ofNat_Int, Int.natCast_zero, Int.natCast_one, Int.add_zero, Int.zero_add]
      rw [show num a b c d = a * 16777216 + b * 65536 + c * 256 + d by unfold num; omega]
      exact wkv_drop rfl
    · cases h
  · cases h

def maskS : Spec := fun args S => match args with
  | [.i .i64 k] => some (.i .u32 (4294967296 - pw (cl k)), S)
  | _ => none
theorem mask_ok : SpecOK Try.prog 109 maskS := by
  intro args S x S' h
  simp only [maskS] at h
  split at h
  · rename_i k
    cases h
    refine fn_of_wp f109 rfl (W_sound none_ok mixed _ _ _ _ _ ?_)
    have hk := cl_bound k
    simp (maxSteps := 1000000) (disch := omega) only [c109, show max 0 (min k 32) = cl k from rfl, shl_mask (cl_bound k).1 (cl_bound k).2, go_sem, Option.map_none, Option.map_some, ↓reduceIte, Nat.reduceBEq, Nat.reduceAdd, Nat.reduceSub, Nat.reduceEqDiff, Nat.reduceLeDiff, Nat.reduceMul, Nat.reduceLT, Int.reduceLT, Int.reduceLE, Int.reduceAdd, Int.reduceSub, Int.reduceMul, Int.reduceNeg, Int.reduceEq, Int.reduceNe, Int.reduceToNat, decide_true, decide_false, iaddr_i, iaddr_sl_i, not_true_eq_false, not_false_eq_true, reduceCtorEq, ne_eq, forall_const, false_imp_iff, true_imp_iff, implies_true, Int.cast_ofNat_Int, Int.natCast_zero, Int.natCast_one, Int.add_zero, Int.zero_add]
    exact wkv_same
  · cases h
def clS : Spec := fun args S => match args with
  | [.i .i64 k] => some (.i .i64 (cl k), S)
  | _ => none
theorem bounded_ok : SpecOK Try.prog 101 clS := by
  intro args S x S' h
  simp only [clS] at h
  split at h
  · rename_i k
    cases h
    refine fn_of_wp f101 rfl (W_sound none_ok mixed _ _ _ _ _ ?_)
    simp (maxSteps := 1000000) (disch := omega) only [c101, go_sem, Option.map_none, Option.map_some, ↓reduceIte, Nat.reduceBEq, Nat.reduceAdd, Nat.reduceSub, Nat.reduceEqDiff, Nat.reduceLeDiff, Nat.reduceMul, Nat.reduceLT, Int.reduceLT, Int.reduceLE, Int.reduceAdd, Int.reduceSub, Int.reduceMul, Int.reduceNeg, Int.reduceEq, Int.reduceNe, Int.reduceToNat, decide_true, decide_false, iaddr_i, iaddr_sl_i, not_true_eq_false, not_false_eq_true, reduceCtorEq, ne_eq, forall_const, false_imp_iff, true_imp_iff, implies_true, Int.cast_ofNat_Int, Int.natCast_zero, Int.natCast_one, Int.add_zero, Int.zero_add]
    refine ⟨fun h => ?_, fun h => ⟨fun h2 => ?_, fun h2 => ?_⟩⟩ <;> refine wkv_eq wkv_same ?_ rfl <;> congr 1 <;> unfold cl <;> omega
  · cases h

theorem maskS_eq {k : Int} (S : Mem) : maskS [.i .i64 k] S = some (.i .u32 (4294967296 - pw (cl k)), S) := rfl
theorem clS_eq {k : Int} (S : Mem) : clS [.i .i64 k] S = some (.i .i64 (cl k), S) := rfl
def cutS : Spec := fun args S => match args with
  | [.ag [.i .u8 a, .i .u8 b, .i .u8 c, .i .u8 d], .i .i64 k] => if u84 a b c d then some (net (cutv (num a b c d) (cl k)) (cl k), S) else none
  | _ => none
theorem cutS_eq {a b c d k : Int} (h : u84 a b c d) (S : Mem) : cutS [.ag [.i .u8 a, .i .u8 b, .i .u8 c, .i .u8 d], .i .i64 k] S = some (net (cutv (num a b c d) (cl k)) (cl k), S) := by simp only [cutS, if_pos h]
theorem o17_ok : OK Try.prog (lamOf Try.prog) (orcOf [(61, numS), (109, maskS), (70, ofS)]) := orc_ok (by simpa using ⟨num_ok, mask_ok, of_ok⟩)
theorem cut_ok : SpecOK Try.prog 99 cutS := by
  intro args S x S' h
  simp only [cutS] at h
  split at h
  · rename_i a b c d k
    split at h
    · rename_i hn
      cases h
      have hk := cl_bound k
      have h32 := u84_num hn
      refine fn_of_wp f99 rfl (W_sound o17_ok mixed _ _ _ _ _ ?_)
      simp (maxSteps := 1000000) (disch := omega) only [c99, orc_cons, numS_eq hn, maskS_eq, bin_and h32 hk.1 hk.2, ofS_eq (u32_cutv h32), show max 0 (min k 32) = cl k from rfl, adr, go_sem, Option.map_none, Option.map_some, ↓reduceIte, Nat.reduceBEq, Nat.reduceAdd, Nat.reduceSub, Nat.reduceEqDiff, Nat.reduceLeDiff, Nat.reduceMul, Nat.reduceLT, Int.reduceLT, Int.reduceLE, Int.reduceAdd, Int.reduceSub, Int.reduceMul, Int.reduceNeg, Int.reduceEq, Int.reduceNe, Int.reduceToNat, decide_true, decide_false, iaddr_i, iaddr_sl_i, not_true_eq_false, not_false_eq_true, reduceCtorEq, ne_eq, forall_const, false_imp_iff, true_imp_iff, implies_true, Int.cast_ofNat_Int, Int.natCast_zero, Int.natCast_one, Int.add_zero, Int.zero_add]
      exact wkv_drop rfl
    · cases h
  · cases h

def p2 (t : Int) : Int := ((2 ^ t.toNat : Nat) : Int)
theorem p2_zero : p2 0 = 1 := rfl
theorem p2_succ {t : Int} (h : 0 ≤ t) : p2 (t + 1) = p2 t * 2 := by
  unfold p2
  rw [show (t + 1).toNat = t.toNat + 1 by omega, Nat.pow_succ]
  omega
theorem p2_pos (t : Int) : 0 < p2 t := by unfold p2; exact Int.natCast_pos.2 (Nat.two_pow_pos _)
theorem pw_p2 (k : Int) : pw k = p2 (32 - k) := rfl
theorem div_p2 {n t : Int} (h : 0 ≤ t) : n / p2 t / 2 = n / p2 (t + 1) := by
  rw [p2_succ h, Int.ediv_ediv_of_nonneg (Int.le_of_lt (p2_pos t))]
theorem p2_mono {s t : Int} (h : s ≤ t) : p2 s ≤ p2 t := by
  unfold p2
  exact_mod_cast Nat.pow_le_pow_right (by omega) (by omega)
theorem mul_p2_le {n s t : Int} (h : u32 n) (hs : s ≤ t) : 0 ≤ n / p2 t * p2 s ∧ n / p2 t * p2 s ≤ n := by
  have h1 : 0 ≤ n / p2 t := Int.ediv_nonneg h.1 (Int.le_of_lt (p2_pos t))
  have h2 := Int.ediv_mul_le n (show p2 t ≠ 0 by have := p2_pos t; omega)
  have h3 := Int.mul_le_mul_of_nonneg_left (p2_mono hs) h1
  exact ⟨Int.mul_nonneg h1 (Int.le_of_lt (p2_pos s)), Int.le_trans h3 h2⟩

theorem o16_ok : OK Try.prog (lamOf Try.prog) (orcOf [(64, numS), (101, clS), (72, ofS)]) := orc_ok (by simpa using ⟨rnum_ok, bounded_ok, rof_ok⟩)
theorem rcut_ok : SpecOK Try.prog 102 cutS := by
  intro args S x S' h
  simp only [cutS] at h
  split at h
  · rename_i a b c d k
    split at h
    · rename_i hn
      cases h
      have hk := cl_bound k
      have h32 := u84_num hn
      refine fn_of_wp f102 rfl (W_sound o16_ok mixed _ _ _ _ _ ?_)
      simp (maxSteps := 1000000) (disch := omega) only [c102, orc_cons, numS_eq hn, clS_eq, go_sem, Option.map_none, Option.map_some, ↓reduceIte, Nat.reduceBEq, Nat.reduceAdd, Nat.reduceSub, Nat.reduceEqDiff, Nat.reduceLeDiff, Nat.reduceMul, Nat.reduceLT, Int.reduceLT, Int.reduceLE, Int.reduceAdd, Int.reduceSub, Int.reduceMul, Int.reduceNeg, Int.reduceEq, Int.reduceNe, Int.reduceToNat, decide_true, decide_false, iaddr_i, iaddr_sl_i, not_true_eq_false, not_false_eq_true, reduceCtorEq, ne_eq, forall_const, false_imp_iff, true_imp_iff, implies_true, Int.cast_ofNat_Int, Int.natCast_zero, Int.natCast_one, Int.add_zero, Int.zero_add]
      generalize hN : num a b c d = N at *
      generalize hK : cl k = K at *
      refine wp_loop (fun j e M dl => dl = [] ∧ ∃ i : Int, K ≤ i ∧ i ≤ 32 ∧ j = (32 - i).toNat ∧ M = S ++ [Blk.cells [AV.i IntKind.u8 a, AV.i IntKind.u8 b, AV.i IntKind.u8 c, AV.i IntKind.u8 d] 0 none true,
        Blk.cells [AV.i IntKind.u8 0, AV.i IntKind.u8 0, AV.i IntKind.u8 0, AV.i IntKind.u8 0, AV.i IntKind.i64 0] 0 none true] ∧
        e.get 4 = .p (S.length + 1) 0 0 ∧ e.get 6 = .i .i64 K ∧ e.get 7 = .i .i64 i ∧ e.get 5 = .i .u32 (N / p2 (i - K))) (j := (32 - K).toNat)
        ⟨rfl, K, Int.le_refl _, hk.2, rfl, rfl, rfl, rfl, rfl, by rw [Int.sub_self, p2_zero, Int.ediv_one]; rfl⟩ ?_
      rintro j e M d' ⟨rfl, i, hi1, hi2, rfl, rfl, h4, h6, h7, h5⟩
      refine W_sound o16_ok mixed _ _ _ _ _ ?_
      have hq := mul_p2_le (s := 0) h32 (show (0 : Int) ≤ i - K by omega)
      rw [p2_zero, Int.mul_one] at hq
      unfold u32 at h32
      by_cases hi : i < 32
      · simp (maxSteps := 1000000) (disch := omega) only [c102l0, h4, h5, h6, h7, hi, go_sem, Option.map_none, Option.map_some, ↓reduceIte, Nat.reduceBEq, Nat.reduceAdd, Nat.reduceSub, Nat.reduceEqDiff, Nat.reduceLeDiff, Nat.reduceMul, Nat.reduceLT, Int.reduceLT, Int.reduceLE, Int.reduceAdd, Int.reduceSub, Int.reduceMul, Int.reduceNeg, Int.reduceEq, Int.reduceNe, Int.reduceToNat, decide_true, decide_false, iaddr_i, iaddr_sl_i, not_true_eq_false, not_false_eq_true, reduceCtorEq, ne_eq, forall_const, false_imp_iff, true_imp_iff, implies_true, Int.cast_ofNat_Int, Int.natCast_zero, Int.natCast_one, Int.add_zero, Int.zero_add]
        exact ⟨(32 - (i + 1)).toNat, by omega, i + 1, by omega, by omega, rfl, rfl, by rw [show i + 1 - K = (i - K) + 1 by omega, ← div_p2 (by omega)]⟩
      · obtain rfl : i = 32 := by omega
        simp (maxSteps := 1000000) (disch := omega) only [c102l0, h4, h5, h6, h7, go_sem, Option.map_none, Option.map_some, ↓reduceIte, Nat.reduceBEq, Nat.reduceAdd, Nat.reduceSub, Nat.reduceEqDiff, Nat.reduceLeDiff, Nat.reduceMul, Nat.reduceLT, Int.reduceLT, Int.reduceLE, Int.reduceAdd, Int.reduceSub, Int.reduceMul, Int.reduceNeg, Int.reduceEq, Int.reduceNe, Int.reduceToNat, decide_true, decide_false, iaddr_i, iaddr_sl_i, not_true_eq_false, not_false_eq_true, reduceCtorEq, ne_eq, forall_const, false_imp_iff, true_imp_iff, implies_true, Int.cast_ofNat_Int, Int.natCast_zero, Int.natCast_one, Int.add_zero, Int.zero_add]
        refine wp_loop (fun j e M dl => dl = [] ∧ ∃ i : Int, K ≤ i ∧ i ≤ 32 ∧ j = (32 - i).toNat ∧ M = S ++ [Blk.cells [AV.i IntKind.u8 a, AV.i IntKind.u8 b, AV.i IntKind.u8 c, AV.i IntKind.u8 d] 0 none true,
          Blk.cells [AV.i IntKind.u8 0, AV.i IntKind.u8 0, AV.i IntKind.u8 0, AV.i IntKind.u8 0, AV.i IntKind.i64 0] 0 none true] ∧
          e.get 4 = .p (S.length + 1) 0 0 ∧ e.get 6 = .i .i64 K ∧ e.get 8 = .i .i64 i ∧ e.get 5 = .i .u32 (N / p2 (32 - K) * p2 (i - K))) (j := (32 - K).toNat)
          ⟨rfl, K, Int.le_refl _, hk.2, rfl, rfl, rfl, rfl, rfl, by rw [Int.sub_self, p2_zero, Int.mul_one]; rfl⟩ ?_
        rintro j e M d' ⟨rfl, i, hi1, hi2, rfl, rfl, h4, h6, h8, h5⟩
        refine W_sound o16_ok mixed _ _ _ _ _ ?_
        have hn2 : u32 N := h32
        have hq := mul_p2_le hn2 (show i - K ≤ 32 - K by omega)
        by_cases hi : i < 32
        · have hq2 := mul_p2_le hn2 (show i - K + 1 ≤ 32 - K by omega)
          rw [p2_succ (by omega), ← Int.mul_assoc] at hq2
          simp (maxSteps := 1000000) (disch := omega) only [c102l1, h4, h5, h6, h8, hi, go_sem, Option.map_none, Option.map_some, ↓reduceIte, Nat.reduceBEq, Nat.reduceAdd, Nat.reduceSub, Nat.reduceEqDiff, Nat.reduceLeDiff, Nat.reduceMul, Nat.reduceLT, Int.reduceLT, Int.reduceLE, Int.reduceAdd, Int.reduceSub, Int.reduceMul, Int.reduceNeg, Int.reduceEq, Int.reduceNe, Int.reduceToNat, decide_true, decide_false, iaddr_i, iaddr_sl_i, not_true_eq_false, not_false_eq_true, reduceCtorEq, ne_eq, forall_const, false_imp_iff, true_imp_iff, implies_true, Int.cast_ofNat_Int, Int.natCast_zero, Int.natCast_one, Int.add_zero, Int.zero_add]
          exact ⟨(32 - (i + 1)).toNat, by omega, i + 1, by omega, by omega, rfl, rfl, by rw [show i + 1 - K = (i - K) + 1 by omega, p2_succ (by omega), Int.mul_assoc]⟩
        · obtain rfl : i = 32 := by omega
          have hr : u32 (N / p2 (32 - K) * p2 (32 - K)) := by unfold u32; omega
          simp (maxSteps := 1000000) (disch := omega) only [c102l1, h4, h5, h6, h8, orc_cons, ofS_eq hr, adr, net, go_sem, Option.map_none, Option.map_some, ↓reduceIte, Nat.reduceBEq, Nat.reduceAdd, Nat.reduceSub, Nat.reduceEqDiff, Nat.reduceLeDiff, Nat.reduceMul, Nat.reduceLT, Int.reduceLT, Int.reduceLE, Int.reduceAdd, Int.reduceSub, Int.reduceMul, Int.reduceNeg, Int.reduceEq, Int.reduceNe, Int.reduceToNat, decide_true, decide_false, iaddr_i, iaddr_sl_i, not_true_eq_false, not_false_eq_true, reduceCtorEq, ne_eq, forall_const, false_imp_iff, true_imp_iff, implies_true, Int.cast_ofNat_Int, Int.natCast_zero, Int.natCast_one, Int.add_zero, Int.zero_add]
          unfold cutv
          rw [pw_p2]
          exact wkv_drop rfl
    · cases h
  · cases h
end Go.Proofs.Ytapgkaecamljbaa

namespace Go.Proofs.Ytapgkaecamljbaa
open Go.RowKit
set_option linter.unusedSimpArgs false
set_option linter.unusedVariables false
set_option maxRecDepth 10000

theorem cl_id {k : Int} (h0 : 0 ≤ k) (h1 : k ≤ 32) : cl k = k := by unfold cl; omega
theorem adr_eq {n a b c d : Int} (hn : u32 n) (h : u84 a b c d) : (b3 n = a ∧ b2 n = b ∧ b1 n = c ∧ b0 n = d) ↔ n = num a b c d := by
  obtain ⟨q1, q2, q3, q4⟩ := b_num h.1 h.2.1 h.2.2.1 h.2.2.2
  constructor
  · rintro ⟨rfl, rfl, rfl, rfl⟩; exact (num_b hn).symm
  · rintro rfl; exact ⟨q1, q2, q3, q4⟩
theorem net_eq {a b c d k : Int} (h : u84 a b c d) (h0 : 0 ≤ k) (h1 : k ≤ 32) : (b3 (cutv (num a b c d) (cl k)) = a ∧ b2 (cutv (num a b c d) (cl k)) = b ∧ b1 (cutv (num a b c d) (cl k)) = c ∧ b0 (cutv (num a b c d) (cl k)) = d ∧ cl k = k) ↔ right (num a b c d) k := by
  rw [cl_id h0 h1]
  have := adr_eq (u32_cutv (k := k) (u84_num h)) h
  unfold right
  rw [cl_id h0 h1]
  constructor
  · rintro ⟨q1, q2, q3, q4, _⟩; exact ⟨rfl, this.1 ⟨q1, q2, q3, q4⟩⟩
  · rintro ⟨_, q⟩
    obtain ⟨q1, q2, q3, q4⟩ := this.2 q
    exact ⟨q1, q2, q3, q4, rfl⟩

theorem wkv_b {S L : Mem} {p q : Prop} [Decidable p] [Decidable q] (h : p ↔ q) : WkV S (.b (decide p)) S (.b (decide q)) (S ++ L) := by
  rw [show decide p = decide q by rw [decide_eq_decide]; exact h]
  exact wkv_drop rfl
theorem wkv_f {S L : Mem} {p : Prop} [Decidable p] (h : ¬ p) : WkV S (.b (decide p)) S (.b false) (S ++ L) := by
  rw [show decide p = false by simpa using h]
  exact wkv_drop rfl
theorem wkv_t {S L : Mem} {p : Prop} [Decidable p] (h : p) : WkV S (.b (decide p)) S (.b true) (S ++ L) := by
  rw [show decide p = true by simpa using h]
  exact wkv_drop rfl
theorem right_bound {n k : Int} (h : right n k) : 0 ≤ k ∧ k ≤ 32 := by
  have := cl_bound k; rw [h.1] at this; exact this

def rightS : Spec := fun args S => match args with
  | [.ag [.i .u8 a, .i .u8 b, .i .u8 c, .i .u8 d, .i .i64 k]] => if u84 a b c d then some (.b (decide (right (num a b c d) k)), S) else none
  | _ => none
theorem rightS_eq {a b c d k : Int} (h : u84 a b c d) (S : Mem) : rightS [.ag [.i .u8 a, .i .u8 b, .i .u8 c, .i .u8 d, .i .i64 k]] S = some (.b (decide (right (num a b c d) k)), S) := by simp only [rightS, if_pos h]
theorem o18_ok : OK Try.prog (lamOf Try.prog) (orcOf [(99, cutS)]) := orc_ok (by simpa using cut_ok)
theorem o19_ok : OK Try.prog (lamOf Try.prog) (orcOf [(102, cutS), (101, clS)]) := orc_ok (by simpa using ⟨rcut_ok, bounded_ok⟩)
theorem right_ok : SpecOK Try.prog 83 rightS := by
  intro args S x S' h
  simp only [rightS] at h
  split at h
  · rename_i a b c d k
    split at h
    · rename_i hn
      cases h
      refine fn_of_wp f83 rfl (W_sound o18_ok mixed _ _ _ _ _ ?_)
      simp (maxSteps := 1000000) (disch := omega) only [c83, orc_cons, cutS_eq hn, net, eq_net, go_sem, Option.map_none, Option.map_some, ↓reduceIte, Nat.reduceBEq, Nat.reduceAdd, Nat.reduceSub, Nat.reduceEqDiff, Nat.reduceLeDiff, Nat.reduceMul, Nat.reduceLT, Int.reduceLT, Int.reduceLE, Int.reduceAdd, Int.reduceSub, Int.reduceMul, Int.reduceNeg, Int.reduceEq, Int.reduceNe, Int.reduceToNat, decide_true, decide_false, iaddr_i, iaddr_sl_i, not_true_eq_false, not_false_eq_true, reduceCtorEq, ne_eq, forall_const, false_imp_iff, true_imp_iff, implies_true, Int.cast_ofNat_Int, Int.natCast_zero, Int.natCast_one, Int.add_zero, Int.zero_add]
      refine ⟨fun h0 => ⟨fun h1 => wkv_b (net_eq hn h0 h1).symm, fun h1 => wkv_f fun hr => ?_⟩, fun h0 => wkv_f fun hr => ?_⟩
      · exact h1 (right_bound hr).2
      · exact h0 (right_bound hr).1
    · cases h
  · cases h
theorem rright_ok : SpecOK Try.prog 85 rightS := by
  intro args S x S' h
  simp only [rightS] at h
  split at h
  · rename_i a b c d k
    split at h
    · rename_i hn
      cases h
      refine fn_of_wp f85 rfl (W_sound o19_ok mixed _ _ _ _ _ ?_)
      simp (maxSteps := 1000000) (disch := omega) only [c85, orc_cons, cutS_eq hn, clS_eq, net, eq_net, go_sem, Option.map_none, Option.map_some, ↓reduceIte, Nat.reduceBEq, Nat.reduceAdd, Nat.reduceSub, Nat.reduceEqDiff, Nat.reduceLeDiff, Nat.reduceMul, Nat.reduceLT, Int.reduceLT, Int.reduceLE, Int.reduceAdd, Int.reduceSub, Int.reduceMul, Int.reduceNeg, Int.reduceEq, Int.reduceNe, Int.reduceToNat, decide_true, decide_false, iaddr_i, iaddr_sl_i, not_true_eq_false, not_false_eq_true, reduceCtorEq, ne_eq, forall_const, false_imp_iff, true_imp_iff, implies_true, Int.cast_ofNat_Int, Int.natCast_zero, Int.natCast_one, Int.add_zero, Int.zero_add]
      refine ⟨fun h0 => ?_, fun h0 => wkv_f fun hr => h0 hr.1⟩
      have hk := cl_bound k
      rw [h0] at hk
      exact wkv_b (net_eq hn hk.1 hk.2).symm
    · cases h
  · cases h

end Go.Proofs.Ytapgkaecamljbaa

namespace Go.Proofs.Ytapgkaecamljbaa
open Go.RowKit
set_option linter.unusedSimpArgs false
set_option linter.unusedVariables false

/-- How values of a kind lie in cells. -/
structure Enc (α : Type) where
  enc : α → List AV
  dec : List AV → Option α
  sz : Nat
  pos : 0 < sz
  len : ∀ a, (enc a).length = sz
  de : ∀ a, dec (enc a) = some a
  ed : ∀ r a, dec r = some a → r = enc a

section
variable {α : Type} {E : Enc α} {S : Mem}

def decL (E : Enc α) : Nat → List AV → Option (List α)
  | 0, _ => some []
  | n + 1, xs => match E.dec (xs.take E.sz), decL E n (xs.drop E.sz) with
    | some a, some l => some (a :: l)
    | _, _ => none

theorem decL_enc : ∀ l : List α, decL E l.length (l.flatMap E.enc) = some l
  | [] => rfl
  | a :: l => by
    have h1 : (E.enc a ++ l.flatMap E.enc).take E.sz = E.enc a := by rw [← E.len a, List.take_left]
    have h2 : (E.enc a ++ l.flatMap E.enc).drop E.sz = l.flatMap E.enc := by rw [← E.len a, List.drop_left]
    simp only [List.length_cons, List.flatMap_cons, decL, h1, h2, E.de, decL_enc l]

theorem decL_ok : ∀ (n : Nat) (xs : List AV) (l : List α), decL E n xs = some l → xs.length = n * E.sz → l.length = n ∧ xs = l.flatMap E.enc
  | 0, xs, l, h, hx => by
    simp only [decL, Option.some.injEq] at h
    subst h
    exact ⟨rfl, List.eq_nil_of_length_eq_zero (by simpa using hx)⟩
  | n + 1, xs, l, h, hx => by
    simp only [decL] at h
    split at h
    · rename_i a r h1 h2
      simp only [Option.some.injEq] at h
      subst h
      have hx' : xs.length = n * E.sz + E.sz := by rw [hx, Nat.add_mul, Nat.one_mul]
      obtain ⟨q1, q2⟩ := decL_ok n _ r h2 (by rw [List.length_drop]; omega)
      refine ⟨by simp [q1], ?_⟩
      rw [List.flatMap_cons, ← E.ed _ _ h1, ← q2, List.take_append_drop]
    · cases h

/-- The list that a slice reads as. -/
def lstV (E : Enc α) (S : Mem) (x : AV) : Option (List α) := match x with
  | .sn => some []
  | .se => some []
  | .sl i o v len _ _ => match rowAt S i o v (len * E.sz) with
    | some xs => decL E len xs
    | none => none
  | _ => none

theorem rowAt_len {i o v n : Nat} {xs : List AV} (h : rowAt S i o v n = some xs) : xs.length = n := by
  unfold rowAt at h
  split at h
  · split at h
    · rename_i hc
      injection h with h; subst h
      rw [List.length_take, List.length_drop]; omega
    · cases h
  · cases h

theorem lstV_lst {x : AV} {l : List α} (h : lstV E S x = some l) : Lst E.sz E.enc S x l := by
  unfold lstV at h
  split at h
  · injection h with h; subst h; exact .inl ⟨rfl, rfl⟩
  · injection h with h; subst h; exact .inr (.inl ⟨rfl, rfl⟩)
  · split at h
    · rename_i xs hr
      obtain ⟨h1, h2⟩ := decL_ok _ _ _ h (rowAt_len hr)
      exact .inr (.inr ⟨_, _, _, _, _, _, rfl, h1, by rw [hr, h2]⟩)
    · cases h
  · cases h

theorem lst_lstV {x : AV} {l : List α} (h : Lst E.sz E.enc S x l) : lstV E S x = some l := by
  rcases h with ⟨rfl, rfl⟩ | ⟨rfl, rfl⟩ | ⟨i, o, v, len, cap, ex, rfl, rfl, h3⟩
  · rfl
  · rfl
  · simp only [lstV, h3, decL_enc]

theorem lstV_grow {x : AV} {l : List α} (h : lstV E S x = some l) (T : Mem) : lstV E (S ++ T) x = some l := lst_lstV ((lstV_lst h).grow T)

/-- A slice that is not empty. -/
theorem lstV_at {i o v len cap : Nat} {ex : Bool} {l : List α} (h : lstV E S (.sl i o v len cap ex) = some l) : l.length = len ∧ rowAt S i o v (l.length * E.sz) = some (l.flatMap E.enc) := by
  simp only [lstV] at h
  split at h
  · rename_i xs hr
    obtain ⟨h1, h2⟩ := decL_ok _ _ _ h (rowAt_len hr)
    subst h1
    exact ⟨rfl, by rw [hr, h2]⟩
  · cases h

theorem lst_len {x : AV} {l : List α} (h : lstV E S x = some l) (S' : Mem) : lenQ .slice S' x = some (.i .i64 (l.length : Int)) := by
  rcases lstV_lst h with ⟨rfl, rfl⟩ | ⟨rfl, rfl⟩ | ⟨i, o, v, len, cap, ex, rfl, rfl, h3⟩ <;> rfl
theorem lst_sl {x : AV} {l : List α} (h : lstV E S x = some l) {k : Nat} (hk : k < l.length) : ∃ i o v cap ex, x = .sl i o v l.length cap ex := by
  rcases lstV_lst h with ⟨rfl, rfl⟩ | ⟨rfl, rfl⟩ | ⟨i, o, v, len, cap, ex, rfl, rfl, h3⟩
  · simp at hk
  · simp at hk
  · exact ⟨_, _, _, _, _, rfl⟩

/-- The element at a place, as a row. -/
theorem lstV_row {i o v len cap : Nat} {ex : Bool} {l : List α} (h : lstV E S (.sl i o v len cap ex) = some l) {k : Nat} (hk : k < l.length) (L : Mem) : rowB ((S ++ L)[i]?) (o + k * E.sz) v E.sz = some (E.enc l[k]) :=
  lst_row E.len (lstV_at h).2 hk L

/-- The element at a place, as a cell. -/
theorem lstV_cell {i o v len cap : Nat} {ex : Bool} {l : List α} (h : lstV E S (.sl i o v len cap ex) = some l) (h1 : E.sz = 1) {f : α → AV} (hf : ∀ a, E.enc a = [f a]) {k : Nat} (hk : k < l.length) (L : Mem) : cellB ((S ++ L)[i]?) (o + k) v = some (f l[k]) := by
  have := lstV_row h hk L
  rw [h1, Nat.mul_one, hf] at this
  unfold rowB at this
  unfold cellB
  split at this
  · rename_i cs ver op r hB
    split at this
    · rename_i hc
      simp only [hc.1, if_true]
      injection this with this
      have hlt : o + k < cs.length := by omega
      rw [List.getElem?_eq_getElem hlt]
      have h2 : (cs.drop (o + k)).take 1 = [cs[o + k]] := by rw [List.drop_eq_getElem_cons hlt]; rfl
      rw [h2] at this
      simpa using this
    · cases this
  · cases this
end

section
variable {α : Type} {E : Enc α} {S : Mem}
/-- A part of the element at a place. -/
theorem lstV_part {i o v len cap : Nat} {ex : Bool} {l : List α} (h : lstV E S (.sl i o v len cap ex) = some l) {k : Nat} (hk : k < l.length) {f n : Nat} (hf : f + n ≤ E.sz) (L : Mem) : rowB ((S ++ L)[i]?) (o + k * E.sz + f) v n = some (((E.enc l[k]).drop f).take n) := by
  have h1 := lstV_row h hk L
  rw [← rowAt_B] at h1 ⊢
  exact row_part h1 hf
/-- A cell of the element at a place. -/
theorem lstV_field {i o v len cap : Nat} {ex : Bool} {l : List α} (h : lstV E S (.sl i o v len cap ex) = some l) {k : Nat} (hk : k < l.length) {f : Nat} {x : AV} (hx : (E.enc l[k])[f]? = some x) (L : Mem) : cellB ((S ++ L)[i]?) (o + k * E.sz + f) v = some x := by
  have hf : f < E.sz := by rw [← E.len l[k]]; exact (List.getElem?_eq_some_iff.1 hx).1
  have := lstV_part h hk (show f + 1 ≤ E.sz by omega) L
  have hd : ((E.enc l[k]).drop f).take 1 = [x] := by
    obtain ⟨hlt, he⟩ := List.getElem?_eq_some_iff.1 hx
    rw [List.drop_eq_getElem_cons hlt, he]; rfl
  rw [hd] at this
  unfold rowB at this
  unfold cellB
  split at this
  · rename_i cs ver op r hB
    split at this
    · rename_i hc
      simp only [hc.1, if_true]
      injection this with this
      have hlt : o + k * E.sz + f < cs.length := by omega
      rw [List.getElem?_eq_getElem hlt]
      have h2 : (cs.drop (o + k * E.sz + f)).take 1 = [cs[o + k * E.sz + f]] := by rw [List.drop_eq_getElem_cons hlt]; rfl
      rw [h2] at this
      simpa using this
    · cases this
  · cases this
end

/-! ### Slicing -/
/-- It can be sliced: its capacity is known, or its block is one that append has made. -/
def openS (S : Mem) (size : Nat) : AV → Bool
  | .sl i _ _ len cap ex => (decide (0 < cap) && decide (len ≤ cap)) && (ex || (match S[i]? with | some B => B.opn == some size | none => false))
  | _ => true
theorem openS_le {S : Mem} {size i o v len cap : Nat} {ex : Bool} (h : openS S size (.sl i o v len cap ex) = true) : len ≤ cap := by
  simp only [openS, Bool.and_eq_true, decide_eq_true_eq] at h
  exact h.1.2
theorem slice_hi {S : Mem} {size i o v len cap : Nat} {ex : Bool} {q : IntKind} {n : Nat} (hn : n ≤ cap) (h : openS S size (.sl i o v len cap ex) = true) :
    sliceV S size (.sl i o v len cap ex) none (some (.i q (n : Int))) none = some (.sl i o v n cap ex) := by
  simp only [openS, Bool.and_eq_true, decide_eq_true_eq, Bool.or_eq_true] at h
  obtain ⟨⟨h0, _⟩, h1⟩ := h
  have hb : bnds len cap none (some (.i q (n : Int))) none = some (0, n, cap) := by
    simp [bnds, bndV, natV, hn]
  simp only [sliceV, hb, Option.isSome_none, Bool.or_false]
  cases ex with
  | true => simp [cutAt]
  | false =>
    simp only [Bool.false_eq_true, if_false, false_or] at h1 ⊢
    rw [if_neg (by omega)]
    split at h1
    · rename_i B hB
      simp only [hB, if_pos (show B.opn = some size by simpa using h1)]
      simp
    · cases h1

/-! ### Append -/
def appN (S : Mem) (size len n : Nat) (cs : List AV) (old : Option (List AV)) : Option (AV × Mem) := match old with
  | some old => some (.sl S.length 0 0 (len + n) (len + n) false, S ++ [.cells (old ++ cs) 0 (some size) true])
  | none => none
theorem app_ex {S : Mem} {size bytes i o v len cap n : Nat} {cs : List AV} (h0 : 0 < n) (h1 : cap < len + n) (h2 : (len + n) * bytes ≤ 70368744177664) (h3 : len + n ≤ 70368744177664) :
    appV S size bytes (.sl i o v len cap true) cs n = appN S size len n cs (rowB (S[i]?) o v (len * size)) := by
  have h2' : (len + n) * bytes ≤ lim := h2
  have h3' : len + n ≤ lim := h3
  simp only [appV]
  rw [if_neg (by omega), if_neg (by omega), if_pos ⟨h2', h3'⟩, rowAt_B]
  simp only [if_true, appN]
  cases rowB (S[i]?) o v (len * size) <;> rfl
theorem appN_some {S : Mem} {size len n : Nat} {cs old : List AV} : appN S size len n cs (some old) = some (.sl S.length 0 0 (len + n) (len + n) false, S ++ [.cells (old ++ cs) 0 (some size) true]) := (rfl)
theorem app_sn {S : Mem} {size bytes n : Nat} {cs : List AV} (h0 : 0 < n) (h2 : n * bytes ≤ 70368744177664) (h3 : n ≤ 70368744177664) :
    appV S size bytes .sn cs n = some (.sl S.length 0 0 n n false, S ++ [.cells cs 0 (some size) true]) := by
  have h2' : n * bytes ≤ lim := h2
  have h3' : n ≤ lim := h3
  simp only [appV]
  rw [if_neg (by omega), if_pos ⟨h2', h3'⟩]
def srcN (len : Nat) (old : Option (List AV)) : Option (List AV × Nat) := match old with
  | some cs => some (cs, len)
  | none => none
theorem src_sl {S : Mem} {size i o v len cap : Nat} {ex : Bool} : srcV S size (.sl i o v len cap ex) = srcN len (rowB (S[i]?) o v (len * size)) := by
  simp only [srcV, rowAt_B]
  cases rowB (S[i]?) o v (len * size) <;> rfl
theorem srcN_some {len : Nat} {cs : List AV} : srcN len (some cs) = some (cs, len) := (rfl)
theorem src_sn {S : Mem} {size : Nat} : srcV S size .sn = some ([], 0) := (rfl)
theorem un_not_b {x : Bool} : unV .not (.b x) = some (.b (!x)) := (rfl)
attribute [go_sem] app_ex appN_some app_sn src_sl srcN_some src_sn

/-- Numbers of a kind. -/
def intE (k : IntKind) : Enc Int where
  enc n := [.i k n]
  dec r := match r with
    | [.i q n] => if q = k then some n else none
    | _ => none
  sz := 1
  pos := Nat.one_pos
  len _ := rfl
  de a := by simp
  ed r a h := by
    split at h
    · split at h
      · rename_i hq; subst hq; injection h with h; subst h; rfl
      · cases h
    · cases h
end Go.Proofs.Ytapgkaecamljbaa

namespace Go.Proofs.Ytapgkaecamljbaa
open Go.RowKit
set_option linter.unusedSimpArgs false
set_option linter.unusedVariables false
set_option maxRecDepth 10000

/-- Where the first is that it holds of. -/
def idx {α : Type} (p : α → Bool) (l : List α) : Int := match l.findIdx? p with
  | some k => k
  | none => -1
theorem idx_ge {α : Type} (p : α → Bool) (l : List α) : (0 ≤ idx p l) = (l.any p = true) := by
  unfold idx
  cases h : l.findIdx? p with
  | some k =>
    have := List.findIdx?_eq_some_iff_getElem.1 h
    obtain ⟨hk, hp, _⟩ := this
    simp only [eq_iff_iff]
    exact ⟨fun _ => List.any_eq_true.2 ⟨l[k], List.getElem_mem hk, hp⟩, fun _ => by omega⟩
  | none =>
    have := List.findIdx?_eq_none_iff.1 h
    simp only [eq_iff_iff]
    refine ⟨fun h => by omega, fun h => ?_⟩
    obtain ⟨x, hx, hp⟩ := List.any_eq_true.1 h
    rw [this x hx] at hp; cases hp
theorem idx_at {α : Type} {p : α → Bool} {l : List α} {k : Nat} (hk : k < l.length) (hp : p l[k] = true) (hn : ∀ j (h : j < k), p (l[j]'(by omega)) = false) : idx p l = k := by
  unfold idx
  rw [List.findIdx?_eq_some_iff_getElem.2 ⟨hk, hp, fun j hj => by simpa using hn j hj⟩]
theorem idx_none {α : Type} {p : α → Bool} {l : List α} (h : ∀ j (hj : j < l.length), p l[j] = false) : idx p l = -1 := by
  unfold idx
  rw [List.findIdx?_eq_none_iff.2 fun x hx => by obtain ⟨j, hj, rfl⟩ := List.getElem_of_mem hx; exact h j hj]

def aboveS : Spec := fun args S => match args with
  | [.i .u64 n] => some (.b (decide (281474976710656 < n)), S)
  | _ => none
def belowS : Spec := fun args S => match args with
  | [.i .u64 n] => some (.b (decide (n < 1500)), S)
  | _ => none
theorem above_ok : SpecOK Try.prog 81 aboveS := by
  intro args S x S' h
  simp only [aboveS] at h
  split at h
  · cases h
    refine fn_of_wp f81 rfl (W_sound none_ok mixed _ _ _ _ _ ?_)
    simp (maxSteps := 1000000) (disch := omega) only [c81, go_sem, Option.map_none, Option.map_some, ↓reduceIte, Nat.reduceBEq, Nat.reduceAdd, Nat.reduceSub, Nat.reduceEqDiff, Nat.reduceLeDiff, Nat.reduceMul, Nat.reduceLT, Int.reduceLT, Int.reduceLE, Int.reduceAdd, Int.reduceSub, Int.reduceMul, Int.reduceNeg, Int.reduceEq, Int.reduceNe, Int.reduceToNat, decide_true, decide_false, iaddr_i, iaddr_sl_i, not_true_eq_false, not_false_eq_true, reduceCtorEq, ne_eq, forall_const, false_imp_iff, true_imp_iff, implies_true, Int.cast_ofNat_Int, Int.natCast_zero, Int.natCast_one, Int.add_zero, Int.zero_add]
    exact wkv_same
  · cases h
theorem below_ok : SpecOK Try.prog 82 belowS := by
  intro args S x S' h
  simp only [belowS] at h
  split at h
  · cases h
    refine fn_of_wp f82 rfl (W_sound none_ok mixed _ _ _ _ _ ?_)
    simp (maxSteps := 1000000) (disch := omega) only [c82, go_sem, Option.map_none, Option.map_some, ↓reduceIte, Nat.reduceBEq, Nat.reduceAdd, Nat.reduceSub, Nat.reduceEqDiff, Nat.reduceLeDiff, Nat.reduceMul, Nat.reduceLT, Int.reduceLT, Int.reduceLE, Int.reduceAdd, Int.reduceSub, Int.reduceMul, Int.reduceNeg, Int.reduceEq, Int.reduceNe, Int.reduceToNat, decide_true, decide_false, iaddr_i, iaddr_sl_i, not_true_eq_false, not_false_eq_true, reduceCtorEq, ne_eq, forall_const, false_imp_iff, true_imp_iff, implies_true, Int.cast_ofNat_Int, Int.natCast_zero, Int.natCast_one, Int.add_zero, Int.zero_add]
    exact wkv_same
  · cases h

/-- What a function value says of a number. -/
def predU (f : AV) : Option (Int → Bool) := match f with
  | .f (.func g) [] [] => if g = 81 then some (fun n => decide (281474976710656 < n)) else if g = 82 then some (fun n => decide (n < 1500)) else none
  | _ => none
theorem oU_ok : OK Try.prog (lamOf Try.prog) (orcOf [(81, aboveS), (82, belowS)]) := orc_ok (by simpa using ⟨above_ok, below_ok⟩)
theorem predU_call {f : AV} {p : Int → Bool} (h : predU f = some p) : ∃ g, f = .f (.func g) [] [] ∧ ∀ n S, (orcOf [(81, aboveS), (82, belowS)]).fn g [.i .u64 n] S = some (.b (p n), S) := by
  unfold predU at h
  split at h
  · rename_i g
    split at h
    · rename_i hg; subst hg; injection h with h; subst h; exact ⟨_, rfl, fun n S => rfl⟩
    · split at h
      · rename_i hg; subst hg; injection h with h; subst h; exact ⟨_, rfl, fun n S => rfl⟩
      · cases h
  · cases h

def idxUS : Spec := fun args S => match args with
  | [x, f] => match lstV (intE .u64) S x, predU f with
    | some l, some p => if l.length ≤ 1000000 then some (.i .i64 (idx p l), S) else none
    | _, _ => none
  | _ => none
theorem idxU_ok : SpecOK Try.prog 100 idxUS := by
  intro args S x S' h
  simp only [idxUS] at h
  split at h
  · rename_i s f
    split at h
    · rename_i l p hl hp
      split at h
      · rename_i hlim
        cases h
        obtain ⟨g, rfl, hg⟩ := predU_call hp
        refine fn_of_wp f100 rfl (W_sound oU_ok mixed _ _ _ _ _ ?_)
        simp (maxSteps := 1000000) (disch := omega) only [c100, lst_len hl, go_sem, Option.map_none, Option.map_some, ↓reduceIte, Nat.reduceBEq, Nat.reduceAdd, Nat.reduceSub, Nat.reduceEqDiff, Nat.reduceLeDiff, Nat.reduceMul, Nat.reduceLT, Int.reduceLT, Int.reduceLE, Int.reduceAdd, Int.reduceSub, Int.reduceMul, Int.reduceNeg, Int.reduceEq, Int.reduceNe, Int.reduceToNat, decide_true, decide_false, iaddr_i, iaddr_sl_i, not_true_eq_false, not_false_eq_true, reduceCtorEq, ne_eq, forall_const, false_imp_iff, true_imp_iff, implies_true, Int.cast_ofNat_Int, Int.natCast_zero, Int.natCast_one, Int.add_zero, Int.zero_add]
        refine wp_loop (fun j e M dl => dl = [] ∧ ∃ k : Nat, j = l.length - k ∧ k ≤ l.length ∧ M = S ∧ (∀ i (hi : i < k) (hl : i < l.length), p l[i] = false) ∧
          e.get 0 = s ∧ e.get 1 = .f (.func g) [] [] ∧ e.get 7 = .i .i64 l.length ∧ e.get 8 = .i .i64 k) (j := l.length) ⟨rfl, 0, rfl, Nat.zero_le _, rfl, fun i hi => absurd hi (Nat.not_lt_zero _), rfl, rfl, rfl, rfl⟩ ?_
        rintro j e M d' ⟨rfl, k, rfl, hk, rfl, hn, h0, h1, h7, h8⟩
        refine W_sound oU_ok mixed _ _ _ _ _ ?_
        by_cases hkl : k < l.length
        · obtain ⟨bi, o, v, cap, ex, rfl⟩ := lst_sl hl hkl
          have hc := lstV_cell hl rfl (fun a => rfl) hkl []
          rw [List.append_nil] at hc
          have hkI : (k : Int) < l.length := by omega
          simp (maxSteps := 1000000) (disch := omega) only [c100l0, h0, h1, h7, h8, hkI, Int.toNat_natCast, Nat.mul_one, hc, hg, go_sem, Option.map_none, Option.map_some, ↓reduceIte, Nat.reduceBEq, Nat.reduceAdd, Nat.reduceSub, Nat.reduceEqDiff, Nat.reduceLeDiff, Nat.reduceMul, Nat.reduceLT, Int.reduceLT, Int.reduceLE, Int.reduceAdd, Int.reduceSub, Int.reduceMul, Int.reduceNeg, Int.reduceEq, Int.reduceNe, Int.reduceToNat, decide_true, decide_false, iaddr_i, iaddr_sl_i, not_true_eq_false, not_false_eq_true, reduceCtorEq, ne_eq, forall_const, false_imp_iff, true_imp_iff, implies_true, Int.cast_ofNat_Int, Int.natCast_zero, Int.natCast_one, Int.add_zero, Int.zero_add]
          cases hpk : p l[k] with
          | true =>
            refine ⟨fun _ => ?_, fun h => by cases h⟩
            rw [idx_at hkl hpk fun j hj => hn j hj (by omega)]
            exact wkv_same
          | false =>
            refine ⟨(fun h => by cases h), fun _ => ⟨l.length - (k + 1), by omega, k + 1, rfl, hkl, fun i hi hil => ?_, rfl⟩⟩
            by_cases hik : i = k
            · subst hik; exact hpk
            · exact hn i (by omega) hil
        · have hkI : ¬ (k : Int) < l.length := by omega
          simp (maxSteps := 1000000) (disch := omega) only [c100l0, h0, h1, h7, h8, hkI, go_sem, Option.map_none, Option.map_some, ↓reduceIte, Nat.reduceBEq, Nat.reduceAdd, Nat.reduceSub, Nat.reduceEqDiff, Nat.reduceLeDiff, Nat.reduceMul, Nat.reduceLT, Int.reduceLT, Int.reduceLE, Int.reduceAdd, Int.reduceSub, Int.reduceMul, Int.reduceNeg, Int.reduceEq, Int.reduceNe, Int.reduceToNat, decide_true, decide_false, iaddr_i, iaddr_sl_i, not_true_eq_false, not_false_eq_true, reduceCtorEq, ne_eq, forall_const, false_imp_iff, true_imp_iff, implies_true, Int.cast_ofNat_Int, Int.natCast_zero, Int.natCast_one, Int.add_zero, Int.zero_add]
          rw [idx_none fun j hj => hn j (by omega) hj]
          exact wkv_same
      · cases h
    · cases h
  · cases h

def hasUS : Spec := fun args S => match args with
  | [x, f] => match lstV (intE .u64) S x, predU f with
    | some l, some p => if l.length ≤ 1000000 then some (.b (l.any p), S) else none
    | _, _ => none
  | _ => none
theorem oI_ok : OK Try.prog (lamOf Try.prog) (orcOf [(100, idxUS)]) := orc_ok (by simpa using idxU_ok)
theorem hasU_ok : SpecOK Try.prog 84 hasUS := by
  intro args S x S' h
  simp only [hasUS] at h
  split at h
  · rename_i s f
    split at h
    · rename_i l p hl hp
      split at h
      · rename_i hlim
        cases h
        have hi : idxUS [s, f] S = some (.i .i64 (idx p l), S) := by simp only [idxUS, hl, hp, if_pos hlim]
        refine fn_of_wp f84 rfl (W_sound oI_ok mixed _ _ _ _ _ ?_)
        simp (maxSteps := 1000000) (disch := omega) only [c84, orc_cons, hi, go_sem, Option.map_none, Option.map_some, ↓reduceIte, Nat.reduceBEq, Nat.reduceAdd, Nat.reduceSub, Nat.reduceEqDiff, Nat.reduceLeDiff, Nat.reduceMul, Nat.reduceLT, Int.reduceLT, Int.reduceLE, Int.reduceAdd, Int.reduceSub, Int.reduceMul, Int.reduceNeg, Int.reduceEq, Int.reduceNe, Int.reduceToNat, decide_true, decide_false, iaddr_i, iaddr_sl_i, not_true_eq_false, not_false_eq_true, reduceCtorEq, ne_eq, forall_const, false_imp_iff, true_imp_iff, implies_true, Int.cast_ofNat_Int, Int.natCast_zero, Int.natCast_one, Int.add_zero, Int.zero_add]
        refine wkv_eq wkv_same ?_ rfl
        congr 1
        have := idx_ge p l
        cases h : l.any p
        · rw [h] at this; simp [this]
        · rw [h] at this; simp [this]
      · cases h
    · cases h
  · cases h
end Go.Proofs.Ytapgkaecamljbaa

namespace Go.Proofs.Ytapgkaecamljbaa
open Go.RowKit
set_option linter.unusedSimpArgs false
set_option linter.unusedVariables false
set_option maxRecDepth 10000

/-- A policy. -/
structure Pol where
  sub : Int
  a : Int
  b : Int
  c : Int
  d : Int
  bits : Int
  rate : Int
  burst : Int
  srate : Int
  sburst : Int
  quota : Int
  lease : Int
  quantum : Int
  deriving DecidableEq

def Pol.enc (p : Pol) : List AV := [.i .i64 p.sub, .i .u8 p.a, .i .u8 p.b, .i .u8 p.c, .i .u8 p.d, .i .i64 p.bits, .i .u64 p.rate, .i .u64 p.burst, .i .u64 p.srate, .i .u64 p.sburst, .i .u64 p.quota, .i .u64 p.lease, .i .u64 p.quantum]
def Pol.fits (p : Pol) : Prop := u84 p.a p.b p.c p.d
instance (p : Pol) : Decidable p.fits := by unfold Pol.fits; infer_instance
def Pol.nums (p : Pol) : List Int := [p.lease, p.quantum, p.rate, p.burst, p.srate, p.sburst, p.quota]
def Pol.right (p : Pol) : Prop := 1 ≤ p.sub ∧ p.sub ≤ 255 ∧ Go.Proofs.Ytapgkaecamljbaa.right (num p.a p.b p.c p.d) p.bits ∧ (∀ n ∈ p.nums, n ≤ 281474976710656) ∧ 1500 ≤ p.lease ∧ 1500 ≤ p.quantum
instance (p : Pol) : Decidable p.right := by unfold Pol.right; infer_instance

def polS : Spec := fun args S => match args with
  | [.ag [.i .i64 sub, .i .u8 a, .i .u8 b, .i .u8 c, .i .u8 d, .i .i64 bits, .i .u64 rate, .i .u64 burst, .i .u64 srate, .i .u64 sburst, .i .u64 quota, .i .u64 lease, .i .u64 quantum]] =>
    if u84 a b c d then some (.b (decide (Pol.right ⟨sub, a, b, c, d, bits, rate, burst, srate, sburst, quota, lease, quantum⟩)), S) else none
  | _ => none
theorem polS_eq {p : Pol} (h : p.fits) (S : Mem) : polS [.ag p.enc] S = some (.b (decide p.right), S) := by
  have h : u84 p.a p.b p.c p.d := h
  simp only [polS, Pol.enc, if_pos h]
theorem lstU_sl {S : Mem} {i o v len cap : Nat} {ex : Bool} : lstV (intE .u64) S (.sl i o v len cap ex) = match rowB (S[i]?) o v len with
    | some xs => decL (intE .u64) len xs
    | none => none := by
  simp only [lstV, show (intE .u64).sz = 1 from rfl, Nat.mul_one, rowAt_B]
  first | done | (cases rowB (S[i]?) o v len <;> rfl)
theorem decU_nil {xs : List AV} : decL (intE .u64) 0 xs = some [] := rfl
theorem decU_cons {n : Nat} {a : Int} {r : List AV} : decL (intE .u64) (n + 1) (.i .u64 a :: r) = (decL (intE .u64) n r).map (a :: ·) := by
  have h1 : (AV.i .u64 a :: r).take (intE .u64).sz = [.i .u64 a] := rfl
  have h2 : (AV.i .u64 a :: r).drop (intE .u64).sz = r := rfl
  have h3 : (intE .u64).dec [.i .u64 a] = some a := rfl
  simp only [decL, h1, h2, h3]
  cases decL (intE .u64) n r <;> rfl
theorem decU7 {a b c d e f g : Int} : decL (intE .u64) 7 [.i .u64 a, .i .u64 b, .i .u64 c, .i .u64 d, .i .u64 e, .i .u64 f, .i .u64 g] = some [a, b, c, d, e, f, g] := by
  simp only [decU_cons, decU_nil, Option.map_some]
theorem decU2 {a b : Int} : decL (intE .u64) 2 [.i .u64 a, .i .u64 b] = some [a, b] := by
  simp only [decU_cons, decU_nil, Option.map_some]
theorem hasU_eq {x f : AV} {S : Mem} {l : List Int} {p : Int → Bool} (hl : lstV (intE .u64) S x = some l) (hp : predU f = some p) (hn : l.length ≤ 1000000) : hasUS [x, f] S = some (.b (l.any p), S) := by
  simp only [hasUS, hl, hp, if_pos hn]
theorem predU1 : predU (.f (.func 81) [] []) = some (fun n => decide (281474976710656 < n)) := rfl
theorem predU2 : predU (.f (.func 82) [] []) = some (fun n => decide (n < 1500)) := rfl
theorem oP_ok : OK Try.prog (lamOf Try.prog) (orcOf [(83, rightS), (84, hasUS)]) := orc_ok (by simpa using ⟨right_ok, hasU_ok⟩)
theorem pol_ok : SpecOK Try.prog 59 polS := by
  intro args S x S' h
  simp only [polS] at h
  split at h
  · rename_i sub a b c d bits rate burst srate sburst quota lease quantum
    split at h
    · rename_i hn
      cases h
      refine fn_of_wp f59 rfl (W_sound oP_ok mixed _ _ _ _ _ ?_)
      simp (maxSteps := 1000000) (disch := omega) only [c59, orc_cons, rightS_eq hn, List.replicate_succ, List.replicate_zero, hasUS, lstU_sl, decU7, decU2, predU1, predU2, un_not_b, go_sem, Option.map_none, Option.map_some, ↓reduceIte, Nat.reduceBEq, Nat.reduceAdd, Nat.reduceSub, Nat.reduceEqDiff, Nat.reduceLeDiff, Nat.reduceMul, Nat.reduceLT, Int.reduceLT, Int.reduceLE, Int.reduceAdd, Int.reduceSub, Int.reduceMul, Int.reduceNeg, Int.reduceEq, Int.reduceNe, Int.reduceToNat, decide_true, decide_false, iaddr_i, iaddr_sl_i, not_true_eq_false, not_false_eq_true, reduceCtorEq, ne_eq, forall_const, false_imp_iff, true_imp_iff, implies_true, Int.cast_ofNat_Int, Int.natCast_zero, Int.natCast_one, Int.add_zero, Int.zero_add]
      refine ⟨fun h1 => ⟨fun h2 => ⟨fun h3 => wkv_f fun q => (by simpa using h3 : ¬ Go.Proofs.Ytapgkaecamljbaa.right (num a b c d) bits) q.2.2.1, fun h3 => ⟨fun h4 => wkv_f fun q => ?_, fun h4 => ?_⟩⟩, fun h2 => wkv_f fun q => ?_⟩, fun h1 => wkv_f fun q => ?_⟩
      · obtain ⟨n, hn1, hn2⟩ := List.any_eq_true.1 h4
        have h5 := q.2.2.2.1 n hn1
        have h6 := of_decide_eq_true hn2
        omega
      · have h5 : ∀ n ∈ [lease, quantum, rate, burst, srate, sburst, quota], n ≤ 281474976710656 := fun n hm => by
          have := List.any_eq_false.1 h4 n hm
          simpa using this
        have h6 : decide (Pol.right ⟨sub, a, b, c, d, bits, rate, burst, srate, sburst, quota, lease, quantum⟩) = !([lease, quantum].any fun n => decide (n < 1500)) := by
          rw [Bool.eq_iff_iff, decide_eq_true_iff]
          simp only [List.any_cons, List.any_nil, Bool.or_false, Bool.not_eq_true', Bool.or_eq_false_iff, decide_eq_false_iff_not]
          constructor
          · intro q; have q1 := q.2.2.2.2.1; have q2 := q.2.2.2.2.2; simp only at q1 q2; omega
          · intro q; exact ⟨by simp only; omega, by simp only; omega, by simpa using h3, h5, by simp only; omega, by simp only; omega⟩
        rw [h6]
        exact wkv_drop rfl
      · have := q.2.1; simp only at this; omega
      · have := q.1; simp only at this; omega
    · cases h
  · cases h
end Go.Proofs.Ytapgkaecamljbaa

namespace Go.Proofs.Ytapgkaecamljbaa
open Go.RowKit
set_option linter.unusedSimpArgs false
set_option linter.unusedVariables false
set_option maxRecDepth 10000

theorem oR_ok : OK Try.prog (lamOf Try.prog) (orcOf [(85, rightS)]) := orc_ok (by simpa using rright_ok)
theorem rpol_ok : SpecOK Try.prog 63 polS := by
  intro args S x S' h
  simp only [polS] at h
  split at h
  · rename_i sub a b c d bits rate burst srate sburst quota lease quantum
    split at h
    · rename_i hn
      cases h
      have key : ∀ P : Prop, (Pol.right ⟨sub, a, b, c, d, bits, rate, burst, srate, sburst, quota, lease, quantum⟩ ↔ (1 ≤ sub ∧ sub ≤ 255 ∧ Go.Proofs.Ytapgkaecamljbaa.right (num a b c d) bits ∧ (lease ≤ 281474976710656 ∧ quantum ≤ 281474976710656 ∧ rate ≤ 281474976710656 ∧ burst ≤ 281474976710656 ∧ srate ≤ 281474976710656 ∧ sburst ≤ 281474976710656 ∧ quota ≤ 281474976710656) ∧ 1500 ≤ lease ∧ 1500 ≤ quantum)) := fun _ => by
        simp only [Pol.right, Pol.nums, List.forall_mem_cons, List.not_mem_nil, false_imp_iff, implies_true, and_true]
      have key := key True
      refine fn_of_wp f63 rfl (W_sound oR_ok mixed _ _ _ _ _ ?_)
      simp (maxSteps := 1000000) (disch := omega) only [c63, orc_cons, rightS_eq hn, List.replicate_succ, List.replicate_zero, go_sem, Option.map_none, Option.map_some, ↓reduceIte, Nat.reduceBEq, Nat.reduceAdd, Nat.reduceSub, Nat.reduceEqDiff, Nat.reduceLeDiff, Nat.reduceMul, Nat.reduceLT, Int.reduceLT, Int.reduceLE, Int.reduceAdd, Int.reduceSub, Int.reduceMul, Int.reduceNeg, Int.reduceEq, Int.reduceNe, Int.reduceToNat, decide_true, decide_false, iaddr_i, iaddr_sl_i, not_true_eq_false, not_false_eq_true, reduceCtorEq, ne_eq, forall_const, false_imp_iff, true_imp_iff, implies_true, Int.cast_ofNat_Int, Int.natCast_zero, Int.natCast_one, Int.add_zero, Int.zero_add]
      refine ⟨fun h1 => ⟨fun h2 => ⟨fun h3 => wkv_f fun q => (by simpa using h3 : ¬ Go.Proofs.Ytapgkaecamljbaa.right (num a b c d) bits) q.2.2.1, fun h3 => ?_⟩, fun h2 => wkv_f fun q => by have := (key.1 q).2.1; omega⟩, fun h1 => wkv_f fun q => by have := (key.1 q).1; omega⟩
      refine wp_unroll oR_ok mixed 8 ?_
      simp (maxSteps := 1000000) (disch := omega) only [c63l0, ixa_ag, go_sem, Option.map_none, Option.map_some, ↓reduceIte, Nat.reduceBEq, Nat.reduceAdd, Nat.reduceSub, Nat.reduceEqDiff, Nat.reduceLeDiff, Nat.reduceMul, Nat.reduceLT, Int.reduceLT, Int.reduceLE, Int.reduceAdd, Int.reduceSub, Int.reduceMul, Int.reduceNeg, Int.reduceEq, Int.reduceNe, Int.reduceToNat, decide_true, decide_false, iaddr_i, iaddr_sl_i, not_true_eq_false, not_false_eq_true, reduceCtorEq, ne_eq, forall_const, false_imp_iff, true_imp_iff, implies_true, Int.cast_ofNat_Int, Int.natCast_zero, Int.natCast_one, Int.add_zero, Int.zero_add]
      refine ⟨fun h => wkv_f fun q => by have := (key.1 q).2.2.2.1; omega, fun r1 => ?_⟩
      refine ⟨fun h => wkv_f fun q => by have := (key.1 q).2.2.2.1; omega, fun r2 => ?_⟩
      refine ⟨fun h => wkv_f fun q => by have := (key.1 q).2.2.2.1; omega, fun r3 => ?_⟩
      refine ⟨fun h => wkv_f fun q => by have := (key.1 q).2.2.2.1; omega, fun r4 => ?_⟩
      refine ⟨fun h => wkv_f fun q => by have := (key.1 q).2.2.2.1; omega, fun r5 => ?_⟩
      refine ⟨fun h => wkv_f fun q => by have := (key.1 q).2.2.2.1; omega, fun r6 => ?_⟩
      refine ⟨fun h => wkv_f fun q => by have := (key.1 q).2.2.2.1; omega, fun r7 => ?_⟩
      refine ⟨fun l1 => wkv_b ⟨fun q => (key.1 q).2.2.2.2.2, fun l2 => key.2 ⟨by omega, by omega, Decidable.not_not.1 h3, by omega, l1, l2⟩⟩, fun l1 => wkv_f fun q => l1 (key.1 q).2.2.2.2.1⟩
    · cases h
  · cases h
end Go.Proofs.Ytapgkaecamljbaa

namespace Go.Proofs.Ytapgkaecamljbaa
open Go.RowKit
set_option linter.unusedSimpArgs false
set_option linter.unusedVariables false
set_option maxRecDepth 10000

def polE : Enc Pol where
  enc := Pol.enc
  dec r := match r with
    | [.i .i64 sub, .i .u8 a, .i .u8 b, .i .u8 c, .i .u8 d, .i .i64 bits, .i .u64 rate, .i .u64 burst, .i .u64 srate, .i .u64 sburst, .i .u64 quota, .i .u64 lease, .i .u64 quantum] => some ⟨sub, a, b, c, d, bits, rate, burst, srate, sburst, quota, lease, quantum⟩
    | _ => none
  sz := 13
  pos := by decide
  len _ := rfl
  de _ := rfl
  ed r a h := by
    split at h
    · injection h with h; subst h; rfl
    · cases h

/-- The network of a policy. -/
def Pol.net (p : Pol) : Int × Int × Int × Int × Int := (p.a, p.b, p.c, p.d, p.bits)

/-- Up to the k-th each can be, beside those ahead of it. -/
def okTo (l : List Pol) (k : Nat) : Prop := ∀ i (h : i < l.length), i < k → (l[i].right ∧ ∀ j (hj : j < i), (l[j]'(by omega)).sub < l[i].sub ∧ (l[j]'(by omega)).net ≠ l[i].net)
def Pols (l : List Pol) : Prop := l.length ≤ 8 ∧ okTo l l.length
noncomputable instance (l : List Pol) : Decidable (Pols l) := Classical.propDecidable _
noncomputable def allE (l : List Pol) : Int := if Pols l then 0 else 111

theorem okTo_zero (l : List Pol) : okTo l 0 := fun i h hk => absurd hk (Nat.not_lt_zero _)
theorem okTo_succ {l : List Pol} {k : Nat} (hk : k < l.length) (h : okTo l k) (hr : l[k].right) (hj : ∀ j (hj : j < k), (l[j]'(by omega)).sub < l[k].sub ∧ (l[j]'(by omega)).net ≠ l[k].net) : okTo l (k + 1) := fun i hi hik => by
  by_cases e : i = k
  · subst e; exact ⟨hr, hj⟩
  · exact h i hi (by omega)
theorem okTo_at {l : List Pol} (h : okTo l l.length) {k : Nat} (hk : k < l.length) : l[k].right ∧ ∀ j (hj : j < k), (l[j]'(by omega)).sub < l[k].sub ∧ (l[j]'(by omega)).net ≠ l[k].net := h k hk hk
/-- It is enough that each is above the one just ahead of it. -/
theorem okTo_rise {l : List Pol} {k : Nat} (hk : k < l.length) (h : okTo l k) (h1 : ∀ h0 : 0 < k, (l[k - 1]'(by omega)).sub < l[k].sub) : ∀ j (hj : j < k), (l[j]'(by omega)).sub < l[k].sub := fun j hj => by
  have h2 := h1 (by omega)
  by_cases e : j = k - 1
  · subst e; exact h2
  · have := ((h (k - 1) (by omega) (by omega)).2 j (by omega)).1
    omega
end Go.Proofs.Ytapgkaecamljbaa

namespace Go.Proofs.Ytapgkaecamljbaa
open Go.RowKit
set_option linter.unusedSimpArgs false
set_option linter.unusedVariables false
set_option maxRecDepth 10000

noncomputable def allS : Spec := fun args S => match args with
  | [x] => match lstV polE S x with
    | some l => if l.all (fun p => decide p.fits) = true ∧ (l = [] ∨ openS S 13 x = true) then some (.i .i64 (allE l), S) else none
    | none => none
  | _ => none
theorem oA_ok : OK Try.prog (lamOf Try.prog) (orcOf [(63, polS)]) := orc_ok (by simpa using rpol_ok)
theorem rall_ok : SpecOK Try.prog 42 allS := by
  intro args S x S' h
  simp only [allS] at h
  split at h
  · rename_i s
    split at h
    · rename_i l hl
      split at h
      · rename_i hc
        cases h
        obtain ⟨hfit, hop⟩ := hc
        have hfit : ∀ k (hk : k < l.length), l[k].fits := fun k hk => of_decide_eq_true (List.all_eq_true.1 hfit _ (List.getElem_mem hk))
        refine fn_of_wp f42 rfl (W_sound oA_ok mixed _ _ _ _ _ ?_)
        simp (maxSteps := 1000000) (disch := omega) only [c42, lst_len hl, go_sem, Option.map_none, Option.map_some, ↓reduceIte, Nat.reduceBEq, Nat.reduceAdd, Nat.reduceSub, Nat.reduceEqDiff, Nat.reduceLeDiff, Nat.reduceMul, Nat.reduceLT, Int.reduceLT, Int.reduceLE, Int.reduceAdd, Int.reduceSub, Int.reduceMul, Int.reduceNeg, Int.reduceEq, Int.reduceNe, Int.reduceToNat, decide_true, decide_false, iaddr_i, iaddr_sl_i, not_true_eq_false, not_false_eq_true, reduceCtorEq, ne_eq, forall_const, false_imp_iff, true_imp_iff, implies_true, Int.cast_ofNat_Int, Int.natCast_zero, Int.natCast_one, Int.add_zero, Int.zero_add]
        refine ⟨fun h8 => ?_, fun h8 => ?_⟩
        · rw [show allE l = 111 by unfold allE; rw [if_neg fun q => by have := q.1; omega]]
          exact wkv_same
        · refine wp_loop (fun j e M dl => dl = [] ∧ ∃ k : Nat, j = l.length - k ∧ k ≤ l.length ∧ M = S ∧ okTo l k ∧ e.get 0 = s ∧ e.get 9 = .i .i64 l.length ∧ e.get 10 = .i .i64 k) (j := l.length) ⟨rfl, 0, rfl, Nat.zero_le _, rfl, okTo_zero l, rfl, rfl, rfl⟩ ?_
          rintro j e M d' ⟨rfl, k, rfl, hk, rfl, hok, h0, h9, h10⟩
          refine W_sound oA_ok mixed _ _ _ _ _ ?_
          by_cases hkl : k < l.length
          · obtain ⟨bi, o, v, cap, ex, rfl⟩ := lst_sl hl hkl
            have hrow := lstV_row hl hkl []
            rw [List.append_nil] at hrow
            have hrow : rowB (M[bi]?) (o + k * 13) v 13 = some l[k].enc := hrow
            have hkI : (k : Int) < l.length := by omega
            have hop := hop.resolve_left (fun q => by subst q; simp at hkl)
            have hkc : k ≤ cap := Nat.le_trans hk (openS_le hop)
            simp (maxSteps := 1000000) (disch := omega) only [c42l2, h0, h9, h10, hkI, Int.toNat_natCast, hrow, orc_cons, polS_eq (hfit k hkl), Option.map_none, Option.map_some, slice_hi hkc hop, go_sem, Option.map_none, Option.map_some, ↓reduceIte, Nat.reduceBEq, Nat.reduceAdd, Nat.reduceSub, Nat.reduceEqDiff, Nat.reduceLeDiff, Nat.reduceMul, Nat.reduceLT, Int.reduceLT, Int.reduceLE, Int.reduceAdd, Int.reduceSub, Int.reduceMul, Int.reduceNeg, Int.reduceEq, Int.reduceNe, Int.reduceToNat, decide_true, decide_false, iaddr_i, iaddr_sl_i, not_true_eq_false, not_false_eq_true, reduceCtorEq, ne_eq, forall_const, false_imp_iff, true_imp_iff, implies_true, Int.cast_ofNat_Int, Int.natCast_zero, Int.natCast_one, Int.add_zero, Int.zero_add]
            refine ⟨fun hr => ?_, fun hr => ?_⟩
            · rw [show allE l = 111 by unfold allE; rw [if_neg fun q => hr (okTo_at q.2 hkl).1]]
              exact wkv_same
            · have fk : cellB (M[bi]?) (o + k * 13 + 0) v = some (.i .i64 l[k].sub) := by have := lstV_field hl hkl (f := 0) (x := .i .i64 l[k].sub) rfl []; rwa [List.append_nil] at this
              have nk : rowB (M[bi]?) (o + k * 13 + 1) v 5 = some [.i .u8 l[k].a, .i .u8 l[k].b, .i .u8 l[k].c, .i .u8 l[k].d, .i .i64 l[k].bits] := by have := lstV_part hl hkl (f := 1) (n := 5) (by decide) []; rwa [List.append_nil] at this
              refine wp_loop (fun jj e N dl => dl = [] ∧ ∃ j : Nat, jj = k - j ∧ j ≤ k ∧ N = M ∧ (∀ j' (hj : j' < j) (hj2 : j' < l.length), l[j'].sub < l[k].sub ∧ l[j'].net ≠ l[k].net) ∧
                e.get 0 = .sl bi o v l.length cap ex ∧ e.get 3 = .i .i64 k ∧ e.get 9 = .i .i64 l.length ∧ e.get 10 = .i .i64 k ∧ e.get 22 = .i .i64 k ∧ e.get 23 = .i .i64 j) (j := k)
                ⟨rfl, 0, rfl, Nat.zero_le _, rfl, fun j' hj => absurd hj (Nat.not_lt_zero _), rfl, rfl, rfl, rfl, rfl, rfl⟩ ?_
              rintro jj e N d' ⟨rfl, j, rfl, hj, rfl, hlow, h0, h3, h9, h10, h22, h23⟩
              refine W_sound oA_ok mixed _ _ _ _ _ ?_
              by_cases hjk : j < k
              · have hjl : j < l.length := by omega
                have fj : cellB (N[bi]?) (o + j * 13 + 0) v = some (.i .i64 l[j].sub) := by have := lstV_field hl hjl (f := 0) (x := .i .i64 l[j].sub) rfl []; rwa [List.append_nil] at this
                have nj : rowB (N[bi]?) (o + j * 13 + 1) v 5 = some [.i .u8 l[j].a, .i .u8 l[j].b, .i .u8 l[j].c, .i .u8 l[j].d, .i .i64 l[j].bits] := by have := lstV_part hl hjl (f := 1) (n := 5) (by decide) []; rwa [List.append_nil] at this
                have hjI : (j : Int) < k := by omega
                rw [Nat.add_zero] at fk fj
                simp (maxSteps := 1000000) (disch := omega) only [c42l1, h0, h3, h9, h10, h22, h23, hjI, Int.toNat_natCast, fk, fj, nk, nj, Nat.add_zero, eq_net, go_sem, Option.map_none, Option.map_some, ↓reduceIte, Nat.reduceBEq, Nat.reduceAdd, Nat.reduceSub, Nat.reduceEqDiff, Nat.reduceLeDiff, Nat.reduceMul, Nat.reduceLT, Int.reduceLT, Int.reduceLE, Int.reduceAdd, Int.reduceSub, Int.reduceMul, Int.reduceNeg, Int.reduceEq, Int.reduceNe, Int.reduceToNat, decide_true, decide_false, iaddr_i, iaddr_sl_i, not_true_eq_false, not_false_eq_true, reduceCtorEq, ne_eq, forall_const, false_imp_iff, true_imp_iff, implies_true, Int.cast_ofNat_Int, Int.natCast_zero, Int.natCast_one, Int.add_zero, Int.zero_add]
                have bad : (l[k].sub ≤ l[j].sub ∨ l[j].net = l[k].net) → allE l = 111 := fun hb => by
                  unfold allE
                  rw [if_neg fun q => ?_]
                  have := (okTo_at q.2 hkl).2 j hjk
                  rcases hb with hb | hb
                  · omega
                  · exact this.2 hb
                refine ⟨fun hs => ⟨fun hn => ?_, fun hn => ?_⟩, fun hs => ?_⟩
                · rw [bad (.inr (by unfold Pol.net; rw [hn.1, hn.2.1, hn.2.2.1, hn.2.2.2.1, hn.2.2.2.2]))]
                  exact wkv_same
                · refine ⟨k - (j + 1), by omega, j + 1, rfl, hjk, fun j' hj' hj2 => ?_, rfl⟩
                  by_cases e : j' = j
                  · subst e
                    exact ⟨by omega, fun q => hn (by simpa [Pol.net] using q)⟩
                  · exact hlow j' (by omega) hj2
                · rw [bad (.inl hs)]
                  exact wkv_same
              · have hjI : ¬ (j : Int) < k := by omega
                simp (maxSteps := 1000000) (disch := omega) only [c42l1, h0, h3, h9, h10, h22, h23, hjI, go_sem, Option.map_none, Option.map_some, ↓reduceIte, Nat.reduceBEq, Nat.reduceAdd, Nat.reduceSub, Nat.reduceEqDiff, Nat.reduceLeDiff, Nat.reduceMul, Nat.reduceLT, Int.reduceLT, Int.reduceLE, Int.reduceAdd, Int.reduceSub, Int.reduceMul, Int.reduceNeg, Int.reduceEq, Int.reduceNe, Int.reduceToNat, decide_true, decide_false, iaddr_i, iaddr_sl_i, not_true_eq_false, not_false_eq_true, reduceCtorEq, ne_eq, forall_const, false_imp_iff, true_imp_iff, implies_true, Int.cast_ofNat_Int, Int.natCast_zero, Int.natCast_one, Int.add_zero, Int.zero_add]
                exact ⟨l.length - (k + 1), by omega, k + 1, rfl, hkl, okTo_succ hkl hok (Decidable.not_not.1 hr) fun j' hj' => hlow j' (by omega) (by omega), rfl⟩
          · have hkI : ¬ (k : Int) < l.length := by omega
            simp (maxSteps := 1000000) (disch := omega) only [c42l2, h0, h9, h10, hkI, go_sem, Option.map_none, Option.map_some, ↓reduceIte, Nat.reduceBEq, Nat.reduceAdd, Nat.reduceSub, Nat.reduceEqDiff, Nat.reduceLeDiff, Nat.reduceMul, Nat.reduceLT, Int.reduceLT, Int.reduceLE, Int.reduceAdd, Int.reduceSub, Int.reduceMul, Int.reduceNeg, Int.reduceEq, Int.reduceNe, Int.reduceToNat, decide_true, decide_false, iaddr_i, iaddr_sl_i, not_true_eq_false, not_false_eq_true, reduceCtorEq, ne_eq, forall_const, false_imp_iff, true_imp_iff, implies_true, Int.cast_ofNat_Int, Int.natCast_zero, Int.natCast_one, Int.add_zero, Int.zero_add]
            rw [show allE l = 0 by unfold allE; rw [if_pos ⟨by omega, by rwa [show k = l.length by omega] at hok⟩]]
            exact wkv_same
      · cases h
    · cases h
  · cases h
end Go.Proofs.Ytapgkaecamljbaa

namespace Go.Proofs.Ytapgkaecamljbaa
open Go.RowKit
set_option linter.unusedSimpArgs false
set_option linter.unusedVariables false
set_option maxRecDepth 10000

def netL (n : Int × Int × Int × Int × Int) : List AV := [.i .u8 n.1, .i .u8 n.2.1, .i .u8 n.2.2.1, .i .u8 n.2.2.2.1, .i .i64 n.2.2.2.2]
def netK : List TK := [.int, .int, .int, .int, .int]
theorem eq_netL {a b : Int × Int × Int × Int × Int} : eqCells netK (netL a) (netL b) = some (decide (a = b)) := by
  obtain ⟨a1, a2, a3, a4, a5⟩ := a
  obtain ⟨b1, b2, b3, b4, b5⟩ := b
  simp [eqCells, eqCell, netK, netL, Bool.beq_eq_decide_eq]
theorem key_netL {a : Int × Int × Int × Int × Int} : keyC true netK (.ag (netL a)) = some (netL a) := by
  simp [keyC, netK, netL]

/-- The entries of nets, each counted once. -/
def ents (b : Nat) : List (Int × Int × Int × Int × Int) → List (AV × AV × Nat)
  | [] => []
  | n :: r => (.ag (netL n), .i .i64 1, b) :: ents (b + 1) r
theorem ents_length : ∀ (b : Nat) (l : List (Int × Int × Int × Int × Int)), (ents b l).length = l.length
  | _, [] => rfl
  | b, n :: r => by simp [ents, ents_length (b + 1) r]
theorem ents_append : ∀ (b : Nat) (l : List (Int × Int × Int × Int × Int)) (n : Int × Int × Int × Int × Int), ents b (l ++ [n]) = ents b l ++ [(.ag (netL n), .i .i64 1, b + l.length)]
  | b, [], n => by simp [ents]
  | b, m :: r, n => by
    simp only [List.cons_append, ents, ents_append (b + 1) r n, List.length_cons]
    rw [show b + 1 + r.length = b + (r.length + 1) by omega]
theorem ents_at : ∀ (b : Nat) (l : List (Int × Int × Int × Int × Int)) (j : Nat) (hj : j < l.length), (ents b l)[j]? = some (.ag (netL l[j]), .i .i64 1, b + j)
  | b, n :: r, 0, _ => rfl
  | b, n :: r, j + 1, h => by
    simp only [ents, List.getElem?_cons_succ, ents_at (b + 1) r j (by simpa using h), List.getElem_cons_succ]
    rw [show b + 1 + j = b + (j + 1) by omega]
theorem find_none : ∀ (b i : Nat) (l : List (Int × Int × Int × Int × Int)) (n : Int × Int × Int × Int × Int), n ∉ l → findK true netK (netL n) (ents b l) i = some none
  | b, i, [], n, _ => rfl
  | b, i, m :: r, n, h => by
    simp only [List.mem_cons, not_or] at h
    simp only [ents, findK, key_netL, eq_netL, decide_eq_false h.1]
    exact find_none (b + 1) (i + 1) r n h.2
theorem find_some : ∀ (b i : Nat) (l : List (Int × Int × Int × Int × Int)) (n : Int × Int × Int × Int × Int), n ∈ l → ∃ j, j < l.length ∧ l[j]? = some n ∧ findK true netK (netL n) (ents b l) i = some (some (i + j))
  | b, i, m :: r, n, h => by
    by_cases e : n = m
    · subst e
      exact ⟨0, by simp, rfl, by simp only [ents, findK, key_netL, eq_netL, decide_true]; rfl⟩
    · obtain ⟨j, h1, h2, h3⟩ := find_some (b + 1) (i + 1) r n (by simpa [e] using h)
      refine ⟨j + 1, by simpa using h1, by simpa using h2, ?_⟩
      simp only [ents, findK, key_netL, eq_netL, decide_eq_false e]
      rw [h3, show i + 1 + j = i + (j + 1) by omega]
end Go.Proofs.Ytapgkaecamljbaa

namespace Go.Proofs.Ytapgkaecamljbaa
open Go.RowKit
set_option linter.unusedSimpArgs false
set_option linter.unusedVariables false
set_option maxRecDepth 10000

abbrev Net5 := Int × Int × Int × Int × Int
/-! ### Rules -/
def lookM (B : Option Blk) (n : Net5) (z : AV) : Option AV := match B with
  | some (.map es _) => match findK true netK (netL n) es 0 with
    | some r => some (valAt es z r)
    | none => none
  | _ => none
theorem mlook_eq {S : Mem} {i : Nat} {z : AV} {a b c d e : Int} : mlookV S true [.int, .int, .int, .int, .int] z false (.m i) (.ag [.i .u8 a, .i .u8 b, .i .u8 c, .i .u8 d, .i .i64 e]) = lookM (S[i]?) (a, b, c, d, e) z := by
  have hk : keyC true [.int, .int, .int, .int, .int] (.ag [.i .u8 a, .i .u8 b, .i .u8 c, .i .u8 d, .i .i64 e]) = some (netL (a, b, c, d, e)) := rfl
  simp only [mlookV, hk, mapOf, lookM]
  cases S[i]? with
  | none => rfl
  | some B => cases B <;> first | rfl | (simp only [netK]; cases findK true [.int, .int, .int, .int, .int] (netL (a, b, c, d, e)) _ 0 <;> rfl)
def entM (B : Option Blk) (n : Net5) (z : AV) (i : Nat) (S : Mem) : Option (AV × Mem) := match B with
  | some (.map es cl) => match findK true netK (netL n) es 0 with
    | some (some j) => match es[j]? with
      | some e => some (.tu [e.2.1, .i .i64 e.2.2], S.set i (.map (es.set j (.ag (netL n), e.2.1, e.2.2)) cl))
      | none => none
    | some none => some (.tu [z, .i .i64 cl], S.set i (.map (es ++ [(.ag (netL n), z, cl)]) (cl + 1)))
    | none => none
  | _ => none
theorem mentry_eq {S : Mem} {i : Nat} {z : AV} {a b c d e : Int} : mentryV S true [.int, .int, .int, .int, .int] z (.m i) (.ag [.i .u8 a, .i .u8 b, .i .u8 c, .i .u8 d, .i .i64 e]) = entM (S[i]?) (a, b, c, d, e) z i S := by
  have hk : keyC true [.int, .int, .int, .int, .int] (.ag [.i .u8 a, .i .u8 b, .i .u8 c, .i .u8 d, .i .i64 e]) = some (netL (a, b, c, d, e)) := rfl
  simp only [mentryV, hk, entM]
  rfl
def stoM (B : Option Blk) (born : Int) (v : AV) (i : Nat) (S : Mem) : Option Mem := match B with
  | some (.map es cl) => match es.findIdx? (fun e => ((e.2.2 : Nat) : Int) == born) with
    | some j => match es[j]? with
      | some e => some (S.set i (.map (es.set j (e.1, v, e.2.2)) cl))
      | none => none
    | none => none
  | _ => none
theorem mstore_eq {S : Mem} {i : Nat} {q : IntKind} {born : Int} {v : AV} : mstoreV S (.m i) (.i q born) v = stoM (S[i]?) born v i S := rfl

theorem lookM_none {es : List (AV × AV × Nat)} {cl : Nat} {n : Net5} {z : AV} (h : findK true netK (netL n) es 0 = some none) : lookM (some (.map es cl)) n z = some z := by
  simp only [lookM, h, valAt]
theorem lookM_some {es : List (AV × AV × Nat)} {cl j : Nat} {n : Net5} {z v k : AV} {b : Nat} (h : findK true netK (netL n) es 0 = some (some j)) (he : es[j]? = some (k, v, b)) : lookM (some (.map es cl)) n z = some v := by
  simp only [lookM, h, valAt, he]
theorem entM_none {es : List (AV × AV × Nat)} {cl i : Nat} {n : Net5} {z : AV} {S : Mem} (h : findK true netK (netL n) es 0 = some none) : entM (some (.map es cl)) n z i S = some (.tu [z, .i .i64 cl], S.set i (.map (es ++ [(.ag (netL n), z, cl)]) (cl + 1))) := by
  simp only [entM, h]
theorem entM_some {es : List (AV × AV × Nat)} {cl i j b : Nat} {n : Net5} {z v k : AV} {S : Mem} (h : findK true netK (netL n) es 0 = some (some j)) (he : es[j]? = some (k, v, b)) :
    entM (some (.map es cl)) n z i S = some (.tu [v, .i .i64 b], S.set i (.map (es.set j (.ag (netL n), v, b)) cl)) := by
  simp only [entM, h, he]
theorem born_at : ∀ (b : Nat) (l : List Net5) (j : Nat) (hj : j < l.length) (x : List (AV × AV × Nat)), (ents b l ++ x).findIdx? (fun e => ((e.2.2 : Nat) : Int) == ((b + j : Nat) : Int)) = some j
  | b, n :: r, 0, _, x => by simp [ents, List.findIdx?_cons]
  | b, n :: r, j + 1, h, x => by
    have := born_at (b + 1) r j (by simpa using h) x
    rw [show b + 1 + j = b + (j + 1) by omega] at this
    simp only [ents, List.cons_append, List.findIdx?_cons, this]
    have hne : (((b : Nat) : Int) == ((b + (j + 1) : Nat) : Int)) = false := by rw [beq_eq_false_iff_ne]; omega
    rw [hne]; rfl
theorem born_new : ∀ (b : Nat) (l : List Net5) (k : AV) (v : AV), (ents b l ++ [(k, v, b + l.length)]).findIdx? (fun e => ((e.2.2 : Nat) : Int) == ((b + l.length : Nat) : Int)) = some l.length
  | b, [], k, v => by simp [ents, List.findIdx?_cons]
  | b, n :: r, k, v => by
    have := born_new (b + 1) r k v
    rw [show b + 1 + r.length = b + (n :: r).length by simp; omega] at this
    simp only [ents, List.cons_append, List.findIdx?_cons, this]
    have hne : (((b : Nat) : Int) == ((b + (n :: r).length : Nat) : Int)) = false := by rw [beq_eq_false_iff_ne]; simp; omega
    rw [hne]; rfl

theorem stoM_new {L : List Net5} {n : Net5} {cl i k : Nat} {z v : AV} {S : Mem} (hk : L.length = k) : stoM (some (.map (ents 0 L ++ [(.ag (netL n), z, k)]) cl)) (k : Int) v i S = some (S.set i (.map (ents 0 L ++ [(.ag (netL n), v, k)]) cl)) := by
  subst hk
  have h1 := born_new 0 L (.ag (netL n)) z
  simp only [Nat.zero_add] at h1
  have hl : (ents 0 L).length = L.length := ents_length 0 L
  have h2 : (ents 0 L ++ [(AV.ag (netL n), z, L.length)])[L.length]? = some (AV.ag (netL n), z, L.length) := by
    rw [List.getElem?_append_right (by omega), hl]; simp
  have h3 : (ents 0 L ++ [(AV.ag (netL n), z, L.length)]).set L.length (AV.ag (netL n), v, L.length) = ents 0 L ++ [(AV.ag (netL n), v, L.length)] := by
    rw [List.set_append, if_neg (by omega), hl]; simp
  simp only [stoM, h1, h2, h3]
theorem stoM_old {L : List Net5} {n : Net5} {cl i j : Nat} {z v : AV} {S : Mem} (hj : j < L.length) : stoM (some (.map ((ents 0 L).set j (.ag (netL n), z, j)) cl)) (j : Int) v i S = some (S.set i (.map ((ents 0 L).set j (.ag (netL n), v, j)) cl)) := by
  have hl : (ents 0 L).length = L.length := ents_length 0 L
  have h1 : ((ents 0 L).set j (AV.ag (netL n), z, j)).findIdx? (fun e => ((e.2.2 : Nat) : Int) == (j : Int)) = some j := by
    rw [List.findIdx?_eq_some_iff_getElem]
    refine ⟨by simpa [hl] using hj, by simp, fun i hi => ?_⟩
    have h2 := ents_at 0 L i (by omega)
    rw [Nat.zero_add] at h2
    obtain ⟨h3, h4⟩ := List.getElem?_eq_some_iff.1 h2
    rw [List.getElem_set_ne (by omega), h4]
    simp; omega
  have h2 : ((ents 0 L).set j (AV.ag (netL n), z, j))[j]? = some (AV.ag (netL n), z, j) := by simp [hl, hj]
  simp only [stoM, h1, h2, List.set_set]
theorem ents_new {L : List Net5} {n : Net5} {k : Nat} (hk : L.length = k) : ents 0 L ++ [(.ag (netL n), .i .i64 1, k)] = ents 0 (L ++ [n]) := by
  rw [ents_append, Nat.zero_add, hk]
theorem look_new {L : List Net5} {n : Net5} {cl : Nat} {z : AV} (hn : n ∈ L) : lookM (some (.map (ents 0 L) cl)) n z = some (.i .i64 1) := by
  obtain ⟨j, h1, h2, h3⟩ := find_some 0 0 L n hn
  rw [Nat.zero_add] at h3
  exact lookM_some h3 (ents_at 0 L j h1)
end Go.Proofs.Ytapgkaecamljbaa

namespace Go.Proofs.Ytapgkaecamljbaa
open Go.RowKit
set_option linter.unusedSimpArgs false
set_option linter.unusedVariables false

section
variable {α : Type} {E : Enc α} {S M S0 : Mem}

theorem ext_refl : S <+: S := List.prefix_refl S
theorem ext_app (T : Mem) : S <+: S ++ T := List.prefix_append S T
theorem ext_more (h : S <+: M) (T : Mem) : S <+: M ++ T := h.trans (List.prefix_append M T)

theorem wkv_dropP {x : AV} (h : S0 <+: M) (hx : x.flat S0.length) : WkV S0 x S0 x M := by
  obtain ⟨T, rfl⟩ := h
  exact wkv_drop hx
theorem wkv_bP {p q : Prop} [Decidable p] [Decidable q] (h : S0 <+: M) (hpq : p ↔ q) : WkV S0 (.b (decide p)) S0 (.b (decide q)) M := by
  rw [show decide p = decide q from decide_eq_decide.2 hpq]
  exact wkv_dropP h rfl
theorem wkv_tP {p : Prop} [Decidable p] (h : S0 <+: M) (hp : p) : WkV S0 (.b (decide p)) S0 (.b true) M := by
  rw [decide_eq_true hp]; exact wkv_dropP h rfl
theorem wkv_fP {p : Prop} [Decidable p] (h : S0 <+: M) (hp : ¬ p) : WkV S0 (.b (decide p)) S0 (.b false) M := by
  rw [decide_eq_false hp]; exact wkv_dropP h rfl
theorem wkv_eqP {x y : AV} (h : S0 <+: M) (hxy : x = y) (hy : y.flat S0.length) : WkV S0 x S0 y M := by
  subst hxy; exact wkv_dropP h hy

theorem lst_ext {x : AV} {l : List α} (h : lstV E S x = some l) (hS : S <+: M) : lstV E M x = some l := by
  obtain ⟨T, rfl⟩ := hS
  exact lstV_grow h T

/-! ### Building -/
/-- What is built with append: nothing yet ('z': an empty slice that is not nil), or a block that append has made. -/
def Acc (z : Bool) (E : Enc α) (S M : Mem) (x : AV) (l : List α) : Prop :=
  ∃ T, M = S ++ T ∧ ((l = [] ∧ z = false ∧ x = .sn) ∨ (l = [] ∧ z = true ∧ ∃ p, x = .sl (S.length + p) 0 0 0 0 true ∧ T[p]? = some (.cells [] 0 none true)) ∨ (l ≠ [] ∧ ∃ p v, x = .sl (S.length + p) 0 v l.length l.length false ∧ T[p]? = some (.cells (l.flatMap E.enc) v (some E.sz) true)))
def retX (z : Bool) (S : Mem) : List α → AV
  | [] => if z then .sl S.length 0 0 0 0 true else .sn
  | a :: l => .sl S.length 0 0 (a :: l).length (a :: l).length false
def retM (z : Bool) (E : Enc α) (S : Mem) : List α → Mem
  | [] => if z then S ++ [.cells [] 0 none true] else S
  | a :: l => S ++ [.cells ((a :: l).flatMap E.enc) 0 (some E.sz) true]
theorem retM_ext {z : Bool} {l : List α} : S <+: retM z E S l := by cases l <;> cases z <;> simp [retM]

theorem acc_nil (h : S <+: M) : Acc false E S M .sn [] := by
  obtain ⟨T, rfl⟩ := h
  exact ⟨T, rfl, .inl ⟨rfl, rfl, rfl⟩⟩
theorem acc_lit (h : S <+: M) : Acc true E S (M ++ [.cells [] 0 none true]) (.sl M.length 0 0 0 0 true) [] := by
  obtain ⟨T, rfl⟩ := h
  exact ⟨T ++ [.cells [] 0 none true], by rw [List.append_assoc], .inr (.inl ⟨rfl, rfl, T.length, by rw [List.length_append], by simp⟩)⟩
variable {z : Bool}
theorem Acc.ext {x : AV} {l : List α} (h : Acc z E S M x l) : S <+: M := by obtain ⟨T, rfl, _⟩ := h; exact ext_app T
theorem Acc.grow {x : AV} {l : List α} (h : Acc z E S M x l) (U : Mem) : Acc z E S (M ++ U) x l := by
  obtain ⟨T, rfl, h⟩ := h
  refine ⟨T ++ U, by rw [List.append_assoc], ?_⟩
  rcases h with h | ⟨h0, hz, p, h1, h2⟩ | ⟨h0, p, v, h1, h2⟩
  · exact .inl h
  · exact .inr (.inl ⟨h0, hz, p, h1, at_old h2⟩)
  · exact .inr (.inr ⟨h0, p, v, h1, at_old h2⟩)
theorem Acc.extM {x : AV} {l : List α} {M' : Mem} (h : Acc z E S M x l) (hM : M <+: M') : Acc z E S M' x l := by
  obtain ⟨U, rfl⟩ := hM; exact h.grow U
theorem enc_length (l : List α) : (l.flatMap E.enc).length = l.length * E.sz := by
  induction l with
  | nil => simp
  | cons a l ih => rw [List.flatMap_cons, List.length_append, E.len, ih, List.length_cons, Nat.add_mul]; omega
theorem all_one (hE : ∀ a, (E.enc a).all AV.one = true) (l : List α) : (l.flatMap E.enc).all AV.one = true := by
  rw [List.all_eq_true]
  intro x hx
  obtain ⟨a, _, ha⟩ := List.mem_flatMap.1 hx
  exact List.all_eq_true.1 (hE a) x ha
theorem Acc.lst {x : AV} {l : List α} (h : Acc z E S M x l) : lstV E M x = some l := by
  obtain ⟨T, rfl, ⟨rfl, rfl, rfl⟩ | ⟨rfl, rfl, p, rfl, h2⟩ | ⟨h0, p, v, rfl, h2⟩⟩ := h
  · rfl
  · refine lst_lstV (.inr (.inr ⟨_, _, _, _, _, _, rfl, rfl, ?_⟩))
    rw [rowAt_B, at_app, h2]; simp [rowB]
  · refine lst_lstV (.inr (.inr ⟨_, _, _, _, _, _, rfl, rfl, ?_⟩))
    rw [rowAt_B, at_app, h2, rowB_some, if_pos (by rw [enc_length]; omega), List.drop_zero, ← enc_length, List.take_length]
/-- It can be sliced, if there is something. -/
theorem Acc.opens {x : AV} {l : List α} (h : Acc z E S M x l) (hl : l ≠ []) : openS M E.sz x = true := by
  obtain ⟨T, rfl, ⟨rfl, rfl, rfl⟩ | ⟨rfl, rfl, p, rfl, h2⟩ | ⟨h0, p, v, rfl, h2⟩⟩ := h
  · exact absurd rfl hl
  · exact absurd rfl hl
  · have : 0 < l.length := List.length_pos_iff.2 h0
    simp [openS, at_app, h2, Blk.opn, this]
/-- Some more are appended. -/
theorem Acc.apps {bytes : Nat} {x : AV} {l : List α} (hE : ∀ a, (E.enc a).all AV.one = true) (h : Acc z E S M x l) (r : List α) (h1 : (l.length + r.length) * bytes ≤ 70368744177664) (h2 : l.length + r.length ≤ 70368744177664) :
    ∃ x' M', appV M E.sz bytes x (r.flatMap E.enc) r.length = some (x', M') ∧ Acc z E S M' x' (l ++ r) := by
  have h1' : (l.length + r.length) * bytes ≤ lim := h1
  have h2' : l.length + r.length ≤ lim := h2
  by_cases hr : r = []
  · subst hr
    refine ⟨x, M, ?_, by rw [List.append_nil]; exact h⟩
    obtain ⟨T, rfl, ⟨rfl, rfl, rfl⟩ | ⟨rfl, rfl, p, rfl, h2⟩ | ⟨h0, p, v, rfl, h2⟩⟩ := h
    · simp [appV]
    · simp [appV]
    · simp [appV]
  · have hr0 : 0 < r.length := List.length_pos_iff.2 hr
    obtain ⟨T, rfl, ⟨rfl, rfl, rfl⟩ | ⟨rfl, rfl, p, rfl, hB⟩ | ⟨h0, p, v, rfl, hB⟩⟩ := h
    · simp only [List.length_nil, Nat.zero_add] at h1' h2'
      refine ⟨.sl (S ++ T).length 0 0 r.length r.length false, (S ++ T) ++ [.cells (r.flatMap E.enc) 0 (some E.sz) true], ?_, T ++ [.cells (r.flatMap E.enc) 0 (some E.sz) true], by rw [List.append_assoc], .inr (.inr ⟨by simpa using hr, T.length, 0, by simp, by simp⟩)⟩
      simp only [appV]
      rw [if_neg (by omega), if_pos ⟨h1', h2'⟩]
    · simp only [List.length_nil, Nat.zero_add] at h1' h2'
      refine ⟨.sl (S ++ T).length 0 0 r.length r.length false, (S ++ T) ++ [.cells (r.flatMap E.enc) 0 (some E.sz) true], ?_, T ++ [.cells (r.flatMap E.enc) 0 (some E.sz) true], by rw [List.append_assoc], .inr (.inr ⟨by simpa using hr, T.length, 0, by simp, by simp⟩)⟩
      have hc : rowAt (S ++ T) (S.length + p) 0 0 (0 * E.sz) = some [] := by rw [rowAt_B, at_app, hB]; simp [rowB]
      simp only [appV, hc]
      rw [if_neg (by omega), if_neg (by omega), Nat.zero_add, if_pos ⟨h1', h2'⟩]
      rfl
    · have hp : p < T.length := (List.getElem?_eq_some_iff.1 hB).1
      refine ⟨.sl (S.length + p) 0 (v + 1) (l.length + r.length) (l.length + r.length) false, S ++ T.set p (.cells (l.flatMap E.enc ++ r.flatMap E.enc) (v + 1) (some E.sz) true), ?_, _, rfl, .inr (.inr ⟨by simp [hr], p, v + 1, by rw [List.length_append], by simp [hp]⟩)⟩
      simp only [appV]
      rw [if_neg (by omega), if_neg (by omega), if_pos ⟨h1', h2'⟩]
      have hc : (S ++ T)[S.length + p]? = some (.cells (l.flatMap E.enc) v (some E.sz) true) := by rw [at_app]; exact hB
      simp only [hc, Bool.false_eq_true, if_false]
      rw [if_pos ⟨trivial, trivial, trivial, by rw [enc_length]; omega, all_one hE r⟩, set_app, ← enc_length, List.take_length]
theorem Acc.app {bytes : Nat} {x : AV} {l : List α} (hE : ∀ a, (E.enc a).all AV.one = true) (h : Acc z E S M x l) (a : α) (h1 : (l.length + 1) * bytes ≤ 70368744177664) (h2 : l.length + 1 ≤ 70368744177664) :
    ∃ x' M', appV M E.sz bytes x (E.enc a) 1 = some (x', M') ∧ Acc z E S M' x' (l ++ [a]) := by
  have := h.apps hE [a] h1 h2
  simpa using this

/-! ### Building, when what is built is only read -/
def AccL (E : Enc α) (S M : Mem) (x : AV) (l : List α) : Prop :=
  ∃ T, M = S ++ T ∧ ((l = [] ∧ x = .sn) ∨ ∃ p v ex op, x = .sl (S.length + p) 0 v l.length l.length ex ∧ T[p]? = some (.cells (l.flatMap E.enc) v op true) ∧ (ex = true ∨ op = some E.sz))
theorem AccL.ext {x : AV} {l : List α} (h : AccL E S M x l) : S <+: M := by obtain ⟨T, rfl, _⟩ := h; exact ext_app T
theorem accL_lit {l : List α} (h : S <+: M) : AccL E S (M ++ [.cells (l.flatMap E.enc) 0 none true]) (.sl M.length 0 0 l.length l.length true) l := by
  obtain ⟨T, rfl⟩ := h
  exact ⟨T ++ [.cells (l.flatMap E.enc) 0 none true], by rw [List.append_assoc], .inr ⟨T.length, 0, true, none, by rw [List.length_append], by simp, .inl rfl⟩⟩
theorem Acc.loose {x : AV} {l : List α} (h : Acc z E S M x l) : AccL E S M x l := by
  obtain ⟨T, rfl, ⟨rfl, rfl, rfl⟩ | ⟨rfl, rfl, p, rfl, h2⟩ | ⟨h0, p, v, rfl, h2⟩⟩ := h
  · exact ⟨T, rfl, .inl ⟨rfl, rfl⟩⟩
  · exact ⟨T, rfl, .inr ⟨p, 0, true, none, rfl, h2, .inl rfl⟩⟩
  · exact ⟨T, rfl, .inr ⟨p, v, false, some E.sz, rfl, h2, .inr rfl⟩⟩
theorem AccL.grow {x : AV} {l : List α} (h : AccL E S M x l) (U : Mem) : AccL E S (M ++ U) x l := by
  obtain ⟨T, rfl, h⟩ := h
  refine ⟨T ++ U, by rw [List.append_assoc], ?_⟩
  rcases h with h | ⟨p, v, ex, op, h1, h2, h3⟩
  · exact .inl h
  · exact .inr ⟨p, v, ex, op, h1, at_old h2, h3⟩
theorem AccL.lst {x : AV} {l : List α} (h : AccL E S M x l) : lstV E M x = some l := by
  obtain ⟨T, rfl, ⟨rfl, rfl⟩ | ⟨p, v, ex, op, rfl, h2, _⟩⟩ := h
  · rfl
  · refine lst_lstV (.inr (.inr ⟨_, _, _, _, _, _, rfl, rfl, ?_⟩))
    rw [rowAt_B, at_app, h2, rowB_some, if_pos (by rw [enc_length]; omega), List.drop_zero, ← enc_length, List.take_length]
theorem AccL.opens {x : AV} {l : List α} (h : AccL E S M x l) (hl : l ≠ []) : openS M E.sz x = true := by
  obtain ⟨T, rfl, ⟨rfl, rfl⟩ | ⟨p, v, ex, op, rfl, h2, h3⟩⟩ := h
  · exact absurd rfl hl
  · have : 0 < l.length := List.length_pos_iff.2 hl
    rcases h3 with rfl | rfl <;> simp [openS, at_app, h2, Blk.opn, this]
/-- Some more are appended, behind blocks that were laid since. -/
theorem AccL.apps {bytes : Nat} {x : AV} {l : List α} (hE : ∀ a, (E.enc a).all AV.one = true) (h : AccL E S M x l) (U : Mem) (r : List α) (h1 : (l.length + r.length) * bytes ≤ 70368744177664) (h2 : l.length + r.length ≤ 70368744177664) :
    ∃ x' M' U', appV (M ++ U) E.sz bytes x (r.flatMap E.enc) r.length = some (x', M' ++ (U ++ U')) ∧ M'.length = M.length ∧ AccL E S (M' ++ (U ++ U')) x' (l ++ r) ∧ (r ≠ [] → ∀ z, Acc z E S (M' ++ (U ++ U')) x' (l ++ r)) := by
  have h1' : (l.length + r.length) * bytes ≤ lim := h1
  have h2' : l.length + r.length ≤ lim := h2
  have h0 := h
  by_cases hr : r = []
  · subst hr
    refine ⟨x, M, [], ?_, rfl, by rw [List.append_nil, List.append_nil]; exact h.grow U, fun q => absurd rfl q⟩
    obtain ⟨T, rfl, ⟨rfl, rfl⟩ | ⟨p, v, ex, op, rfl, h2, _⟩⟩ := h <;> simp [appV]
  · have hr0 : 0 < r.length := List.length_pos_iff.2 hr
    suffices hs : ∃ x' M' U', appV (M ++ U) E.sz bytes x (r.flatMap E.enc) r.length = some (x', M' ++ (U ++ U')) ∧ M'.length = M.length ∧ ∃ T, M' ++ (U ++ U') = S ++ T ∧ ∃ p v, x' = .sl (S.length + p) 0 v (l ++ r).length (l ++ r).length false ∧ T[p]? = some (.cells ((l ++ r).flatMap E.enc) v (some E.sz) true) by
      obtain ⟨x', M', U', g1, g2, T, g3, p, v, g4, g5⟩ := hs
      exact ⟨x', M', U', g1, g2, ⟨T, g3, .inr ⟨p, v, false, some E.sz, g4, g5, .inr rfl⟩⟩, fun _ z => ⟨T, g3, .inr (.inr ⟨by simp [hr], p, v, g4, g5⟩)⟩⟩
    obtain ⟨T, rfl, ⟨rfl, rfl⟩ | ⟨p, v, ex, op, rfl, hB, ho⟩⟩ := h
    · simp only [List.length_nil, Nat.zero_add] at h1' h2'
      refine ⟨.sl (S ++ T ++ U).length 0 0 r.length r.length false, S ++ T, [.cells (r.flatMap E.enc) 0 (some E.sz) true], ?_, rfl, T ++ (U ++ [.cells (r.flatMap E.enc) 0 (some E.sz) true]), by simp, T.length + U.length, 0, by simp, by rw [List.nil_append, List.getElem?_append_right (by omega), List.getElem?_append_right (by omega)]; simp⟩
      simp only [appV]
      rw [if_neg (by omega), if_pos ⟨h1', h2'⟩, List.append_assoc (S ++ T)]
    · have hp : p < T.length := (List.getElem?_eq_some_iff.1 hB).1
      have hc : (S ++ T ++ U)[S.length + p]? = some (.cells (l.flatMap E.enc) v op true) := by rw [List.append_assoc, at_app]; exact at_old hB
      cases ex with
      | true =>
        refine ⟨.sl (S ++ T ++ U).length 0 0 (l.length + r.length) (l.length + r.length) false, S ++ T, [.cells (l.flatMap E.enc ++ r.flatMap E.enc) 0 (some E.sz) true], ?_, rfl, T ++ (U ++ [.cells (l.flatMap E.enc ++ r.flatMap E.enc) 0 (some E.sz) true]), by simp, T.length + U.length, 0, by simp, by rw [List.getElem?_append_right (by omega), List.getElem?_append_right (by omega), List.flatMap_append]; simp⟩
        have hrow : rowAt (S ++ T ++ U) (S.length + p) 0 v (l.length * E.sz) = some (l.flatMap E.enc) := by
          rw [rowAt_B, hc, rowB_some, if_pos (by rw [enc_length]; omega), List.drop_zero, ← enc_length, List.take_length]
        simp only [appV, hrow]
        rw [if_neg (by omega), if_neg (by omega), if_pos ⟨h1', h2'⟩, List.append_assoc (S ++ T)]
        rfl
      | false =>
        have ho : op = some E.sz := ho.resolve_left (by simp)
        subst ho
        refine ⟨.sl (S.length + p) 0 (v + 1) (l.length + r.length) (l.length + r.length) false, S ++ T.set p (.cells (l.flatMap E.enc ++ r.flatMap E.enc) (v + 1) (some E.sz) true), [], ?_, by simp, T.set p (.cells (l.flatMap E.enc ++ r.flatMap E.enc) (v + 1) (some E.sz) true) ++ U, by simp, p, v + 1, by rw [List.length_append], by rw [List.getElem?_append_left (by simpa using hp), List.flatMap_append]; simp [hp]⟩
        simp only [appV]
        rw [if_neg (by omega), if_neg (by omega), if_pos ⟨h1', h2'⟩]
        simp only [hc, Bool.false_eq_true, if_false]
        rw [if_pos ⟨trivial, trivial, trivial, by rw [enc_length]; omega, all_one hE r⟩, List.append_assoc S T U, set_app, ← enc_length, List.take_length, List.set_append_left _ _ hp, List.append_nil, List.append_assoc]

/-! ### The end -/
theorem Acc.keep {x : AV} {l : List α} (hF : ∀ n a, ∀ c ∈ E.enc a, AV.Flat n c) (h : Acc z E S M x l) : ∃ (keep : List Nat) (T : Mem), M = S ++ T ∧ (keep.all (fun k => match T[k]? with | some B => B.plain | none => false) = true) ∧ keep.Nodup ∧
    ren S.length (gKeep S.length T keep) x = retX z S l ∧ S ++ keepB S.length T keep = retM z E S l := by
  obtain ⟨T, rfl, ⟨rfl, rfl, rfl⟩ | ⟨rfl, rfl, p, rfl, hB⟩ | ⟨h0, p, v, rfl, hB⟩⟩ := h
  · exact ⟨[], T, rfl, rfl, List.nodup_nil, ren_sn, by simp [keepB_nil, retM]⟩
  · refine ⟨[p], T, rfl, by simp [hB, Blk.plain], by simp, ?_, ?_⟩
    · rw [ren_sl, gKeep_at, hB]
      simp only [List.findIdx?_cons, beq_self_eq_true, if_true, gQ_some, ver_cells, renS_some, Nat.add_zero]
      rfl
    · have hk : keepB S.length T [p] = [.cells [] 0 none true] := by
        simp only [keepB_eq, List.map_cons, List.map_nil]
        rw [show T.getD p (.dfr false) = .cells [] 0 none true by rw [List.getD_eq_getElem?_getD, hB]; rfl]
        simp only [renB_cells, renL_nil]
      rw [hk]; rfl
  · refine ⟨[p], T, rfl, by simp [hB, Blk.plain], by simp, ?_, ?_⟩
    · rw [ren_sl, gKeep_at, hB]
      simp only [List.findIdx?_cons, beq_self_eq_true, if_true, gQ_some, ver_cells, renS_some, Nat.add_zero]
      cases l with
      | nil => exact absurd rfl h0
      | cons a l => rfl
    · have hk : keepB S.length T [p] = [.cells (l.flatMap E.enc) 0 (some E.sz) true] := by
        simp only [keepB_eq, List.map_cons, List.map_nil]
        rw [show T.getD p (.dfr false) = .cells (l.flatMap E.enc) v (some E.sz) true by rw [List.getD_eq_getElem?_getD, hB]; rfl]
        simp only [renB_cells, renL_eq]
        congr 2
        refine (List.map_congr_left (g := id) fun c hc => ?_).trans (List.map_id _)
        obtain ⟨a, _, ha⟩ := List.mem_flatMap.1 hc
        exact hF _ _ _ ha _
      rw [hk]
      cases l with
      | nil => exact absurd rfl h0
      | cons a l => rfl
theorem Acc.ret {x : AV} {l : List α} (hF : ∀ n a, ∀ c ∈ E.enc a, AV.Flat n c) (h : Acc z E S M x l) : WkV S (retX z S l) (retM z E S l) x M := by
  obtain ⟨keep, T, rfl, h1, h2, h3, h4⟩ := h.keep hF
  have := wkv_keep (S0 := S) (L := T) (y := x) keep h1 h2
  rwa [h3, h4] at this
theorem Acc.ret2 {x y : AV} {l : List α} (hF : ∀ n a, ∀ c ∈ E.enc a, AV.Flat n c) (h : Acc z E S M x l) (hy : AV.Flat S.length y) : WkV S (.tu [retX z S l, y]) (retM z E S l) (.tu [x, y]) M := by
  obtain ⟨keep, T, rfl, h1, h2, h3, h4⟩ := h.keep hF
  have := wkv_keep (S0 := S) (L := T) (y := .tu [x, y]) keep h1 h2
  rw [ren_tu, renL_cons, renL_cons, renL_nil, h3, h4, hy] at this
  exact this
/-- A struct whose second part is what was built, and a number. -/
theorem Acc.retB {p x y : AV} {l : List α} (hF : ∀ n a, ∀ c ∈ E.enc a, AV.Flat n c) (h : Acc z E S M x l) (hp : AV.Flat S.length p) (hy : AV.Flat S.length y) : WkV S (.tu [.ag [p, retX z S l], y]) (retM z E S l) (.tu [.ag [p, x], y]) M := by
  obtain ⟨keep, T, rfl, h1, h2, h3, h4⟩ := h.keep hF
  have := wkv_keep (S0 := S) (L := T) (y := .tu [.ag [p, x], y]) keep h1 h2
  rw [ren_tu, renL_cons, renL_cons, renL_nil, ren_ag, renL_cons, renL_cons, renL_nil, h3, h4, hp, hy] at this
  exact this
theorem retX_acc {l : List α} : Acc z E S (retM z E S l) (retX z S l) l := by
  cases l with
  | nil => cases z with
    | false => exact ⟨[], by simp [retM], .inl ⟨rfl, rfl, rfl⟩⟩
    | true => exact ⟨_, rfl, .inr (.inl ⟨rfl, rfl, 0, rfl, rfl⟩)⟩
  | cons a l => exact ⟨_, rfl, .inr (.inr ⟨by simp, 0, 0, rfl, rfl⟩)⟩
theorem retX_lst {l : List α} : lstV E (retM z E S l) (retX z S l) = some l := retX_acc.lst
end
theorem get_put {e : Env} {t : Nat} {x : AV} {k : Nat} : (putE e (some t) x).get k = if t = k then x else e.get k := get_ite
theorem wantV_none {e : Env} : wantV e none = some true := (rfl)
theorem likeOn_nil {e e' : Env} : likeOn e e' [] = true := (rfl)
theorem likeOn_cons {e e' : Env} {t : Nat} {r : List Nat} : likeOn e e' (t :: r) = (avEqv (e.get t) (e'.get t) && likeOn e e' r) := (rfl)
theorem dstL_none {g : Option (Nat × Bool)} {io : IOp} : dstL ⟨none, g, io⟩ = [] := (rfl)
theorem dstL_some {t : Nat} {g : Option (Nat × Bool)} {io : IOp} : dstL ⟨some t, g, io⟩ = [t] := (rfl)
theorem eqv_m {i : Nat} : avEqv (.m i) (.m i) = true := by simp [avEqv]
theorem eqv_p {a b c : Nat} : avEqv (.p a b c) (.p a b c) = true := by simp [avEqv]
theorem eqv_i {k : IntKind} {n : Int} : avEqv (.i k n) (.i k n) = true := by simp [avEqv]
theorem eqv_ag {l : List AV} : avEqv (.ag l) (.ag l) = avEqvL l l := by simp [avEqv]
theorem eqv_tu {l : List AV} : avEqv (.tu l) (.tu l) = avEqvL l l := by simp [avEqv]
theorem eqvL_nil : avEqvL [] [] = true := by simp [avEqvL]
theorem eqvL_cons {a b : AV} {l m : List AV} : avEqvL (a :: l) (b :: m) = (avEqv a b && avEqvL l m) := by simp [avEqvL]
theorem eqv_b {x : Bool} : avEqv (.b x) (.b x) = true := by simp [avEqv]
theorem eqv_sl {a b c d e : Nat} {x : Bool} : avEqv (.sl a b c d e x) (.sl a b c d e x) = true := by simp [avEqv]
theorem eqv_sn : avEqv .sn .sn = true := by simp [avEqv]
theorem eqv_pn : avEqv .pn .pn = true := by simp [avEqv]
theorem eqv_lst {α : Type} {E : Enc α} {S : Mem} {x : AV} {l : List α} (h : lstV E S x = some l) : avEqv x x = true := by
  rcases lstV_lst h with ⟨rfl, rfl⟩ | ⟨rfl, rfl⟩ | ⟨i, o, v, len, cap, ex, rfl, rfl, h3⟩ <;> simp [avEqv]
/-- One block is kept. -/
theorem wkv_at {S T : Mem} {cs : List AV} {op : Option Nat} {r ex : Bool} {p v l c : Nat} (hB : T[p]? = some (.cells cs v op r)) (hf : ∀ x ∈ cs, AV.Flat S.length x) : WkV S (.sl S.length 0 0 l c ex) (S ++ [.cells cs 0 op r]) (.sl (S.length + p) 0 v l c ex) (S ++ T) := by
  have := wkv_keep (S0 := S) (L := T) (y := .sl (S.length + p) 0 v l c ex) [p] (by simp [hB, Blk.plain]) (by simp)
  have h1 : ren S.length (gKeep S.length T [p]) (.sl (S.length + p) 0 v l c ex) = .sl S.length 0 0 l c ex := by
    rw [ren_sl, gKeep_at, hB]
    simp [gQ_some, ver_cells, renS_some]
  have h2 : keepB S.length T [p] = [.cells cs 0 op r] := by
    simp only [keepB_eq, List.map_cons, List.map_nil]
    rw [show T.getD p (.dfr false) = .cells cs v op r by rw [List.getD_eq_getElem?_getD, hB]; rfl]
    simp only [renB_cells, renL_eq]
    congr 2
    exact (List.map_congr_left (g := id) fun c hc => hf _ hc _).trans (List.map_id _)
  rwa [h1, h2] at this
theorem pre_retM {α : Type} {z : Bool} {E : Enc α} {S : Mem} {l : List α} : (S <+: retM z E S l) = True := eq_true retM_ext
theorem retX_ne {α : Type} {z : Bool} {S : Mem} {l : List α} (h : l ≠ []) : retX z S l = .sl S.length 0 0 l.length l.length false := by
  cases l with
  | nil => exact absurd rfl h
  | cons a l => rfl
theorem retM_ne {α : Type} {z : Bool} {E : Enc α} {S : Mem} {l : List α} (h : l ≠ []) : retM z E S l = S ++ [.cells (l.flatMap E.enc) 0 (some E.sz) true] := by
  cases l with
  | nil => exact absurd rfl h
  | cons a l => rfl

/-! ### A list's block, written to -/
theorem flat_take {α : Type} {E : Enc α} (l : List α) (k : Nat) : (l.flatMap E.enc).take (k * E.sz) = (l.take k).flatMap E.enc := by
  induction l generalizing k with
  | nil => simp
  | cons a l ih =>
    cases k with
    | zero => simp
    | succ k =>
      rw [List.flatMap_cons, List.take_succ_cons, List.flatMap_cons, Nat.add_mul, Nat.one_mul, ← ih, List.take_append, E.len, List.take_of_length_le (by rw [E.len]; omega)]
      congr 2; omega
theorem flat_drop {α : Type} {E : Enc α} (l : List α) (k : Nat) : (l.flatMap E.enc).drop (k * E.sz) = (l.drop k).flatMap E.enc := by
  induction l generalizing k with
  | nil => simp
  | cons a l ih =>
    cases k with
    | zero => simp
    | succ k =>
      rw [List.flatMap_cons, List.drop_succ_cons, Nat.add_mul, Nat.one_mul, ← ih, List.drop_append, E.len, List.drop_of_length_le (by rw [E.len]; omega), List.nil_append]
      congr 1; omega
theorem flat_split {α : Type} {E : Enc α} (l : List α) {k : Nat} (h : k < l.length) : l.flatMap E.enc = (l.take k).flatMap E.enc ++ (E.enc l[k] ++ (l.drop (k + 1)).flatMap E.enc) := by
  rw [← List.flatMap_cons, ← List.drop_eq_getElem_cons h, ← List.flatMap_append, List.take_append_drop]
/-- A part of one element is written. -/
theorem splice_at {α : Type} {E : Enc α} (l : List α) {k f : Nat} (h : k < l.length) (a : α) {ys : List AV} (hf : f + ys.length ≤ E.sz) (ha : E.enc a = splice (E.enc l[k]) f ys) : splice (l.flatMap E.enc) (k * E.sz + f) ys = (l.set k a).flatMap E.enc := by
  have h1 : ((l.take k).flatMap E.enc).length = k * E.sz := by rw [enc_length, List.length_take]; congr 1; omega
  have h3 : (E.enc l[k]).length = E.sz := E.len _
  have h2 : l.set k a = l.take k ++ a :: l.drop (k + 1) := by rw [List.set_eq_take_append_cons_drop, if_pos h]
  rw [h2, List.flatMap_append, List.flatMap_cons, ha, flat_split l h]
  simp only [splice]
  rw [List.take_append, List.take_of_length_le (by rw [h1]; omega), h1, show k * E.sz + f - k * E.sz = f by omega, List.take_append_of_le_length (by rw [h3]; omega), List.append_assoc, List.append_assoc, List.append_assoc]
  congr 3
  rw [List.drop_append, List.drop_of_length_le (by rw [h1]; omega), List.nil_append, h1, List.drop_append_of_le_length (by rw [h3]; omega)]
  congr 2; omega
/-- What lies in a block of its own. -/
def ownV {α : Type} (E : Enc α) (S : Mem) (x : AV) : Option (List α) := match x with
  | .sl b 0 v n cap ex => match S[b]? with
    | some (.cells cs v' op true) => if v' = v ∧ cap = n ∧ cs.length = n * E.sz then decL E n cs else none
    | _ => none
  | _ => none
theorem ownV_ok {α : Type} {E : Enc α} {S : Mem} {x : AV} {l : List α} (h : ownV E S x = some l) : ∃ b v ex op, x = .sl b 0 v l.length l.length ex ∧ S[b]? = some (.cells (l.flatMap E.enc) v op true) := by
  unfold ownV at h
  split at h
  · split at h
    · rename_i hB
      split at h
      · rename_i hc
        obtain ⟨rfl, rfl, hc⟩ := hc
        obtain ⟨h1, h2⟩ := decL_ok _ _ _ h hc
        subst h1; rw [h2] at hB
        exact ⟨_, _, _, _, rfl, hB⟩
      · cases h
    · cases h
  · cases h
theorem ownV_mk {α : Type} {E : Enc α} {S : Mem} {l : List α} {b v : Nat} {ex : Bool} {op : Option Nat} (h : S[b]? = some (.cells (l.flatMap E.enc) v op true)) : ownV E S (.sl b 0 v l.length l.length ex) = some l := by
  simp only [ownV, h, enc_length, and_self, if_true, decL_enc]
theorem own_lst {α : Type} {E : Enc α} {S : Mem} {x : AV} {l : List α} (h : ownV E S x = some l) : lstV E S x = some l := by
  obtain ⟨b, v, ex, op, rfl, hB⟩ := ownV_ok h
  refine lst_lstV (.inr (.inr ⟨_, _, _, _, _, _, rfl, rfl, ?_⟩))
  rw [rowAt_B, hB, rowB_some, if_pos (by rw [enc_length]; omega), List.drop_zero, ← enc_length, List.take_length]
theorem bflat_list {α : Type} {E : Enc α} {n : Nat} (hF : ∀ n a, ∀ c ∈ E.enc a, AV.Flat n c) (l : List α) (v : Nat) (op : Option Nat) (r : Bool) : BFlat n (.cells (l.flatMap E.enc) v op r) :=
  bflat_cells fun x hx => by obtain ⟨a, _, ha⟩ := List.mem_flatMap.1 hx; exact hF _ _ _ ha
theorem lst_cells {α : Type} {E : Enc α} {S : Mem} {x : AV} {l : List α} (h : lstV E S x = some l) : x.cells = some [x] := by
  rcases lstV_lst h with ⟨rfl, rfl⟩ | ⟨rfl, rfl⟩ | ⟨i, o, v, len, cap, ex, rfl, rfl, h3⟩ <;> rfl
theorem lst_one {α : Type} {E : Enc α} {S : Mem} {x : AV} {l : List α} (h : lstV E S x = some l) : x.one = true := by
  rcases lstV_lst h with ⟨rfl, rfl⟩ | ⟨rfl, rfl⟩ | ⟨i, o, v, len, cap, ex, rfl, rfl, h3⟩ <;> rfl
theorem zerosV_1 {z : List AV} : zerosV z 1 = z := by rw [zerosV_succ, zerosV_zero, List.append_nil]
theorem src_se {S : Mem} {size : Nat} : srcV S size .se = some ([], 0) := (rfl)
theorem app_sl0 {S : Mem} {size bytes i o v len cap : Nat} {ex : Bool} {cs : List AV} : appV S size bytes (.sl i o v len cap ex) cs 0 = some (.sl i o v len cap ex, S) := (rfl)
theorem app_sn0 {S : Mem} {size bytes : Nat} {cs : List AV} : appV S size bytes .sn cs 0 = some (.sn, S) := (rfl)
theorem app_se0 {S : Mem} {size bytes : Nat} {cs : List AV} : appV S size bytes .se cs 0 = some (.se, S) := (rfl)
attribute [go_sem] List.prefix_append_right_inj List.cons_prefix_cons List.nil_prefix pre_retM zerosV_1 zerosV_zero src_se app_sl0 app_sn0 app_se0
theorem Flat_i {n : Nat} {q : IntKind} {z : Int} : AV.Flat n (.i q z) := fun g => ren_i
theorem Flat_b {n : Nat} {z : Bool} : AV.Flat n (.b z) := fun g => ren_b
theorem Flat_sn {n : Nat} : AV.Flat n .sn := fun g => ren_sn
end Go.Proofs.Ytapgkaecamljbaa

namespace Go.Proofs.Ytapgkaecamljbaa
open Go.RowKit
set_option linter.unusedSimpArgs false
set_option linter.unusedVariables false
set_option maxRecDepth 10000

def nets (l : List Pol) (k : Nat) : List Net5 := (l.take k).map Pol.net

theorem find_new : ∀ (b i : Nat) (l : List Net5) (n : Net5) (z : AV) (c : Nat), n ∉ l → findK true netK (netL n) (ents b l ++ [(.ag (netL n), z, c)]) i = some (some (i + l.length))
  | b, i, [], n, z, c, _ => by simp only [ents, List.nil_append, findK, key_netL, eq_netL, decide_true]; rfl
  | b, i, m :: r, n, z, c, h => by
    simp only [List.mem_cons, not_or] at h
    simp only [ents, List.cons_append, findK, key_netL, eq_netL, decide_eq_false h.1]
    rw [find_new (b + 1) (i + 1) r n z c h.2, List.length_cons, show i + 1 + r.length = i + (r.length + 1) by omega]
theorem look_app {L : List Net5} {n : Net5} {z v : AV} {c cl : Nat} (hn : n ∉ L) : lookM (some (.map (ents 0 L ++ [(.ag (netL n), v, c)]) cl)) n z = some v := by
  have h := find_new 0 0 L n v c hn
  rw [Nat.zero_add] at h
  refine lookM_some h (k := .ag (netL n)) (b := c) ?_
  have hl : (ents 0 L).length = L.length := ents_length 0 L
  rw [List.getElem?_append_right (by omega), hl]; simp

/-- The count of a network goes up by one: whichever way its look-up and its entry stand. -/
theorem d0_new {O : Orc} {e : Env} {S : Mem} {i b : Nat} {a1 a2 a3 a4 a5 : Int} {L : List Net5} {cl : Nat} (h3 : e.get 3 = .m i) (h5 : e.get 5 = .p b 0 0) (hb : rowB (S[b]?) 1 0 5 = some [.i .u8 a1, .i .u8 a2, .i .u8 a3, .i .u8 a4, .i .i64 a5])
    (hS : S[i]? = some (.map (ents 0 L) cl)) (hcl : L.length = cl) (hn : (a1, a2, a3, a4, a5) ∉ L) (hib : i ≠ b) :
    ∃ e', evDraw O c33d0 [] e S = some (e', S.set i (.map (ents 0 (L ++ [(a1, a2, a3, a4, a5)])) (cl + 1))) ∧ ∀ t, t < 17 → e'.get t = e.get t := by
  have hf := find_none 0 0 L _ hn
  have hlt : i < S.length := (List.getElem?_eq_some_iff.1 hS).1
  have hS2 : ∀ B : Blk, (S.set i B)[i]? = some B := fun B => at_set hS
  have hB2 : ∀ B : Blk, (S.set i B)[b]? = S[b]? := fun B => at_set_ne hib
  refine ⟨(23, .i .i64 cl) :: (22, .tu [.i .i64 0, .i .i64 cl]) :: (21, .i .i64 1) :: (20, .i .i64 0) :: (19, .ag [.i .u8 a1, .i .u8 a2, .i .u8 a3, .i .u8 a4, .i .i64 a5]) :: (18, .p b 1 0) :: (17, .m i) :: e, ?_, ?_⟩
  · simp only [evDraw, c33d0, evStages, evNs, evOpt, evOne, wantV_none, evOp, evIO, X.ev, h3, h5, get_put, faddr_p, ld_row, hb, agV_some, mlook_eq, hS, lookM_none hf, mentry_eq, entM_none hf, bin_add, Nat.zero_add, ↓reduceIte, Nat.reduceEqDiff, ext_tu, List.getElem?_cons_succ, List.getElem?_cons_zero, mstore_eq, hS2, stoM_new hcl, ents_new hcl, List.set_set, Int.zero_add, wrap_i64 (n := 1) (by omega) (by omega), keepE_nil, List.nil_append, chkStages, List.all_cons, List.all_nil, chkN, Nat.reduceAdd, Nat.le_refl, hB2, chkOpt, IOp.use, ROp.use, IO'.use, X.use, likeOn_cons, likeOn_nil, List.append_nil, dstL_none, dstL_some, look_app hn, eqv_m, eqv_p, eqv_i, eqv_ag, eqvL_cons, eqvL_nil, eqv_tu, Bool.and_true, putE, get_ite, Nat.reduceLeDiff, List.cons_append]
  · intro t ht
    simp only [get_ite]
    rw [if_neg (by omega), if_neg (by omega), if_neg (by omega), if_neg (by omega), if_neg (by omega), if_neg (by omega), if_neg (by omega)]
theorem d0_old {O : Orc} {e : Env} {S : Mem} {i b : Nat} {a1 a2 a3 a4 a5 : Int} {L : List Net5} {cl : Nat} (h3 : e.get 3 = .m i) (h5 : e.get 5 = .p b 0 0) (hb : rowB (S[b]?) 1 0 5 = some [.i .u8 a1, .i .u8 a2, .i .u8 a3, .i .u8 a4, .i .i64 a5])
    (hS : S[i]? = some (.map (ents 0 L) cl)) (hn : (a1, a2, a3, a4, a5) ∈ L) (hib : i ≠ b) :
    ∃ e' es, evDraw O c33d0 [] e S = some (e', S.set i (.map es cl)) ∧ (∀ t, t < 17 → e'.get t = e.get t) ∧ lookM (some (.map es cl)) (a1, a2, a3, a4, a5) (.i .i64 0) = some (.i .i64 2) := by
  obtain ⟨j, hj, hj2, hf⟩ := find_some 0 0 L _ hn
  rw [Nat.zero_add] at hf
  have hj3 : L[j] = (a1, a2, a3, a4, a5) := by rw [List.getElem?_eq_getElem hj] at hj2; injection hj2
  have hat := ents_at 0 L j hj
  rw [hj3, Nat.zero_add] at hat
  have hS2 : ∀ B : Blk, (S.set i B)[i]? = some B := fun B => at_set hS
  have hB2 : ∀ B : Blk, (S.set i B)[b]? = S[b]? := fun B => at_set_ne hib
  have hset : (ents 0 L).set j (.ag (netL (a1, a2, a3, a4, a5)), .i .i64 1, j) = ents 0 L := by
    obtain ⟨h1, h2⟩ := List.getElem?_eq_some_iff.1 hat
    rw [← h2, List.set_getElem_self]
  have hfin : findK true netK (netL (a1, a2, a3, a4, a5)) ((ents 0 L).set j (.ag (netL (a1, a2, a3, a4, a5)), .i .i64 2, j)) 0 = some (some j) := by
    have key : ∀ (b i j : Nat) (L : List Net5) (n : Net5) (v : AV) (c : Nat), findK true netK (netL n) (ents b L) i = some (some (i + j)) → L[j]? = some n → findK true netK (netL n) ((ents b L).set j (.ag (netL n), v, c)) i = some (some (i + j)) := by
      intro b i j L n v c
      induction L generalizing b i j with
      | nil => intro _ h; simp at h
      | cons m r ih =>
        intro h1 h2
        simp only [ents, findK, key_netL, eq_netL] at h1
        cases j with
        | zero =>
          simp only [ents, List.set_cons_zero, findK, key_netL, eq_netL, decide_true]
          rfl
        | succ j =>
          by_cases e : n = m
          · subst e; simp at h1
          · simp only [decide_eq_false e] at h1
            simp only [ents, List.set_cons_succ, findK, key_netL, eq_netL, decide_eq_false e]
            rw [show i + (j + 1) = i + 1 + j by omega] at h1 ⊢
            exact ih _ _ _ h1 (by simpa using h2)
    have := key 0 0 j L (a1, a2, a3, a4, a5) (.i .i64 2) j (by rw [Nat.zero_add]; exact hf) hj2
    rwa [Nat.zero_add] at this
  have hl1 := lookM_some (cl := cl) (z := .i .i64 0) hf hat
  have hst := stoM_old (n := (a1, a2, a3, a4, a5)) (cl := cl) (i := i) (z := .i .i64 1) (v := .i .i64 2) (S := S.set i (.map (ents 0 L) cl)) hj
  rw [hset] at hst
  refine ⟨(23, .i .i64 j) :: (22, .tu [.i .i64 1, .i .i64 j]) :: (21, .i .i64 2) :: (20, .i .i64 1) :: (19, .ag [.i .u8 a1, .i .u8 a2, .i .u8 a3, .i .u8 a4, .i .i64 a5]) :: (18, .p b 1 0) :: (17, .m i) :: e, (ents 0 L).set j (.ag (netL (a1, a2, a3, a4, a5)), .i .i64 2, j), ?_, ?_, ?_⟩
  · simp only [evDraw, c33d0, evStages, evNs, evOpt, evOne, wantV_none, evOp, evIO, X.ev, h3, h5, get_put, faddr_p, ld_row, hb, agV_some, mlook_eq, hS, hl1, mentry_eq, entM_some hf hat, hset, bin_add, Nat.zero_add, ↓reduceIte, Nat.reduceEqDiff, ext_tu, List.getElem?_cons_succ, List.getElem?_cons_zero, mstore_eq, hS2, hst, List.set_set, Int.reduceAdd, wrap_i64 (n := 2) (by omega) (by omega), keepE_nil, List.nil_append, chkStages, List.all_cons, List.all_nil, chkN, Nat.reduceAdd, Nat.le_refl, hB2, chkOpt, IOp.use, ROp.use, IO'.use, X.use, likeOn_cons, likeOn_nil, List.append_nil, dstL_none, dstL_some, eqv_m, eqv_p, eqv_i, eqv_ag, eqvL_cons, eqvL_nil, eqv_tu, Bool.and_true, putE, get_ite, Nat.reduceLeDiff, List.cons_append]
  · intro t ht
    simp only [get_ite]
    rw [if_neg (by omega), if_neg (by omega), if_neg (by omega), if_neg (by omega), if_neg (by omega), if_neg (by omega), if_neg (by omega)]
  · refine lookM_some hfin (k := .ag (netL (a1, a2, a3, a4, a5))) (b := j) ?_
    have hl : (ents 0 L).length = L.length := ents_length 0 L
    simp [hl, hj]

noncomputable def allPS : Spec := fun args S => match args with
  | [x] => match lstV polE S x with
    | some l => if l.all (fun p => decide p.fits) = true then some (.i .i64 (allE l), S) else none
    | none => none
  | _ => none
theorem oQ_ok : OK Try.prog (lamOf Try.prog) (orcOf [(59, polS)]) := orc_ok (by simpa using pol_ok)
theorem all_ok : SpecOK Try.prog 33 allPS := by
  intro args S x S' h
  simp only [allPS] at h
  split at h
  · rename_i s
    split at h
    · rename_i l hl
      split at h
      · rename_i hfit
        cases h
        have hfit : ∀ k (hk : k < l.length), l[k].fits := fun k hk => of_decide_eq_true (List.all_eq_true.1 hfit _ (List.getElem_mem hk))
        refine fn_of_wp f33 rfl (W_sound oQ_ok mixed _ _ _ _ _ ?_)
        simp (maxSteps := 1000000) (disch := omega) only [c33, lst_len hl, go_sem, Option.map_none, Option.map_some, ↓reduceIte, Nat.reduceBEq, Nat.reduceAdd, Nat.reduceSub, Nat.reduceEqDiff, Nat.reduceLeDiff, Nat.reduceMul, Nat.reduceLT, Int.reduceLT, Int.reduceLE, Int.reduceAdd, Int.reduceSub, Int.reduceMul, Int.reduceNeg, Int.reduceEq, Int.reduceNe, Int.reduceToNat, decide_true, decide_false, iaddr_i, iaddr_sl_i, not_true_eq_false, not_false_eq_true, reduceCtorEq, ne_eq, forall_const, false_imp_iff, true_imp_iff, implies_true, Int.cast_ofNat_Int, Int.natCast_zero, Int.natCast_one, Int.add_zero, Int.zero_add]
        refine ⟨fun h8 => ?_, fun h8 => ?_⟩
        · rw [show allE l = 111 by unfold allE; rw [if_neg fun q => by have := q.1; omega]]
          exact wkv_same
        · refine wp_loop (fun j e M dl => dl = [] ∧ ∃ (k : Nat) (T : Mem), j = l.length - k ∧ k ≤ l.length ∧ M = S ++ (.map (ents 0 (nets l k)) k :: T) ∧ okTo l k ∧ e.get 0 = s ∧ e.get 3 = .m S.length ∧ e.get 10 = s ∧ e.get 11 = .i .i64 l.length ∧ e.get 12 = .i .i64 k) (j := l.length) ?_ ?_
          · exact ⟨rfl, 0, [], rfl, Nat.zero_le _, rfl, okTo_zero l, rfl, rfl, rfl, rfl, rfl⟩
          rintro j e M d' ⟨rfl, k, T, rfl, hk, rfl, hok, h0, h3, h10, h11, h12⟩
          by_cases hkl : k < l.length
          · obtain ⟨bi, o, v, cap, ex, rfl⟩ := lst_sl hl hkl
            have hrow := lstV_row hl hkl
            have hrow : ∀ L, rowB ((S ++ L)[bi]?) (o + k * 13) v 13 = some l[k].enc := hrow
            have hkI : (k : Int) < l.length := by omega
            have hlk : (nets l k).length = k := by unfold nets; rw [List.length_map, List.length_take]; omega
            refine wp_seq (W_sound oQ_ok mixed _ _ _ _ _ ?_)
            simp (maxSteps := 1000000) (disch := omega) only [h11, h12, hkI, go_sem, Option.map_none, Option.map_some, ↓reduceIte, Nat.reduceBEq, Nat.reduceAdd, Nat.reduceSub, Nat.reduceEqDiff, Nat.reduceLeDiff, Nat.reduceMul, Nat.reduceLT, Int.reduceLT, Int.reduceLE, Int.reduceAdd, Int.reduceSub, Int.reduceMul, Int.reduceNeg, Int.reduceEq, Int.reduceNe, Int.reduceToNat, decide_true, decide_false, iaddr_i, iaddr_sl_i, not_true_eq_false, not_false_eq_true, reduceCtorEq, ne_eq, forall_const, false_imp_iff, true_imp_iff, implies_true, Int.cast_ofNat_Int, Int.natCast_zero, Int.natCast_one, Int.add_zero, Int.zero_add]
            refine wp_live (wp_seq (W_sound oQ_ok mixed _ _ _ _ _ ?_))
            simp (maxSteps := 1000000) (disch := omega) only [go_sem, Option.map_none, Option.map_some, ↓reduceIte, Nat.reduceBEq, Nat.reduceAdd, Nat.reduceSub, Nat.reduceEqDiff, Nat.reduceLeDiff, Nat.reduceMul, Nat.reduceLT, Int.reduceLT, Int.reduceLE, Int.reduceAdd, Int.reduceSub, Int.reduceMul, Int.reduceNeg, Int.reduceEq, Int.reduceNe, Int.reduceToNat, decide_true, decide_false, iaddr_i, iaddr_sl_i, not_true_eq_false, not_false_eq_true, reduceCtorEq, ne_eq, forall_const, false_imp_iff, true_imp_iff, implies_true, Int.cast_ofNat_Int, Int.natCast_zero, Int.natCast_one, Int.add_zero, Int.zero_add]
            refine wp_live (wp_seq (wp_block (wp_seq (W_sound oQ_ok mixed _ _ _ _ _ ?_))))
            simp (maxSteps := 1000000) (disch := omega) only [h0, h3, h10, h11, h12, hkI, Int.toNat_natCast, hrow, Pol.enc, go_sem, Option.map_none, Option.map_some, ↓reduceIte, Nat.reduceBEq, Nat.reduceAdd, Nat.reduceSub, Nat.reduceEqDiff, Nat.reduceLeDiff, Nat.reduceMul, Nat.reduceLT, Int.reduceLT, Int.reduceLE, Int.reduceAdd, Int.reduceSub, Int.reduceMul, Int.reduceNeg, Int.reduceEq, Int.reduceNe, Int.reduceToNat, decide_true, decide_false, iaddr_i, iaddr_sl_i, not_true_eq_false, not_false_eq_true, reduceCtorEq, ne_eq, forall_const, false_imp_iff, true_imp_iff, implies_true, Int.cast_ofNat_Int, Int.natCast_zero, Int.natCast_one, Int.add_zero, Int.zero_add]
            have hnet : rowB (((S ++ (.map (ents 0 (nets l k)) k :: (T ++ [.cells l[k].enc 0 none true])) : Mem))[S.length + (T.length + 1)]?) 1 0 5 = some [.i .u8 l[k].a, .i .u8 l[k].b, .i .u8 l[k].c, .i .u8 l[k].d, .i .i64 l[k].bits] := by rw [at_app, List.getElem?_cons_succ, at_app0]; rfl
            have hmap : (S ++ (.map (ents 0 (nets l k)) k :: (T ++ [.cells l[k].enc 0 none true])) : Mem)[S.length]? = some (.map (ents 0 (nets l k)) k) := by rw [at_app0]; rfl
            have hN : nets l (k + 1) = nets l k ++ [l[k].net] := by unfold nets; rw [List.take_succ_eq_append_getElem hkl, List.map_append]; rfl
            have bad : (¬ l[k].right ∨ l[k].net ∈ nets l k ∨ ∃ h0 : 0 < k, l[k].sub ≤ (l[k - 1]'(by omega)).sub) → allE l = 111 := fun hb => by
              unfold allE
              rw [if_neg fun q => ?_]
              have q2 := okTo_at q.2 hkl
              rcases hb with hb | hb | ⟨h0, hb⟩
              · exact hb q2.1
              · unfold nets at hb
                obtain ⟨p, hp, hpn⟩ := List.mem_map.1 hb
                obtain ⟨j, hj, rfl⟩ := List.getElem_of_mem hp
                rw [List.getElem_take] at hpn
                exact (q2.2 j (by rw [List.length_take] at hj; omega)).2 hpn
              · have := (q2.2 (k - 1) (by omega)).1; omega
            have fk : ∀ L, cellB ((S ++ L)[bi]?) (o + (k - 1) * 13 + 0) v = some (.i .i64 (l[k - 1]'(by omega)).sub) := lstV_field hl (show k - 1 < l.length by omega) (f := 0) (x := .i .i64 (l[k - 1]'(by omega)).sub) rfl
            simp only [Nat.add_zero] at fk
            have hk1 : 0 < k → wrapV .i64 ((k : Int) - 1) = ((k - 1 : Nat) : Int) := fun h => by rw [wrap_i64 (by omega) (by omega)]; omega
            have hia : 0 < k → iaddrV none 13 (.sl bi o v l.length cap ex) (.i .i64 ((k - 1 : Nat) : Int)) = some (.p bi (o + (k - 1) * 13) v) := fun h => iaddr_sl (by omega)
            have hu : u84 l[k].a l[k].b l[k].c l[k].d := hfit k hkl
            have hpos : (0 < (k : Int)) = (0 < k) := by simp
            by_cases hm : l[k].net ∈ nets l k
            · obtain ⟨e', es, hev, hge, hlo⟩ := d0_old (O := orcOf [(59, polS)]) (e := keepE [(4, AV.i .i64 k), (5, AV.p (List.length S + (T.length + 1)) 0 0), (16, AV.ag l[k].enc), (15, AV.p bi (o + k * 13) v), (14, AV.i .i64 k), (3, AV.m (List.length S)), (0, AV.sl bi o v l.length cap ex), (10, AV.sl bi o v l.length cap ex), (11, AV.i .i64 l.length), (12, AV.i .i64 k)] [3, 0, 10, 11, 12, 5, 4]) rfl rfl hnet hmap hm (by omega)
              refine wp_live (wp_seq (wp_draw oQ_ok mixed hev ?_))
              have g0 := hge 0 (by omega); have g3 := hge 3 (by omega); have g4 := hge 4 (by omega); have g5 := hge 5 (by omega); have g10 := hge 10 (by omega); have g11 := hge 11 (by omega); have g12 := hge 12 (by omega)
              simp (maxSteps := 1000000) (disch := omega) only [go_sem, Option.map_none, Option.map_some, ↓reduceIte, Nat.reduceBEq, Nat.reduceAdd, Nat.reduceSub, Nat.reduceEqDiff, Nat.reduceLeDiff, Nat.reduceMul, Nat.reduceLT, Int.reduceLT, Int.reduceLE, Int.reduceAdd, Int.reduceSub, Int.reduceMul, Int.reduceNeg, Int.reduceEq, Int.reduceNe, Int.reduceToNat, decide_true, decide_false, iaddr_i, iaddr_sl_i, not_true_eq_false, not_false_eq_true, reduceCtorEq, ne_eq, forall_const, false_imp_iff, true_imp_iff, implies_true, Int.cast_ofNat_Int, Int.natCast_zero, Int.natCast_one, Int.add_zero, Int.zero_add] at g0 g3 g4 g5 g10 g11 g12
              refine W_sound oQ_ok mixed _ _ _ _ _ ?_
              rw [bad (.inr (.inl hm))]
              simp (maxSteps := 1000000) (disch := omega) only [g0, g3, g4, g5, g10, g11, g12, Pol.enc, orc_cons, polS, hu, mlook_eq, hlo, go_sem, Option.map_none, Option.map_some, ↓reduceIte, Nat.reduceBEq, Nat.reduceAdd, Nat.reduceSub, Nat.reduceEqDiff, Nat.reduceLeDiff, Nat.reduceMul, Nat.reduceLT, Int.reduceLT, Int.reduceLE, Int.reduceAdd, Int.reduceSub, Int.reduceMul, Int.reduceNeg, Int.reduceEq, Int.reduceNe, Int.reduceToNat, decide_true, decide_false, iaddr_i, iaddr_sl_i, not_true_eq_false, not_false_eq_true, reduceCtorEq, ne_eq, forall_const, false_imp_iff, true_imp_iff, implies_true, Int.cast_ofNat_Int, Int.natCast_zero, Int.natCast_one, Int.add_zero, Int.zero_add]
              exact ⟨fun _ => wkv_drop rfl, fun _ => wkv_drop rfl⟩
            · obtain ⟨e', hev, hge⟩ := d0_new (O := orcOf [(59, polS)]) (e := keepE [(4, AV.i .i64 k), (5, AV.p (List.length S + (T.length + 1)) 0 0), (16, AV.ag l[k].enc), (15, AV.p bi (o + k * 13) v), (14, AV.i .i64 k), (3, AV.m (List.length S)), (0, AV.sl bi o v l.length cap ex), (10, AV.sl bi o v l.length cap ex), (11, AV.i .i64 l.length), (12, AV.i .i64 k)] [3, 0, 10, 11, 12, 5, 4]) rfl rfl hnet hmap hlk hm (by omega)
              refine wp_live (wp_seq (wp_draw oQ_ok mixed hev ?_))
              have g0 := hge 0 (by omega); have g3 := hge 3 (by omega); have g4 := hge 4 (by omega); have g5 := hge 5 (by omega); have g10 := hge 10 (by omega); have g11 := hge 11 (by omega); have g12 := hge 12 (by omega)
              simp (maxSteps := 1000000) (disch := omega) only [go_sem, Option.map_none, Option.map_some, ↓reduceIte, Nat.reduceBEq, Nat.reduceAdd, Nat.reduceSub, Nat.reduceEqDiff, Nat.reduceLeDiff, Nat.reduceMul, Nat.reduceLT, Int.reduceLT, Int.reduceLE, Int.reduceAdd, Int.reduceSub, Int.reduceMul, Int.reduceNeg, Int.reduceEq, Int.reduceNe, Int.reduceToNat, decide_true, decide_false, iaddr_i, iaddr_sl_i, not_true_eq_false, not_false_eq_true, reduceCtorEq, ne_eq, forall_const, false_imp_iff, true_imp_iff, implies_true, Int.cast_ofNat_Int, Int.natCast_zero, Int.natCast_one, Int.add_zero, Int.zero_add] at g0 g3 g4 g5 g10 g11 g12
              have hlo : lookM (some (.map (ents 0 (nets l k ++ [(l[k].a, l[k].b, l[k].c, l[k].d, l[k].bits)])) (k + 1))) (l[k].a, l[k].b, l[k].c, l[k].d, l[k].bits) (.i .i64 0) = some (.i .i64 1) := look_new (by simp)
              have hw : wrapV .i64 ((k : Int) + 1) = ((k + 1 : Nat) : Int) := by rw [wrap_i64 (by omega) (by omega)]; omega
              have fin : l[k].right → (∀ h0 : 0 < k, (l[k - 1]'(by omega)).sub < l[k].sub) → okTo l (k + 1) := fun hr hs => by
                refine okTo_succ hkl hok hr fun j hj => ⟨okTo_rise hkl hok hs j hj, fun hne => hm ?_⟩
                unfold nets
                exact List.mem_map.2 ⟨l[j]'(by omega), by rw [List.mem_take_iff_getElem]; exact ⟨j, by omega, rfl⟩, hne⟩
              refine W_sound oQ_ok mixed _ _ _ _ _ ?_
              by_cases h0k : 0 < k
              · simp (maxSteps := 1000000) (disch := omega) only [g0, g3, g4, g5, g10, g11, g12, Pol.enc, orc_cons, polS, hu, mlook_eq, hlo, h0k, hpos, hk1, hia, fk, go_sem, Option.map_none, Option.map_some, ↓reduceIte, Nat.reduceBEq, Nat.reduceAdd, Nat.reduceSub, Nat.reduceEqDiff, Nat.reduceLeDiff, Nat.reduceMul, Nat.reduceLT, Int.reduceLT, Int.reduceLE, Int.reduceAdd, Int.reduceSub, Int.reduceMul, Int.reduceNeg, Int.reduceEq, Int.reduceNe, Int.reduceToNat, decide_true, decide_false, iaddr_i, iaddr_sl_i, not_true_eq_false, not_false_eq_true, reduceCtorEq, ne_eq, forall_const, false_imp_iff, true_imp_iff, implies_true, Int.cast_ofNat_Int, Int.natCast_zero, Int.natCast_one, Int.add_zero, Int.zero_add]
                refine ⟨fun hr => ⟨fun hs => ?_, fun hs => W_sound oQ_ok mixed _ _ _ _ _ ?_⟩, fun hr => ?_⟩
                · rw [bad (.inr (.inr ⟨h0k, hs⟩))]; exact wkv_drop rfl
                · simp (maxSteps := 1000000) (disch := omega) only [hw, go_sem, Option.map_none, Option.map_some, ↓reduceIte, Nat.reduceBEq, Nat.reduceAdd, Nat.reduceSub, Nat.reduceEqDiff, Nat.reduceLeDiff, Nat.reduceMul, Nat.reduceLT, Int.reduceLT, Int.reduceLE, Int.reduceAdd, Int.reduceSub, Int.reduceMul, Int.reduceNeg, Int.reduceEq, Int.reduceNe, Int.reduceToNat, decide_true, decide_false, iaddr_i, iaddr_sl_i, not_true_eq_false, not_false_eq_true, reduceCtorEq, ne_eq, forall_const, false_imp_iff, true_imp_iff, implies_true, Int.cast_ofNat_Int, Int.natCast_zero, Int.natCast_one, Int.add_zero, Int.zero_add]
                  exact ⟨l.length - (k + 1), by omega, k + 1, _, rfl, by omega, (by rw [hN]; rfl), fin (Decidable.not_not.1 hr) (fun _ => by omega), rfl⟩
                · rw [bad (.inl (fun q => hr q))]; exact wkv_drop rfl
              · simp (maxSteps := 1000000) (disch := omega) only [g0, g3, g4, g5, g10, g11, g12, Pol.enc, orc_cons, polS, hu, mlook_eq, hlo, h0k, hpos, go_sem, Option.map_none, Option.map_some, ↓reduceIte, Nat.reduceBEq, Nat.reduceAdd, Nat.reduceSub, Nat.reduceEqDiff, Nat.reduceLeDiff, Nat.reduceMul, Nat.reduceLT, Int.reduceLT, Int.reduceLE, Int.reduceAdd, Int.reduceSub, Int.reduceMul, Int.reduceNeg, Int.reduceEq, Int.reduceNe, Int.reduceToNat, decide_true, decide_false, iaddr_i, iaddr_sl_i, not_true_eq_false, not_false_eq_true, reduceCtorEq, ne_eq, forall_const, false_imp_iff, true_imp_iff, implies_true, Int.cast_ofNat_Int, Int.natCast_zero, Int.natCast_one, Int.add_zero, Int.zero_add]
                refine ⟨fun hr => W_sound oQ_ok mixed _ _ _ _ _ ?_, fun hr => ?_⟩
                · simp (maxSteps := 1000000) (disch := omega) only [hw, go_sem, Option.map_none, Option.map_some, ↓reduceIte, Nat.reduceBEq, Nat.reduceAdd, Nat.reduceSub, Nat.reduceEqDiff, Nat.reduceLeDiff, Nat.reduceMul, Nat.reduceLT, Int.reduceLT, Int.reduceLE, Int.reduceAdd, Int.reduceSub, Int.reduceMul, Int.reduceNeg, Int.reduceEq, Int.reduceNe, Int.reduceToNat, decide_true, decide_false, iaddr_i, iaddr_sl_i, not_true_eq_false, not_false_eq_true, reduceCtorEq, ne_eq, forall_const, false_imp_iff, true_imp_iff, implies_true, Int.cast_ofNat_Int, Int.natCast_zero, Int.natCast_one, Int.add_zero, Int.zero_add]
                  exact ⟨l.length - (k + 1), by omega, k + 1, _, rfl, by omega, (by rw [hN]; rfl), fin (Decidable.not_not.1 hr) (fun h => absurd h h0k), rfl⟩
                · rw [bad (.inl (fun q => hr q))]; exact wkv_drop rfl
          · have hkI : ¬ (k : Int) < l.length := by omega
            refine W_sound oQ_ok mixed _ _ _ _ _ ?_
            simp (maxSteps := 1000000) (disch := omega) only [c33l2, h0, h3, h10, h11, h12, hkI, go_sem, Option.map_none, Option.map_some, ↓reduceIte, Nat.reduceBEq, Nat.reduceAdd, Nat.reduceSub, Nat.reduceEqDiff, Nat.reduceLeDiff, Nat.reduceMul, Nat.reduceLT, Int.reduceLT, Int.reduceLE, Int.reduceAdd, Int.reduceSub, Int.reduceMul, Int.reduceNeg, Int.reduceEq, Int.reduceNe, Int.reduceToNat, decide_true, decide_false, iaddr_i, iaddr_sl_i, not_true_eq_false, not_false_eq_true, reduceCtorEq, ne_eq, forall_const, false_imp_iff, true_imp_iff, implies_true, Int.cast_ofNat_Int, Int.natCast_zero, Int.natCast_one, Int.add_zero, Int.zero_add]
            rw [show allE l = 0 by unfold allE; rw [if_pos ⟨by omega, by rwa [show k = l.length by omega] at hok⟩]]
            exact wkv_drop rfl
      · cases h
    · cases h
  · cases h
end Go.Proofs.Ytapgkaecamljbaa

namespace Go.Proofs.Ytapgkaecamljbaa
open Go.RowKit
set_option linter.unusedSimpArgs false
set_option linter.unusedVariables false
set_option maxRecDepth 10000


structure Ent where
  pol : Pol
  granted : Int
  deriving DecidableEq
def Ent.enc (x : Ent) : List AV := [.i .i64 x.pol.sub, .i .u8 x.pol.a, .i .u8 x.pol.b, .i .u8 x.pol.c, .i .u8 x.pol.d, .i .i64 x.pol.bits, .i .u64 x.pol.rate, .i .u64 x.pol.burst, .i .u64 x.pol.srate, .i .u64 x.pol.sburst, .i .u64 x.pol.quota, .i .u64 x.pol.lease, .i .u64 x.pol.quantum, .i .u64 x.granted]
def entE : Enc Ent where
  enc := Ent.enc
  dec r := match r with
    | [.i .i64 sub, .i .u8 a, .i .u8 b, .i .u8 c, .i .u8 d, .i .i64 bits, .i .u64 rate, .i .u64 burst, .i .u64 srate, .i .u64 sburst, .i .u64 quota, .i .u64 lease, .i .u64 quantum, .i .u64 granted] => some ⟨⟨sub, a, b, c, d, bits, rate, burst, srate, sburst, quota, lease, quantum⟩, granted⟩
    | _ => none
  sz := 14
  pos := by decide
  len _ := rfl
  de _ := rfl
  ed r a h := by
    split at h
    · injection h with h; subst h; rfl
    · cases h
theorem entE_one (a : Ent) : (entE.enc a).all AV.one = true := rfl
theorem entE_flat : ∀ (n : Nat) (a : Ent), ∀ c ∈ entE.enc a, AV.Flat n c := by
  intro n a
  simp only [entE, Ent.enc, List.forall_mem_cons, List.not_mem_nil, false_imp_iff, implies_true, and_true, Flat_i, and_self]
theorem polE_one (a : Pol) : (polE.enc a).all AV.one = true := rfl
theorem polE_flat : ∀ (n : Nat) (a : Pol), ∀ c ∈ polE.enc a, AV.Flat n c := by
  intro n a
  simp only [polE, Pol.enc, List.forall_mem_cons, List.not_mem_nil, false_imp_iff, implies_true, and_true, Flat_i, and_self]
theorem ne_ent {a b : Ent} : eqAgV true [.int, .int, .int, .int, .int, .int, .int, .int, .int, .int, .int, .int, .int, .int] (.ag (entE.enc a)) (.ag (entE.enc b)) = some (.b (decide (¬ a = b))) := by
  obtain ⟨⟨a1, a2, a3, a4, a5, a6, a7, a8, a9, a10, a11, a12, a13⟩, a14⟩ := a
  obtain ⟨⟨b1, b2, b3, b4, b5, b6, b7, b8, b9, b10, b11, b12, b13⟩, b14⟩ := b
  simp [eqAgV, eqCells, eqCell, entE, Ent.enc, Bool.beq_eq_decide_eq, and_assoc]
theorem ne_pol {a b : Pol} : eqAgV true [.int, .int, .int, .int, .int, .int, .int, .int, .int, .int, .int, .int, .int] (.ag (polE.enc a)) (.ag (polE.enc b)) = some (.b (decide (¬ a = b))) := by
  obtain ⟨a1, a2, a3, a4, a5, a6, a7, a8, a9, a10, a11, a12, a13⟩ := a
  obtain ⟨b1, b2, b3, b4, b5, b6, b7, b8, b9, b10, b11, b12, b13⟩ := b
  simp [eqAgV, eqCells, eqCell, polE, Pol.enc, Bool.beq_eq_decide_eq, and_assoc]

/-! ### The closures -/
def moreS : Spec := fun args S => match args with
  | [.ag cs] => match entE.dec cs with
    | some x => some (.b (decide (281474976710656 < x.granted)), S)
    | none => none
  | _ => none
theorem more_ok : SpecOK Try.prog 36 moreS := by
  intro args S x S' h
  simp only [moreS] at h
  split at h
  · split at h
    · rename_i cs x hx
      cases h
      obtain rfl := entE.ed _ _ hx
      refine fn_of_wp f36 rfl (W_sound none_ok mixed _ _ _ _ _ ?_)
      simp (maxSteps := 1000000) (disch := omega) only [c36, entE, Ent.enc, go_sem, Option.map_none, Option.map_some, ↓reduceIte, Nat.reduceBEq, Nat.reduceAdd, Nat.reduceSub, Nat.reduceEqDiff, Nat.reduceLeDiff, Nat.reduceMul, Nat.reduceLT, Int.reduceLT, Int.reduceLE, Int.reduceAdd, Int.reduceSub, Int.reduceMul, Int.reduceNeg, Int.reduceEq, Int.reduceNe, Int.reduceToNat, decide_true, decide_false, iaddr_i, iaddr_sl_i, not_true_eq_false, not_false_eq_true, reduceCtorEq, ne_eq, forall_const, false_imp_iff, true_imp_iff, implies_true, Int.cast_ofNat_Int, Int.natCast_zero, Int.natCast_one, Int.add_zero, Int.zero_add]
      exact wkv_drop rfl
    · cases h
  · cases h
def subIsS : Spec := fun args S => match args with
  | [.ag cs, .p i o v] => match entE.dec cs, cellB (S[i]?) o v with
    | some x, some (.i .i64 n) => some (.b (decide (x.pol.sub = n)), S)
    | _, _ => none
  | _ => none
theorem subIs_ok : SpecOK Try.prog 66 subIsS := by
  intro args S x S' h
  simp only [subIsS] at h
  split at h
  · rename_i cs i o v
    split at h
    · rename_i x n hx hn
      cases h
      obtain rfl := entE.ed _ _ hx
      have hi : i < S.length := by
        rcases Nat.lt_or_ge i S.length with h | h
        · exact h
        · rw [List.getElem?_eq_none h] at hn; simp [cellB] at hn
      have hc : ∀ L : Mem, cellB ((S ++ L)[i]?) o v = some (.i .i64 n) := fun L => by rw [List.getElem?_append_left hi]; exact hn
      refine fn_of_wp f66 rfl (W_sound none_ok mixed _ _ _ _ _ ?_)
      simp (maxSteps := 1000000) (disch := omega) only [c66, entE, Ent.enc, hc, go_sem, Option.map_none, Option.map_some, ↓reduceIte, Nat.reduceBEq, Nat.reduceAdd, Nat.reduceSub, Nat.reduceEqDiff, Nat.reduceLeDiff, Nat.reduceMul, Nat.reduceLT, Int.reduceLT, Int.reduceLE, Int.reduceAdd, Int.reduceSub, Int.reduceMul, Int.reduceNeg, Int.reduceEq, Int.reduceNe, Int.reduceToNat, decide_true, decide_false, iaddr_i, iaddr_sl_i, not_true_eq_false, not_false_eq_true, reduceCtorEq, ne_eq, forall_const, false_imp_iff, true_imp_iff, implies_true, Int.cast_ofNat_Int, Int.natCast_zero, Int.natCast_one, Int.add_zero, Int.zero_add]
      exact wkv_drop rfl
    · cases h
  · cases h
def predE (f : AV) (S : Mem) : Option (Ent → Bool) := match f with
  | .f (.func g) [] [] => if g = 36 then some (fun x => decide (281474976710656 < x.granted)) else none
  | .f (.func g) [] [.p i o v] => if g = 66 then match cellB (S[i]?) o v with
    | some (.i .i64 n) => some (fun x => decide (x.pol.sub = n))
    | _ => none else none
  | _ => none
def entO : Orc := orcOf [(36, moreS), (66, subIsS)]
theorem entO_ok : OK Try.prog (lamOf Try.prog) entO := orc_ok (by simpa using ⟨more_ok, subIs_ok⟩)
theorem predE_call {f : AV} {S : Mem} {p : Ent → Bool} (h : predE f S = some p) : ∃ g b, f = .f (.func g) [] b ∧ ∀ x, entO.fn g (.ag (entE.enc x) :: b) S = some (.b (p x), S) := by
  unfold predE at h
  split at h
  · split at h
    · rename_i hg; subst hg; injection h with h; subst h; exact ⟨_, [], rfl, fun x => rfl⟩
    · cases h
  · split at h
    · rename_i hg; subst hg
      split at h
      · rename_i n hc
        injection h with h; subst h
        refine ⟨_, _, rfl, fun x => ?_⟩
        have he : entO.fn 66 = subIsS := by funext a S; rfl
        rw [he]
        simp only [subIsS, entE.de, hc]
      · cases h
    · cases h
  · cases h
theorem predE_more {S : Mem} : predE (.f (.func 36) [] []) S = some (fun x => decide (281474976710656 < x.granted)) := rfl
theorem predE_sub {S : Mem} {i o v : Nat} {n : Int} (h : cellB (S[i]?) o v = some (.i .i64 n)) : predE (.f (.func 66) [] [.p i o v]) S = some (fun x => decide (x.pol.sub = n)) := by
  simp only [predE, if_true, h]

def idxES : Spec := fun args S => match args with
  | [x, f] => match lstV entE S x, predE f S with
    | some l, some p => if l.length ≤ 1000000 then some (.i .i64 (idx p l), S) else none
    | _, _ => none
  | _ => none
theorem idxE_ok : SpecOK Try.prog 60 idxES := by
  intro args S x S' h
  simp only [idxES] at h
  split at h
  · rename_i s f
    split at h
    · rename_i l p hl hp
      split at h
      · rename_i hlim
        cases h
        obtain ⟨g, b, rfl, hg⟩ := predE_call hp
        refine fn_of_wp f60 rfl (W_sound entO_ok mixed _ _ _ _ _ ?_)
        simp (maxSteps := 1000000) (disch := omega) only [c60, lst_len hl, go_sem, Option.map_none, Option.map_some, ↓reduceIte, Nat.reduceBEq, Nat.reduceAdd, Nat.reduceSub, Nat.reduceEqDiff, Nat.reduceLeDiff, Nat.reduceMul, Nat.reduceLT, Int.reduceLT, Int.reduceLE, Int.reduceAdd, Int.reduceSub, Int.reduceMul, Int.reduceNeg, Int.reduceEq, Int.reduceNe, Int.reduceToNat, decide_true, decide_false, iaddr_i, iaddr_sl_i, not_true_eq_false, not_false_eq_true, reduceCtorEq, ne_eq, forall_const, false_imp_iff, true_imp_iff, implies_true, Int.cast_ofNat_Int, Int.natCast_zero, Int.natCast_one, Int.add_zero, Int.zero_add]
        refine wp_loop (fun j e M dl => dl = [] ∧ ∃ k : Nat, j = l.length - k ∧ k ≤ l.length ∧ M = S ∧ (∀ i (hi : i < k) (hl : i < l.length), p l[i] = false) ∧
          e.get 0 = s ∧ e.get 1 = .f (.func g) [] b ∧ e.get 7 = .i .i64 l.length ∧ e.get 8 = .i .i64 k) (j := l.length) ⟨rfl, 0, rfl, Nat.zero_le _, rfl, fun i hi => absurd hi (Nat.not_lt_zero _), rfl, rfl, rfl, rfl⟩ ?_
        rintro j e M d' ⟨rfl, k, rfl, hk, rfl, hn, h0, h1, h7, h8⟩
        refine W_sound entO_ok mixed _ _ _ _ _ ?_
        by_cases hkl : k < l.length
        · obtain ⟨bi, o, v, cap, ex, rfl⟩ := lst_sl hl hkl
          have hc := lstV_row hl hkl []
          rw [List.append_nil] at hc
          have hc : rowB (M[bi]?) (o + k * 14) v 14 = some (entE.enc l[k]) := hc
          have hkI : (k : Int) < l.length := by omega
          simp (maxSteps := 1000000) (disch := omega) only [c60l0, h0, h1, h7, h8, hkI, Int.toNat_natCast, Nat.mul_one, hc, hg, go_sem, Option.map_none, Option.map_some, ↓reduceIte, Nat.reduceBEq, Nat.reduceAdd, Nat.reduceSub, Nat.reduceEqDiff, Nat.reduceLeDiff, Nat.reduceMul, Nat.reduceLT, Int.reduceLT, Int.reduceLE, Int.reduceAdd, Int.reduceSub, Int.reduceMul, Int.reduceNeg, Int.reduceEq, Int.reduceNe, Int.reduceToNat, decide_true, decide_false, iaddr_i, iaddr_sl_i, not_true_eq_false, not_false_eq_true, reduceCtorEq, ne_eq, forall_const, false_imp_iff, true_imp_iff, implies_true, Int.cast_ofNat_Int, Int.natCast_zero, Int.natCast_one, Int.add_zero, Int.zero_add]
          cases hpk : p l[k] with
          | true =>
            refine ⟨fun _ => ?_, fun h => by cases h⟩
            rw [idx_at hkl hpk fun j hj => hn j hj (by omega)]
            exact wkv_same
          | false =>
            refine ⟨(fun h => by cases h), fun _ => ⟨l.length - (k + 1), by omega, k + 1, rfl, hkl, fun i hi hil => ?_, rfl⟩⟩
            by_cases hik : i = k
            · subst hik; exact hpk
            · exact hn i (by omega) hil
        · have hkI : ¬ (k : Int) < l.length := by omega
          simp (maxSteps := 1000000) (disch := omega) only [c60l0, h0, h1, h7, h8, hkI, go_sem, Option.map_none, Option.map_some, ↓reduceIte, Nat.reduceBEq, Nat.reduceAdd, Nat.reduceSub, Nat.reduceEqDiff, Nat.reduceLeDiff, Nat.reduceMul, Nat.reduceLT, Int.reduceLT, Int.reduceLE, Int.reduceAdd, Int.reduceSub, Int.reduceMul, Int.reduceNeg, Int.reduceEq, Int.reduceNe, Int.reduceToNat, decide_true, decide_false, iaddr_i, iaddr_sl_i, not_true_eq_false, not_false_eq_true, reduceCtorEq, ne_eq, forall_const, false_imp_iff, true_imp_iff, implies_true, Int.cast_ofNat_Int, Int.natCast_zero, Int.natCast_one, Int.add_zero, Int.zero_add]
          rw [idx_none fun j hj => hn j (by omega) hj]
          exact wkv_same
      · cases h
    · cases h
  · cases h
theorem idxE_eq {S : Mem} {x f : AV} {l p} (hl : lstV entE S x = some l) (hp : predE f S = some p) (hn : l.length ≤ 1000000) : idxES [x, f] S = some (.i .i64 (idx p l), S) := by
  simp only [idxES, hl, hp, if_pos hn]

def hasES : Spec := fun args S => match args with
  | [x, f] => match lstV entE S x, predE f S with
    | some l, some p => if l.length ≤ 1000000 then some (.b (l.any p), S) else none
    | _, _ => none
  | _ => none
theorem oHasE_ok : OK Try.prog (lamOf Try.prog) (orcOf [(60, idxES)]) := orc_ok (by simpa using idxE_ok)
theorem hasE_ok : SpecOK Try.prog 35 hasES := by
  intro args S x S' h
  simp only [hasES] at h
  split at h
  · rename_i s f
    split at h
    · rename_i l p hl hp
      split at h
      · rename_i hlim
        cases h
        have hi := idxE_eq hl hp hlim
        refine fn_of_wp f35 rfl (W_sound oHasE_ok mixed _ _ _ _ _ ?_)
        simp (maxSteps := 1000000) (disch := omega) only [c35, orc_cons, hi, go_sem, Option.map_none, Option.map_some, ↓reduceIte, Nat.reduceBEq, Nat.reduceAdd, Nat.reduceSub, Nat.reduceEqDiff, Nat.reduceLeDiff, Nat.reduceMul, Nat.reduceLT, Int.reduceLT, Int.reduceLE, Int.reduceAdd, Int.reduceSub, Int.reduceMul, Int.reduceNeg, Int.reduceEq, Int.reduceNe, Int.reduceToNat, decide_true, decide_false, iaddr_i, iaddr_sl_i, not_true_eq_false, not_false_eq_true, reduceCtorEq, ne_eq, forall_const, false_imp_iff, true_imp_iff, implies_true, Int.cast_ofNat_Int, Int.natCast_zero, Int.natCast_one, Int.add_zero, Int.zero_add]
        refine wkv_eq wkv_same ?_ rfl
        congr 1
        have := idx_ge p l
        cases h : l.any p
        · rw [h] at this; simp [this]
        · rw [h] at this; simp [this]
      · cases h
    · cases h
  · cases h
theorem hasE_eq {S : Mem} {x f : AV} {l p} (hl : lstV entE S x = some l) (hp : predE f S = some p) (hn : l.length ≤ 1000000) : hasES [x, f] S = some (.b (l.any p), S) := by
  simp only [hasES, hl, hp, if_pos hn]

def eqlES : Spec := fun args S => match args with
  | [x, y] => match lstV entE S x, lstV entE S y with
    | some l, some m => if l.length ≤ 1000000 then some (.b (decide (l = m)), S) else none
    | _, _ => none
  | _ => none
theorem eqlE_ok : SpecOK Try.prog 43 eqlES := by
  intro args S x S' h
  simp only [eqlES] at h
  split at h
  · rename_i s t
    split at h
    · rename_i l m hl hm
      split at h
      · rename_i hlim
        cases h
        refine fn_of_wp f43 rfl (W_sound none_ok mixed _ _ _ _ _ ?_)
        simp (maxSteps := 1000000) (disch := omega) only [c43, lst_len hl, lst_len hm, go_sem, Option.map_none, Option.map_some, ↓reduceIte, Nat.reduceBEq, Nat.reduceAdd, Nat.reduceSub, Nat.reduceEqDiff, Nat.reduceLeDiff, Nat.reduceMul, Nat.reduceLT, Int.reduceLT, Int.reduceLE, Int.reduceAdd, Int.reduceSub, Int.reduceMul, Int.reduceNeg, Int.reduceEq, Int.reduceNe, Int.reduceToNat, decide_true, decide_false, iaddr_i, iaddr_sl_i, not_true_eq_false, not_false_eq_true, reduceCtorEq, ne_eq, forall_const, false_imp_iff, true_imp_iff, implies_true, Int.cast_ofNat_Int, Int.natCast_zero, Int.natCast_one, Int.add_zero, Int.zero_add]
        refine ⟨fun hne => wkv_fP ext_refl fun q => hne (by rw [q]), fun he => ?_⟩
        have he : l.length = m.length := by omega
        refine wp_loop (fun j e M dl => dl = [] ∧ ∃ k : Nat, j = l.length - k ∧ k ≤ l.length ∧ M = S ∧ (∀ i (hi : i < k) (h1 : i < l.length) (h2 : i < m.length), l[i] = m[i]) ∧
          e.get 0 = s ∧ e.get 1 = t ∧ e.get 12 = .i .i64 l.length ∧ e.get 13 = .i .i64 k) (j := l.length) ⟨rfl, 0, rfl, Nat.zero_le _, rfl, fun i hi => absurd hi (Nat.not_lt_zero _), rfl, rfl, rfl, rfl⟩ ?_
        rintro j e M d' ⟨rfl, k, rfl, hk, rfl, hn, h0, h1, h12, h13⟩
        refine W_sound none_ok mixed _ _ _ _ _ ?_
        by_cases hkl : k < l.length
        · obtain ⟨bi, o, v, cap, ex, rfl⟩ := lst_sl hl hkl
          obtain ⟨bj, o2, v2, cap2, ex2, rfl⟩ := lst_sl hm (show k < m.length by omega)
          have hkI : (k : Int) < l.length := by omega
          have hkm : k < m.length := by omega
          have ha := lstV_row hl hkl []
          have hb := lstV_row hm (show k < m.length by omega) []
          rw [List.append_nil] at ha hb
          have ha : rowB (M[bi]?) (o + k * 14) v 14 = some (entE.enc l[k]) := ha
          have hb : rowB (M[bj]?) (o2 + k * 14) v2 14 = some (entE.enc (m[k]'(by omega))) := hb
          simp (maxSteps := 1000000) (disch := omega) only [c43l1, h0, h1, h12, h13, hkI, Int.toNat_natCast, ha, hb, ne_ent, go_sem, Option.map_none, Option.map_some, ↓reduceIte, Nat.reduceBEq, Nat.reduceAdd, Nat.reduceSub, Nat.reduceEqDiff, Nat.reduceLeDiff, Nat.reduceMul, Nat.reduceLT, Int.reduceLT, Int.reduceLE, Int.reduceAdd, Int.reduceSub, Int.reduceMul, Int.reduceNeg, Int.reduceEq, Int.reduceNe, Int.reduceToNat, decide_true, decide_false, iaddr_i, iaddr_sl_i, not_true_eq_false, not_false_eq_true, reduceCtorEq, ne_eq, forall_const, false_imp_iff, true_imp_iff, implies_true, Int.cast_ofNat_Int, Int.natCast_zero, Int.natCast_one, Int.add_zero, Int.zero_add]
          refine ⟨fun hd => wkv_fP ext_refl fun q => hd (by subst q; rfl), fun hd => ⟨l.length - (k + 1), by omega, k + 1, rfl, hkl, fun i hi h1 h2 => ?_, rfl⟩⟩
          by_cases hik : i = k
          · subst hik; exact Decidable.not_not.1 hd
          · exact hn i (by omega) h1 h2
        · have hkI : ¬ (k : Int) < l.length := by omega
          simp (maxSteps := 1000000) (disch := omega) only [c43l1, h0, h1, h12, h13, hkI, go_sem, Option.map_none, Option.map_some, ↓reduceIte, Nat.reduceBEq, Nat.reduceAdd, Nat.reduceSub, Nat.reduceEqDiff, Nat.reduceLeDiff, Nat.reduceMul, Nat.reduceLT, Int.reduceLT, Int.reduceLE, Int.reduceAdd, Int.reduceSub, Int.reduceMul, Int.reduceNeg, Int.reduceEq, Int.reduceNe, Int.reduceToNat, decide_true, decide_false, iaddr_i, iaddr_sl_i, not_true_eq_false, not_false_eq_true, reduceCtorEq, ne_eq, forall_const, false_imp_iff, true_imp_iff, implies_true, Int.cast_ofNat_Int, Int.natCast_zero, Int.natCast_one, Int.add_zero, Int.zero_add]
          exact wkv_tP ext_refl (List.ext_getElem he fun i h1 h2 => hn i (by omega) h1 h2)
      · cases h
    · cases h
  · cases h
theorem eqlE_eq {S : Mem} {x y : AV} {l m} (hl : lstV entE S x = some l) (hm : lstV entE S y = some m) (hn : l.length ≤ 1000000) : eqlES [x, y] S = some (.b (decide (l = m)), S) := by
  simp only [eqlES, hl, hm, if_pos hn]

def eqlPS : Spec := fun args S => match args with
  | [x, y] => match lstV polE S x, lstV polE S y with
    | some l, some m => if l.length ≤ 1000000 then some (.b (decide (l = m)), S) else none
    | _, _ => none
  | _ => none
theorem eqlP_ok : SpecOK Try.prog 76 eqlPS := by
  intro args S x S' h
  simp only [eqlPS] at h
  split at h
  · rename_i s t
    split at h
    · rename_i l m hl hm
      split at h
      · rename_i hlim
        cases h
        refine fn_of_wp f76 rfl (W_sound none_ok mixed _ _ _ _ _ ?_)
        simp (maxSteps := 1000000) (disch := omega) only [c76, lst_len hl, lst_len hm, go_sem, Option.map_none, Option.map_some, ↓reduceIte, Nat.reduceBEq, Nat.reduceAdd, Nat.reduceSub, Nat.reduceEqDiff, Nat.reduceLeDiff, Nat.reduceMul, Nat.reduceLT, Int.reduceLT, Int.reduceLE, Int.reduceAdd, Int.reduceSub, Int.reduceMul, Int.reduceNeg, Int.reduceEq, Int.reduceNe, Int.reduceToNat, decide_true, decide_false, iaddr_i, iaddr_sl_i, not_true_eq_false, not_false_eq_true, reduceCtorEq, ne_eq, forall_const, false_imp_iff, true_imp_iff, implies_true, Int.cast_ofNat_Int, Int.natCast_zero, Int.natCast_one, Int.add_zero, Int.zero_add]
        refine ⟨fun hne => wkv_fP ext_refl fun q => hne (by rw [q]), fun he => ?_⟩
        have he : l.length = m.length := by omega
        refine wp_loop (fun j e M dl => dl = [] ∧ ∃ k : Nat, j = l.length - k ∧ k ≤ l.length ∧ M = S ∧ (∀ i (hi : i < k) (h1 : i < l.length) (h2 : i < m.length), l[i] = m[i]) ∧
          e.get 0 = s ∧ e.get 1 = t ∧ e.get 12 = .i .i64 l.length ∧ e.get 13 = .i .i64 k) (j := l.length) ⟨rfl, 0, rfl, Nat.zero_le _, rfl, fun i hi => absurd hi (Nat.not_lt_zero _), rfl, rfl, rfl, rfl⟩ ?_
        rintro j e M d' ⟨rfl, k, rfl, hk, rfl, hn, h0, h1, h12, h13⟩
        refine W_sound none_ok mixed _ _ _ _ _ ?_
        by_cases hkl : k < l.length
        · obtain ⟨bi, o, v, cap, ex, rfl⟩ := lst_sl hl hkl
          obtain ⟨bj, o2, v2, cap2, ex2, rfl⟩ := lst_sl hm (show k < m.length by omega)
          have hkI : (k : Int) < l.length := by omega
          have hkm : k < m.length := by omega
          have ha := lstV_row hl hkl []
          have hb := lstV_row hm (show k < m.length by omega) []
          rw [List.append_nil] at ha hb
          have ha : rowB (M[bi]?) (o + k * 13) v 13 = some (polE.enc l[k]) := ha
          have hb : rowB (M[bj]?) (o2 + k * 13) v2 13 = some (polE.enc (m[k]'(by omega))) := hb
          simp (maxSteps := 1000000) (disch := omega) only [c76l1, h0, h1, h12, h13, hkI, Int.toNat_natCast, ha, hb, ne_pol, go_sem, Option.map_none, Option.map_some, ↓reduceIte, Nat.reduceBEq, Nat.reduceAdd, Nat.reduceSub, Nat.reduceEqDiff, Nat.reduceLeDiff, Nat.reduceMul, Nat.reduceLT, Int.reduceLT, Int.reduceLE, Int.reduceAdd, Int.reduceSub, Int.reduceMul, Int.reduceNeg, Int.reduceEq, Int.reduceNe, Int.reduceToNat, decide_true, decide_false, iaddr_i, iaddr_sl_i, not_true_eq_false, not_false_eq_true, reduceCtorEq, ne_eq, forall_const, false_imp_iff, true_imp_iff, implies_true, Int.cast_ofNat_Int, Int.natCast_zero, Int.natCast_one, Int.add_zero, Int.zero_add]
          refine ⟨fun hd => wkv_fP ext_refl fun q => hd (by subst q; rfl), fun hd => ⟨l.length - (k + 1), by omega, k + 1, rfl, hkl, fun i hi h1 h2 => ?_, rfl⟩⟩
          by_cases hik : i = k
          · subst hik; exact Decidable.not_not.1 hd
          · exact hn i (by omega) h1 h2
        · have hkI : ¬ (k : Int) < l.length := by omega
          simp (maxSteps := 1000000) (disch := omega) only [c76l1, h0, h1, h12, h13, hkI, go_sem, Option.map_none, Option.map_some, ↓reduceIte, Nat.reduceBEq, Nat.reduceAdd, Nat.reduceSub, Nat.reduceEqDiff, Nat.reduceLeDiff, Nat.reduceMul, Nat.reduceLT, Int.reduceLT, Int.reduceLE, Int.reduceAdd, Int.reduceSub, Int.reduceMul, Int.reduceNeg, Int.reduceEq, Int.reduceNe, Int.reduceToNat, decide_true, decide_false, iaddr_i, iaddr_sl_i, not_true_eq_false, not_false_eq_true, reduceCtorEq, ne_eq, forall_const, false_imp_iff, true_imp_iff, implies_true, Int.cast_ofNat_Int, Int.natCast_zero, Int.natCast_one, Int.add_zero, Int.zero_add]
          exact wkv_tP ext_refl (List.ext_getElem he fun i h1 h2 => hn i (by omega) h1 h2)
      · cases h
    · cases h
  · cases h
theorem eqlP_eq {S : Mem} {x y : AV} {l m} (hl : lstV polE S x = some l) (hm : lstV polE S y = some m) (hn : l.length ≤ 1000000) : eqlPS [x, y] S = some (.b (decide (l = m)), S) := by
  simp only [eqlPS, hl, hm, if_pos hn]

def eqlIS : Spec := fun args S => match args with
  | [x, y] => match lstV (intE .i64) S x, lstV (intE .i64) S y with
    | some l, some m => if l.length ≤ 1000000 then some (.b (decide (l = m)), S) else none
    | _, _ => none
  | _ => none
theorem eqlI_ok : SpecOK Try.prog 77 eqlIS := by
  intro args S x S' h
  simp only [eqlIS] at h
  split at h
  · rename_i s t
    split at h
    · rename_i l m hl hm
      split at h
      · rename_i hlim
        cases h
        refine fn_of_wp f77 rfl (W_sound none_ok mixed _ _ _ _ _ ?_)
        simp (maxSteps := 1000000) (disch := omega) only [c77, lst_len hl, lst_len hm, go_sem, Option.map_none, Option.map_some, ↓reduceIte, Nat.reduceBEq, Nat.reduceAdd, Nat.reduceSub, Nat.reduceEqDiff, Nat.reduceLeDiff, Nat.reduceMul, Nat.reduceLT, Int.reduceLT, Int.reduceLE, Int.reduceAdd, Int.reduceSub, Int.reduceMul, Int.reduceNeg, Int.reduceEq, Int.reduceNe, Int.reduceToNat, decide_true, decide_false, iaddr_i, iaddr_sl_i, not_true_eq_false, not_false_eq_true, reduceCtorEq, ne_eq, forall_const, false_imp_iff, true_imp_iff, implies_true, Int.cast_ofNat_Int, Int.natCast_zero, Int.natCast_one, Int.add_zero, Int.zero_add]
        refine ⟨fun hne => wkv_fP ext_refl fun q => hne (by rw [q]), fun he => ?_⟩
        have he : l.length = m.length := by omega
        refine wp_loop (fun j e M dl => dl = [] ∧ ∃ k : Nat, j = l.length - k ∧ k ≤ l.length ∧ M = S ∧ (∀ i (hi : i < k) (h1 : i < l.length) (h2 : i < m.length), l[i] = m[i]) ∧
          e.get 0 = s ∧ e.get 1 = t ∧ e.get 12 = .i .i64 l.length ∧ e.get 13 = .i .i64 k) (j := l.length) ⟨rfl, 0, rfl, Nat.zero_le _, rfl, fun i hi => absurd hi (Nat.not_lt_zero _), rfl, rfl, rfl, rfl⟩ ?_
        rintro j e M d' ⟨rfl, k, rfl, hk, rfl, hn, h0, h1, h12, h13⟩
        refine W_sound none_ok mixed _ _ _ _ _ ?_
        by_cases hkl : k < l.length
        · obtain ⟨bi, o, v, cap, ex, rfl⟩ := lst_sl hl hkl
          obtain ⟨bj, o2, v2, cap2, ex2, rfl⟩ := lst_sl hm (show k < m.length by omega)
          have hkI : (k : Int) < l.length := by omega
          have hkm : k < m.length := by omega
          have ha := lstV_cell hl rfl (fun a => rfl) hkl []
          have hb := lstV_cell hm rfl (fun a => rfl) (show k < m.length by omega) []
          rw [List.append_nil] at ha hb
          simp (maxSteps := 1000000) (disch := omega) only [c77l1, h0, h1, h12, h13, hkI, Int.toNat_natCast, Nat.mul_one, ha, hb, go_sem, Option.map_none, Option.map_some, ↓reduceIte, Nat.reduceBEq, Nat.reduceAdd, Nat.reduceSub, Nat.reduceEqDiff, Nat.reduceLeDiff, Nat.reduceMul, Nat.reduceLT, Int.reduceLT, Int.reduceLE, Int.reduceAdd, Int.reduceSub, Int.reduceMul, Int.reduceNeg, Int.reduceEq, Int.reduceNe, Int.reduceToNat, decide_true, decide_false, iaddr_i, iaddr_sl_i, not_true_eq_false, not_false_eq_true, reduceCtorEq, ne_eq, forall_const, false_imp_iff, true_imp_iff, implies_true, Int.cast_ofNat_Int, Int.natCast_zero, Int.natCast_one, Int.add_zero, Int.zero_add]
          refine ⟨fun hd => wkv_fP ext_refl fun q => hd (by subst q; rfl), fun hd => ⟨l.length - (k + 1), by omega, k + 1, rfl, hkl, fun i hi h1 h2 => ?_, rfl⟩⟩
          by_cases hik : i = k
          · subst hik; exact Decidable.not_not.1 hd
          · exact hn i (by omega) h1 h2
        · have hkI : ¬ (k : Int) < l.length := by omega
          simp (maxSteps := 1000000) (disch := omega) only [c77l1, h0, h1, h12, h13, hkI, go_sem, Option.map_none, Option.map_some, ↓reduceIte, Nat.reduceBEq, Nat.reduceAdd, Nat.reduceSub, Nat.reduceEqDiff, Nat.reduceLeDiff, Nat.reduceMul, Nat.reduceLT, Int.reduceLT, Int.reduceLE, Int.reduceAdd, Int.reduceSub, Int.reduceMul, Int.reduceNeg, Int.reduceEq, Int.reduceNe, Int.reduceToNat, decide_true, decide_false, iaddr_i, iaddr_sl_i, not_true_eq_false, not_false_eq_true, reduceCtorEq, ne_eq, forall_const, false_imp_iff, true_imp_iff, implies_true, Int.cast_ofNat_Int, Int.natCast_zero, Int.natCast_one, Int.add_zero, Int.zero_add]
          exact wkv_tP ext_refl (List.ext_getElem he fun i h1 h2 => hn i (by omega) h1 h2)
      · cases h
    · cases h
  · cases h
theorem eqlI_eq {S : Mem} {x y : AV} {l m} (hl : lstV (intE .i64) S x = some l) (hm : lstV (intE .i64) S y = some m) (hn : l.length ≤ 1000000) : eqlIS [x, y] S = some (.b (decide (l = m)), S) := by
  simp only [eqlIS, hl, hm, if_pos hn]
end Go.Proofs.Ytapgkaecamljbaa

namespace Go.Proofs.Ytapgkaecamljbaa
open Go.RowKit
set_option linter.unusedSimpArgs false
set_option linter.unusedVariables false
set_option maxRecDepth 10000

/-! ### place -/
def hasSub (n : Int) : Ent → Bool := fun x => decide (x.pol.sub = n)
def placeS : Spec := fun args S => match args with
  | [x, .i .i64 n] => match lstV entE S x with
    | some l => if l.length ≤ 1000000 then some (.i .i64 (idx (hasSub n) l), S) else none
    | none => none
  | _ => none
theorem oPlace_ok : OK Try.prog (lamOf Try.prog) (orcOf [(60, idxES)]) := orc_ok (by simpa using idxE_ok)
theorem place_ok : SpecOK Try.prog 41 placeS := by
  intro args S x S' h
  simp only [placeS] at h
  split at h
  · rename_i s n
    split at h
    · rename_i l hl
      split at h
      · rename_i hlim
        cases h
        have hc : idxES [s, .f (.func 66) [] [.p S.length 0 0]] (S ++ [.cells [.i .i64 n] 0 none true]) = some (.i .i64 (idx (hasSub n) l), S ++ [.cells [.i .i64 n] 0 none true]) :=
          idxE_eq (lstV_grow hl _) (predE_sub (by rw [at_app0]; rfl)) hlim
        refine fn_of_wp f41 rfl (W_sound oPlace_ok mixed _ _ _ _ _ ?_)
        simp (maxSteps := 1000000) (disch := omega) only [c41, orc_cons, hc, go_sem, Option.map_none, Option.map_some, ↓reduceIte, Nat.reduceBEq, Nat.reduceAdd, Nat.reduceSub, Nat.reduceEqDiff, Nat.reduceLeDiff, Nat.reduceMul, Nat.reduceLT, Int.reduceLT, Int.reduceLE, Int.reduceAdd, Int.reduceSub, Int.reduceMul, Int.reduceNeg, Int.reduceEq, Int.reduceNe, Int.reduceToNat, decide_true, decide_false, iaddr_i, iaddr_sl_i, not_true_eq_false, not_false_eq_true, reduceCtorEq, ne_eq, forall_const, false_imp_iff, true_imp_iff, implies_true, Int.cast_ofNat_Int, Int.natCast_zero, Int.natCast_one, Int.add_zero, Int.zero_add]
        exact wkv_drop rfl
      · cases h
    · cases h
  · cases h
theorem place_eq {S : Mem} {x : AV} {l : List Ent} (hl : lstV entE S x = some l) (n : Int) (h : l.length ≤ 1000000) : placeS [x, .i .i64 n] S = some (.i .i64 (idx (hasSub n) l), S) := by
  simp only [placeS, hl, if_pos h]

/-! ### policies -/
def polsOf (l : List Ent) : List Pol := l.map Ent.pol
def policiesS : Spec := fun args S => match args with
  | [x] => match lstV entE S x with
    | some l => if l.length ≤ 1000000 then some (retX false S (polsOf l), retM false polE S (polsOf l)) else none
    | none => none
  | _ => none
theorem policies_ok : SpecOK Try.prog 34 policiesS := by
  intro args S x S' h
  simp only [policiesS] at h
  split at h
  · rename_i s
    split at h
    · rename_i l hl
      split at h
      · rename_i hlim
        cases h
        refine fn_of_wp f34 rfl (W_sound none_ok mixed _ _ _ _ _ ?_)
        simp (maxSteps := 1000000) (disch := omega) only [c34, lst_len hl, go_sem, Option.map_none, Option.map_some, ↓reduceIte, Nat.reduceBEq, Nat.reduceAdd, Nat.reduceSub, Nat.reduceEqDiff, Nat.reduceLeDiff, Nat.reduceMul, Nat.reduceLT, Int.reduceLT, Int.reduceLE, Int.reduceAdd, Int.reduceSub, Int.reduceMul, Int.reduceNeg, Int.reduceEq, Int.reduceNe, Int.reduceToNat, decide_true, decide_false, iaddr_i, iaddr_sl_i, not_true_eq_false, not_false_eq_true, reduceCtorEq, ne_eq, forall_const, false_imp_iff, true_imp_iff, implies_true, Int.cast_ofNat_Int, Int.natCast_zero, Int.natCast_one, Int.add_zero, Int.zero_add]
        refine wp_loop (fun j e M dl => dl = [] ∧ ∃ (k : Nat) (x : AV), j = l.length - k ∧ k ≤ l.length ∧ Acc false polE S M x (polsOf (l.take k)) ∧
          e.get 6 = s ∧ e.get 7 = .i .i64 l.length ∧ e.get 8 = .i .i64 k ∧ e.get 3 = x) (j := l.length) ⟨rfl, 0, .sn, rfl, Nat.zero_le _, acc_nil ext_refl, rfl, rfl, rfl, rfl⟩ ?_
        rintro j e M d' ⟨rfl, k, x, rfl, hk, hx, h6, h7, h8, h3⟩
        refine W_sound none_ok mixed _ _ _ _ _ ?_
        by_cases hkl : k < l.length
        · obtain ⟨bi, o, v, cap, ex, rfl⟩ := lst_sl hl hkl
          have hM := lst_ext hl hx.ext
          have hr : ∀ L, rowB ((M ++ L)[bi]?) (o + k * 14) v 14 = some (entE.enc l[k]) := lstV_row hM hkl
          have hr0 := hr []
          rw [List.append_nil] at hr0
          have hkI : (k : Int) < l.length := by omega
          have hw : wrapV .i64 ((k : Int) + 1) = ((k + 1 : Nat) : Int) := by rw [wrap_i64 (by omega) (by omega)]; omega
          have hlen : (polsOf (l.take k)).length = k := by unfold polsOf; rw [List.length_map, List.length_take]; omega
          obtain ⟨x', M', ha, hx'⟩ := Acc.app (bytes := 80) polE_one (hx.grow [.cells (entE.enc l[k]) 0 none true, .cells (polE.enc l[k].pol) 0 none true]) l[k].pol (by rw [hlen]; omega) (by rw [hlen]; omega)
          simp only [entE, polE, Ent.enc, Pol.enc] at hr0 ha
          simp (maxSteps := 1000000) (disch := omega) only [c34l0, h3, h6, h7, h8, hkI, Int.toNat_natCast, hr0, src_sl, srcN_some, ha, hw, List.replicate, go_sem, Option.map_none, Option.map_some, ↓reduceIte, Nat.reduceBEq, Nat.reduceAdd, Nat.reduceSub, Nat.reduceEqDiff, Nat.reduceLeDiff, Nat.reduceMul, Nat.reduceLT, Int.reduceLT, Int.reduceLE, Int.reduceAdd, Int.reduceSub, Int.reduceMul, Int.reduceNeg, Int.reduceEq, Int.reduceNe, Int.reduceToNat, decide_true, decide_false, iaddr_i, iaddr_sl_i, not_true_eq_false, not_false_eq_true, reduceCtorEq, ne_eq, forall_const, false_imp_iff, true_imp_iff, implies_true, Int.cast_ofNat_Int, Int.natCast_zero, Int.natCast_one, Int.add_zero, Int.zero_add]
          refine ⟨l.length - (k + 1), by omega, k + 1, x', rfl, hkl, ?_, rfl, rfl⟩
          rw [show polsOf (l.take (k + 1)) = polsOf (l.take k) ++ [l[k].pol] by unfold polsOf; rw [List.take_succ_eq_append_getElem hkl, List.map_append]; rfl]
          exact hx'
        · have hkI : ¬ (k : Int) < l.length := by omega
          simp (maxSteps := 1000000) (disch := omega) only [c34l0, h3, h6, h7, h8, hkI, go_sem, Option.map_none, Option.map_some, ↓reduceIte, Nat.reduceBEq, Nat.reduceAdd, Nat.reduceSub, Nat.reduceEqDiff, Nat.reduceLeDiff, Nat.reduceMul, Nat.reduceLT, Int.reduceLT, Int.reduceLE, Int.reduceAdd, Int.reduceSub, Int.reduceMul, Int.reduceNeg, Int.reduceEq, Int.reduceNe, Int.reduceToNat, decide_true, decide_false, iaddr_i, iaddr_sl_i, not_true_eq_false, not_false_eq_true, reduceCtorEq, ne_eq, forall_const, false_imp_iff, true_imp_iff, implies_true, Int.cast_ofNat_Int, Int.natCast_zero, Int.natCast_one, Int.add_zero, Int.zero_add]
          rw [List.take_of_length_le (by omega)] at hx
          exact hx.ret polE_flat
      · cases h
    · cases h
  · cases h
theorem policies_eq {S : Mem} {x : AV} {l : List Ent} (hl : lstV entE S x = some l) (h : l.length ≤ 1000000) : policiesS [x] S = some (retX false S (polsOf l), retM false polE S (polsOf l)) := by
  simp only [policiesS, hl, if_pos h]

/-! ### slices.Clone -/
def nz : AV → Bool
  | .sn => false
  | _ => true
def cloneES : Spec := fun args S => match args with
  | [x] => match lstV entE S x with
    | some l => if l.length ≤ 1000000 then some (retX (nz x) S l, retM (nz x) entE S l) else none
    | none => none
  | _ => none
theorem cloneE_ok : SpecOK Try.prog 27 cloneES := by
  intro args S x S' h
  simp only [cloneES] at h
  split at h
  · rename_i s
    split at h
    · rename_i l hl
      split at h
      · rename_i hlim
        cases h
        refine fn_of_wp f27 rfl (W_sound none_ok mixed _ _ _ _ _ ?_)
        rcases lstV_lst hl with ⟨rfl, rfl⟩ | ⟨rfl, rfl⟩ | ⟨i, o, v, len, cap, ex, rfl, rfl, hrow⟩
        · simp (maxSteps := 1000000) (disch := omega) only [c27, bin_sleql_nn, go_sem, Option.map_none, Option.map_some, ↓reduceIte, Nat.reduceBEq, Nat.reduceAdd, Nat.reduceSub, Nat.reduceEqDiff, Nat.reduceLeDiff, Nat.reduceMul, Nat.reduceLT, Int.reduceLT, Int.reduceLE, Int.reduceAdd, Int.reduceSub, Int.reduceMul, Int.reduceNeg, Int.reduceEq, Int.reduceNe, Int.reduceToNat, decide_true, decide_false, iaddr_i, iaddr_sl_i, not_true_eq_false, not_false_eq_true, reduceCtorEq, ne_eq, forall_const, false_imp_iff, true_imp_iff, implies_true, Int.cast_ofNat_Int, Int.natCast_zero, Int.natCast_one, Int.add_zero, Int.zero_add]
          exact wkv_same
        · simp (maxSteps := 1000000) (disch := omega) only [c27, bin_sleql_en, zerosV_zero, go_sem, Option.map_none, Option.map_some, ↓reduceIte, Nat.reduceBEq, Nat.reduceAdd, Nat.reduceSub, Nat.reduceEqDiff, Nat.reduceLeDiff, Nat.reduceMul, Nat.reduceLT, Int.reduceLT, Int.reduceLE, Int.reduceAdd, Int.reduceSub, Int.reduceMul, Int.reduceNeg, Int.reduceEq, Int.reduceNe, Int.reduceToNat, decide_true, decide_false, iaddr_i, iaddr_sl_i, not_true_eq_false, not_false_eq_true, reduceCtorEq, ne_eq, forall_const, false_imp_iff, true_imp_iff, implies_true, Int.cast_ofNat_Int, Int.natCast_zero, Int.natCast_one, Int.add_zero, Int.zero_add]
          exact (acc_lit ext_refl).ret entE_flat
        · have hrow2 : ∀ L, rowB ((S ++ L)[i]?) o v (l.length * 14) = some (l.flatMap entE.enc) := fun L => by
            rw [← rowAt_B]; exact rowAt_grow L hrow
          obtain ⟨x', M', ha, hx'⟩ := Acc.apps (bytes := 88) (z := true) (E := entE) (S := S) entE_one (acc_lit ext_refl) l (by simp only [List.length_nil]; omega) (by simp only [List.length_nil]; omega)
          rw [List.nil_append] at hx'
          have ha : appV (S ++ [.cells [] 0 none true]) 14 88 (.sl S.length 0 0 0 0 true) (l.flatMap entE.enc) l.length = some (x', M') := ha
          simp (maxSteps := 1000000) (disch := omega) only [c27, bin_sleql_sn, zerosV_zero, src_sl, srcN_some, hrow2, ha, go_sem, Option.map_none, Option.map_some, ↓reduceIte, Nat.reduceBEq, Nat.reduceAdd, Nat.reduceSub, Nat.reduceEqDiff, Nat.reduceLeDiff, Nat.reduceMul, Nat.reduceLT, Int.reduceLT, Int.reduceLE, Int.reduceAdd, Int.reduceSub, Int.reduceMul, Int.reduceNeg, Int.reduceEq, Int.reduceNe, Int.reduceToNat, decide_true, decide_false, iaddr_i, iaddr_sl_i, not_true_eq_false, not_false_eq_true, reduceCtorEq, ne_eq, forall_const, false_imp_iff, true_imp_iff, implies_true, Int.cast_ofNat_Int, Int.natCast_zero, Int.natCast_one, Int.add_zero, Int.zero_add]
          exact hx'.ret entE_flat
      · cases h
    · cases h
  · cases h
theorem cloneE_eq {S : Mem} {x : AV} {l : List Ent} (hl : lstV entE S x = some l) (h : l.length ≤ 1000000) : cloneES [x] S = some (retX (nz x) S l, retM (nz x) entE S l) := by
  simp only [cloneES, hl, if_pos h]

/-! ### book.Right -/
structure Bk where
  period : Int
  entries : List Ent
  deriving DecidableEq
def Bk.ok (b : Bk) : Prop := 1 ≤ b.period ∧ b.period ≤ 281474976710656 ∧ Pols (polsOf b.entries) ∧ ∀ x ∈ b.entries, x.granted ≤ 281474976710656
noncomputable instance (b : Bk) : Decidable b.ok := Classical.propDecidable _
def Bk.fits (b : Bk) : Prop := b.entries.length ≤ 1000000 ∧ ∀ x ∈ b.entries, x.pol.fits
instance (b : Bk) : Decidable b.fits := by unfold Bk.fits; infer_instance
def bookOf (S : Mem) (cs : List AV) : Option Bk := match cs with
  | [.i .u64 p, x] => match lstV entE S x with
    | some l => some ⟨p, l⟩
    | none => none
  | _ => none
theorem bookOf_ok {S : Mem} {cs : List AV} {b : Bk} (h : bookOf S cs = some b) : ∃ x, cs = [.i .u64 b.period, x] ∧ lstV entE S x = some b.entries := by
  unfold bookOf at h
  split at h
  · split at h
    · rename_i hl; cases h; exact ⟨_, rfl, hl⟩
    · cases h
  · cases h
theorem bookOf_mk {S : Mem} {x : AV} {p : Int} {l : List Ent} (h : lstV entE S x = some l) : bookOf S [.i .u64 p, x] = some ⟨p, l⟩ := by
  simp only [bookOf, h]
noncomputable def brightS : Spec := fun args S => match args with
  | [.ag cs] => match bookOf S cs with
    | some b => if b.fits then some (.b (decide b.ok), S) else none
    | none => none
  | _ => none
theorem allPS_eq {S : Mem} {x : AV} {l : List Pol} (hl : lstV polE S x = some l) (hf : ∀ p ∈ l, p.fits) : allPS [x] S = some (.i .i64 (allE l), S) := by
  have : l.all (fun p => decide p.fits) = true := List.all_eq_true.2 fun p hp => decide_eq_true (hf p hp)
  simp only [allPS, hl, if_pos this]
theorem allE_zero {l : List Pol} : (allE l = 0) = Pols l := by
  unfold allE; split
  · simpa
  · simpa
theorem oBr_ok : OK Try.prog (lamOf Try.prog) (orcOf [(34, policiesS), (33, allPS), (35, hasES)]) := orc_ok (by simpa using ⟨policies_ok, all_ok, hasE_ok⟩)
theorem bright_ok : SpecOK Try.prog 16 brightS := by
  intro args S x S' h
  simp only [brightS] at h
  split at h
  · rename_i cs
    split at h
    · rename_i b hb
      split at h
      · rename_i hf
        cases h
        obtain ⟨s, rfl, hl⟩ := bookOf_ok hb
        obtain ⟨p, l⟩ := b
        have hl1 : lstV entE (S ++ [.cells [.i .u64 p, s] 0 none true]) s = some l := lstV_grow hl _
        have hp := policies_eq hl1 hf.1
        have hq := allPS_eq (retX_lst (z := false) (E := polE) (S := S ++ [.cells [.i .u64 p, s] 0 none true]) (l := polsOf l)) (fun q hq => by
          obtain ⟨x, hx, rfl⟩ := List.mem_map.1 hq; exact hf.2 x hx)
        have hext : S <+: retM false polE (S ++ [.cells [.i .u64 p, s] 0 none true]) (polsOf l) := (ext_app _).trans retM_ext
        have hl2 : lstV entE (retM false polE (S ++ [.cells [.i .u64 p, s] 0 none true]) (polsOf l)) s = some l := lst_ext hl1 retM_ext
        have hh := hasE_eq hl2 (predE_more) hf.1
        have hcell : cellB ((retM false polE (S ++ [.cells [.i .u64 p, s] 0 none true]) (polsOf l))[S.length]?) 1 0 = some s := by
          obtain ⟨T, hT⟩ := (retM_ext (z := false) (E := polE) (S := S ++ [.cells [.i .u64 p, s] 0 none true]) (l := polsOf l))
          rw [← hT, List.append_assoc, at_app0]; rfl
        refine fn_of_wp f16 rfl (W_sound oBr_ok mixed _ _ _ _ _ ?_)
        simp (maxSteps := 1000000) (disch := omega) only [c16, lst_len hl, orc_cons, hp, hq, hh, hcell, un_not_b, go_sem, Option.map_none, Option.map_some, ↓reduceIte, Nat.reduceBEq, Nat.reduceAdd, Nat.reduceSub, Nat.reduceEqDiff, Nat.reduceLeDiff, Nat.reduceMul, Nat.reduceLT, Int.reduceLT, Int.reduceLE, Int.reduceAdd, Int.reduceSub, Int.reduceMul, Int.reduceNeg, Int.reduceEq, Int.reduceNe, Int.reduceToNat, decide_true, decide_false, iaddr_i, iaddr_sl_i, not_true_eq_false, not_false_eq_true, reduceCtorEq, ne_eq, forall_const, false_imp_iff, true_imp_iff, implies_true, Int.cast_ofNat_Int, Int.natCast_zero, Int.natCast_one, Int.add_zero, Int.zero_add]
        have hlp : (polsOf l).length = l.length := by unfold polsOf; simp
        refine ⟨fun h1 => ⟨fun h2 => ⟨fun h3 => ⟨fun h4 => ?_, fun h4 => ?_⟩, fun h3 => ?_⟩, fun h2 => ?_⟩, fun h1 => ?_⟩
        · exact wkv_fP hext fun q => h4 (by rw [allE_zero]; exact q.2.2.1)
        · rw [Decidable.not_not, allE_zero] at h4
          refine wkv_eqP hext ?_ rfl
          congr 1
          rw [Bool.eq_iff_iff, decide_eq_true_iff, Bool.not_eq_true', List.any_eq_false]
          refine ⟨fun q x hx => ?_, fun q => ⟨(by show (1 : Int) ≤ p; omega), (by show p ≤ _; omega), h4, fun x hx => ?_⟩⟩
          · have := q.2.2.2 x hx; simp only [decide_eq_true_eq]; omega
          · have := q x hx; simp only [decide_eq_true_eq] at this; omega
        · refine wkv_f fun q => ?_
          have := q.2.2.1.1; simp only at this; omega
        · exact wkv_f fun q => by have := q.2.1; simp only at this; omega
        · exact wkv_f fun q => by have := q.1; simp only at this; omega
      · cases h
    · cases h
  · cases h
end Go.Proofs.Ytapgkaecamljbaa

namespace Go.Proofs.Ytapgkaecamljbaa
open Go.RowKit
set_option linter.unusedSimpArgs false
set_option linter.unusedVariables false
set_option maxRecDepth 10000

def fndIS : Spec := fun args S => match args with
  | [x, .i .i64 n] => match lstV (intE .i64) S x with
    | some l => if l.length ≤ 1000000 then some (.i .i64 (idx (fun y => decide (n = y)) l), S) else none
    | _ => none
  | _ => none
theorem fndI_ok : SpecOK Try.prog 88 fndIS := by
  intro args S x S' h
  simp only [fndIS] at h
  split at h
  · rename_i s n
    split at h
    · rename_i l hl
      split at h
      · rename_i hlim
        cases h
        refine fn_of_wp f88 rfl (W_sound none_ok mixed _ _ _ _ _ ?_)
        simp (maxSteps := 1000000) (disch := omega) only [c88, lst_len hl, go_sem, Option.map_none, Option.map_some, ↓reduceIte, Nat.reduceBEq, Nat.reduceAdd, Nat.reduceSub, Nat.reduceEqDiff, Nat.reduceLeDiff, Nat.reduceMul, Nat.reduceLT, Int.reduceLT, Int.reduceLE, Int.reduceAdd, Int.reduceSub, Int.reduceMul, Int.reduceNeg, Int.reduceEq, Int.reduceNe, Int.reduceToNat, decide_true, decide_false, iaddr_i, iaddr_sl_i, not_true_eq_false, not_false_eq_true, reduceCtorEq, ne_eq, forall_const, false_imp_iff, true_imp_iff, implies_true, Int.cast_ofNat_Int, Int.natCast_zero, Int.natCast_one, Int.add_zero, Int.zero_add]
        refine wp_loop (fun j e M dl => dl = [] ∧ ∃ k : Nat, j = l.length - k ∧ k ≤ l.length ∧ M = S ∧ (∀ i (hi : i < k) (hl : i < l.length), decide (n = l[i]) = false) ∧
          e.get 0 = s ∧ e.get 1 = .i .i64 n ∧ e.get 7 = .i .i64 l.length ∧ e.get 8 = .i .i64 k) (j := l.length) ⟨rfl, 0, rfl, Nat.zero_le _, rfl, fun i hi => absurd hi (Nat.not_lt_zero _), rfl, rfl, rfl, rfl⟩ ?_
        rintro j e M d' ⟨rfl, k, rfl, hk, rfl, hn, h0, h1, h7, h8⟩
        refine W_sound none_ok mixed _ _ _ _ _ ?_
        by_cases hkl : k < l.length
        · obtain ⟨bi, o, v, cap, ex, rfl⟩ := lst_sl hl hkl
          have hc := lstV_cell hl rfl (fun a => rfl) hkl []
          rw [List.append_nil] at hc
          have hkI : (k : Int) < l.length := by omega
          simp (maxSteps := 1000000) (disch := omega) only [c88l0, h0, h1, h7, h8, hkI, Int.toNat_natCast, Nat.mul_one, hc, go_sem, Option.map_none, Option.map_some, ↓reduceIte, Nat.reduceBEq, Nat.reduceAdd, Nat.reduceSub, Nat.reduceEqDiff, Nat.reduceLeDiff, Nat.reduceMul, Nat.reduceLT, Int.reduceLT, Int.reduceLE, Int.reduceAdd, Int.reduceSub, Int.reduceMul, Int.reduceNeg, Int.reduceEq, Int.reduceNe, Int.reduceToNat, decide_true, decide_false, iaddr_i, iaddr_sl_i, not_true_eq_false, not_false_eq_true, reduceCtorEq, ne_eq, forall_const, false_imp_iff, true_imp_iff, implies_true, Int.cast_ofNat_Int, Int.natCast_zero, Int.natCast_one, Int.add_zero, Int.zero_add]
          refine ⟨fun hp => ?_, fun hp => ⟨l.length - (k + 1), by omega, k + 1, rfl, hkl, fun i hi hil => ?_, rfl⟩⟩
          · rw [idx_at hkl (decide_eq_true hp) fun j hj => hn j hj (by omega)]
            exact wkv_same
          · by_cases hik : i = k
            · subst hik; exact decide_eq_false hp
            · exact hn i (by omega) hil
        · have hkI : ¬ (k : Int) < l.length := by omega
          simp (maxSteps := 1000000) (disch := omega) only [c88l0, h0, h1, h7, h8, hkI, go_sem, Option.map_none, Option.map_some, ↓reduceIte, Nat.reduceBEq, Nat.reduceAdd, Nat.reduceSub, Nat.reduceEqDiff, Nat.reduceLeDiff, Nat.reduceMul, Nat.reduceLT, Int.reduceLT, Int.reduceLE, Int.reduceAdd, Int.reduceSub, Int.reduceMul, Int.reduceNeg, Int.reduceEq, Int.reduceNe, Int.reduceToNat, decide_true, decide_false, iaddr_i, iaddr_sl_i, not_true_eq_false, not_false_eq_true, reduceCtorEq, ne_eq, forall_const, false_imp_iff, true_imp_iff, implies_true, Int.cast_ofNat_Int, Int.natCast_zero, Int.natCast_one, Int.add_zero, Int.zero_add]
          rw [idx_none fun j hj => hn j (by omega) hj]
          exact wkv_same
      · cases h
    · cases h
  · cases h
theorem fndI_eq {S : Mem} {x : AV} {l} (hl : lstV (intE .i64) S x = some l) (n : Int) (hn : l.length ≤ 1000000) : fndIS [x, .i .i64 n] S = some (.i .i64 (idx (fun y => decide (n = y)) l), S) := by
  simp only [fndIS, hl, if_pos hn]
def inIS : Spec := fun args S => match args with
  | [x, .i .i64 n] => match lstV (intE .i64) S x with
    | some l => if l.length ≤ 1000000 then some (.b (decide (n ∈ l)), S) else none
    | _ => none
  | _ => none
theorem oInI_ok : OK Try.prog (lamOf Try.prog) (orcOf [(88, fndIS)]) := orc_ok (by simpa using fndI_ok)
theorem inI_ok : SpecOK Try.prog 75 inIS := by
  intro args S x S' h
  simp only [inIS] at h
  split at h
  · rename_i s n
    split at h
    · rename_i l hl
      split at h
      · rename_i hlim
        cases h
        have hi := fndI_eq hl n hlim
        refine fn_of_wp f75 rfl (W_sound oInI_ok mixed _ _ _ _ _ ?_)
        simp (maxSteps := 1000000) (disch := omega) only [c75, orc_cons, hi, go_sem, Option.map_none, Option.map_some, ↓reduceIte, Nat.reduceBEq, Nat.reduceAdd, Nat.reduceSub, Nat.reduceEqDiff, Nat.reduceLeDiff, Nat.reduceMul, Nat.reduceLT, Int.reduceLT, Int.reduceLE, Int.reduceAdd, Int.reduceSub, Int.reduceMul, Int.reduceNeg, Int.reduceEq, Int.reduceNe, Int.reduceToNat, decide_true, decide_false, iaddr_i, iaddr_sl_i, not_true_eq_false, not_false_eq_true, reduceCtorEq, ne_eq, forall_const, false_imp_iff, true_imp_iff, implies_true, Int.cast_ofNat_Int, Int.natCast_zero, Int.natCast_one, Int.add_zero, Int.zero_add]
        refine wkv_bP ext_refl ?_
        rw [idx_ge, List.any_eq_true]
        exact ⟨fun hm => ⟨n, hm, by simp⟩, fun ⟨y, hy, hp⟩ => by rw [decide_eq_true_eq] at hp; rw [hp]; exact hy⟩
      · cases h
    · cases h
  · cases h
theorem inI_eq {S : Mem} {x : AV} {l} (hl : lstV (intE .i64) S x = some l) (n : Int) (hn : l.length ≤ 1000000) : inIS [x, .i .i64 n] S = some (.b (decide (n ∈ l)), S) := by
  simp only [inIS, hl, if_pos hn]

structure Evt where
  kind : Int
  sub : Int
  puts : List Pol
  drops : List Int
  granted : Int
  period : Int
  deriving DecidableEq
def evtOf (S : Mem) (cs : List AV) : Option Evt := match cs with
  | [.i .i64 k, .i .i64 s, xp, xd, .i .u64 g, .i .u64 p] => match lstV polE S xp, lstV (intE .i64) S xd with
    | some ps, some ds => some ⟨k, s, ps, ds, g, p⟩
    | _, _ => none
  | _ => none
theorem evtOf_ok {S : Mem} {cs : List AV} {e : Evt} (h : evtOf S cs = some e) : ∃ xp xd, cs = [.i .i64 e.kind, .i .i64 e.sub, xp, xd, .i .u64 e.granted, .i .u64 e.period] ∧ lstV polE S xp = some e.puts ∧ lstV (intE .i64) S xd = some e.drops := by
  unfold evtOf at h
  split at h
  · split at h
    · rename_i h1 h2; cases h; exact ⟨_, _, rfl, h1, h2⟩
    · cases h
  · cases h
theorem evtOf_mk {S : Mem} {xp xd : AV} {k s g p : Int} {ps : List Pol} {ds : List Int} (h1 : lstV polE S xp = some ps) (h2 : lstV (intE .i64) S xd = some ds) : evtOf S [.i .i64 k, .i .i64 s, xp, xd, .i .u64 g, .i .u64 p] = some ⟨k, s, ps, ds, g, p⟩ := by
  simp only [evtOf, h1, h2]
theorem evtOf_ext {S M : Mem} {cs : List AV} {e : Evt} (h : evtOf S cs = some e) (hS : S <+: M) : evtOf M cs = some e := by
  obtain ⟨xp, xd, rfl, h1, h2⟩ := evtOf_ok h
  exact evtOf_mk (lst_ext h1 hS) (lst_ext h2 hS)
def Evt.fits (e : Evt) : Prop := e.puts.length ≤ 1000000 ∧ e.drops.length ≤ 1000000 ∧ ∀ p ∈ e.puts, p.fits
instance (e : Evt) : Decidable e.fits := by unfold Evt.fits; infer_instance

/-! ### Same -/
def esameS : Spec := fun args S => match args with
  | [.ag c1, .ag c2] => match evtOf S c1, evtOf S c2 with
    | some a, some b => if a.fits then some (.b (decide (a = b)), S) else none
    | _, _ => none
  | _ => none
theorem oSame_ok : OK Try.prog (lamOf Try.prog) (orcOf [(76, eqlPS), (77, eqlIS)]) := orc_ok (by simpa using ⟨eqlP_ok, eqlI_ok⟩)
theorem esame_ok : SpecOK Try.prog 50 esameS := by
  intro args S x S' h
  simp only [esameS] at h
  split at h
  · rename_i c1 c2
    split at h
    · rename_i a b ha hb
      split at h
      · rename_i hf
        cases h
        obtain ⟨p1, d1, rfl, hp1, hd1⟩ := evtOf_ok ha
        obtain ⟨p2, d2, rfl, hp2, hd2⟩ := evtOf_ok hb
        have e1 := fun L => eqlP_eq (lstV_grow hp1 L) (lstV_grow hp2 L) hf.1
        have e2 := fun L => eqlI_eq (lstV_grow hd1 L) (lstV_grow hd2 L) hf.2.1
        refine fn_of_wp f50 rfl (W_sound oSame_ok mixed _ _ _ _ _ ?_)
        simp (maxSteps := 1000000) (disch := omega) only [c50, orc_cons, e1, e2, go_sem, Option.map_none, Option.map_some, ↓reduceIte, Nat.reduceBEq, Nat.reduceAdd, Nat.reduceSub, Nat.reduceEqDiff, Nat.reduceLeDiff, Nat.reduceMul, Nat.reduceLT, Int.reduceLT, Int.reduceLE, Int.reduceAdd, Int.reduceSub, Int.reduceMul, Int.reduceNeg, Int.reduceEq, Int.reduceNe, Int.reduceToNat, decide_true, decide_false, iaddr_i, iaddr_sl_i, not_true_eq_false, not_false_eq_true, reduceCtorEq, ne_eq, forall_const, false_imp_iff, true_imp_iff, implies_true, Int.cast_ofNat_Int, Int.natCast_zero, Int.natCast_one, Int.add_zero, Int.zero_add]
        obtain ⟨k1, s1, ps1, ds1, g1, q1⟩ := a
        obtain ⟨k2, s2, ps2, ds2, g2, q2⟩ := b
        simp only [Evt.mk.injEq]
        refine ⟨fun h1 => ⟨fun h2 => ⟨fun h3 => ⟨fun h4 => ⟨fun h5 => wkv_b ?_, fun h5 => wkv_f ?_⟩, fun h4 => wkv_f ?_⟩, fun h3 => wkv_f ?_⟩, fun h2 => wkv_f ?_⟩, fun h1 => wkv_f ?_⟩
        · exact ⟨fun q => q.2.2.2.1, fun q => ⟨h1, h2, h5, q, h3, h4⟩⟩
        · exact fun q => h5 q.2.2.1
        · exact fun q => h4 q.2.2.2.2.2
        · exact fun q => h3 q.2.2.2.2.1
        · exact fun q => h2 q.2.1
        · exact fun q => h1 q.1
      · cases h
    · cases h
  · cases h
theorem esame_eq {S : Mem} {c1 c2 : List AV} {a b : Evt} (ha : evtOf S c1 = some a) (hb : evtOf S c2 = some b) (hf : a.fits) : esameS [.ag c1, .ag c2] S = some (.b (decide (a = b)), S) := by
  simp only [esameS, ha, hb, if_pos hf]

/-! ### sub, value -/
def subOk (n : Int) : Prop := 1 ≤ n ∧ n ≤ 255
instance (n : Int) : Decidable (subOk n) := by unfold subOk; infer_instance
def valOk (n : Int) : Prop := 1 ≤ n ∧ n ≤ 281474976710656
instance (n : Int) : Decidable (valOk n) := by unfold valOk; infer_instance
def subS : Spec := fun args S => match args with
  | [.i .i64 n] => some (.b (decide (subOk n)), S)
  | _ => none
def valueS : Spec := fun args S => match args with
  | [.i .u64 n] => some (.b (decide (valOk n)), S)
  | _ => none
theorem sub_ok : SpecOK Try.prog 51 subS := by
  intro args S x S' h
  simp only [subS] at h
  split at h
  · cases h
    refine fn_of_wp f51 rfl (W_sound none_ok mixed _ _ _ _ _ ?_)
    simp (maxSteps := 1000000) (disch := omega) only [c51, go_sem, Option.map_none, Option.map_some, ↓reduceIte, Nat.reduceBEq, Nat.reduceAdd, Nat.reduceSub, Nat.reduceEqDiff, Nat.reduceLeDiff, Nat.reduceMul, Nat.reduceLT, Int.reduceLT, Int.reduceLE, Int.reduceAdd, Int.reduceSub, Int.reduceMul, Int.reduceNeg, Int.reduceEq, Int.reduceNe, Int.reduceToNat, decide_true, decide_false, iaddr_i, iaddr_sl_i, not_true_eq_false, not_false_eq_true, reduceCtorEq, ne_eq, forall_const, false_imp_iff, true_imp_iff, implies_true, Int.cast_ofNat_Int, Int.natCast_zero, Int.natCast_one, Int.add_zero, Int.zero_add]
    exact ⟨fun h1 => wkv_bP ext_refl ⟨fun q => q.2, fun q => ⟨h1, q⟩⟩, fun h1 => wkv_fP ext_refl fun q => h1 q.1⟩
  · cases h
theorem value_ok : SpecOK Try.prog 52 valueS := by
  intro args S x S' h
  simp only [valueS] at h
  split at h
  · cases h
    refine fn_of_wp f52 rfl (W_sound none_ok mixed _ _ _ _ _ ?_)
    simp (maxSteps := 1000000) (disch := omega) only [c52, go_sem, Option.map_none, Option.map_some, ↓reduceIte, Nat.reduceBEq, Nat.reduceAdd, Nat.reduceSub, Nat.reduceEqDiff, Nat.reduceLeDiff, Nat.reduceMul, Nat.reduceLT, Int.reduceLT, Int.reduceLE, Int.reduceAdd, Int.reduceSub, Int.reduceMul, Int.reduceNeg, Int.reduceEq, Int.reduceNe, Int.reduceToNat, decide_true, decide_false, iaddr_i, iaddr_sl_i, not_true_eq_false, not_false_eq_true, reduceCtorEq, ne_eq, forall_const, false_imp_iff, true_imp_iff, implies_true, Int.cast_ofNat_Int, Int.natCast_zero, Int.natCast_one, Int.add_zero, Int.zero_add]
    exact ⟨fun h1 => wkv_bP ext_refl ⟨fun q => q.2, fun q => ⟨h1, q⟩⟩, fun h1 => wkv_fP ext_refl fun q => h1 q.1⟩
  · cases h

/-! ### drops -/
def inDropsS : Spec := fun args S => match args with
  | [.ag cs, .p i o v] => match polE.dec cs, cellB (S[i]?) o v with
    | some p, some x => match lstV (intE .i64) S x with
      | some l => if l.length ≤ 1000000 then some (.b (decide (p.sub ∈ l)), S) else none
      | none => none
    | _, _ => none
  | _ => none
theorem cell_lt {S : Mem} {i o v : Nat} {x : AV} (h : cellB (S[i]?) o v = some x) : ∀ L : Mem, cellB ((S ++ L)[i]?) o v = some x := fun L => by
  have hi : i < S.length := by
    rcases Nat.lt_or_ge i S.length with h' | h'
    · exact h'
    · rw [List.getElem?_eq_none h'] at h; simp [cellB] at h
  rw [List.getElem?_append_left hi]; exact h
theorem oInD_ok : OK Try.prog (lamOf Try.prog) (orcOf [(75, inIS)]) := orc_ok (by simpa using inI_ok)
theorem inDrops_ok : SpecOK Try.prog 74 inDropsS := by
  intro args S x S' h
  simp only [inDropsS] at h
  split at h
  · rename_i cs i o v
    split at h
    · rename_i p s hp hs
      split at h
      · rename_i l hl
        split at h
        · rename_i hlim
          cases h
          obtain rfl := polE.ed _ _ hp
          have hc := cell_lt hs
          have hi := fun L => inI_eq (lstV_grow hl L) p.sub hlim
          refine fn_of_wp f74 rfl (W_sound oInD_ok mixed _ _ _ _ _ ?_)
          simp (maxSteps := 1000000) (disch := omega) only [c74, polE, Pol.enc, hc, orc_cons, hi, go_sem, Option.map_none, Option.map_some, ↓reduceIte, Nat.reduceBEq, Nat.reduceAdd, Nat.reduceSub, Nat.reduceEqDiff, Nat.reduceLeDiff, Nat.reduceMul, Nat.reduceLT, Int.reduceLT, Int.reduceLE, Int.reduceAdd, Int.reduceSub, Int.reduceMul, Int.reduceNeg, Int.reduceEq, Int.reduceNe, Int.reduceToNat, decide_true, decide_false, iaddr_i, iaddr_sl_i, not_true_eq_false, not_false_eq_true, reduceCtorEq, ne_eq, forall_const, false_imp_iff, true_imp_iff, implies_true, Int.cast_ofNat_Int, Int.natCast_zero, Int.natCast_one, Int.add_zero, Int.zero_add]
          exact wkv_drop rfl
        · cases h
      · cases h
    · cases h
  · cases h
def predP (f : AV) (S : Mem) : Option (Pol → Bool) := match f with
  | .f (.func g) [] [.p i o v] => if g = 74 then match cellB (S[i]?) o v with
    | some x => match lstV (intE .i64) S x with
      | some l => if l.length ≤ 1000000 then some (fun p => decide (p.sub ∈ l)) else none
      | none => none
    | none => none else none
  | _ => none
def polO : Orc := orcOf [(74, inDropsS)]
theorem polO_ok : OK Try.prog (lamOf Try.prog) polO := orc_ok (by simpa using inDrops_ok)
theorem predP_call {f : AV} {S : Mem} {p : Pol → Bool} (h : predP f S = some p) : ∃ g b, f = .f (.func g) [] b ∧ ∀ x, polO.fn g (.ag (polE.enc x) :: b) S = some (.b (p x), S) := by
  unfold predP at h
  split at h
  · split at h
    · rename_i hg; subst hg
      split at h
      · rename_i s hs
        split at h
        · rename_i l hl
          split at h
          · rename_i hlim
            injection h with h; subst h
            refine ⟨_, _, rfl, fun x => ?_⟩
            have he : polO.fn 74 = inDropsS := by funext a S; rfl
            rw [he]
            simp only [inDropsS, polE.de, hs, hl, if_pos hlim]
          · cases h
        · cases h
      · cases h
    · cases h
  · cases h
theorem predP_drops {S : Mem} {i o v : Nat} {x : AV} {l : List Int} (h : cellB (S[i]?) o v = some x) (hl : lstV (intE .i64) S x = some l) (hn : l.length ≤ 1000000) : predP (.f (.func 74) [] [.p i o v]) S = some (fun p => decide (p.sub ∈ l)) := by
  simp only [predP, if_true, h, hl, if_pos hn]

def idxPS : Spec := fun args S => match args with
  | [x, f] => match lstV polE S x, predP f S with
    | some l, some p => if l.length ≤ 1000000 then some (.i .i64 (idx p l), S) else none
    | _, _ => none
  | _ => none
theorem idxP_ok : SpecOK Try.prog 87 idxPS := by
  intro args S x S' h
  simp only [idxPS] at h
  split at h
  · rename_i s f
    split at h
    · rename_i l p hl hp
      split at h
      · rename_i hlim
        cases h
        obtain ⟨g, b, rfl, hg⟩ := predP_call hp
        refine fn_of_wp f87 rfl (W_sound polO_ok mixed _ _ _ _ _ ?_)
        simp (maxSteps := 1000000) (disch := omega) only [c87, lst_len hl, go_sem, Option.map_none, Option.map_some, ↓reduceIte, Nat.reduceBEq, Nat.reduceAdd, Nat.reduceSub, Nat.reduceEqDiff, Nat.reduceLeDiff, Nat.reduceMul, Nat.reduceLT, Int.reduceLT, Int.reduceLE, Int.reduceAdd, Int.reduceSub, Int.reduceMul, Int.reduceNeg, Int.reduceEq, Int.reduceNe, Int.reduceToNat, decide_true, decide_false, iaddr_i, iaddr_sl_i, not_true_eq_false, not_false_eq_true, reduceCtorEq, ne_eq, forall_const, false_imp_iff, true_imp_iff, implies_true, Int.cast_ofNat_Int, Int.natCast_zero, Int.natCast_one, Int.add_zero, Int.zero_add]
        refine wp_loop (fun j e M dl => dl = [] ∧ ∃ k : Nat, j = l.length - k ∧ k ≤ l.length ∧ M = S ∧ (∀ i (hi : i < k) (hl : i < l.length), p l[i] = false) ∧
          e.get 0 = s ∧ e.get 1 = .f (.func g) [] b ∧ e.get 7 = .i .i64 l.length ∧ e.get 8 = .i .i64 k) (j := l.length) ⟨rfl, 0, rfl, Nat.zero_le _, rfl, fun i hi => absurd hi (Nat.not_lt_zero _), rfl, rfl, rfl, rfl⟩ ?_
        rintro j e M d' ⟨rfl, k, rfl, hk, rfl, hn, h0, h1, h7, h8⟩
        refine W_sound polO_ok mixed _ _ _ _ _ ?_
        by_cases hkl : k < l.length
        · obtain ⟨bi, o, v, cap, ex, rfl⟩ := lst_sl hl hkl
          have hc := lstV_row hl hkl []
          rw [List.append_nil] at hc
          have hc : rowB (M[bi]?) (o + k * 13) v 13 = some (polE.enc l[k]) := hc
          have hkI : (k : Int) < l.length := by omega
          simp (maxSteps := 1000000) (disch := omega) only [c87l0, h0, h1, h7, h8, hkI, Int.toNat_natCast, Nat.mul_one, hc, hg, go_sem, Option.map_none, Option.map_some, ↓reduceIte, Nat.reduceBEq, Nat.reduceAdd, Nat.reduceSub, Nat.reduceEqDiff, Nat.reduceLeDiff, Nat.reduceMul, Nat.reduceLT, Int.reduceLT, Int.reduceLE, Int.reduceAdd, Int.reduceSub, Int.reduceMul, Int.reduceNeg, Int.reduceEq, Int.reduceNe, Int.reduceToNat, decide_true, decide_false, iaddr_i, iaddr_sl_i, not_true_eq_false, not_false_eq_true, reduceCtorEq, ne_eq, forall_const, false_imp_iff, true_imp_iff, implies_true, Int.cast_ofNat_Int, Int.natCast_zero, Int.natCast_one, Int.add_zero, Int.zero_add]
          cases hpk : p l[k] with
          | true =>
            refine ⟨fun _ => ?_, fun h => by cases h⟩
            rw [idx_at hkl hpk fun j hj => hn j hj (by omega)]
            exact wkv_same
          | false =>
            refine ⟨(fun h => by cases h), fun _ => ⟨l.length - (k + 1), by omega, k + 1, rfl, hkl, fun i hi hil => ?_, rfl⟩⟩
            by_cases hik : i = k
            · subst hik; exact hpk
            · exact hn i (by omega) hil
        · have hkI : ¬ (k : Int) < l.length := by omega
          simp (maxSteps := 1000000) (disch := omega) only [c87l0, h0, h1, h7, h8, hkI, go_sem, Option.map_none, Option.map_some, ↓reduceIte, Nat.reduceBEq, Nat.reduceAdd, Nat.reduceSub, Nat.reduceEqDiff, Nat.reduceLeDiff, Nat.reduceMul, Nat.reduceLT, Int.reduceLT, Int.reduceLE, Int.reduceAdd, Int.reduceSub, Int.reduceMul, Int.reduceNeg, Int.reduceEq, Int.reduceNe, Int.reduceToNat, decide_true, decide_false, iaddr_i, iaddr_sl_i, not_true_eq_false, not_false_eq_true, reduceCtorEq, ne_eq, forall_const, false_imp_iff, true_imp_iff, implies_true, Int.cast_ofNat_Int, Int.natCast_zero, Int.natCast_one, Int.add_zero, Int.zero_add]
          rw [idx_none fun j hj => hn j (by omega) hj]
          exact wkv_same
      · cases h
    · cases h
  · cases h
theorem idxP_eq {S : Mem} {x f : AV} {l p} (hl : lstV polE S x = some l) (hp : predP f S = some p) (hn : l.length ≤ 1000000) : idxPS [x, f] S = some (.i .i64 (idx p l), S) := by
  simp only [idxPS, hl, hp, if_pos hn]

def hasPS : Spec := fun args S => match args with
  | [x, f] => match lstV polE S x, predP f S with
    | some l, some p => if l.length ≤ 1000000 then some (.b (l.any p), S) else none
    | _, _ => none
  | _ => none
theorem oHasP_ok : OK Try.prog (lamOf Try.prog) (orcOf [(87, idxPS)]) := orc_ok (by simpa using idxP_ok)
theorem hasP_ok : SpecOK Try.prog 73 hasPS := by
  intro args S x S' h
  simp only [hasPS] at h
  split at h
  · rename_i s f
    split at h
    · rename_i l p hl hp
      split at h
      · rename_i hlim
        cases h
        have hi := idxP_eq hl hp hlim
        refine fn_of_wp f73 rfl (W_sound oHasP_ok mixed _ _ _ _ _ ?_)
        simp (maxSteps := 1000000) (disch := omega) only [c73, orc_cons, hi, go_sem, Option.map_none, Option.map_some, ↓reduceIte, Nat.reduceBEq, Nat.reduceAdd, Nat.reduceSub, Nat.reduceEqDiff, Nat.reduceLeDiff, Nat.reduceMul, Nat.reduceLT, Int.reduceLT, Int.reduceLE, Int.reduceAdd, Int.reduceSub, Int.reduceMul, Int.reduceNeg, Int.reduceEq, Int.reduceNe, Int.reduceToNat, decide_true, decide_false, iaddr_i, iaddr_sl_i, not_true_eq_false, not_false_eq_true, reduceCtorEq, ne_eq, forall_const, false_imp_iff, true_imp_iff, implies_true, Int.cast_ofNat_Int, Int.natCast_zero, Int.natCast_one, Int.add_zero, Int.zero_add]
        refine wkv_eq wkv_same ?_ rfl
        congr 1
        have := idx_ge p l
        cases h : l.any p
        · rw [h] at this; simp [this]
        · rw [h] at this; simp [this]
      · cases h
    · cases h
  · cases h
theorem hasP_eq {S : Mem} {x f : AV} {l p} (hl : lstV polE S x = some l) (hp : predP f S = some p) (hn : l.length ≤ 1000000) : hasPS [x, f] S = some (.b (l.any p), S) := by
  simp only [hasPS, hl, hp, if_pos hn]

/-- They rise, from 1 to 255. -/
def riseTo (l : List Int) (k : Nat) : Prop := ∀ i (h : i < l.length), i < k → subOk l[i] ∧ ∀ h0 : 0 < i, l[i - 1] < l[i]
def dropsOk (l : List Int) (ps : List Pol) : Prop := l.length ≤ 8 ∧ riseTo l l.length ∧ ∀ p ∈ ps, p.sub ∉ l
noncomputable instance (l : List Int) (ps : List Pol) : Decidable (dropsOk l ps) := Classical.propDecidable _
noncomputable def dropsS : Spec := fun args S => match args with
  | [x, y] => match lstV (intE .i64) S x, lstV polE S y with
    | some l, some ps => if l.length ≤ 1000000 ∧ ps.length ≤ 1000000 then some (.b (decide (dropsOk l ps)), S) else none
    | _, _ => none
  | _ => none
theorem oDr_ok : OK Try.prog (lamOf Try.prog) (orcOf [(51, subS), (73, hasPS)]) := orc_ok (by simpa using ⟨sub_ok, hasP_ok⟩)
theorem drops_ok : SpecOK Try.prog 49 dropsS := by
  intro args S x S' h
  simp only [dropsS] at h
  split at h
  · rename_i s t
    split at h
    · rename_i l ps hl hps
      split at h
      · rename_i hlim
        cases h
        refine fn_of_wp f49 rfl (W_sound oDr_ok mixed _ _ _ _ _ ?_)
        simp (maxSteps := 1000000) (disch := omega) only [c49, lst_len hl, lst_len hps, lst_cells hl, go_sem, Option.map_none, Option.map_some, ↓reduceIte, Nat.reduceBEq, Nat.reduceAdd, Nat.reduceSub, Nat.reduceEqDiff, Nat.reduceLeDiff, Nat.reduceMul, Nat.reduceLT, Int.reduceLT, Int.reduceLE, Int.reduceAdd, Int.reduceSub, Int.reduceMul, Int.reduceNeg, Int.reduceEq, Int.reduceNe, Int.reduceToNat, decide_true, decide_false, iaddr_i, iaddr_sl_i, not_true_eq_false, not_false_eq_true, reduceCtorEq, ne_eq, forall_const, false_imp_iff, true_imp_iff, implies_true, Int.cast_ofNat_Int, Int.natCast_zero, Int.natCast_one, Int.add_zero, Int.zero_add]
        refine ⟨fun h8 => wkv_f fun q => by have := q.1; omega, fun h8 => ?_⟩
        refine wp_loop (fun j e M dl => dl = [] ∧ ∃ k : Nat, j = l.length - k ∧ k ≤ l.length ∧ M = S ++ [.cells [s] 0 none true] ∧ riseTo l k ∧
          e.get 2 = .p S.length 0 0 ∧ e.get 10 = s ∧ e.get 1 = t ∧ e.get 11 = .i .i64 l.length ∧ e.get 12 = .i .i64 k) (j := l.length) ⟨rfl, 0, rfl, Nat.zero_le _, rfl, fun i _ hi => absurd hi (Nat.not_lt_zero _), rfl, rfl, rfl, rfl, rfl⟩ ?_
        rintro j e M d' ⟨rfl, k, rfl, hk, rfl, hn, h2, h10, h1, h11, h12⟩
        refine W_sound oDr_ok mixed _ _ _ _ _ ?_
        by_cases hkl : k < l.length
        · obtain ⟨bi, o, v, cap, ex, rfl⟩ := lst_sl hl hkl
          have hc := lstV_cell hl rfl (fun a => rfl) hkl
          have hkI : (k : Int) < l.length := by omega
          have hpos : (0 < (k : Int)) = (0 < k) := by simp
          have hw : wrapV .i64 ((k : Int) + 1) = ((k + 1 : Nat) : Int) := by rw [wrap_i64 (by omega) (by omega)]; omega
          have more : subOk l[k] → (∀ h0 : 0 < k, (l[k - 1]'(by omega)) < l[k]) → riseTo l (k + 1) := fun a b i hi hik => by
            by_cases e : i = k
            · subst e; exact ⟨a, b⟩
            · exact hn i hi (by omega)
          by_cases h0k : 0 < k
          · have hp : ∀ L, cellB ((S ++ L)[bi]?) (o + (k - 1)) v = some (.i .i64 (l[k - 1]'(by omega))) := lstV_cell hl rfl (fun a => rfl) (show k - 1 < l.length by omega)
            have hk1 : wrapV .i64 ((k : Int) - 1) = ((k - 1 : Nat) : Int) := by rw [wrap_i64 (by omega) (by omega)]; omega
            simp (maxSteps := 1000000) (disch := omega) only [c49l0, h1, h2, h10, h11, h12, hkI, Int.toNat_natCast, Nat.mul_one, hc, hp, orc_cons, subS, hpos, h0k, hk1, hw, go_sem, Option.map_none, Option.map_some, ↓reduceIte, Nat.reduceBEq, Nat.reduceAdd, Nat.reduceSub, Nat.reduceEqDiff, Nat.reduceLeDiff, Nat.reduceMul, Nat.reduceLT, Int.reduceLT, Int.reduceLE, Int.reduceAdd, Int.reduceSub, Int.reduceMul, Int.reduceNeg, Int.reduceEq, Int.reduceNe, Int.reduceToNat, decide_true, decide_false, iaddr_i, iaddr_sl_i, not_true_eq_false, not_false_eq_true, reduceCtorEq, ne_eq, forall_const, false_imp_iff, true_imp_iff, implies_true, Int.cast_ofNat_Int, Int.natCast_zero, Int.natCast_one, Int.add_zero, Int.zero_add]
            refine ⟨fun hs => ⟨fun hb => wkv_f fun q => ?_, fun hb => ⟨l.length - (k + 1), by omega, k + 1, rfl, hkl, more (Decidable.not_not.1 hs) fun _ => by omega, rfl⟩⟩, fun hs => wkv_f fun q => hs (q.2.1 k hkl hkl).1⟩
            have := (q.2.1 k hkl hkl).2 h0k
            omega
          · simp (maxSteps := 1000000) (disch := omega) only [c49l0, h1, h2, h10, h11, h12, hkI, Int.toNat_natCast, Nat.mul_one, hc, orc_cons, subS, hpos, h0k, hw, go_sem, Option.map_none, Option.map_some, ↓reduceIte, Nat.reduceBEq, Nat.reduceAdd, Nat.reduceSub, Nat.reduceEqDiff, Nat.reduceLeDiff, Nat.reduceMul, Nat.reduceLT, Int.reduceLT, Int.reduceLE, Int.reduceAdd, Int.reduceSub, Int.reduceMul, Int.reduceNeg, Int.reduceEq, Int.reduceNe, Int.reduceToNat, decide_true, decide_false, iaddr_i, iaddr_sl_i, not_true_eq_false, not_false_eq_true, reduceCtorEq, ne_eq, forall_const, false_imp_iff, true_imp_iff, implies_true, Int.cast_ofNat_Int, Int.natCast_zero, Int.natCast_one, Int.add_zero, Int.zero_add]
            exact ⟨fun hs => ⟨l.length - (k + 1), by omega, k + 1, rfl, hkl, more (Decidable.not_not.1 hs) fun h => absurd h h0k, rfl⟩, fun hs => wkv_f fun q => hs (q.2.1 k hkl hkl).1⟩
        · have hkI : ¬ (k : Int) < l.length := by omega
          have hh := hasP_eq (lstV_grow hps [.cells [s] 0 none true]) (predP_drops (i := S.length) (o := 0) (v := 0) (by rw [at_app0]; rfl) (lstV_grow hl _) hlim.1) hlim.2
          simp (maxSteps := 1000000) (disch := omega) only [c49l0, h1, h2, h10, h11, h12, hkI, orc_cons, hh, un_not_b, go_sem, Option.map_none, Option.map_some, ↓reduceIte, Nat.reduceBEq, Nat.reduceAdd, Nat.reduceSub, Nat.reduceEqDiff, Nat.reduceLeDiff, Nat.reduceMul, Nat.reduceLT, Int.reduceLT, Int.reduceLE, Int.reduceAdd, Int.reduceSub, Int.reduceMul, Int.reduceNeg, Int.reduceEq, Int.reduceNe, Int.reduceToNat, decide_true, decide_false, iaddr_i, iaddr_sl_i, not_true_eq_false, not_false_eq_true, reduceCtorEq, ne_eq, forall_const, false_imp_iff, true_imp_iff, implies_true, Int.cast_ofNat_Int, Int.natCast_zero, Int.natCast_one, Int.add_zero, Int.zero_add]
          refine wkv_eqP (ext_app _) ?_ rfl
          congr 1
          rw [Bool.eq_iff_iff, decide_eq_true_iff, Bool.not_eq_true', List.any_eq_false]
          refine ⟨fun q p hp => by simpa using q.2.2 p hp, fun q => ⟨by omega, (by rwa [show k = l.length by omega] at hn), fun p hp => by simpa using q p hp⟩⟩
      · cases h
    · cases h
  · cases h
theorem drops_eq {S : Mem} {x y : AV} {l : List Int} {ps : List Pol} (h1 : lstV (intE .i64) S x = some l) (h2 : lstV polE S y = some ps) (hl : l.length ≤ 1000000) (hp : ps.length ≤ 1000000) : dropsS [x, y] S = some (.b (decide (dropsOk l ps)), S) := by
  simp only [dropsS, h1, h2, if_pos (And.intro hl hp)]
end Go.Proofs.Ytapgkaecamljbaa

namespace Go.Proofs.Ytapgkaecamljbaa
open Go.RowKit
set_option linter.unusedSimpArgs false
set_option linter.unusedVariables false
set_option maxRecDepth 10000

/-! ### event.Right -/
def Evt.right (e : Evt) : Prop :=
  (e.kind = 1 ∧ 0 < e.puts.length + e.drops.length ∧ Pols e.puts ∧ dropsOk e.drops e.puts ∧ e = ⟨e.kind, 0, e.puts, e.drops, 0, 0⟩) ∨
  (e.kind = 2 ∧ subOk e.sub ∧ valOk e.granted ∧ e = ⟨e.kind, e.sub, [], [], e.granted, 0⟩) ∨
  (e.kind = 3 ∧ valOk e.period ∧ e = ⟨e.kind, 0, [], [], 0, e.period⟩)
noncomputable instance (e : Evt) : Decidable e.right := Classical.propDecidable _
noncomputable def erightS : Spec := fun args S => match args with
  | [.ag cs] => match evtOf S cs with
    | some e => if e.fits then some (.b (decide e.right), S) else none
    | none => none
  | _ => none
theorem oEr_ok : OK Try.prog (lamOf Try.prog) (orcOf [(33, allPS), (49, dropsS), (50, esameS), (51, subS), (52, valueS)]) := orc_ok (by simpa using ⟨all_ok, drops_ok, esame_ok, sub_ok, value_ok⟩)
theorem eright_ok : SpecOK Try.prog 28 erightS := by
  intro args S x S' h
  simp only [erightS] at h
  split at h
  · rename_i cs
    split at h
    · rename_i ev hev
      split at h
      · rename_i hf
        cases h
        obtain ⟨xp, xd, rfl, hp, hd⟩ := evtOf_ok hev
        obtain ⟨k, s, ps, ds, g, q⟩ := ev
        obtain ⟨hf1, hf2, hf3⟩ := hf
        simp only at hp hd hf1 hf2 hf3
        have a1 := fun L => allPS_eq (lstV_grow hp L) hf3
        have a2 := fun L => drops_eq (lstV_grow hd L) (lstV_grow hp L) hf2 hf1
        have me := fun L => evtOf_mk (k := k) (s := s) (g := g) (p := q) (lstV_grow hp L) (lstV_grow hd L)
        have b1 := fun L => esame_eq (me L) (evtOf_mk (k := k) (s := 0) (g := 0) (p := 0) (lstV_grow hp L) (lstV_grow hd L)) ⟨hf1, hf2, hf3⟩
        have b2 := fun L => esame_eq (me L) (evtOf_mk (S := S ++ L) (k := k) (s := s) (g := g) (p := 0) (xp := .sn) (xd := .sn) (ps := []) (ds := []) rfl rfl) ⟨hf1, hf2, hf3⟩
        have b3 := fun L => esame_eq (me L) (evtOf_mk (S := S ++ L) (k := k) (s := 0) (g := 0) (p := q) (xp := .sn) (xd := .sn) (ps := []) (ds := []) rfl rfl) ⟨hf1, hf2, hf3⟩
        have w1 : wrapV .i64 ((ps.length : Int) + ds.length) = ps.length + ds.length := wrap_i64 (by omega) (by omega)
        refine fn_of_wp f28 rfl (W_sound oEr_ok mixed _ _ _ _ _ ?_)
        simp (maxSteps := 1000000) (disch := omega) only [c28, orc_cons, lst_len hp, lst_len hd, lst_cells hp, lst_cells hd, lst_one hp, lst_one hd, a1, a2, b1, b2, b3, w1, subS, valueS, go_sem, Option.map_none, Option.map_some, ↓reduceIte, Nat.reduceBEq, Nat.reduceAdd, Nat.reduceSub, Nat.reduceEqDiff, Nat.reduceLeDiff, Nat.reduceMul, Nat.reduceLT, Int.reduceLT, Int.reduceLE, Int.reduceAdd, Int.reduceSub, Int.reduceMul, Int.reduceNeg, Int.reduceEq, Int.reduceNe, Int.reduceToNat, decide_true, decide_false, iaddr_i, iaddr_sl_i, not_true_eq_false, not_false_eq_true, reduceCtorEq, ne_eq, forall_const, false_imp_iff, true_imp_iff, implies_true, Int.cast_ofNat_Int, Int.natCast_zero, Int.natCast_one, Int.add_zero, Int.zero_add]
        refine ⟨fun h1 => ?_, fun h1 => ⟨fun h2 => ?_, fun h2 => ⟨fun h3 => ?_, fun h3 => wkv_f ?_⟩⟩⟩
        · have key : Evt.right ⟨k, s, ps, ds, g, q⟩ ↔ (0 < ps.length + ds.length ∧ Pols ps ∧ dropsOk ds ps ∧ (⟨k, s, ps, ds, g, q⟩ : Evt) = ⟨k, 0, ps, ds, 0, 0⟩) := by
            subst h1
            simp [Evt.right]
          refine ⟨fun g1 => ⟨fun g2 => ⟨fun g3 => wkv_b ?_, fun g3 => wkv_f fun z => g3 (key.1 z).2.2.1⟩, fun g2 => wkv_f fun z => g2 (by rw [allE_zero]; exact (key.1 z).2.1)⟩, fun g1 => wkv_f fun z => g1 (by have := (key.1 z).1; omega)⟩
          rw [key]
          rw [allE_zero] at g2
          exact ⟨fun z => z.2.2.2, fun z => ⟨by omega, g2, g3, z⟩⟩
        · have key : Evt.right ⟨k, s, ps, ds, g, q⟩ ↔ (subOk s ∧ valOk g ∧ (⟨k, s, ps, ds, g, q⟩ : Evt) = ⟨k, s, [], [], g, 0⟩) := by
            subst h2
            simp [Evt.right]
          refine ⟨fun g1 => ⟨fun g2 => wkv_b ?_, fun g2 => wkv_f fun z => g2 (key.1 z).2.1⟩, fun g1 => wkv_f fun z => g1 (key.1 z).1⟩
          rw [key]
          exact ⟨fun z => z.2.2, fun z => ⟨g1, g2, z⟩⟩
        · have key : Evt.right ⟨k, s, ps, ds, g, q⟩ ↔ (valOk q ∧ (⟨k, s, ps, ds, g, q⟩ : Evt) = ⟨k, 0, [], [], 0, q⟩) := by
            subst h3
            simp [Evt.right]
          refine ⟨fun g1 => wkv_b ?_, fun g1 => wkv_f fun z => g1 (key.1 z).1⟩
          rw [key]
          exact ⟨fun z => z.2, fun z => ⟨g1, z⟩⟩
        · rintro (z | z | z)
          · exact h1 z.1
          · exact h2 z.1
          · exact h3 z.1
      · cases h
    · cases h
  · cases h
theorem eright_eq {S : Mem} {cs : List AV} {e : Evt} (h : evtOf S cs = some e) (hf : e.fits) : erightS [.ag cs] S = some (.b (decide e.right), S) := by
  simp only [erightS, h, if_pos hf]

/-! ### lease -/
def Ent.grant (a : Ent) (g : Int) : Ent := ⟨a.pol, g⟩
def setOwn {α : Type} (E : Enc α) (S : Mem) (x : AV) (l : List α) : Mem := match x with
  | .sl b _ _ _ _ _ => match S[b]? with
    | some (.cells _ v op r) => S.set b (.cells (l.flatMap E.enc) v op r)
    | _ => S
  | _ => S
theorem setOwn_eq {α : Type} {E : Enc α} {S : Mem} {b o v n c v' : Nat} {ex r : Bool} {op : Option Nat} {cs : List AV} {l : List α} (h : S[b]? = some (.cells cs v' op r)) : setOwn E S (.sl b o v n c ex) l = S.set b (.cells (l.flatMap E.enc) v' op r) := by
  simp only [setOwn, h]
/-- The entries behind a lease. -/
def leased (l : List Ent) (sub granted : Int) : Option (List Ent) := match l.findIdx? (hasSub sub) with
  | some k => match l[k]? with
    | some a => if a.granted ≤ granted ∧ granted ≤ a.pol.quota then some (l.set k (a.grant granted)) else none
    | none => none
  | none => none
def leaseS : Spec := fun args S => match args with
  | [x, .ag ce] => match lstV entE S x, evtOf S ce with
    | some l, some e => if l.length ≤ 1000000 then match leased l e.sub e.granted with
      | some l' => if ownV entE S x = some l then some (.tu [x, .b true], setOwn entE S x l') else none
      | none => some (.tu [.sn, .b false], S)
      else none
    | _, _ => none
  | _ => none
theorem Flat_sl {n i o v l c : Nat} {x : Bool} (h : i < n) : AV.Flat n (.sl i o v l c x) := fun g => by rw [ren, if_pos h]
theorem Flat_tu {n : Nat} {cs : List AV} (h : ∀ x ∈ cs, AV.Flat n x) : AV.Flat n (.tu cs) := fun g => by
  rw [ren_tu, renL_eq]; congr 1
  exact (List.map_congr_left (g := id) fun x hx => h x hx g).trans (List.map_id _)
theorem oLe_ok : OK Try.prog (lamOf Try.prog) (orcOf [(41, placeS)]) := orc_ok (by simpa using place_ok)
theorem idx_eq_some {α : Type} {p : α → Bool} {l : List α} {k : Nat} (h : l.findIdx? p = some k) : idx p l = k := by unfold idx; rw [h]
theorem idx_eq_none {α : Type} {p : α → Bool} {l : List α} (h : l.findIdx? p = none) : idx p l = -1 := by unfold idx; rw [h]
theorem lease_ok : SpecOK Try.prog 30 leaseS := by
  intro args S x S' h
  simp only [leaseS] at h
  split at h
  · rename_i s ce
    split at h
    · rename_i l ev hl hev
      split at h
      · rename_i hlim
        obtain ⟨xp, xd, rfl, hp, hd⟩ := evtOf_ok hev
        obtain ⟨k, sub, ps, ds, g, q⟩ := ev
        simp only at hp hd h
        have pl := fun L => place_eq (lstV_grow hl L) sub hlim
        refine fn_of_wp f30 rfl (W_sound oLe_ok mixed _ _ _ _ _ ?_)
        cases hi : l.findIdx? (hasSub sub) with
        | none =>
          have hle : leased l sub g = none := by simp only [leased, hi]
          rw [hle] at h
          cases h
          simp (maxSteps := 1000000) (disch := omega) only [c30, orc_cons, pl, idx_eq_none hi, go_sem, Option.map_none, Option.map_some, ↓reduceIte, Nat.reduceBEq, Nat.reduceAdd, Nat.reduceSub, Nat.reduceEqDiff, Nat.reduceLeDiff, Nat.reduceMul, Nat.reduceLT, Int.reduceLT, Int.reduceLE, Int.reduceAdd, Int.reduceSub, Int.reduceMul, Int.reduceNeg, Int.reduceEq, Int.reduceNe, Int.reduceToNat, decide_true, decide_false, iaddr_i, iaddr_sl_i, not_true_eq_false, not_false_eq_true, reduceCtorEq, ne_eq, forall_const, false_imp_iff, true_imp_iff, implies_true, Int.cast_ofNat_Int, Int.natCast_zero, Int.natCast_one, Int.add_zero, Int.zero_add]
          exact wkv_drop rfl
        | some j =>
          obtain ⟨hj, _, _⟩ := List.findIdx?_eq_some_iff_getElem.1 hi
          obtain ⟨bi, o, v, cap, ex, rfl⟩ := lst_sl hl hj
          have hle : leased l sub g = if l[j].granted ≤ g ∧ g ≤ l[j].pol.quota then some (l.set j (l[j].grant g)) else none := by
            simp only [leased, hi, List.getElem?_eq_getElem hj]
          have fg : ∀ L, cellB ((S ++ L)[bi]?) (o + j * 14 + 13) v = some (.i .u64 l[j].granted) := lstV_field hl hj (f := 13) (x := .i .u64 l[j].granted) rfl
          have fq : ∀ L, cellB ((S ++ L)[bi]?) (o + j * 14 + 10) v = some (.i .u64 l[j].pol.quota) := lstV_field hl hj (f := 10) (x := .i .u64 l[j].pol.quota) rfl
          have hj0 : ¬ ((j : Int) < 0) := by omega
          simp (maxSteps := 1000000) (disch := omega) only [c30, orc_cons, pl, idx_eq_some hi, hj0, Int.toNat_natCast, fg, fq, go_sem, Option.map_none, Option.map_some, ↓reduceIte, Nat.reduceBEq, Nat.reduceAdd, Nat.reduceSub, Nat.reduceEqDiff, Nat.reduceLeDiff, Nat.reduceMul, Nat.reduceLT, Int.reduceLT, Int.reduceLE, Int.reduceAdd, Int.reduceSub, Int.reduceMul, Int.reduceNeg, Int.reduceEq, Int.reduceNe, Int.reduceToNat, decide_true, decide_false, iaddr_i, iaddr_sl_i, not_true_eq_false, not_false_eq_true, reduceCtorEq, ne_eq, forall_const, false_imp_iff, true_imp_iff, implies_true, Int.cast_ofNat_Int, Int.natCast_zero, Int.natCast_one, Int.add_zero, Int.zero_add]
          refine ⟨fun h1 => ⟨fun h2 => ?_, fun h2 => ?_⟩, fun h1 => ?_⟩
          · rw [hle, if_neg (by omega)] at h
            cases h
            exact wkv_drop rfl
          · rw [hle, if_pos (by omega)] at h
            simp only at h
            split at h
            · rename_i hown
              cases h
              obtain ⟨b', v', ex', op, hx, hB⟩ := ownV_ok hown
              injection hx with e1 e2 e3 e4 e5 e6
              subst e1 e2 e3 e5 e6
              have hb : bi < S.length := (List.getElem?_eq_some_iff.1 hB).1
              have hsp := splice_at (E := entE) l hj (l[j].grant g) (f := 13) (ys := [.i .u64 g]) (by simp [entE]) rfl
              have hsp : splice (l.flatMap entE.enc) (j * 14 + 13) [.i .u64 g] = (l.set j (l[j].grant g)).flatMap entE.enc := hsp
              rw [at_old hB, setOwn_eq hB]
              simp only [stB, hsp, enc_length]
              rw [if_pos ⟨trivial, rfl, by show 0 + j * 14 + 13 + 1 ≤ l.length * 14; omega, rfl⟩]
              simp (maxSteps := 1000000) (disch := omega) only [set_old hB, go_sem, Option.map_none, Option.map_some, ↓reduceIte, Nat.reduceBEq, Nat.reduceAdd, Nat.reduceSub, Nat.reduceEqDiff, Nat.reduceLeDiff, Nat.reduceMul, Nat.reduceLT, Int.reduceLT, Int.reduceLE, Int.reduceAdd, Int.reduceSub, Int.reduceMul, Int.reduceNeg, Int.reduceEq, Int.reduceNe, Int.reduceToNat, decide_true, decide_false, iaddr_i, iaddr_sl_i, not_true_eq_false, not_false_eq_true, reduceCtorEq, ne_eq, forall_const, false_imp_iff, true_imp_iff, implies_true, Int.cast_ofNat_Int, Int.natCast_zero, Int.natCast_one, Int.add_zero, Int.zero_add]
              have hsp : (l.flatMap entE.enc).take (j * 14 + 13) ++ AV.i .u64 g :: (l.flatMap entE.enc).drop (j * 14 + 13 + 1) = (l.set j (l[j].grant g)).flatMap entE.enc := hsp
              rw [hsp]
              exact wkv_drop' (List.length_set ..) (set_closed (bflat_list entE_flat _ _ _ _)) (Flat_tu (by simp [Flat_sl hb, Flat_b]))
            · cases h
          · rw [hle, if_neg (by omega)] at h
            cases h
            exact wkv_drop rfl
      · cases h
    · cases h
  · cases h
theorem lease_eq {S : Mem} {x : AV} {ce : List AV} {l : List Ent} {e : Evt} (hl : lstV entE S x = some l) (he : evtOf S ce = some e) (hn : l.length ≤ 1000000) (ho : ownV entE S x = some l) :
    leaseS [x, .ag ce] S = match leased l e.sub e.granted with
      | some l' => some (.tu [x, .b true], setOwn entE S x l')
      | none => some (.tu [.sn, .b false], S) := by
  simp only [leaseS, hl, he, if_pos hn, if_pos ho]
end Go.Proofs.Ytapgkaecamljbaa

namespace Go.Proofs.Ytapgkaecamljbaa
open Go.RowKit
set_option linter.unusedSimpArgs false
set_option linter.unusedVariables false
set_option maxRecDepth 10000

noncomputable def Bk.fin (o : Option Bk) : Option Bk := match o with
  | some b => if b.ok then some b else none
  | none => none
/-- Behind a lease, or a new period. -/
def Bk.turn (b : Bk) (e : Evt) : Option Bk :=
  if e.kind = 2 then (leased b.entries e.sub e.granted).map fun l => ⟨b.period, l⟩
  else if e.period = b.period + 1 then some ⟨e.period, b.entries.map (·.grant 0)⟩ else none
noncomputable def Bk.turned (b : Bk) (e : Evt) : Option Bk := if b.ok ∧ e.right then Bk.fin (b.turn e) else none
def bookR (z : Bool) (S : Mem) (b : Bk) (err : Int) : AV × Mem := (.tu [.ag [.i .u64 b.period, retX z S b.entries], .i .i64 err], retM z entE S b.entries)
def nzB : List AV → Bool
  | [_, x] => nz x
  | _ => false
noncomputable def turnS : Spec := fun args S => match args with
  | [.ag cb, .ag ce] => match bookOf S cb, evtOf S ce with
    | some b, some e => if b.fits ∧ e.fits ∧ ¬ (b.ok ∧ e.right ∧ e.kind = 1) then match b.turned e with
        | some b' => some (bookR (nzB cb) S b' 0)
        | none => some (bookR (nzB cb) S b 131)
      else none
    | _, _ => none
  | _ => none
theorem bright_eq {S : Mem} {cs : List AV} {b : Bk} (h : bookOf S cs = some b) (hf : b.fits) : brightS [.ag cs] S = some (.b (decide b.ok), S) := by
  simp only [brightS, h, if_pos hf]
theorem leased_some {l l' : List Ent} {s g : Int} (h : leased l s g = some l') : ∃ (k : Nat) (hk : k < l.length), l' = l.set k (l[k].grant g) ∧ l.findIdx? (hasSub s) = some k ∧ l[k].granted ≤ g ∧ g ≤ l[k].pol.quota := by
  unfold leased at h
  split at h
  · rename_i k hi
    obtain ⟨hk, _, _⟩ := List.findIdx?_eq_some_iff_getElem.1 hi
    rw [List.getElem?_eq_getElem hk] at h
    simp only at h
    split at h
    · rename_i hc; injection h with h; exact ⟨k, hk, h.symm, hi, hc⟩
    · cases h
  · cases h
theorem leased_len {l l' : List Ent} {s g : Int} (h : leased l s g = some l') : l.length = l'.length := by
  obtain ⟨k, hk, rfl, _⟩ := leased_some h
  rw [List.length_set]
theorem leased_fits {l l' : List Ent} {s g : Int} (h : leased l s g = some l') (hf : ∀ x ∈ l, x.pol.fits) : ∀ x ∈ l', x.pol.fits := by
  obtain ⟨k, hk, rfl, _⟩ := leased_some h
  intro x hx
  rcases List.mem_or_eq_of_mem_set hx with hx | rfl
  · exact hf x hx
  · exact hf l[k] (List.getElem_mem hk)
def zeroTo (l : List Ent) (k : Nat) : List Ent := (l.take k).map (·.grant 0) ++ l.drop k
theorem zeroTo_len (l : List Ent) (k : Nat) : (zeroTo l k).length = l.length := by
  unfold zeroTo; rw [List.length_append, List.length_map, List.length_take, List.length_drop]; omega
theorem zeroTo_at (l : List Ent) {k : Nat} (h : k < l.length) : (zeroTo l k)[k]'(by rw [zeroTo_len]; exact h) = l[k] := by
  unfold zeroTo
  rw [List.getElem_append_right (by rw [List.length_map, List.length_take]; omega), List.getElem_drop]
  congr 1; rw [List.length_map, List.length_take]; omega
theorem zeroTo_succ (l : List Ent) {k : Nat} (h : k < l.length) : (zeroTo l k).set k (l[k].grant 0) = zeroTo l (k + 1) := by
  unfold zeroTo
  rw [List.set_append_right _ _ (by rw [List.length_map, List.length_take]; omega), List.length_map, List.length_take, show k - min k l.length = 0 by omega, List.drop_eq_getElem_cons h, List.set_cons_zero, List.take_succ_eq_append_getElem h, List.map_append, List.append_assoc]
  rfl
theorem zeroTo_all (l : List Ent) : zeroTo l l.length = l.map (·.grant 0) := by
  unfold zeroTo; rw [List.take_length, List.drop_length, List.append_nil]
theorem nz_sl {i o v n c : Nat} {ex : Bool} : nz (.sl i o v n c ex) = true := (rfl)
theorem oAp_ok : OK Try.prog (lamOf Try.prog) (orcOf [(27, cloneES), (16, brightS), (28, erightS), (30, leaseS)]) := orc_ok (by simpa using ⟨cloneE_ok, bright_ok, eright_ok, lease_ok⟩)
theorem turn_ok : SpecOK Try.prog 13 turnS := by
  intro args S x S' h
  simp only [turnS] at h
  split at h
  · rename_i cb ce
    split at h
    · rename_i b ev hb hev
      split at h
      · rename_i hf
        obtain ⟨hbf, hef, hk1⟩ := hf
        obtain ⟨s, rfl, hl⟩ := bookOf_ok hb
        obtain ⟨xp, xd, rfl, hp, hd⟩ := evtOf_ok hev
        obtain ⟨p, l⟩ := b
        obtain ⟨k, sub, ps, ds, g, q⟩ := ev
        simp only at hp hd hl
        have b1 := fun L => bright_eq (bookOf_mk (p := p) (lstV_grow hl L)) hbf
        have e1 := fun L => eright_eq (evtOf_mk (k := k) (s := sub) (g := g) (p := q) (lstV_grow hp L) (lstV_grow hd L)) hef
        have c1 := fun L => cloneE_eq (lstV_grow hl L) hbf.1
        refine fn_of_wp f13 rfl (W_sound oAp_ok mixed _ _ _ _ _ ?_)
        by_cases hne : l = []
        · subst hne
          have fit0 : ∀ q, Bk.fits ⟨q, []⟩ := fun q => ⟨by simp, fun x hx => by cases hx⟩
          cases hz : nz s with
          | false =>
            have c1 : ∀ L, cloneES [s] (S ++ L) = some (.sn, S ++ L) := fun L => by rw [c1 L, hz]; rfl
            have b2 : ∀ (q : Int) (L : Mem), brightS [.ag [.i .u64 q, .sn]] (S ++ L) = some (.b (decide (Bk.ok ⟨q, []⟩)), S ++ L) := fun q L => bright_eq (bookOf_mk rfl) (fit0 q)
            have l1 : ∀ L, leaseS [.sn, .ag [.i .i64 k, .i .i64 sub, xp, xd, .i .u64 g, .i .u64 q]] (S ++ L) = some (.tu [.sn, .b false], S ++ L) := fun L => by
              simp only [leaseS, evtOf_mk (k := k) (s := sub) (g := g) (p := q) (lstV_grow hp L) (lstV_grow hd L), show lstV entE (S ++ L) .sn = some [] from rfl]; rfl
            simp (maxSteps := 1000000) (disch := omega) only [c13, orc_cons, lst_cells hl, c1, b1, b2, e1, l1, go_sem, Option.map_none, Option.map_some, ↓reduceIte, Nat.reduceBEq, Nat.reduceAdd, Nat.reduceSub, Nat.reduceEqDiff, Nat.reduceLeDiff, Nat.reduceMul, Nat.reduceLT, Int.reduceLT, Int.reduceLE, Int.reduceAdd, Int.reduceSub, Int.reduceMul, Int.reduceNeg, Int.reduceEq, Int.reduceNe, Int.reduceToNat, decide_true, decide_false, iaddr_i, iaddr_sl_i, not_true_eq_false, not_false_eq_true, reduceCtorEq, ne_eq, forall_const, false_imp_iff, true_imp_iff, implies_true, Int.cast_ofNat_Int, Int.natCast_zero, Int.natCast_one, Int.add_zero, Int.zero_add]
            have hzB : nzB [AV.i .u64 p, s] = false := hz
            rw [show nzB [AV.i .u64 (Bk.mk p []).period, s] = false from hz] at h
            refine ⟨fun hok => ⟨fun hr => ?_, fun hr => ⟨fun k1 => absurd ⟨Decidable.not_not.1 hok, Decidable.not_not.1 hr, k1⟩ hk1, fun _ => ⟨fun k2 => ?_, fun k2 => ⟨fun k3 => ?_, fun k3 => ?_⟩⟩⟩⟩, fun hok => ?_⟩
            · rw [show Bk.turned ⟨p, []⟩ ⟨k, sub, ps, ds, g, q⟩ = none by unfold Bk.turned; rw [if_neg fun z => hr z.2]] at h
              cases h
              exact wkv_drop rfl
            · rw [show Bk.turned ⟨p, []⟩ ⟨k, sub, ps, ds, g, q⟩ = none by unfold Bk.turned Bk.turn; rw [if_pos ⟨Decidable.not_not.1 hok, Decidable.not_not.1 hr⟩, if_pos k2]; rfl] at h
              cases h
              exact wkv_drop rfl
            · have ht : Bk.turned ⟨p, []⟩ ⟨k, sub, ps, ds, g, q⟩ = Bk.fin (if q = p + 1 then some ⟨q, []⟩ else none) := by
                unfold Bk.turned Bk.turn; rw [if_pos ⟨Decidable.not_not.1 hok, Decidable.not_not.1 hr⟩, if_neg k2]; rfl
              rw [ht] at h
              have hp48 := Decidable.not_not.1 hok
              have hw : wrapV .u64 (p + 1) = p + 1 := wrap_u64 (by have := hp48.1; simp only at this; omega) (by have := hp48.2.1; simp only at this; omega)
              rw [hw]
              refine wp_unroll oAp_ok mixed 1 ?_
              simp (maxSteps := 1000000) (disch := omega) only [c13l2, LW_succ, orc_cons, b2, go_sem, Option.map_none, Option.map_some, ↓reduceIte, Nat.reduceBEq, Nat.reduceAdd, Nat.reduceSub, Nat.reduceEqDiff, Nat.reduceLeDiff, Nat.reduceMul, Nat.reduceLT, Int.reduceLT, Int.reduceLE, Int.reduceAdd, Int.reduceSub, Int.reduceMul, Int.reduceNeg, Int.reduceEq, Int.reduceNe, Int.reduceToNat, decide_true, decide_false, iaddr_i, iaddr_sl_i, not_true_eq_false, not_false_eq_true, reduceCtorEq, ne_eq, forall_const, false_imp_iff, true_imp_iff, implies_true, Int.cast_ofNat_Int, Int.natCast_zero, Int.natCast_one, Int.add_zero, Int.zero_add]
              refine ⟨fun hq => ?_, fun hq => ?_⟩
              · rw [if_pos (Decidable.not_not.1 hq)] at h
                refine ⟨fun h1 => ?_, fun h1 => ?_⟩
                · simp only [Bk.fin, if_neg h1] at h
                  cases h
                  exact wkv_drop rfl
                · simp only [Bk.fin, if_pos (Decidable.not_not.1 h1)] at h
                  cases h
                  exact wkv_drop rfl
              · rw [if_neg hq] at h
                cases h
                exact wkv_drop rfl
            · exfalso
              rcases Decidable.not_not.1 hr with z | z | z
              · exact absurd z.1 (by assumption)
              · exact k2 z.1
              · exact k3 z.1
            · rw [show Bk.turned ⟨p, []⟩ ⟨k, sub, ps, ds, g, q⟩ = none by unfold Bk.turned; rw [if_neg fun z => hok z.1]] at h
              cases h
              exact wkv_drop rfl
          | true =>
            have c1 : ∀ L, cloneES [s] (S ++ L) = some (.sl (S ++ L).length 0 0 0 0 true, (S ++ L) ++ [.cells [] 0 none true]) := fun L => by rw [c1 L, hz]; rfl
            have b2 : ∀ (q : Int) (A B C D E G : Blk), brightS [.ag [.i .u64 q, .sl (S.length + 5) 0 0 0 0 true]] (S ++ [A, B, C, D, E, .cells [] 0 none true, G]) = some (.b (decide (Bk.ok ⟨q, []⟩)), S ++ [A, B, C, D, E, .cells [] 0 none true, G]) := fun q A B C D E G => bright_eq (bookOf_mk (own_lst (ownV_mk (l := []) (by rw [at_app]; rfl)))) (fit0 q)
            have l1 : ∀ A B C D E G, leaseS [.sl (S.length + 5) 0 0 0 0 true, .ag [.i .i64 k, .i .i64 sub, xp, xd, .i .u64 g, .i .u64 q]] (S ++ [A, B, C, D, E, .cells [] 0 none true, G]) = some (.tu [.sn, .b false], S ++ [A, B, C, D, E, .cells [] 0 none true, G]) := fun A B C D E G => by
              have h1 := own_lst (ownV_mk (E := entE) (S := S ++ [A, B, C, D, E, .cells [] 0 none true, G]) (l := []) (b := S.length + 5) (v := 0) (ex := true) (op := none) (by rw [at_app]; rfl))
              simp only [List.length_nil] at h1
              simp only [leaseS, evtOf_mk (k := k) (s := sub) (g := g) (p := q) (lstV_grow hp _) (lstV_grow hd _), h1]; rfl
            simp (maxSteps := 1000000) (disch := omega) only [c13, orc_cons, lst_cells hl, c1, b1, b2, e1, l1, go_sem, Option.map_none, Option.map_some, ↓reduceIte, Nat.reduceBEq, Nat.reduceAdd, Nat.reduceSub, Nat.reduceEqDiff, Nat.reduceLeDiff, Nat.reduceMul, Nat.reduceLT, Int.reduceLT, Int.reduceLE, Int.reduceAdd, Int.reduceSub, Int.reduceMul, Int.reduceNeg, Int.reduceEq, Int.reduceNe, Int.reduceToNat, decide_true, decide_false, iaddr_i, iaddr_sl_i, not_true_eq_false, not_false_eq_true, reduceCtorEq, ne_eq, forall_const, false_imp_iff, true_imp_iff, implies_true, Int.cast_ofNat_Int, Int.natCast_zero, Int.natCast_one, Int.add_zero, Int.zero_add]
            rw [show nzB [AV.i .u64 (Bk.mk p []).period, s] = true from hz] at h
            refine ⟨fun hok => ⟨fun hr => ?_, fun hr => ⟨fun k1 => absurd ⟨Decidable.not_not.1 hok, Decidable.not_not.1 hr, k1⟩ hk1, fun _ => ⟨fun k2 => ?_, fun k2 => ⟨fun k3 => ?_, fun k3 => ?_⟩⟩⟩⟩, fun hok => ?_⟩
            · rw [show Bk.turned ⟨p, []⟩ ⟨k, sub, ps, ds, g, q⟩ = none by unfold Bk.turned; rw [if_neg fun z => hr z.2]] at h
              cases h
              exact Acc.retB entE_flat ⟨_, rfl, .inr (.inl ⟨rfl, rfl, 3, rfl, rfl⟩)⟩ Flat_i Flat_i
            · rw [show Bk.turned ⟨p, []⟩ ⟨k, sub, ps, ds, g, q⟩ = none by unfold Bk.turned Bk.turn; rw [if_pos ⟨Decidable.not_not.1 hok, Decidable.not_not.1 hr⟩, if_pos k2]; rfl] at h
              cases h
              exact Acc.retB entE_flat ⟨_, rfl, .inr (.inl ⟨rfl, rfl, 3, rfl, rfl⟩)⟩ Flat_i Flat_i
            · have ht : Bk.turned ⟨p, []⟩ ⟨k, sub, ps, ds, g, q⟩ = Bk.fin (if q = p + 1 then some ⟨q, []⟩ else none) := by
                unfold Bk.turned Bk.turn; rw [if_pos ⟨Decidable.not_not.1 hok, Decidable.not_not.1 hr⟩, if_neg k2]; rfl
              rw [ht] at h
              have hp48 := Decidable.not_not.1 hok
              have hw : wrapV .u64 (p + 1) = p + 1 := wrap_u64 (by have := hp48.1; simp only at this; omega) (by have := hp48.2.1; simp only at this; omega)
              rw [hw]
              refine wp_unroll oAp_ok mixed 1 ?_
              simp (maxSteps := 1000000) (disch := omega) only [c13l2, LW_succ, orc_cons, b2, go_sem, Option.map_none, Option.map_some, ↓reduceIte, Nat.reduceBEq, Nat.reduceAdd, Nat.reduceSub, Nat.reduceEqDiff, Nat.reduceLeDiff, Nat.reduceMul, Nat.reduceLT, Int.reduceLT, Int.reduceLE, Int.reduceAdd, Int.reduceSub, Int.reduceMul, Int.reduceNeg, Int.reduceEq, Int.reduceNe, Int.reduceToNat, decide_true, decide_false, iaddr_i, iaddr_sl_i, not_true_eq_false, not_false_eq_true, reduceCtorEq, ne_eq, forall_const, false_imp_iff, true_imp_iff, implies_true, Int.cast_ofNat_Int, Int.natCast_zero, Int.natCast_one, Int.add_zero, Int.zero_add]
              refine ⟨fun hq => ?_, fun hq => ?_⟩
              · rw [if_pos (Decidable.not_not.1 hq)] at h
                refine ⟨fun h1 => ?_, fun h1 => ?_⟩
                · simp only [Bk.fin, if_neg h1] at h
                  cases h
                  exact Acc.retB entE_flat ⟨_, rfl, .inr (.inl ⟨rfl, rfl, 3, rfl, rfl⟩)⟩ Flat_i Flat_i
                · simp only [Bk.fin, if_pos (Decidable.not_not.1 h1)] at h
                  cases h
                  exact Acc.retB entE_flat ⟨_, rfl, .inr (.inl ⟨rfl, rfl, 5, rfl, rfl⟩)⟩ Flat_i Flat_i
              · rw [if_neg hq] at h
                cases h
                exact Acc.retB entE_flat ⟨_, rfl, .inr (.inl ⟨rfl, rfl, 3, rfl, rfl⟩)⟩ Flat_i Flat_i
            · exfalso
              rcases Decidable.not_not.1 hr with z | z | z
              · exact absurd z.1 (by assumption)
              · exact k2 z.1
              · exact k3 z.1
            · rw [show Bk.turned ⟨p, []⟩ ⟨k, sub, ps, ds, g, q⟩ = none by unfold Bk.turned; rw [if_neg fun z => hok z.1]] at h
              cases h
              exact Acc.retB entE_flat ⟨_, rfl, .inr (.inl ⟨rfl, rfl, 3, rfl, rfl⟩)⟩ Flat_i Flat_i
        · obtain ⟨i, o, v, cap, ex, rfl⟩ := lst_sl hl (List.length_pos_iff.2 hne)
          have c1 : ∀ L, cloneES [.sl i o v l.length cap ex] (S ++ L) = some (.sl (S ++ L).length 0 0 l.length l.length false, (S ++ L) ++ [.cells (l.flatMap entE.enc) 0 (some 14) true]) := fun L => by
            rw [c1 L, retX_ne hne, retM_ne hne]; rfl
          simp (maxSteps := 1000000) (disch := omega) only [c13, orc_cons, lst_cells hl, c1, b1, e1, go_sem, Option.map_none, Option.map_some, ↓reduceIte, Nat.reduceBEq, Nat.reduceAdd, Nat.reduceSub, Nat.reduceEqDiff, Nat.reduceLeDiff, Nat.reduceMul, Nat.reduceLT, Int.reduceLT, Int.reduceLE, Int.reduceAdd, Int.reduceSub, Int.reduceMul, Int.reduceNeg, Int.reduceEq, Int.reduceNe, Int.reduceToNat, decide_true, decide_false, iaddr_i, iaddr_sl_i, not_true_eq_false, not_false_eq_true, reduceCtorEq, ne_eq, forall_const, false_imp_iff, true_imp_iff, implies_true, Int.cast_ofNat_Int, Int.natCast_zero, Int.natCast_one, Int.add_zero, Int.zero_add]
          have own : ∀ (A : Mem) (err : Int), WkV S (bookR (nzB [AV.i .u64 p, AV.sl i o v l.length cap ex]) S ⟨p, l⟩ err).1 (bookR (nzB [AV.i .u64 p, AV.sl i o v l.length cap ex]) S ⟨p, l⟩ err).2 (.tu [.ag [.i .u64 p, .sl (S.length + 3) 0 0 l.length l.length false], .i .i64 err])
            (S ++ (.cells [.i .u64 p, .sl i o v l.length cap ex] 0 none true :: .cells [.i .i64 k, .i .i64 sub, xp, xd, .i .u64 g, .i .u64 q] 0 none true :: .cells [.i .u64 p, .sl (S.length + 3) 0 0 l.length l.length false] 0 none true :: .cells (l.flatMap entE.enc) 0 (some 14) true :: A)) := fun A err =>
            Acc.retB entE_flat ⟨_, rfl, .inr (.inr ⟨hne, 3, 0, rfl, rfl⟩)⟩ Flat_i Flat_i
          refine ⟨fun hok => ⟨fun hr => ?_, fun hr => ⟨fun k1 => absurd ⟨Decidable.not_not.1 hok, Decidable.not_not.1 hr, k1⟩ hk1, fun _ => ⟨fun k2 => ?_, fun k2 => ⟨fun k3 => ?_, fun k3 => ?_⟩⟩⟩⟩, fun hok => ?_⟩
          · rw [show Bk.turned ⟨p, l⟩ ⟨k, sub, ps, ds, g, q⟩ = none by unfold Bk.turned; rw [if_neg fun z => hr z.2]] at h
            cases h
            exact own _ _
          · have ht : Bk.turned ⟨p, l⟩ ⟨k, sub, ps, ds, g, q⟩ = Bk.fin ((leased l sub g).map fun l => ⟨p, l⟩) := by
              unfold Bk.turned Bk.turn; rw [if_pos ⟨Decidable.not_not.1 hok, Decidable.not_not.1 hr⟩, if_pos k2]
            rw [ht] at h
            have ho : ∀ T : Mem, T[5]? = some (.cells (l.flatMap entE.enc) 0 (some 14) true) → ownV entE (S ++ T) (.sl (S.length + 5) 0 0 l.length l.length false) = some l := fun T hT => ownV_mk (by rw [at_app]; exact hT)
            rw [lease_eq (l := l) (e := ⟨k, sub, ps, ds, g, q⟩)]
            rotate_left
            · exact own_lst (ho _ rfl)
            · exact evtOf_mk (lstV_grow hp _) (lstV_grow hd _)
            · exact hbf.1
            · exact ho _ rfl
            cases hle : leased l sub g with
            | none =>
              rw [hle] at h
              cases h
              simp (maxSteps := 1000000) (disch := omega) only [go_sem, Option.map_none, Option.map_some, ↓reduceIte, Nat.reduceBEq, Nat.reduceAdd, Nat.reduceSub, Nat.reduceEqDiff, Nat.reduceLeDiff, Nat.reduceMul, Nat.reduceLT, Int.reduceLT, Int.reduceLE, Int.reduceAdd, Int.reduceSub, Int.reduceMul, Int.reduceNeg, Int.reduceEq, Int.reduceNe, Int.reduceToNat, decide_true, decide_false, iaddr_i, iaddr_sl_i, not_true_eq_false, not_false_eq_true, reduceCtorEq, ne_eq, forall_const, false_imp_iff, true_imp_iff, implies_true, Int.cast_ofNat_Int, Int.natCast_zero, Int.natCast_one, Int.add_zero, Int.zero_add]
              exact own _ _
            | some l' =>
              rw [hle] at h
              have hlen := leased_len hle
              simp only
              rw [setOwn_eq (v' := 0) (op := some 14) (r := true) (cs := l.flatMap entE.enc)]
              rotate_left
              · rw [at_app]; rfl
              simp (maxSteps := 1000000) (disch := omega) only [orc_cons, go_sem, Option.map_none, Option.map_some, ↓reduceIte, Nat.reduceBEq, Nat.reduceAdd, Nat.reduceSub, Nat.reduceEqDiff, Nat.reduceLeDiff, Nat.reduceMul, Nat.reduceLT, Int.reduceLT, Int.reduceLE, Int.reduceAdd, Int.reduceSub, Int.reduceMul, Int.reduceNeg, Int.reduceEq, Int.reduceNe, Int.reduceToNat, decide_true, decide_false, iaddr_i, iaddr_sl_i, not_true_eq_false, not_false_eq_true, reduceCtorEq, ne_eq, forall_const, false_imp_iff, true_imp_iff, implies_true, Int.cast_ofNat_Int, Int.natCast_zero, Int.natCast_one, Int.add_zero, Int.zero_add]
              rw [bright_eq (b := ⟨p, l'⟩)]
              rotate_left
              · refine bookOf_mk (l := l') ?_
                rw [hlen]
                exact own_lst (ownV_mk (by rw [at_app]; rfl))
              · exact ⟨by rw [← hlen]; exact hbf.1, leased_fits hle hbf.2⟩
              simp (maxSteps := 1000000) (disch := omega) only [go_sem, Option.map_none, Option.map_some, ↓reduceIte, Nat.reduceBEq, Nat.reduceAdd, Nat.reduceSub, Nat.reduceEqDiff, Nat.reduceLeDiff, Nat.reduceMul, Nat.reduceLT, Int.reduceLT, Int.reduceLE, Int.reduceAdd, Int.reduceSub, Int.reduceMul, Int.reduceNeg, Int.reduceEq, Int.reduceNe, Int.reduceToNat, decide_true, decide_false, iaddr_i, iaddr_sl_i, not_true_eq_false, not_false_eq_true, reduceCtorEq, ne_eq, forall_const, false_imp_iff, true_imp_iff, implies_true, Int.cast_ofNat_Int, Int.natCast_zero, Int.natCast_one, Int.add_zero, Int.zero_add]
              refine ⟨fun h1 => ?_, fun h1 => ?_⟩
              · simp only [Option.map_some, Bk.fin, if_neg h1] at h
                cases h
                exact own _ _
              · simp only [Option.map_some, Bk.fin, if_pos (Decidable.not_not.1 h1)] at h
                cases h
                exact Acc.retB entE_flat ⟨_, rfl, .inr (.inr ⟨fun q => hne (List.eq_nil_of_length_eq_zero (by have q : l' = [] := q; rw [hlen, q]; rfl)), 5, 0, by rw [hlen], rfl⟩)⟩ Flat_i Flat_i
          · have ht : Bk.turned ⟨p, l⟩ ⟨k, sub, ps, ds, g, q⟩ = Bk.fin (if q = p + 1 then some ⟨q, l.map (·.grant 0)⟩ else none) := by
              unfold Bk.turned Bk.turn; rw [if_pos ⟨Decidable.not_not.1 hok, Decidable.not_not.1 hr⟩, if_neg k2]
            rw [ht] at h
            have hp48 := Decidable.not_not.1 hok
            have hw : wrapV .u64 (p + 1) = p + 1 := wrap_u64 (by have := hp48.1; simp only at this; omega) (by have := hp48.2.1; simp only at this; omega)
            rw [hw]
            refine wp_loop (fun j e M dl => dl = [] ∧ ∃ n : Nat, j = l.length - n ∧ n ≤ l.length ∧
              M = S ++ [.cells [.i .u64 p, .sl i o v l.length cap ex] 0 none true, .cells [.i .i64 k, .i .i64 sub, xp, xd, .i .u64 g, .i .u64 q] 0 none true, .cells [.i .u64 0, .sn] 0 none true, .cells (l.flatMap entE.enc) 0 (some 14) true, .cells [.i .u64 p, .sl (S.length + 3) 0 0 l.length l.length false] 0 none true, .cells ((zeroTo l n).flatMap entE.enc) 0 (some 14) true, .cells [.i .u64 q, .sl (S.length + 5) 0 0 l.length l.length false] 0 none true] ∧
              e.get 7 = .p (S.length + 6) 0 0 ∧ e.get 4 = .p (S.length + 2) 0 0 ∧ e.get 6 = .p (S.length + 4) 0 0 ∧ e.get 8 = .b (decide (q = p + 1)) ∧ e.get 66 = .i .i64 l.length ∧ e.get 67 = .i .i64 n) (j := l.length) ⟨rfl, 0, rfl, Nat.zero_le _, rfl, rfl, rfl, rfl, rfl, rfl, rfl⟩ ?_
            rintro j e M d' ⟨rfl, n, rfl, hn, rfl, h7, h4, h6, h8, h66, h67⟩
            refine W_sound oAp_ok mixed _ _ _ _ _ ?_
            have hz := zeroTo_len l n
            by_cases hnl : n < l.length
            · have hnI : (n : Int) < l.length := by omega
              have hw1 : wrapV .i64 ((n : Int) + 1) = ((n + 1 : Nat) : Int) := by have := hbf.1; simp only at this; rw [wrap_i64 (by omega) (by omega)]; omega
              have hsp := splice_at (E := entE) (zeroTo l n) (show n < (zeroTo l n).length by omega) (l[n].grant 0) (f := 13) (ys := [.i .u64 0]) (by simp [entE]) (by rw [zeroTo_at l hnl]; rfl)
              rw [zeroTo_succ l hnl] at hsp
              have hsp : ((zeroTo l n).flatMap entE.enc).take (n * 14 + 13) ++ AV.i .u64 0 :: ((zeroTo l n).flatMap entE.enc).drop (n * 14 + 13 + 1) = (zeroTo l (n + 1)).flatMap entE.enc := hsp
              have hle : n * 14 + 13 + 1 ≤ ((zeroTo l n).flatMap entE.enc).length := by rw [enc_length]; show n * 14 + 13 + 1 ≤ (zeroTo l n).length * 14; omega
              simp (maxSteps := 1000000) (disch := omega) only [c13l2, h7, h4, h6, h8, h66, h67, hnI, Int.toNat_natCast, hw1, hsp, hle, go_sem, Option.map_none, Option.map_some, ↓reduceIte, Nat.reduceBEq, Nat.reduceAdd, Nat.reduceSub, Nat.reduceEqDiff, Nat.reduceLeDiff, Nat.reduceMul, Nat.reduceLT, Int.reduceLT, Int.reduceLE, Int.reduceAdd, Int.reduceSub, Int.reduceMul, Int.reduceNeg, Int.reduceEq, Int.reduceNe, Int.reduceToNat, decide_true, decide_false, iaddr_i, iaddr_sl_i, not_true_eq_false, not_false_eq_true, reduceCtorEq, ne_eq, forall_const, false_imp_iff, true_imp_iff, implies_true, Int.cast_ofNat_Int, Int.natCast_zero, Int.natCast_one, Int.add_zero, Int.zero_add]
              exact ⟨l.length - (n + 1), by omega, n + 1, rfl, by omega, rfl, rfl⟩
            · have hnI : ¬ (n : Int) < l.length := by omega
              obtain rfl : n = l.length := by omega
              simp (maxSteps := 1000000) (disch := omega) only [c13l2, h7, h4, h6, h8, h66, h67, hnI, orc_cons, zeroTo_all, go_sem, Option.map_none, Option.map_some, ↓reduceIte, Nat.reduceBEq, Nat.reduceAdd, Nat.reduceSub, Nat.reduceEqDiff, Nat.reduceLeDiff, Nat.reduceMul, Nat.reduceLT, Int.reduceLT, Int.reduceLE, Int.reduceAdd, Int.reduceSub, Int.reduceMul, Int.reduceNeg, Int.reduceEq, Int.reduceNe, Int.reduceToNat, decide_true, decide_false, iaddr_i, iaddr_sl_i, not_true_eq_false, not_false_eq_true, reduceCtorEq, ne_eq, forall_const, false_imp_iff, true_imp_iff, implies_true, Int.cast_ofNat_Int, Int.natCast_zero, Int.natCast_one, Int.add_zero, Int.zero_add]
              refine ⟨fun hq => ?_, fun hq => ?_⟩
              · have hq := Decidable.not_not.1 hq
                rw [if_pos hq] at h
                rw [bright_eq (b := ⟨q, l.map (·.grant 0)⟩)]
                rotate_left
                · refine bookOf_mk (l := l.map (·.grant 0)) ?_
                  rw [show l.length = (l.map (·.grant 0)).length by simp]
                  exact own_lst (ownV_mk (by rw [at_app]; rfl))
                · exact ⟨by simpa using hbf.1, fun x hx => by obtain ⟨y, hy, rfl⟩ := List.mem_map.1 hx; exact hbf.2 y hy⟩
                simp (maxSteps := 1000000) (disch := omega) only [go_sem, Option.map_none, Option.map_some, ↓reduceIte, Nat.reduceBEq, Nat.reduceAdd, Nat.reduceSub, Nat.reduceEqDiff, Nat.reduceLeDiff, Nat.reduceMul, Nat.reduceLT, Int.reduceLT, Int.reduceLE, Int.reduceAdd, Int.reduceSub, Int.reduceMul, Int.reduceNeg, Int.reduceEq, Int.reduceNe, Int.reduceToNat, decide_true, decide_false, iaddr_i, iaddr_sl_i, not_true_eq_false, not_false_eq_true, reduceCtorEq, ne_eq, forall_const, false_imp_iff, true_imp_iff, implies_true, Int.cast_ofNat_Int, Int.natCast_zero, Int.natCast_one, Int.add_zero, Int.zero_add]
                refine ⟨fun h1 => ?_, fun h1 => ?_⟩
                · simp only [Bk.fin, if_neg h1] at h
                  cases h
                  exact own _ _
                · simp only [Bk.fin, if_pos (Decidable.not_not.1 h1)] at h
                  cases h
                  exact Acc.retB entE_flat ⟨_, rfl, .inr (.inr ⟨by simpa using hne, 5, 0, by rw [List.length_map], rfl⟩)⟩ Flat_i Flat_i
              · rw [if_neg hq] at h
                cases h
                exact own _ _
          · exfalso
            rcases Decidable.not_not.1 hr with z | z | z
            · exact absurd z.1 (by assumption)
            · exact k2 z.1
            · exact k3 z.1
          · rw [show Bk.turned ⟨p, l⟩ ⟨k, sub, ps, ds, g, q⟩ = none by unfold Bk.turned; rw [if_neg fun z => hok z.1]] at h
            cases h
            exact own _ _
      · cases h
    · cases h
  · cases h
end Go.Proofs.Ytapgkaecamljbaa

namespace Go.Proofs.Ytapgkaecamljbaa
open Go.RowKit
set_option linter.unusedSimpArgs false
set_option linter.unusedVariables false
set_option maxRecDepth 100000

theorem alive_run : isTrue ((evAll tab 100000 100).fn 11 [] []) = true := by kernel_rfl
def aliveS : Spec := fun args S => match args with
  | [] => some (.b true, S)
  | _ => none
theorem alive_ok : SpecOK Try.prog 11 aliveS := by
  intro args S x S' h
  unfold aliveS at h
  split at h
  · cases h
    exact fnOK_of_below (by kernel_rfl) (fun w => calls_of_ev mixed tab_ok alive_run w) S
  · cases h

def greatS : Spec := fun args S => match args with
  | [.ag cb, .ag ce] => match bookOf S cb, evtOf S ce with
    | some b, some e => some (.b (decide (30 < b.entries.length ∨ 30 < e.puts.length ∨ 30 < e.drops.length)), S)
    | _, _ => none
  | _ => none
theorem great_ok : SpecOK Try.prog 12 greatS := by
  intro args S x S' h
  simp only [greatS] at h
  split at h
  · rename_i cb ce
    split at h
    · rename_i b ev hb hev
      cases h
      obtain ⟨s, rfl, hl⟩ := bookOf_ok hb
      obtain ⟨xp, xd, rfl, hp, hd⟩ := evtOf_ok hev
      refine fn_of_wp f12 rfl (W_sound none_ok mixed _ _ _ _ _ ?_)
      simp (maxSteps := 1000000) (disch := omega) only [c12, lst_len hl, lst_len hp, lst_len hd, go_sem, Option.map_none, Option.map_some, ↓reduceIte, Nat.reduceBEq, Nat.reduceAdd, Nat.reduceSub, Nat.reduceEqDiff, Nat.reduceLeDiff, Nat.reduceMul, Nat.reduceLT, Int.reduceLT, Int.reduceLE, Int.reduceAdd, Int.reduceSub, Int.reduceMul, Int.reduceNeg, Int.reduceEq, Int.reduceNe, Int.reduceToNat, decide_true, decide_false, iaddr_i, iaddr_sl_i, not_true_eq_false, not_false_eq_true, reduceCtorEq, ne_eq, forall_const, false_imp_iff, true_imp_iff, implies_true, Int.cast_ofNat_Int, Int.natCast_zero, Int.natCast_one, Int.add_zero, Int.zero_add]
      refine ⟨fun h1 => ⟨fun h2 => wkv_b ?_, fun h2 => ?_⟩, fun h1 => ?_⟩
      · constructor
        · rintro (z | z | z) <;> omega
        · intro z; omega
      · rw [decide_eq_true (by omega)]; exact wkv_drop rfl
      · rw [decide_eq_true (by omega)]; exact wkv_drop rfl
    · cases h
  · cases h
theorem great_eq {S : Mem} {cb ce : List AV} {b : Bk} {e : Evt} (hb : bookOf S cb = some b) (he : evtOf S ce = some e) : greatS [.ag cb, .ag ce] S = some (.b (decide (30 < b.entries.length ∨ 30 < e.puts.length ∨ 30 < e.drops.length)), S) := by
  simp only [greatS, hb, he]
theorem turn_call {S : Mem} {cb ce : List AV} {b : Bk} {e : Evt} (hb : bookOf S cb = some b) (he : evtOf S ce = some e) (hf : b.fits ∧ e.fits ∧ ¬ (b.ok ∧ e.right ∧ e.kind = 1)) :
    ∃ X M, turnS [.ag cb, .ag ce] S = some (.tu [.ag [.i .u64 ((b.turned e).getD b).period, X], .i .i64 (if (b.turned e).isSome then 0 else 131)], M) ∧ lstV entE M X = some ((b.turned e).getD b).entries ∧ S <+: M := by
  cases ht : b.turned e with
  | some b' =>
    refine ⟨retX (nzB cb) S b'.entries, retM (nzB cb) entE S b'.entries, ?_, retX_lst, retM_ext⟩
    simp only [turnS, hb, he, if_pos hf, ht, Option.getD_some, Option.isSome_some, if_true, bookR]
  | none =>
    refine ⟨retX (nzB cb) S b.entries, retM (nzB cb) entE S b.entries, ?_, retX_lst, retM_ext⟩
    simp only [turnS, hb, he, if_pos hf, ht, Option.getD_none, Option.isSome_none, Bool.false_eq_true, if_false, bookR]
theorem at_ext {S M : Mem} {i : Nat} {B : Blk} (h : S <+: M) (hB : S[i]? = some B) : M[i]? = some B := by
  obtain ⟨T, rfl⟩ := h; exact at_old hB
theorem oRo_ok : OK Try.prog (lamOf Try.prog) (orcOf [(11, aliveS), (12, greatS), (16, brightS), (13, turnS)]) := orc_ok (by simpa using ⟨alive_ok, great_ok, bright_ok, turn_ok⟩)

theorem polsOf_zero (l : List Ent) : polsOf (l.map (·.grant 0)) = polsOf l := by
  unfold polsOf; rw [List.map_map]; rfl
theorem turned3 {p : Int} {l : List Ent} (hok : (Bk.mk p l).ok) : (Bk.mk p l).turned ⟨3, 0, [], [], 0, p + 1⟩ = if p < 281474976710656 then some ⟨p + 1, l.map (·.grant 0)⟩ else none := by
  obtain ⟨h1, h2, h3, h4⟩ := hok
  simp only at h1 h2 h3 h4
  unfold Bk.turned
  by_cases hp : p < 281474976710656
  · have hr : Evt.right ⟨3, 0, [], [], 0, p + 1⟩ := .inr (.inr ⟨rfl, ⟨by show (1 : Int) ≤ p + 1; omega, by show p + 1 ≤ _; omega⟩, rfl⟩)
    rw [if_pos hp, if_pos ⟨⟨h1, h2, h3, h4⟩, hr⟩]
    have hb : Bk.turn ⟨p, l⟩ ⟨3, 0, [], [], 0, p + 1⟩ = some ⟨p + 1, l.map (·.grant 0)⟩ := by unfold Bk.turn; rw [if_neg (by simp), if_pos rfl]
    rw [hb]
    unfold Bk.fin
    simp only
    rw [if_pos ⟨by show (1 : Int) ≤ p + 1; omega, by show p + 1 ≤ _; omega, by show Pols (polsOf (l.map (·.grant 0))); rw [polsOf_zero]; exact h3, fun x hx => by obtain ⟨y, hy, rfl⟩ := List.mem_map.1 hx; show (0 : Int) ≤ _; omega⟩]
  · rw [if_neg hp, if_neg]
    rintro ⟨_, z | z | z⟩
    · exact absurd z.1 (by simp)
    · exact absurd z.1 (by simp)
    · have := z.2.1.2; simp only at this; omega
theorem turned2 {p sub g : Int} {l : List Ent} (hok : (Bk.mk p l).ok) : (Bk.mk p l).turned ⟨2, sub, [], [], g, 0⟩ = none ∨ ∃ l', leased l sub g = some l' ∧ (Bk.mk p l).turned ⟨2, sub, [], [], g, 0⟩ = some ⟨p, l'⟩ := by
  unfold Bk.turned
  by_cases h : (Bk.mk p l).ok ∧ Evt.right ⟨2, sub, [], [], g, 0⟩
  · rw [if_pos h]
    have hb : Bk.turn ⟨p, l⟩ ⟨2, sub, [], [], g, 0⟩ = (leased l sub g).map fun l => ⟨p, l⟩ := by unfold Bk.turn; rw [if_pos rfl]
    rw [hb]
    cases hle : leased l sub g with
    | none => exact .inl rfl
    | some l' =>
      simp only [Option.map_some, Bk.fin]
      split
      · exact .inr ⟨l', rfl, rfl⟩
      · exact .inl rfl
  · exact .inl (if_neg h)
/-- Subscribers rise. -/
theorem pols_rise {l : List Ent} (h : Pols (polsOf l)) {i j : Nat} (hij : i < j) (hj : j < l.length) : (l[i]'(by omega)).pol.sub < l[j].pol.sub := by
  have hl : (polsOf l).length = l.length := by unfold polsOf; simp
  have := (h.2 j (by omega) (by omega)).2 i hij
  have h2 := this.1
  unfold polsOf at h2
  simpa using h2

theorem rolls_ok (S : Mem) (p sub granted : Int) (s : AV) (l : List Ent) (hl : lstV entE S s = some l) (hf : ∀ x ∈ l, x.pol.fits) : FnOK Try.prog 4 [.ag [.i .u64 p, s], .i .i64 sub, .i .u64 granted] S (.b true) S := by
  have g1 := fun L => great_eq (bookOf_mk (p := p) (lstV_grow hl L)) (evtOf_mk (S := S ++ L) (k := 0) (s := 0) (g := 0) (p := 0) (xp := .sn) (xd := .sn) (ps := []) (ds := []) rfl rfl)
  by_cases h30 : 30 < l.length
  · refine fn_of_wp f4 rfl (W_sound oRo_ok mixed _ _ _ _ _ ?_)
    simp (maxSteps := 1000000) (disch := omega) only [c4, orc_cons, lst_cells hl, aliveS, g1, go_sem, Option.map_none, Option.map_some, ↓reduceIte, Nat.reduceBEq, Nat.reduceAdd, Nat.reduceSub, Nat.reduceEqDiff, Nat.reduceLeDiff, Nat.reduceMul, Nat.reduceLT, Int.reduceLT, Int.reduceLE, Int.reduceAdd, Int.reduceSub, Int.reduceMul, Int.reduceNeg, Int.reduceEq, Int.reduceNe, Int.reduceToNat, decide_true, decide_false, iaddr_i, iaddr_sl_i, not_true_eq_false, not_false_eq_true, reduceCtorEq, ne_eq, forall_const, false_imp_iff, true_imp_iff, implies_true, Int.cast_ofNat_Int, Int.natCast_zero, Int.natCast_one, Int.add_zero, Int.zero_add]
    exact ⟨fun h => absurd (.inl (by omega)) h, fun _ => wkv_drop rfl⟩
  have hlen : l.length ≤ 1000000 := by omega
  have b1 := fun L => bright_eq (bookOf_mk (p := p) (lstV_grow hl L)) ⟨hlen, hf⟩
  refine fn_of_wp f4 rfl (W_sound oRo_ok mixed _ _ _ _ _ ?_)
  simp (maxSteps := 1000000) (disch := omega) only [c4, orc_cons, lst_cells hl, aliveS, g1, b1, go_sem, Option.map_none, Option.map_some, ↓reduceIte, Nat.reduceBEq, Nat.reduceAdd, Nat.reduceSub, Nat.reduceEqDiff, Nat.reduceLeDiff, Nat.reduceMul, Nat.reduceLT, Int.reduceLT, Int.reduceLE, Int.reduceAdd, Int.reduceSub, Int.reduceMul, Int.reduceNeg, Int.reduceEq, Int.reduceNe, Int.reduceToNat, decide_true, decide_false, iaddr_i, iaddr_sl_i, not_true_eq_false, not_false_eq_true, reduceCtorEq, ne_eq, forall_const, false_imp_iff, true_imp_iff, implies_true, Int.cast_ofNat_Int, Int.natCast_zero, Int.natCast_one, Int.add_zero, Int.zero_add]
  refine ⟨fun hg => ⟨fun hr => wkv_drop rfl, fun hr => ?_⟩, fun _ => wkv_drop rfl⟩
  have hok := Decidable.not_not.1 hr
  have hw : wrapV .u64 (p + 1) = p + 1 := wrap_u64 (by have := hok.1; simp only at this; omega) (by have := hok.2.1; simp only at this; omega)
  rw [hw]
  obtain ⟨X, M, err, p1, l1, hc, hX, hM, e1, e2, e3, e4⟩ : ∃ X M err p1 l1, turnS [.ag [.i .u64 p, s], .ag [.i .i64 3, .i .i64 0, .sn, .sn, .i .u64 0, .i .u64 (p + 1)]] (S ++ [.cells [.i .u64 p, s] 0 none true]) = some (.tu [.ag [.i .u64 p1, X], .i .i64 err], M) ∧ lstV entE M X = some l1 ∧ S ++ [.cells [.i .u64 p, s] 0 none true] <+: M ∧
      ((err = 0) ↔ (p < 281474976710656)) ∧ l1.length = l.length ∧ (∀ k (h : k < l.length) (h1 : k < l1.length), l1[k].pol = l[k].pol) ∧ (err = 0 → ∀ k (h1 : k < l1.length), l1[k].granted = 0) := by
    obtain ⟨X, M, h1, h2, h3⟩ := turn_call (b := ⟨p, l⟩) (bookOf_mk (p := p) (lstV_grow hl [.cells [.i .u64 p, s] 0 none true])) (evtOf_mk (S := S ++ [.cells [.i .u64 p, s] 0 none true]) (k := 3) (s := 0) (g := 0) (p := p + 1) (xp := .sn) (xd := .sn) (ps := []) (ds := []) rfl rfl) ⟨⟨hlen, hf⟩, ⟨by simp, by simp, fun x hx => by cases hx⟩, fun z => absurd z.2.2 (by simp)⟩
    rw [turned3 hok] at h1 h2
    by_cases hp : p < 281474976710656
    · rw [if_pos hp] at h1 h2
      exact ⟨X, M, _, _, _, h1, h2, h3, by simp [hp], by simp, fun k h h' => by simp [Ent.grant], fun _ k h' => by simp [Ent.grant]⟩
    · rw [if_neg hp] at h1 h2
      exact ⟨X, M, _, _, _, h1, h2, h3, by simp [hp], rfl, fun k h h' => rfl, fun h => by simp at h⟩
  have hB : M[S.length]? = some (.cells [.i .u64 p, s] 0 none true) := at_ext hM (by rw [at_app0]; rfl)
  have hB1 : ∀ L, (M ++ L)[S.length]? = some (.cells [.i .u64 p, s] 0 none true) := fun L => at_old hB
  have hlM := lst_ext (lstV_grow hl [.cells [.i .u64 p, s] 0 none true]) hM
  simp (maxSteps := 1000000) (disch := omega) only [hc, lst_cells hX, lst_one hX, hB1, lst_len hX, lst_len hl, e2, go_sem, Option.map_none, Option.map_some, ↓reduceIte, Nat.reduceBEq, Nat.reduceAdd, Nat.reduceSub, Nat.reduceEqDiff, Nat.reduceLeDiff, Nat.reduceMul, Nat.reduceLT, Int.reduceLT, Int.reduceLE, Int.reduceAdd, Int.reduceSub, Int.reduceMul, Int.reduceNeg, Int.reduceEq, Int.reduceNe, Int.reduceToNat, decide_true, decide_false, iaddr_i, iaddr_sl_i, not_true_eq_false, not_false_eq_true, reduceCtorEq, ne_eq, forall_const, false_imp_iff, true_imp_iff, implies_true, Int.cast_ofNat_Int, Int.natCast_zero, Int.natCast_one, Int.add_zero, Int.zero_add]
  refine ⟨fun _ => ?_, fun h => absurd (by by_cases hp : p < 281474976710656 <;> simp [e1, hp]) h⟩
  refine wp_loop (fun j e N dl => dl = [] ∧ ∃ k : Nat, j = l.length - k ∧ k ≤ l.length ∧ M <+: N ∧
    e.get 3 = .p S.length 0 0 ∧ e.get 8 = .i .i64 err ∧ e.get 51 = X ∧ e.get 2 = .i .u64 granted ∧ e.get 1 = .i .i64 sub ∧ e.get 52 = .i .i64 l.length ∧ e.get 53 = .i .i64 k) (j := l.length) ⟨rfl, 0, rfl, Nat.zero_le _, ext_app _, rfl, rfl, rfl, rfl, rfl, rfl, rfl⟩ ?_
  rintro j e N d' ⟨rfl, k, rfl, hk, hN, h3, h8, h51, h2, h1, h52, h53⟩
  have hBN : ∀ L, (N ++ L)[S.length]? = some (.cells [.i .u64 p, s] 0 none true) := fun L => at_old (at_ext hN hB)
  have hBN0 := hBN []
  rw [List.append_nil] at hBN0
  have hXN := lst_ext hX hN
  have hlN := lst_ext hlM hN
  refine W_sound oRo_ok mixed _ _ _ _ _ ?_
  by_cases hkl : k < l.length
  · have hk1 : k < l1.length := by omega
    obtain ⟨bi, o, v, cap, ex, rfl⟩ := lst_sl hXN hk1
    obtain ⟨bj, o2, v2, cap2, ex2, rfl⟩ := lst_sl hlN hkl
    have r1 : ∀ L, rowB ((N ++ L)[bi]?) (o + k * 14) v 14 = some l1[k].enc := lstV_row hXN hk1
    have r10 := r1 []
    rw [List.append_nil] at r10
    have r2 : ∀ L, rowB ((N ++ L)[bj]?) (o2 + k * 14 + 0) v2 13 = some l[k].pol.enc := lstV_part hlN hkl (f := 0) (n := 13) (by decide)
    have hkI : (k : Int) < l.length := by omega
    have hw1 : wrapV .i64 ((k : Int) + 1) = ((k + 1 : Nat) : Int) := by rw [wrap_i64 (by omega) (by omega)]; omega
    have hne := ne_pol (a := l1[k].pol) (b := l[k].pol)
    rw [show (decide ¬ l1[k].pol = l[k].pol) = false by rw [e3 k hkl hk1]; simp] at hne
    simp only [polE, Pol.enc, Nat.add_zero] at hne r2
    have hz := e4
    simp (maxSteps := 1000000) (disch := omega) only [c4l1, h3, h8, h51, h2, h1, h52, h53, hkI, Int.toNat_natCast, hw1, Ent.enc, r10, r2, hBN, hne, e2, List.replicate, go_sem, Option.map_none, Option.map_some, ↓reduceIte, Nat.reduceBEq, Nat.reduceAdd, Nat.reduceSub, Nat.reduceEqDiff, Nat.reduceLeDiff, Nat.reduceMul, Nat.reduceLT, Int.reduceLT, Int.reduceLE, Int.reduceAdd, Int.reduceSub, Int.reduceMul, Int.reduceNeg, Int.reduceEq, Int.reduceNe, Int.reduceToNat, decide_true, decide_false, iaddr_i, iaddr_sl_i, not_true_eq_false, not_false_eq_true, reduceCtorEq, ne_eq, forall_const, false_imp_iff, true_imp_iff, implies_true, Int.cast_ofNat_Int, Int.natCast_zero, Int.natCast_one, Int.add_zero, Int.zero_add]
    refine ⟨fun he => ⟨fun hz => absurd (e4 he k hk1) hz, fun _ => ⟨l.length - (k + 1), by omega, k + 1, rfl, by omega, ext_more hN _, rfl⟩⟩, fun _ => ⟨l.length - (k + 1), by omega, k + 1, rfl, by omega, ext_more hN _, rfl⟩⟩
  · have hkI : ¬ (k : Int) < l.length := by omega
    obtain ⟨X2, M2, err2, l2, hc2, hX2, hM2, f1, f2⟩ : ∃ X2 M2 err2 l2, turnS [.ag [.i .u64 p, s], .ag [.i .i64 2, .i .i64 sub, .sn, .sn, .i .u64 granted, .i .u64 0]] N = some (.tu [.ag [.i .u64 p, X2], .i .i64 err2], M2) ∧ lstV entE M2 X2 = some l2 ∧ N <+: M2 ∧
        l2.length = l.length ∧ ∀ (k : Nat) (h : k < l.length) (h1 : k < l2.length), (err2 = 0 ∧ l2[k].pol.sub = sub → l2[k] = l[k].grant granted) ∧ (¬ (err2 = 0 ∧ l2[k].pol.sub = sub) → l2[k] = l[k]) := by
      obtain ⟨X, M, h1, h2, h3⟩ := turn_call (b := ⟨p, l⟩) (bookOf_mk (p := p) hlN) (evtOf_mk (S := N) (k := 2) (s := sub) (g := granted) (p := 0) (xp := .sn) (xd := .sn) (ps := []) (ds := []) rfl rfl) ⟨⟨hlen, hf⟩, ⟨by simp, by simp, fun x hx => by cases hx⟩, fun z => absurd z.2.2 (by simp)⟩
      rcases turned2 (sub := sub) (g := granted) hok with ht | ⟨l', hle, ht⟩
      · rw [ht] at h1 h2
        exact ⟨X, M, _, _, h1, h2, h3, rfl, fun k h h' => ⟨fun z => by simp at z, fun _ => rfl⟩⟩
      · rw [ht] at h1 h2
        obtain ⟨j, hj, rfl, hi, hg1, hg2⟩ := leased_some hle
        obtain ⟨_, hjs, hjn⟩ := List.findIdx?_eq_some_iff_getElem.1 hi
        have hjs : l[j].pol.sub = sub := by simpa [hasSub] using hjs
        refine ⟨X, M, _, _, h1, h2, h3, by simp, fun k h h' => ?_⟩
        simp only [Option.getD_some] at h' ⊢
        by_cases e : j = k
        · subst e
          have hg : (l.set j (l[j].grant granted))[j] = l[j].grant granted := List.getElem_set_self _
          rw [hg]
          exact ⟨fun _ => rfl, fun z => absurd ⟨rfl, hjs⟩ z⟩
        · have hg : (l.set j (l[j].grant granted))[k] = l[k] := List.getElem_set_ne e _
          rw [hg]
          refine ⟨fun z => absurd z.2 ?_, fun _ => rfl⟩
          rcases Nat.lt_or_gt_of_ne e with h | h
          · have := pols_rise hok.2.2.1 h (by assumption); simp only at this; omega
          · have := pols_rise hok.2.2.1 h hj; simp only at this; omega
    simp (maxSteps := 1000000) (disch := omega) only [c4l1, h3, h8, h51, h2, h1, h52, h53, hkI, hBN0, orc_cons, hc2, go_sem, Option.map_none, Option.map_some, ↓reduceIte, Nat.reduceBEq, Nat.reduceAdd, Nat.reduceSub, Nat.reduceEqDiff, Nat.reduceLeDiff, Nat.reduceMul, Nat.reduceLT, Int.reduceLT, Int.reduceLE, Int.reduceAdd, Int.reduceSub, Int.reduceMul, Int.reduceNeg, Int.reduceEq, Int.reduceNe, Int.reduceToNat, decide_true, decide_false, iaddr_i, iaddr_sl_i, not_true_eq_false, not_false_eq_true, reduceCtorEq, ne_eq, forall_const, false_imp_iff, true_imp_iff, implies_true, Int.cast_ofNat_Int, Int.natCast_zero, Int.natCast_one, Int.add_zero, Int.zero_add]
    have hB2 := at_ext hM2 hBN0
    have hB3 : ∀ L, (M2 ++ L)[S.length]? = some (.cells [.i .u64 p, s] 0 none true) := fun L => at_old hB2
    have hl2 := lst_ext hlN hM2
    simp (maxSteps := 1000000) (disch := omega) only [lst_cells hX2, lst_one hX2, hB3, lst_len hX2, lst_len hl, f1, go_sem, Option.map_none, Option.map_some, ↓reduceIte, Nat.reduceBEq, Nat.reduceAdd, Nat.reduceSub, Nat.reduceEqDiff, Nat.reduceLeDiff, Nat.reduceMul, Nat.reduceLT, Int.reduceLT, Int.reduceLE, Int.reduceAdd, Int.reduceSub, Int.reduceMul, Int.reduceNeg, Int.reduceEq, Int.reduceNe, Int.reduceToNat, decide_true, decide_false, iaddr_i, iaddr_sl_i, not_true_eq_false, not_false_eq_true, reduceCtorEq, ne_eq, forall_const, false_imp_iff, true_imp_iff, implies_true, Int.cast_ofNat_Int, Int.natCast_zero, Int.natCast_one, Int.add_zero, Int.zero_add]
    refine wp_loop (fun j e N dl => dl = [] ∧ ∃ k : Nat, j = l.length - k ∧ k ≤ l.length ∧ M2 <+: N ∧
      e.get 3 = .p S.length 0 0 ∧ e.get 12 = .i .i64 err2 ∧ e.get 100 = X2 ∧ e.get 2 = .i .u64 granted ∧ e.get 1 = .i .i64 sub ∧ e.get 101 = .i .i64 l.length ∧ e.get 102 = .i .i64 k) (j := l.length) ⟨rfl, 0, rfl, Nat.zero_le _, ext_app _, rfl, rfl, rfl, rfl, rfl, rfl, rfl⟩ ?_
    rintro j e N2 d' ⟨rfl, k, rfl, hk, hN2, h3, h12, h100, h2, h1, h101, h102⟩
    have hBN2 : ∀ L, (N2 ++ L)[S.length]? = some (.cells [.i .u64 p, s] 0 none true) := fun L => at_old (at_ext hN2 hB2)
    have hXN2 := lst_ext hX2 hN2
    have hlN2 := lst_ext hl2 hN2
    refine W_sound oRo_ok mixed _ _ _ _ _ ?_
    by_cases hkl : k < l.length
    · have hk1 : k < l2.length := by omega
      obtain ⟨bi, o, v, cap, ex, rfl⟩ := lst_sl hXN2 hk1
      obtain ⟨bj, o2, v2, cap2, ex2, rfl⟩ := lst_sl hlN2 hkl
      have r1 : ∀ L, rowB ((N2 ++ L)[bi]?) (o + k * 14) v 14 = some l2[k].enc := lstV_row hXN2 hk1
      have r10 := r1 []
      rw [List.append_nil] at r10
      have r2 : ∀ L, rowB ((N2 ++ L)[bj]?) (o2 + k * 14) v2 14 = some l[k].enc := lstV_row hlN2 hkl
      have hkI : (k : Int) < l.length := by omega
      have hw1 : wrapV .i64 ((k : Int) + 1) = ((k + 1 : Nat) : Int) := by rw [wrap_i64 (by omega) (by omega)]; omega
      have n1 := ne_ent (a := l2[k]) (b := l[k])
      have n2 := ne_ent (a := l2[k]) (b := l[k].grant granted)
      simp only [entE, Ent.enc, Ent.grant] at n1 n2
      obtain ⟨q1, q2⟩ := f2 k hkl hk1
      simp (maxSteps := 1000000) (disch := omega) only [c4l2, h3, h12, h100, h2, h1, h101, h102, hkI, Int.toNat_natCast, hw1, Ent.enc, r10, r2, hBN2, f1, List.replicate, go_sem, Option.map_none, Option.map_some, ↓reduceIte, Nat.reduceBEq, Nat.reduceAdd, Nat.reduceSub, Nat.reduceEqDiff, Nat.reduceLeDiff, Nat.reduceMul, Nat.reduceLT, Int.reduceLT, Int.reduceLE, Int.reduceAdd, Int.reduceSub, Int.reduceMul, Int.reduceNeg, Int.reduceEq, Int.reduceNe, Int.reduceToNat, decide_true, decide_false, iaddr_i, iaddr_sl_i, not_true_eq_false, not_false_eq_true, reduceCtorEq, ne_eq, forall_const, false_imp_iff, true_imp_iff, implies_true, Int.cast_ofNat_Int, Int.natCast_zero, Int.natCast_one, Int.add_zero, Int.zero_add]
      refine ⟨fun he => ⟨fun hs => ?_, fun hs => ?_⟩, fun he => ?_⟩
      · rw [n2]
        simp (maxSteps := 1000000) (disch := omega) only [hw1, go_sem, Option.map_none, Option.map_some, ↓reduceIte, Nat.reduceBEq, Nat.reduceAdd, Nat.reduceSub, Nat.reduceEqDiff, Nat.reduceLeDiff, Nat.reduceMul, Nat.reduceLT, Int.reduceLT, Int.reduceLE, Int.reduceAdd, Int.reduceSub, Int.reduceMul, Int.reduceNeg, Int.reduceEq, Int.reduceNe, Int.reduceToNat, decide_true, decide_false, iaddr_i, iaddr_sl_i, not_true_eq_false, not_false_eq_true, reduceCtorEq, ne_eq, forall_const, false_imp_iff, true_imp_iff, implies_true, Int.cast_ofNat_Int, Int.natCast_zero, Int.natCast_one, Int.add_zero, Int.zero_add]
        exact ⟨fun h => absurd (q1 ⟨he, hs⟩) (of_decide_eq_true h), fun _ => ⟨l.length - (k + 1), by omega, k + 1, rfl, by omega, ext_more hN2 _, rfl⟩⟩
      · rw [n1]
        simp (maxSteps := 1000000) (disch := omega) only [hw1, go_sem, Option.map_none, Option.map_some, ↓reduceIte, Nat.reduceBEq, Nat.reduceAdd, Nat.reduceSub, Nat.reduceEqDiff, Nat.reduceLeDiff, Nat.reduceMul, Nat.reduceLT, Int.reduceLT, Int.reduceLE, Int.reduceAdd, Int.reduceSub, Int.reduceMul, Int.reduceNeg, Int.reduceEq, Int.reduceNe, Int.reduceToNat, decide_true, decide_false, iaddr_i, iaddr_sl_i, not_true_eq_false, not_false_eq_true, reduceCtorEq, ne_eq, forall_const, false_imp_iff, true_imp_iff, implies_true, Int.cast_ofNat_Int, Int.natCast_zero, Int.natCast_one, Int.add_zero, Int.zero_add]
        exact ⟨fun h => absurd (q2 fun z => hs z.2) h, fun _ => ⟨l.length - (k + 1), by omega, k + 1, rfl, by omega, ext_more hN2 _, rfl⟩⟩
      · rw [n1]
        simp (maxSteps := 1000000) (disch := omega) only [hw1, go_sem, Option.map_none, Option.map_some, ↓reduceIte, Nat.reduceBEq, Nat.reduceAdd, Nat.reduceSub, Nat.reduceEqDiff, Nat.reduceLeDiff, Nat.reduceMul, Nat.reduceLT, Int.reduceLT, Int.reduceLE, Int.reduceAdd, Int.reduceSub, Int.reduceMul, Int.reduceNeg, Int.reduceEq, Int.reduceNe, Int.reduceToNat, decide_true, decide_false, iaddr_i, iaddr_sl_i, not_true_eq_false, not_false_eq_true, reduceCtorEq, ne_eq, forall_const, false_imp_iff, true_imp_iff, implies_true, Int.cast_ofNat_Int, Int.natCast_zero, Int.natCast_one, Int.add_zero, Int.zero_add]
        exact ⟨fun h => absurd (q2 fun z => he z.1) h, fun _ => ⟨l.length - (k + 1), by omega, k + 1, rfl, by omega, ext_more hN2 _, rfl⟩⟩
    · have hkI : ¬ (k : Int) < l.length := by omega
      simp (maxSteps := 1000000) (disch := omega) only [c4l2, h3, h12, h100, h2, h1, h101, h102, hkI, go_sem, Option.map_none, Option.map_some, ↓reduceIte, Nat.reduceBEq, Nat.reduceAdd, Nat.reduceSub, Nat.reduceEqDiff, Nat.reduceLeDiff, Nat.reduceMul, Nat.reduceLT, Int.reduceLT, Int.reduceLE, Int.reduceAdd, Int.reduceSub, Int.reduceMul, Int.reduceNeg, Int.reduceEq, Int.reduceNe, Int.reduceToNat, decide_true, decide_false, iaddr_i, iaddr_sl_i, not_true_eq_false, not_false_eq_true, reduceCtorEq, ne_eq, forall_const, false_imp_iff, true_imp_iff, implies_true, Int.cast_ofNat_Int, Int.natCast_zero, Int.natCast_one, Int.add_zero, Int.zero_add]
      exact wkv_dropP (((((ext_app _).trans hM).trans hN).trans hM2).trans hN2) rfl
end Go.Proofs.Ytapgkaecamljbaa

