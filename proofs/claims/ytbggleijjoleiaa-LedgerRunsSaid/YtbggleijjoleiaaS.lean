/- Proved here: what the functions of a ledger, and of the document's ledger, compute. No condition. -/
import Derived.Test.YtbggleijjoleiaaCode
namespace Go.Proofs.Ytbggleijjoleiaa
open Go.RowKit
set_option linter.unusedSimpArgs false
set_option linter.unusedVariables false
set_option maxRecDepth 10000

/-- A ledger. -/
structure Led where
  q : Int
  l : Int
  g : Int
  u : Int

def Led.ok (x : Led) : Prop := 0 ≤ x.q ∧ x.q ≤ 281474976710656 ∧ 0 ≤ x.l ∧ x.l ≤ 281474976710656 ∧ 0 ≤ x.u ∧ x.u ≤ x.g ∧ x.g ≤ 281474976710656
instance (x : Led) : Decidable x.ok := by unfold Led.ok; infer_instance
def u64 (n : Int) : Prop := 0 ≤ n ∧ n ≤ 18446744073709551615
instance (n : Int) : Decidable (u64 n) := by unfold u64; infer_instance

def Led.covers (x : Led) (n : Int) : Prop := x.u + n ≤ x.g
instance (x : Led) (n : Int) : Decidable (x.covers n) := by unfold Led.covers; infer_instance
def Led.may (x : Led) (n : Int) : Prop := x.u + n ≤ x.q
instance (x : Led) (n : Int) : Decidable (x.may n) := by unfold Led.may; infer_instance
def Led.want (x : Led) (n : Int) : Int := if x.covers n then x.g else if x.may n then max (min (x.u + x.l) x.q) (x.u + n) else 0
def Led.grants (x : Led) (n : Int) : Prop := x.g ≤ n ∧ n ≤ x.q
instance (x : Led) (n : Int) : Decidable (x.grants n) := by unfold Led.grants; infer_instance
def Led.grant (x : Led) (n : Int) : Led := if x.grants n then { x with g := n } else x
def Led.grantE (x : Led) (n : Int) : Int := if x.grants n then 0 else 181
def Led.spend (x : Led) (n : Int) : Led := if x.covers n then { x with u := x.u + n } else x
def Led.roll (x : Led) : Led := { x with g := 0, u := 0 }
def fine (a b : Int) : Prop := a ≤ 281474976710656 ∧ b ≤ 281474976710656
instance (a b : Int) : Decidable (fine a b) := by unfold fine; infer_instance
def Led.change (x : Led) (a b : Int) : Led := if fine a b then { x with q := a, l := b } else x
def changeE (a b : Int) : Int := if fine a b then 0 else 181

theorem Led.ok_grant {x : Led} (h : x.ok) (n : Int) : (x.grant n).ok := by
  unfold Led.grant; split
  · rename_i hg; unfold Led.ok Led.grants at *; simp only; omega
  · exact h
theorem Led.ok_spend {x : Led} (h : x.ok) {n : Int} (hn : u64 n) : (x.spend n).ok := by
  unfold Led.spend; split
  · rename_i hg; unfold Led.ok Led.covers u64 at *; simp only; omega
  · exact h
theorem Led.ok_roll {x : Led} (h : x.ok) : x.roll.ok := by unfold Led.roll; unfold Led.ok at *; simp only; omega
theorem Led.ok_change {x : Led} (h : x.ok) {a b : Int} (ha : u64 a) (hb : u64 b) : (x.change a b).ok := by
  unfold Led.change; split
  · rename_i hg; unfold Led.ok fine u64 at *; simp only; omega
  · exact h
theorem Led.u64_want {x : Led} (h : x.ok) {n : Int} (hn : u64 n) : u64 (x.want n) := by
  unfold Led.want
  split
  · unfold Led.ok u64 at *; omega
  · split
    · rename_i h1 h2; unfold Led.ok u64 Led.may at *; omega
    · unfold u64; omega

/-- Its cells. -/
def Led.enc (x : Led) : List AV := [.i .u64 x.q, .i .u64 x.l, .i .u64 x.g, .i .u64 x.u]
def Led.blk (x : Led) : Blk := .cells x.enc 0 none true
theorem Led.flat (x : Led) (n : Nat) : BFlat n x.blk := bflat_cells fun y hy => by
  simp only [Led.enc, List.mem_cons, List.not_mem_nil, or_false] at hy
  rcases hy with rfl | rfl | rfl | rfl <;> intro g <;> rfl

theorem none_ok : OK Try.prog (lamOf Try.prog) (orcOf []) := orc_ok (l := []) (fun p hp => by cases hp)

/-! ### Numbers in four parts -/
def lim32 (n : Int) : Prop := 0 ≤ n ∧ n < 4294967296
instance (n : Int) : Decidable (lim32 n) := by unfold lim32; infer_instance
def s30 : Spec := fun args S => match args with
  | [.i .u64 a] => if u64 a then some (.ag [.i .u64 (a % 4294967296), .i .u64 (a / 4294967296), .i .u64 0, .i .u64 0], S) else none
  | _ => none
theorem s30_eq {a : Int} (h : u64 a) (S : Mem) : s30 [.i .u64 a] S = some (.ag [.i .u64 (a % 4294967296), .i .u64 (a / 4294967296), .i .u64 0, .i .u64 0], S) := by simp only [s30, if_pos h]
theorem s30_ok : SpecOK Try.prog 30 s30 := by
  intro args S x S' h
  simp only [s30] at h
  split at h
  · rename_i a
    split at h
    · rename_i ha
      cases h
      unfold u64 at ha
      refine fn_of_wp f30 rfl (W_sound none_ok mixed _ _ _ _ _ ?_)
      simp (maxSteps := 1000000) (disch := omega) only [c30, go_sem, ↓reduceIte, Nat.reduceBEq, Nat.reduceAdd, Nat.reduceSub, Nat.reduceEqDiff, Nat.reduceLeDiff, Nat.reduceMul, Nat.reduceLT, Int.reduceLT, Int.reduceLE, Int.reduceAdd, Int.reduceSub, Int.reduceMul, Int.reduceNeg, Int.reduceEq, Int.reduceNe, Int.reduceToNat, decide_true, decide_false, iaddr_i, iaddr_sl_i, not_true_eq_false, not_false_eq_true, reduceCtorEq, ne_eq, forall_const, false_imp_iff, true_imp_iff, implies_true, Int.cast_ofNat_Int, Int.natCast_zero, Int.natCast_one, Int.add_zero, Int.zero_add]
      exact wkv_drop rfl
    · cases h
  · cases h

def s29 : Spec := fun args S => match args with
  | [.ag [.i .u64 a, .i .u64 b, .i .u64 c, .i .u64 d], .ag [.i .u64 x, .i .u64 y, .i .u64 z, .i .u64 w]] =>
    if lim32 a ∧ lim32 b ∧ lim32 c ∧ lim32 d ∧ lim32 x ∧ lim32 y ∧ lim32 z ∧ lim32 w then
      some (.ag [.i .u64 ((a + x) % 4294967296), .i .u64 ((b + y + (a + x) / 4294967296) % 4294967296), .i .u64 ((c + z + (b + y + (a + x) / 4294967296) / 4294967296) % 4294967296),
        .i .u64 ((d + w + (c + z + (b + y + (a + x) / 4294967296) / 4294967296) / 4294967296) % 4294967296)], S)
    else none
  | _ => none
theorem s29_ok : SpecOK Try.prog 29 s29 := by
  intro args S x S' h
  simp only [s29] at h
  split at h
  · split at h
    · rename_i hh
      cases h
      unfold lim32 at hh
      obtain ⟨h1, h2, h3, h4, h5, h6, h7, h8⟩ := hh
      refine fn_of_wp f29 rfl (W_sound none_ok mixed _ _ _ _ _ ?_)
      simp (maxSteps := 1000000) (disch := omega) only [c29, go_sem, ↓reduceIte, Nat.reduceBEq, Nat.reduceAdd, Nat.reduceSub, Nat.reduceEqDiff, Nat.reduceLeDiff, Nat.reduceMul, Nat.reduceLT, Int.reduceLT, Int.reduceLE, Int.reduceAdd, Int.reduceSub, Int.reduceMul, Int.reduceNeg, Int.reduceEq, Int.reduceNe, Int.reduceToNat, decide_true, decide_false, iaddr_i, iaddr_sl_i, not_true_eq_false, not_false_eq_true, reduceCtorEq, ne_eq, forall_const, false_imp_iff, true_imp_iff, implies_true, Int.cast_ofNat_Int, Int.natCast_zero, Int.natCast_one, Int.add_zero, Int.zero_add]
      refine wp_unroll none_ok mixed 5 ?_
      simp (maxSteps := 1000000) (disch := omega) only [c29l1, go_sem, ↓reduceIte, Nat.reduceBEq, Nat.reduceAdd, Nat.reduceSub, Nat.reduceEqDiff, Nat.reduceLeDiff, Nat.reduceMul, Nat.reduceLT, Int.reduceLT, Int.reduceLE, Int.reduceAdd, Int.reduceSub, Int.reduceMul, Int.reduceNeg, Int.reduceEq, Int.reduceNe, Int.reduceToNat, decide_true, decide_false, iaddr_i, iaddr_sl_i, not_true_eq_false, not_false_eq_true, reduceCtorEq, ne_eq, forall_const, false_imp_iff, true_imp_iff, implies_true, Int.cast_ofNat_Int, Int.natCast_zero, Int.natCast_one, Int.add_zero, Int.zero_add]
      exact wkv_drop rfl
    · cases h
  · cases h

/-- Which of two is less. -/
def cmp4 (a b c d x y z w : Int) : Int := if d < w then -1 else if w < d then 1 else if c < z then -1 else if z < c then 1 else if b < y then -1 else if y < b then 1 else if a < x then -1 else if x < a then 1 else 0
def s28 : Spec := fun args S => match args with
  | [.ag [.i .u64 a, .i .u64 b, .i .u64 c, .i .u64 d], .ag [.i .u64 x, .i .u64 y, .i .u64 z, .i .u64 w]] => some (.i .i64 (cmp4 a b c d x y z w), S)
  | _ => none
theorem s28_ok : SpecOK Try.prog 28 s28 := by
  intro args S x S' h
  simp only [s28] at h
  split at h
  · cases h
    refine fn_of_wp f28 rfl (W_sound none_ok mixed _ _ _ _ _ ?_)
    simp (maxSteps := 1000000) (disch := omega) only [c28, go_sem, ↓reduceIte, Nat.reduceBEq, Nat.reduceAdd, Nat.reduceSub, Nat.reduceEqDiff, Nat.reduceLeDiff, Nat.reduceMul, Nat.reduceLT, Int.reduceLT, Int.reduceLE, Int.reduceAdd, Int.reduceSub, Int.reduceMul, Int.reduceNeg, Int.reduceEq, Int.reduceNe, Int.reduceToNat, decide_true, decide_false, iaddr_i, iaddr_sl_i, not_true_eq_false, not_false_eq_true, reduceCtorEq, ne_eq, forall_const, false_imp_iff, true_imp_iff, implies_true, Int.cast_ofNat_Int, Int.natCast_zero, Int.natCast_one, Int.add_zero, Int.zero_add]
    refine wp_unroll none_ok mixed 5 ?_
    simp (maxSteps := 1000000) (disch := omega) only [c28l2, go_sem, ↓reduceIte, Nat.reduceBEq, Nat.reduceAdd, Nat.reduceSub, Nat.reduceEqDiff, Nat.reduceLeDiff, Nat.reduceMul, Nat.reduceLT, Int.reduceLT, Int.reduceLE, Int.reduceAdd, Int.reduceSub, Int.reduceMul, Int.reduceNeg, Int.reduceEq, Int.reduceNe, Int.reduceToNat, decide_true, decide_false, iaddr_i, iaddr_sl_i, not_true_eq_false, not_false_eq_true, reduceCtorEq, ne_eq, forall_const, false_imp_iff, true_imp_iff, implies_true, Int.cast_ofNat_Int, Int.natCast_zero, Int.natCast_one, Int.add_zero, Int.zero_add]
    unfold cmp4
    refine ⟨fun h1 => ?_, fun h1 => ⟨fun h2 => ?_, fun h2 => ⟨fun h3 => ?_, fun h3 => ⟨fun h4 => ?_, fun h4 => ⟨fun h5 => ?_, fun h5 => ⟨fun h6 => ?_, fun h6 => ⟨fun h7 => ?_, fun h7 => ⟨fun h8 => ?_, fun h8 => ?_⟩⟩⟩⟩⟩⟩⟩⟩ <;>
      (simp only [*, if_true, if_false]; exact wkv_drop rfl)
  · cases h

def s26 : Spec := fun args S => match args with
  | [.i .u64 a, .i .u64 b, .i .u64 m] => if u64 a ∧ u64 b ∧ u64 m then some (.b (decide (a + b ≤ m)), S) else none
  | _ => none
theorem s26_eq {a b m : Int} (ha : u64 a) (hb : u64 b) (hm : u64 m) (S : Mem) : s26 [.i .u64 a, .i .u64 b, .i .u64 m] S = some (.b (decide (a + b ≤ m)), S) := by simp only [s26, if_pos (And.intro ha (And.intro hb hm))]
theorem s29_eq {a b c d x y z w : Int} (h1 : lim32 a) (h2 : lim32 b) (h3 : lim32 c) (h4 : lim32 d) (h5 : lim32 x) (h6 : lim32 y) (h7 : lim32 z) (h8 : lim32 w) (S : Mem) : s29 [.ag [.i .u64 a, .i .u64 b, .i .u64 c, .i .u64 d], .ag [.i .u64 x, .i .u64 y, .i .u64 z, .i .u64 w]] S =
    some (.ag [.i .u64 ((a + x) % 4294967296), .i .u64 ((b + y + (a + x) / 4294967296) % 4294967296), .i .u64 ((c + z + (b + y + (a + x) / 4294967296) / 4294967296) % 4294967296),
        .i .u64 ((d + w + (c + z + (b + y + (a + x) / 4294967296) / 4294967296) / 4294967296) % 4294967296)], S) := by simp only [s29, h1, h2, h3, h4, h5, h6, h7, h8, and_self, if_true]
theorem o26_ok : OK Try.prog (lamOf Try.prog) (orcOf [(30, s30), (29, s29), (28, s28)]) := orc_ok (by simpa using ⟨s30_ok, s29_ok, s28_ok⟩)
theorem s26_ok : SpecOK Try.prog 26 s26 := by
  intro args S x S' h
  simp only [s26] at h
  split at h
  · rename_i a b m
    split at h
    · rename_i hh
      cases h
      obtain ⟨ha, hb, hm⟩ := hh
      have h1 := ha; have h2 := hb; have h3 := hm
      unfold u64 at h1 h2 h3
      refine fn_of_wp f26 rfl (W_sound o26_ok mixed _ _ _ _ _ ?_)
      have l0 : lim32 0 := by decide
      have la : lim32 (a % 4294967296) ∧ lim32 (a / 4294967296) := by unfold lim32; omega
      have lb : lim32 (b % 4294967296) ∧ lim32 (b / 4294967296) := by unfold lim32; omega
      simp (maxSteps := 1000000) (disch := omega) only [c26, orc_cons, s30_eq ha, s30_eq hb, s30_eq hm, s29_eq la.1 la.2 l0 l0 lb.1 lb.2 l0 l0, s28, go_sem, ↓reduceIte, Nat.reduceBEq, Nat.reduceAdd, Nat.reduceSub, Nat.reduceEqDiff, Nat.reduceLeDiff, Nat.reduceMul, Nat.reduceLT, Int.reduceLT, Int.reduceLE, Int.reduceAdd, Int.reduceSub, Int.reduceMul, Int.reduceNeg, Int.reduceEq, Int.reduceNe, Int.reduceToNat, decide_true, decide_false, iaddr_i, iaddr_sl_i, not_true_eq_false, not_false_eq_true, reduceCtorEq, ne_eq, forall_const, false_imp_iff, true_imp_iff, implies_true, Int.cast_ofNat_Int, Int.natCast_zero, Int.natCast_one, Int.add_zero, Int.zero_add]
      refine wkv_eq wkv_same ?_ rfl
      congr 1
      rw [decide_eq_decide]
      unfold cmp4
      constructor
      · intro h; repeat' split
        all_goals omega
      · intro h; repeat' split at h
        all_goals omega
    · cases h
  · cases h
end Go.Proofs.Ytbggleijjoleiaa
