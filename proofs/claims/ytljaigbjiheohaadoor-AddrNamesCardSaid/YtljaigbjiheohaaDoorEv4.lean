/- Proved here: the evaluator's arithmetic, comparisons and equalities stand for the model's. No condition. -/
import Derived.Test.YtljaigbjiheohaaDoorEv3
import Derived.ChangeKeysEq
namespace Go.Proofs.YtljaigbjiheohaaDoor
set_option linter.unusedSimpArgs false
set_option linter.unusedVariables false
open Go.RowKit

/-- Wrapping, without powers. -/
def wrapV : IntKind → Int → Int
  | .u8, n => n % 256
  | .u16, n => n % 65536
  | .u32, n => n % 4294967296
  | .u64, n => n % 18446744073709551616
  | .i8, n => (n + 128) % 256 - 128
  | .i16, n => (n + 32768) % 65536 - 32768
  | .i32, n => (n + 2147483648) % 4294967296 - 2147483648
  | .i64, n => (n + 9223372036854775808) % 18446744073709551616 - 9223372036854775808

theorem wrapV_eq (k : IntKind) (n : Int) : k.wrap n = wrapV k n := by
  cases k
  · simp [IntKind.wrap, IntKind.bits, IntKind.signed, wrapV]; split <;> omega
  · simp [IntKind.wrap, IntKind.bits, IntKind.signed, wrapV]; split <;> omega
  · simp [IntKind.wrap, IntKind.bits, IntKind.signed, wrapV]; split <;> omega
  · simp [IntKind.wrap, IntKind.bits, IntKind.signed, wrapV]; split <;> omega
  · simp [IntKind.wrap, IntKind.bits, IntKind.signed, wrapV]
  · simp [IntKind.wrap, IntKind.bits, IntKind.signed, wrapV]
  · simp [IntKind.wrap, IntKind.bits, IntKind.signed, wrapV]
  · simp [IntKind.wrap, IntKind.bits, IntKind.signed, wrapV]

def bitsV (k : IntKind) (op : BinOp) (a b : Int) : Option Int :=
  let x := (BitVec.ofInt k.bits a).toNat
  let y := (BitVec.ofInt k.bits b).toNat
  match op with
  | .and => some (wrapV k ((Nat.land x y : Nat) : Int))
  | .or => some (wrapV k ((Nat.lor x y : Nat) : Int))
  | .xor => some (wrapV k ((Nat.xor x y : Nat) : Int))
  | .andNot => some (wrapV k (((BitVec.ofInt k.bits a) &&& ~~~(BitVec.ofInt k.bits b)).toNat : Int))
  | _ => none

def intV (op : BinOp) (k : IntKind) (a b : Int) : Option AV :=
  match op with
  | .add => some (.i k (wrapV k (a + b)))
  | .sub => some (.i k (wrapV k (a - b)))
  | .mul => some (.i k (wrapV k (a * b)))
  | .quo => if b = 0 then none else some (.i k (wrapV k (a.tdiv b)))
  | .rem => if b = 0 then none else some (.i k (a.tmod b))
  | .eql => some (.b (a == b))
  | .neq => some (.b (a != b))
  | .lss => some (.b (decide (a < b)))
  | .leq => some (.b (decide (a ≤ b)))
  | .gtr => some (.b (decide (a > b)))
  | .geq => some (.b (decide (a ≥ b)))
  | .and => (bitsV k .and a b).map (.i k)
  | .or => (bitsV k .or a b).map (.i k)
  | .xor => (bitsV k .xor a b).map (.i k)
  | .andNot => (bitsV k .andNot a b).map (.i k)
  | _ => none

def shiftV (op : BinOp) (k : IntKind) (a : Int) (b : Int) : Option AV :=
  if b < 0 then none else
  let n := min b.toNat k.bits
  match op with
  | .shl => some (.i k (wrapV k (a * ((2 ^ n : Nat) : Int))))
  | .shr => some (.i k (a.fdiv ((2 ^ n : Nat) : Int)))
  | _ => none

def isShift : BinOp → Bool
  | .shl | .shr => true
  | _ => false

/-- What kind of type the operands have. -/
inductive TK where
  | int | bool | str | ptr | slice | map | func | iface
  deriving DecidableEq

def kindOf (P : Program) (t : TypeId) : Option TK :=
  match P.underlying t with
  | some (.int _) => some .int
  | some .bool => some .bool
  | some .string => some .str
  | some (.pointer _) => some .ptr
  | some (.slice _) => some .slice
  | some (.map _ _) => some .map
  | some (.func _ _ _) => some .func
  | some (.interface _) => some .iface
  | _ => none

def eqOp (op : BinOp) (x : Bool) : Option AV :=
  match op with
  | .eql => some (.b x)
  | .neq => some (.b (!x))
  | _ => none

def strV (op : BinOp) (a b : List UInt8) : Option AV :=
  match op with
  | .add => if a.length + b.length ≤ 4611686018427387904 then some (.s (a ++ b)) else none
  | .eql => some (.b (a == b))
  | .neq => some (.b (!(a == b)))
  | .lss => some (.b (Op.bytesLess a b))
  | .leq => some (.b (Op.bytesLess a b || a == b))
  | .gtr => some (.b (!(Op.bytesLess a b || a == b)))
  | .geq => some (.b (!(Op.bytesLess a b)))
  | _ => none

/-- Is it nil? -/
def nilness (tk : TK) (x : AV) : Option Bool :=
  match tk, x with
  | .ptr, .pn => some true
  | .ptr, .p _ _ _ => some false
  | .slice, .sn => some true
  | .slice, .sl .. => some false
  | .slice, .se => some false
  | .map, .mn => some true
  | .map, .m _ => some false
  | .func, .nf => some true
  | .func, .f .. => some false
  | .iface, .ni => some true
  | .iface, .it .. => some false
  | _, _ => none

/-- 'cst': one of the operands is a constant of the code. -/
def binV (tk : TK) (cst : Bool) (op : BinOp) (x y : AV) : Option AV :=
  match tk, x, y with
  | .int, .i k a, .i k' b => if isShift op then shiftV op k a b else if k = k' then intV op k a b else none
  | .str, .s a, .s b => strV op a b
  | .bool, .b a, .b b => eqOp op (a == b)
  | tk, x, y => match nilness tk x, nilness tk y with
    | some true, some b => if tk = .iface ∧ b = true ∧ cst = false then none else eqOp op b
    | some b, some true => eqOp op b
    | _, _ => none

section
variable {P : Program} {base : Bs} {w0 : World} {K : Ctx} {S : Mem} {w : World}

def isConst : Operand → Bool
  | .const _ => true
  | _ => false

theorem pow_cast (n : Nat) : ((2 ^ n : Nat) : Int) = (2 : Int) ^ n := by simp

theorem run_shift {op : BinOp} {k k' : IntKind} {a b : Int} {y : AV} {ops : BinOp} (hs : isShift op = true) (h : shiftV op k a b = some y) (t : TypeId) :
    ∃ v, (binOp op t (.int k a) (.int k' b)).run P w = .ok v w ∧ VR K S y v := by
  unfold shiftV at h
  split at h
  · cases h
  · rename_i hb
    cases op <;> simp [isShift] at hs
    · simp only [Option.some.injEq] at h; subst h
      refine ⟨_, ?_, .i _ _⟩
      simp [binOp, Op.shift, hb, wrapV_eq, pow_cast]
    · simp only [Option.some.injEq] at h; subst h
      refine ⟨_, ?_, .i _ _⟩
      simp [binOp, Op.shift, hb, pow_cast]

theorem run_int {op : BinOp} {k : IntKind} {a b : Int} {y : AV} (hs : isShift op = false) (h : intV op k a b = some y) (t : TypeId) :
    ∃ v, (binOp op t (.int k a) (.int k b)).run P w = .ok v w ∧ VR K S y v := by
  cases op <;> simp [isShift] at hs <;> simp only [intV] at h
  case add => injection h with h; subst h; exact ⟨_, by simp [binOp, Op.intArith, wrapV_eq], .i _ _⟩
  case sub => injection h with h; subst h; exact ⟨_, by simp [binOp, Op.intArith, wrapV_eq], .i _ _⟩
  case mul => injection h with h; subst h; exact ⟨_, by simp [binOp, Op.intArith, wrapV_eq], .i _ _⟩
  case quo =>
    split at h
    · cases h
    · rename_i hb; injection h with h; subst h; exact ⟨_, by simp [binOp, Op.intDiv, hb, wrapV_eq], .i _ _⟩
  case rem =>
    split at h
    · cases h
    · rename_i hb; injection h with h; subst h; exact ⟨_, by simp [binOp, Op.intDiv, hb], .i _ _⟩
  case eql => injection h with h; subst h; exact ⟨_, by simp only [binOp, ne_eq, not_true, if_false, Op.intCmp]; rfl, .b _⟩
  case neq => injection h with h; subst h; exact ⟨_, by simp only [binOp, ne_eq, not_true, if_false, Op.intCmp]; rfl, .b _⟩
  case lss => injection h with h; subst h; exact ⟨_, by simp only [binOp, ne_eq, not_true, if_false, Op.intCmp]; rfl, .b _⟩
  case leq => injection h with h; subst h; exact ⟨_, by simp only [binOp, ne_eq, not_true, if_false, Op.intCmp]; rfl, .b _⟩
  case gtr => injection h with h; subst h; exact ⟨_, by simp only [binOp, ne_eq, not_true, if_false, Op.intCmp]; rfl, .b _⟩
  case geq => injection h with h; subst h; exact ⟨_, by simp only [binOp, ne_eq, not_true, if_false, Op.intCmp]; rfl, .b _⟩
  case and => simp only [bitsV, Option.map_some, Option.some.injEq] at h; subst h; exact ⟨_, by simp only [binOp, ne_eq, not_true, if_false, Op.intBits, wrapV_eq]; rfl, .i _ _⟩
  case or => simp only [bitsV, Option.map_some, Option.some.injEq] at h; subst h; exact ⟨_, by simp only [binOp, ne_eq, not_true, if_false, Op.intBits, wrapV_eq]; rfl, .i _ _⟩
  case xor => simp only [bitsV, Option.map_some, Option.some.injEq] at h; subst h; exact ⟨_, by simp only [binOp, ne_eq, not_true, if_false, Op.intBits, wrapV_eq]; rfl, .i _ _⟩
  case andNot => simp only [bitsV, Option.map_some, Option.some.injEq] at h; subst h; exact ⟨_, by simp only [binOp, ne_eq, not_true, if_false, Op.intBits, wrapV_eq]; rfl, .i _ _⟩

theorem run_eqOp {op : BinOp} {t : TypeId} {x y : Value} {z : AV} {r : Bool} (h : eqOp op r = some z) (hb : (binOp .eql t x y).run P w = .ok (.bool r) w) (hb' : (binOp .neq t x y).run P w = .ok (.bool (!r)) w) :
    ∃ v, (binOp op t x y).run P w = .ok v w ∧ VR K S z v := by
  cases op <;> simp [eqOp] at h
  · subst h; exact ⟨_, hb, .b _⟩
  · subst h; exact ⟨_, hb', .b _⟩

theorem run_eq2 {op : BinOp} {t : TypeId} {x y : Value} {z : AV} {r : Bool} (h : eqOp op r = some z) (e1 : binOp .eql t x y = (do pure (.bool (← Op.equal t x y)))) (e2 : binOp .neq t x y = (do pure (.bool (!(← Op.equal t x y)))))
    (hr : ∀ n, (Op.equalIn (n + 1) t x y).run P w = .ok r w) : ∃ v, (binOp op t x y).run P w = .ok v w ∧ VR K S z v := by
  have hq : (Op.equal t x y).run P w = .ok r w := hr 9999
  refine run_eqOp h ?_ ?_
  · rw [e1]; simp only [Sem.run_bind, hq, Result.andThen_ok, Sem.run_pure]
  · rw [e2]; simp only [Sem.run_bind, hq, Result.andThen_ok, Sem.run_pure]

theorem size_mk (l : List UInt8) : (ByteArray.mk l.toArray).size = l.length := by simp [ByteArray.size]

theorem run_str {op : BinOp} {a b : List UInt8} {y : AV} (h : strV op a b = some y) (t : TypeId) :
    ∃ v, (binOp op t (.string ⟨a.toArray⟩) (.string ⟨b.toArray⟩)).run P w = .ok v w ∧ VR K S y v := by
  have e : ∀ op, binOp op t (.string ⟨a.toArray⟩) (.string ⟨b.toArray⟩) = Op.stringOp op ⟨a.toArray⟩ ⟨b.toArray⟩ := by
    intro op; cases op <;> rfl
  rw [e]
  cases op <;> simp only [strV] at h <;> try cases h
  case add =>
    split at h
    · rename_i hle
      injection h with h; subst h
      refine ⟨.string ⟨(a ++ b).toArray⟩, ?_, .s _⟩
      have hm : IntKind.i64.max = 9223372036854775807 := by decide
      have hn : ¬ ((((ByteArray.mk a.toArray).size + (ByteArray.mk b.toArray).size : Nat) : Int) > IntKind.i64.max) := by
        rw [size_mk, size_mk, hm]; omega
      have happ : (ByteArray.mk a.toArray) ++ (ByteArray.mk b.toArray) = ⟨(a ++ b).toArray⟩ := by
        apply ByteArray.ext; simp
      simp only [Op.stringOp, hn, if_false, Sem.run_pure, happ]
    · cases h
  case eql => exact ⟨_, by simp only [Op.stringOp, ByteArray.toList_mk]; rfl, .b _⟩
  case neq => exact ⟨_, by simp only [Op.stringOp, ByteArray.toList_mk]; rfl, .b _⟩
  case lss => exact ⟨_, by simp only [Op.stringOp, ByteArray.toList_mk]; rfl, .b _⟩
  case leq => exact ⟨_, by simp only [Op.stringOp, ByteArray.toList_mk]; rfl, .b _⟩
  case gtr => exact ⟨_, by simp only [Op.stringOp, ByteArray.toList_mk]; rfl, .b _⟩
  case geq => exact ⟨_, by simp only [Op.stringOp, ByteArray.toList_mk]; rfl, .b _⟩

/-- What 'nilness' says of the concrete value. -/
def NilAt (tk : TK) (b : Bool) (v : Value) : Prop :=
  match tk with
  | .ptr => ∃ p, v = .pointer p ∧ p.isNone = b
  | .slice => ∃ p n c, v = .slice p n c ∧ p.isNone = b
  | .map => ∃ p, v = .map p ∧ p.isNone = b
  | .func => (b = true ∧ v = .nilFunc) ∨ (b = false ∧ ∃ f x y, v = .func f x y)
  | .iface => (b = true ∧ v = .nilIface) ∨ (b = false ∧ ∃ t x, v = .iface t x)
  | _ => False

theorem nilness_ok {tk : TK} {x : AV} {v : Value} {b : Bool} (hx : VR K S x v) (h : nilness tk x = some b) : NilAt tk b v := by
  cases hx <;> cases tk <;> simp only [nilness, Option.some.injEq, reduceCtorEq] at h <;> subst h <;> simp [NilAt]

theorem eq_nil {tk : TK} {t : TypeId} {vx vy : Value} {b b' : Bool} (hk : kindOf P t = some tk) (hx : NilAt tk b vx) (hy : NilAt tk b' vy) (h : b = true ∨ b' = true) :
    (∀ n, (Op.equalIn (n + 1) t vx vy).run P w = .ok (b && b') w) ∧ binOp .eql t vx vy = (do pure (.bool (← Op.equal t vx vy))) ∧ binOp .neq t vx vy = (do pure (.bool (!(← Op.equal t vx vy)))) ∧
      (∀ c d, ¬ (vx = .agg c ∧ vy = .agg d)) ∧ ((vx = .nilIface ∧ vy = .nilIface) → tk = .iface ∧ b = true ∧ b' = true) := by
  unfold kindOf at hk
  split at hk <;> first | cases hk | skip
  all_goals (rename_i hu; simp only [NilAt] at hx hy)
  · obtain ⟨p, rfl, rfl⟩ := hx
    obtain ⟨q, rfl, rfl⟩ := hy
    refine ⟨fun n => ?_, rfl, rfl, by simp, by simp⟩
    simp only [Op.equalIn, Sem.run_bind, run_underlying' hu, Result.andThen_ok]
    cases p <;> cases q <;> first | rfl | simp at h
  · obtain ⟨p, _, _, rfl, rfl⟩ := hx
    obtain ⟨q, _, _, rfl, rfl⟩ := hy
    refine ⟨fun n => ?_, rfl, rfl, by simp, by simp⟩
    simp only [Op.equalIn, Sem.run_bind, run_underlying' hu, Result.andThen_ok]
    cases p <;> cases q <;> first | rfl | simp at h
  · obtain ⟨p, rfl, rfl⟩ := hx
    obtain ⟨q, rfl, rfl⟩ := hy
    refine ⟨fun n => ?_, rfl, rfl, by simp, by simp⟩
    simp only [Op.equalIn, Sem.run_bind, run_underlying' hu, Result.andThen_ok]
    cases p <;> cases q <;> first | rfl | simp at h
  · rcases hx with ⟨rfl, rfl⟩ | ⟨rfl, f, x, y, rfl⟩ <;> rcases hy with ⟨rfl, rfl⟩ | ⟨rfl, f', x', y', rfl⟩
    · refine ⟨fun n => ?_, rfl, rfl, by simp, by simp⟩
      simp only [Op.equalIn, Sem.run_bind, run_underlying' hu, Result.andThen_ok]; rfl
    · refine ⟨fun n => ?_, rfl, rfl, by simp, by simp⟩
      simp only [Op.equalIn, Sem.run_bind, run_underlying' hu, Result.andThen_ok]; rfl
    · refine ⟨fun n => ?_, rfl, rfl, by simp, by simp⟩
      simp only [Op.equalIn, Sem.run_bind, run_underlying' hu, Result.andThen_ok]; rfl
    · simp at h
  · rcases hx with ⟨rfl, rfl⟩ | ⟨rfl, f, x, rfl⟩ <;> rcases hy with ⟨rfl, rfl⟩ | ⟨rfl, f', x', rfl⟩
    · refine ⟨fun n => ?_, rfl, rfl, by simp, by simp⟩
      simp only [Op.equalIn, Sem.run_bind, run_underlying' hu, Result.andThen_ok]; rfl
    · refine ⟨fun n => ?_, rfl, rfl, by simp, by simp⟩
      simp only [Op.equalIn, Sem.run_bind, run_underlying' hu, Result.andThen_ok]; rfl
    · refine ⟨fun n => ?_, rfl, rfl, by simp, by simp⟩
      simp only [Op.equalIn, Sem.run_bind, run_underlying' hu, Result.andThen_ok]; rfl
    · simp at h

theorem guard0 {op : BinOp} {t : TypeId} {ox oy : Operand} {vx vy : Value} (hn : ¬ (vx = .nilIface ∧ vy = .nilIface)) (hn' : ∀ a b, ¬ (vx = .agg a ∧ vy = .agg b)) : (eqGuard op t ox oy vx vy).run P w = .ok () w := by
  unfold eqGuard
  cases vx <;> cases vy <;> first
    | (cases op <;> simp; done)
    | exact absurd ⟨rfl, rfl⟩ hn
    | exact absurd ⟨rfl, rfl⟩ (hn' _ _)

theorem guard_nil {op : BinOp} {t : TypeId} {ox oy : Operand} (hc : (isConst ox || isConst oy) = true) : (eqGuard op t ox oy .nilIface .nilIface).run P w = .ok () w := by
  cases ox <;> cases oy <;> first
    | (simp [isConst] at hc; done)
    | (unfold eqGuard; cases op <;> simp)

theorem run_bin {tk : TK} {op : BinOp} {t : TypeId} {x y z : AV} {vx vy : Value} {ox oy : Operand} (hk : kindOf P t = some tk) (hx : VR K S x vx) (hy : VR K S y vy) (h : binV tk (isConst ox || isConst oy) op x y = some z) :
    ∃ v, (do eqGuard op t ox oy vx vy; binOp op t vx vy : Sem Value).run P w = .ok v w ∧ VR K S z v := by
  have fin : ∀ {vx vy : Value}, (eqGuard op t ox oy vx vy).run P w = .ok () w → (∃ v, (binOp op t vx vy).run P w = .ok v w ∧ VR K S z v) →
      ∃ v, (do eqGuard op t ox oy vx vy; binOp op t vx vy : Sem Value).run P w = .ok v w ∧ VR K S z v := by
    rintro vx vy hn ⟨v, hv, hV⟩
    exact ⟨v, by simp only [Sem.run_bind, hn, Result.andThen_ok, hv], hV⟩
  unfold binV at h
  split at h
  · cases hx; cases hy
    refine fin (guard0 (by simp) (by simp)) ?_
    split at h
    · rename_i hs; exact run_shift (ops := op) hs h t
    · rename_i hs
      split at h
      · rename_i hkk; subst hkk; exact run_int (by simpa using hs) h t
      · cases h
  · cases hx; cases hy; exact fin (guard0 (by simp) (by simp)) (run_str h t)
  · cases hx; cases hy
    refine fin (guard0 (by simp) (by simp)) ?_
    have hd : P.underlying t = some .bool := by
      unfold kindOf at hk
      split at hk <;> cases hk
      rename_i hu; exact hu
    exact run_eq2 h rfl rfl fun n => by simp only [Op.equalIn, Sem.run_bind, run_underlying' hd, Result.andThen_ok]; rfl
  · split at h
    · rename_i b hb hb'
      have nx := nilness_ok hx hb
      have ny := nilness_ok hy hb'
      obtain ⟨h1, h2, h3, h4, h5⟩ := eq_nil (w := w) hk nx ny (.inl rfl)
      split at h
      · cases h
      · rename_i hc
        simp only [Bool.true_and] at h1
        refine fin ?_ (run_eq2 h h2 h3 h1)
        by_cases hni : vx = .nilIface ∧ vy = .nilIface
        · obtain ⟨e1, e2, e3⟩ := h5 hni
          obtain ⟨rfl, rfl⟩ := hni
          refine guard_nil ?_
          subst e1; subst e3
          cases hcc : (isConst ox || isConst oy) with
          | true => rfl
          | false => exact absurd ⟨rfl, rfl, hcc⟩ hc
        · exact guard0 hni h4
    · rename_i b hnt hb hb'
      have nx := nilness_ok hx hb
      have ny := nilness_ok hy hb'
      obtain ⟨h1, h2, h3, h4, h5⟩ := eq_nil (w := w) hk nx ny (.inr rfl)
      simp only [Bool.and_true] at h1
      have hbt : b = false := by
        cases b with
        | false => rfl
        | true => exact absurd rfl hnt
      refine fin (guard0 (fun hni => ?_) h4) (run_eq2 h h2 h3 h1)
      have := (h5 hni).2.1
      rw [hbt] at this; cases this
    · cases h
end
end Go.Proofs.YtljaigbjiheohaaDoor
