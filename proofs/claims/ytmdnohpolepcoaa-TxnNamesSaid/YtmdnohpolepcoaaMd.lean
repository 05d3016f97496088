/- Proved here: what the law of this claim leans on (an evaluator of the model's code, contracts of functions). No condition. -/
import Derived.Test.YtmdnohpolepcoaaQCode
import Derived.Test.YtmdnohpolepcoaaMb
import Derived.Test.YtmdnohpolepcoaaMc
import Derived.Shelf.SlIterI.Nil
import Derived.Shelf.SortM.Plain
import Derived.Shelf.SortM.SortNone
import Derived.Test.YtmdnohpolepcoaaProg
import Derived.TacticsIn
import Derived.Shelf.SlSortCmp.WholeK
namespace Go.Proofs.Ytmdnohpolepcoaa
open Go.RowKit
attribute [go_sem] Option.map_none Option.map_some decide_true decide_false iaddr_i iaddr_sl_i not_true_eq_false not_false_eq_true ne_eq forall_const false_imp_iff true_imp_iff implies_true Int.cast_ofNat_Int Int.natCast_zero Int.natCast_one Int.add_zero Int.zero_add Nat.reduceBEq Nat.reduceAdd Nat.reduceSub Nat.reduceEqDiff Nat.reduceLeDiff Nat.reduceMul Nat.reduceLT Int.reduceLT Int.reduceLE Int.reduceAdd Int.reduceSub Int.reduceMul Int.reduceNeg Int.reduceEq Int.reduceNe Int.reduceToNat reduceCtorEq
attribute [go_sem ↓] reduceIte
end Go.Proofs.Ytmdnohpolepcoaa
namespace Go.Proofs.Ytmdnohpolepcoaa
open Go.RowKit
set_option linter.unusedSimpArgs false
set_option linter.unusedVariables false
set_option maxRecDepth 10000

/-! ### Plain -/
def u8 (n : Int) : Prop := 0 ≤ n ∧ n ≤ 255
instance (n : Int) : Decidable (u8 n) := by unfold u8; infer_instance
def u32 (n : Int) : Prop := 0 ≤ n ∧ n ≤ 4294967295
instance (n : Int) : Decidable (u32 n) := by unfold u32; infer_instance
def num (a b c d : Int) : Int := ((a * 256 + b) * 256 + c) * 256 + d
def b3 (n : Int) : Int := n / 16777216
def b2 (n : Int) : Int := n / 65536 % 256
def b1 (n : Int) : Int := n / 256 % 256
def b0 (n : Int) : Int := n % 256
def cl (k : Int) : Int := max 0 (min k 32)
def pw (k : Int) : Int := ((2 ^ (32 - k).toNat : Nat) : Int)
def cutv (n k : Int) : Int := n / pw k * pw k

def net (n k : Int) : AV := .ag [.i .u8 (b3 n), .i .u8 (b2 n), .i .u8 (b1 n), .i .u8 (b0 n), .i .i64 k]
def right (n k : Int) : Prop := cl k = k ∧ cutv n k = n
instance (n k : Int) : Decidable (right n k) := by unfold right; infer_instance
def within (n j m k : Int) : Prop := right n j ∧ k ≤ j ∧ right m k ∧ cutv n k = m
instance (n j m k : Int) : Decidable (within n j m k) := by unfold within; infer_instance
end Go.Proofs.Ytmdnohpolepcoaa

namespace Go.Proofs.Ytmdnohpolepcoaa
open Go.RowKit
set_option linter.unusedSimpArgs false
set_option linter.unusedVariables false
set_option maxRecDepth 10000

theorem none_ok : OK Try.prog (lamOf Try.prog) (orcOf []) := orc_ok (l := []) (fun p hp => by cases hp)

def u84 (a b c d : Int) : Prop := u8 a ∧ u8 b ∧ u8 c ∧ u8 d
instance (a b c d : Int) : Decidable (u84 a b c d) := by unfold u84; infer_instance
def p2 (t : Int) : Int := ((2 ^ t.toNat : Nat) : Int)
end Go.Proofs.Ytmdnohpolepcoaa

namespace Go.Proofs.Ytmdnohpolepcoaa
open Go.RowKit
set_option linter.unusedSimpArgs false
set_option linter.unusedVariables false
set_option maxRecDepth 10000

end Go.Proofs.Ytmdnohpolepcoaa

namespace Go.Proofs.Ytmdnohpolepcoaa
open Go.RowKit
set_option linter.unusedSimpArgs false
set_option linter.unusedVariables false
set_option maxRecDepth 10000

end Go.Proofs.Ytmdnohpolepcoaa

namespace Go.Proofs.Ytmdnohpolepcoaa
open Go.RowKit
set_option linter.unusedSimpArgs false
set_option linter.unusedVariables false
set_option maxRecDepth 10000

/-- A policy. -/
structure Pol where
  sub : Int
  a : Int
  b : Int
  c : Int
  d : Int
  bits : Int
  rate : Int
  burst : Int
  srate : Int
  sburst : Int
  quota : Int
  lease : Int
  quantum : Int
  deriving DecidableEq

def Pol.enc (p : Pol) : List AV := [.i .i64 p.sub, .i .u8 p.a, .i .u8 p.b, .i .u8 p.c, .i .u8 p.d, .i .i64 p.bits, .i .u64 p.rate, .i .u64 p.burst, .i .u64 p.srate, .i .u64 p.sburst, .i .u64 p.quota, .i .u64 p.lease, .i .u64 p.quantum]
def Pol.fits (p : Pol) : Prop := u84 p.a p.b p.c p.d
instance (p : Pol) : Decidable p.fits := by unfold Pol.fits; infer_instance
def Pol.nums (p : Pol) : List Int := [p.lease, p.quantum, p.rate, p.burst, p.srate, p.sburst, p.quota]
def Pol.right (p : Pol) : Prop := 1 ≤ p.sub ∧ p.sub ≤ 255 ∧ Go.Proofs.Ytmdnohpolepcoaa.right (num p.a p.b p.c p.d) p.bits ∧ (∀ n ∈ p.nums, n ≤ 281474976710656) ∧ 1500 ≤ p.lease ∧ 1500 ≤ p.quantum
instance (p : Pol) : Decidable p.right := by unfold Pol.right; infer_instance

end Go.Proofs.Ytmdnohpolepcoaa

namespace Go.Proofs.Ytmdnohpolepcoaa
open Go.RowKit
set_option linter.unusedSimpArgs false
set_option linter.unusedVariables false
set_option maxRecDepth 10000

end Go.Proofs.Ytmdnohpolepcoaa

namespace Go.Proofs.Ytmdnohpolepcoaa
open Go.RowKit
set_option linter.unusedSimpArgs false
set_option linter.unusedVariables false
set_option maxRecDepth 10000

/-- The network of a policy. -/
def Pol.net (p : Pol) : Int × Int × Int × Int × Int := (p.a, p.b, p.c, p.d, p.bits)

/-- Up to the k-th each can be, beside those ahead of it. -/
def okTo (l : List Pol) (k : Nat) : Prop := ∀ i (h : i < l.length), i < k → (l[i].right ∧ ∀ j (hj : j < i), (l[j]'(by omega)).sub < l[i].sub ∧ (l[j]'(by omega)).net ≠ l[i].net)
def Pols (l : List Pol) : Prop := l.length ≤ 8 ∧ okTo l l.length
noncomputable instance (l : List Pol) : Decidable (Pols l) := Classical.propDecidable _
end Go.Proofs.Ytmdnohpolepcoaa

namespace Go.Proofs.Ytmdnohpolepcoaa
open Go.RowKit
set_option linter.unusedSimpArgs false
set_option linter.unusedVariables false
set_option maxRecDepth 10000

end Go.Proofs.Ytmdnohpolepcoaa

namespace Go.Proofs.Ytmdnohpolepcoaa
open Go.RowKit
set_option linter.unusedSimpArgs false
set_option linter.unusedVariables false
set_option maxRecDepth 10000

end Go.Proofs.Ytmdnohpolepcoaa

namespace Go.Proofs.Ytmdnohpolepcoaa
open Go.RowKit
set_option linter.unusedSimpArgs false
set_option linter.unusedVariables false
set_option maxRecDepth 10000

end Go.Proofs.Ytmdnohpolepcoaa

namespace Go.Proofs.Ytmdnohpolepcoaa
open Go.RowKit
set_option linter.unusedSimpArgs false
set_option linter.unusedVariables false
set_option maxRecDepth 10000

end Go.Proofs.Ytmdnohpolepcoaa

namespace Go.Proofs.Ytmdnohpolepcoaa
open Go.RowKit
set_option linter.unusedSimpArgs false
set_option linter.unusedVariables false
set_option maxRecDepth 10000


structure Ent where
  pol : Pol
  granted : Int
  deriving DecidableEq
def Ent.enc (x : Ent) : List AV := [.i .i64 x.pol.sub, .i .u8 x.pol.a, .i .u8 x.pol.b, .i .u8 x.pol.c, .i .u8 x.pol.d, .i .i64 x.pol.bits, .i .u64 x.pol.rate, .i .u64 x.pol.burst, .i .u64 x.pol.srate, .i .u64 x.pol.sburst, .i .u64 x.pol.quota, .i .u64 x.pol.lease, .i .u64 x.pol.quantum, .i .u64 x.granted]
def entE : Enc Ent where
  enc := Ent.enc
  dec r := match r with
    | [.i .i64 sub, .i .u8 a, .i .u8 b, .i .u8 c, .i .u8 d, .i .i64 bits, .i .u64 rate, .i .u64 burst, .i .u64 srate, .i .u64 sburst, .i .u64 quota, .i .u64 lease, .i .u64 quantum, .i .u64 granted] => some ⟨⟨sub, a, b, c, d, bits, rate, burst, srate, sburst, quota, lease, quantum⟩, granted⟩
    | _ => none
  sz := 14
  pos := by decide
  len _ := rfl
  de _ := rfl
  ed r a h := by
    split at h
    · injection h with h; subst h; rfl
    · cases h
theorem entE_one (a : Ent) : (entE.enc a).all AV.one = true := rfl
end Go.Proofs.Ytmdnohpolepcoaa

namespace Go.Proofs.Ytmdnohpolepcoaa
open Go.RowKit
set_option linter.unusedSimpArgs false
set_option linter.unusedVariables false
set_option maxRecDepth 10000

/-! ### place -/
def hasSub (n : Int) : Ent → Bool := fun x => decide (x.pol.sub = n)
def polsOf (l : List Ent) : List Pol := l.map Ent.pol
structure Bk where
  period : Int
  entries : List Ent
  deriving DecidableEq
def Bk.ok (b : Bk) : Prop := 1 ≤ b.period ∧ b.period ≤ 281474976710656 ∧ Pols (polsOf b.entries) ∧ ∀ x ∈ b.entries, x.granted ≤ 281474976710656
noncomputable instance (b : Bk) : Decidable b.ok := Classical.propDecidable _
def Bk.fits (b : Bk) : Prop := b.entries.length ≤ 1000000 ∧ ∀ x ∈ b.entries, x.pol.fits
instance (b : Bk) : Decidable b.fits := by unfold Bk.fits; infer_instance
noncomputable def Bk.fin (o : Option Bk) : Option Bk := match o with
  | some b => if b.ok then some b else none
  | none => none
end Go.Proofs.Ytmdnohpolepcoaa

namespace Go.Proofs.Ytmdnohpolepcoaa
open Go.RowKit
set_option linter.unusedSimpArgs false
set_option linter.unusedVariables false
set_option maxRecDepth 10000

structure Evt where
  kind : Int
  sub : Int
  puts : List Pol
  drops : List Int
  granted : Int
  period : Int
  deriving DecidableEq
def Evt.fits (e : Evt) : Prop := e.puts.length ≤ 1000000 ∧ e.drops.length ≤ 1000000 ∧ ∀ p ∈ e.puts, p.fits
instance (e : Evt) : Decidable e.fits := by unfold Evt.fits; infer_instance

/-! ### Same -/
def subOk (n : Int) : Prop := 1 ≤ n ∧ n ≤ 255
instance (n : Int) : Decidable (subOk n) := by unfold subOk; infer_instance
def valOk (n : Int) : Prop := 1 ≤ n ∧ n ≤ 281474976710656
instance (n : Int) : Decidable (valOk n) := by unfold valOk; infer_instance
/-- They rise, from 1 to 255. -/
def riseTo (l : List Int) (k : Nat) : Prop := ∀ i (h : i < l.length), i < k → subOk l[i] ∧ ∀ h0 : 0 < i, l[i - 1] < l[i]
def dropsOk (l : List Int) (ps : List Pol) : Prop := l.length ≤ 8 ∧ riseTo l l.length ∧ ∀ p ∈ ps, p.sub ∉ l
noncomputable instance (l : List Int) (ps : List Pol) : Decidable (dropsOk l ps) := Classical.propDecidable _
end Go.Proofs.Ytmdnohpolepcoaa

namespace Go.Proofs.Ytmdnohpolepcoaa
open Go.RowKit
set_option linter.unusedSimpArgs false
set_option linter.unusedVariables false
set_option maxRecDepth 10000

/-! ### event.Right -/
def Evt.right (e : Evt) : Prop :=
  (e.kind = 1 ∧ 0 < e.puts.length + e.drops.length ∧ Pols e.puts ∧ dropsOk e.drops e.puts ∧ e = ⟨e.kind, 0, e.puts, e.drops, 0, 0⟩) ∨
  (e.kind = 2 ∧ subOk e.sub ∧ valOk e.granted ∧ e = ⟨e.kind, e.sub, [], [], e.granted, 0⟩) ∨
  (e.kind = 3 ∧ valOk e.period ∧ e = ⟨e.kind, 0, [], [], 0, e.period⟩)
noncomputable instance (e : Evt) : Decidable e.right := Classical.propDecidable _
def Ent.grant (a : Ent) (g : Int) : Ent := ⟨a.pol, g⟩
/-- The entries behind a lease. -/
def leased (l : List Ent) (sub granted : Int) : Option (List Ent) := match l.findIdx? (hasSub sub) with
  | some k => match l[k]? with
    | some a => if a.granted ≤ granted ∧ granted ≤ a.pol.quota then some (l.set k (a.grant granted)) else none
    | none => none
  | none => none
end Go.Proofs.Ytmdnohpolepcoaa

namespace Go.Proofs.Ytmdnohpolepcoaa
open Go.RowKit
set_option linter.unusedSimpArgs false
set_option linter.unusedVariables false
set_option maxRecDepth 10000

/-! ### Same -/
def noEnt : Ent := ⟨⟨0, 0, 0, 0, 0, 0, 0, 0, 0, 0, 0, 0, 0⟩, 0⟩
end Go.Proofs.Ytmdnohpolepcoaa

namespace Go.Proofs.Ytmdnohpolepcoaa
open Go.RowKit
set_option linter.unusedSimpArgs false
set_option linter.unusedVariables false
set_option maxRecDepth 10000

/-! ### Plain -/
def i64 (n : Int) : Prop := -9223372036854775808 ≤ n ∧ n ≤ 9223372036854775807
def u64 (n : Int) : Prop := 0 ≤ n ∧ n ≤ 18446744073709551615
instance (n : Int) : Decidable (i64 n) := by unfold i64; infer_instance
instance (n : Int) : Decidable (u64 n) := by unfold u64; infer_instance
def b8 (l : List Int) : List AV := l.map (.i .u8)
end Go.Proofs.Ytmdnohpolepcoaa

namespace Go.Proofs.Ytmdnohpolepcoaa
open Go.RowKit
set_option linter.unusedSimpArgs false
set_option linter.unusedVariables false
set_option maxRecDepth 10000

/-! ### Bits -/
end Go.Proofs.Ytmdnohpolepcoaa

namespace Go.Proofs.Ytmdnohpolepcoaa
open Go.RowKit
set_option linter.unusedSimpArgs false
set_option linter.unusedVariables false
set_option maxRecDepth 10000

/-! ### Slicing -/
section
variable {α : Type} {E : Enc α} {S M : Mem}
end

/-! ### bits.Len64 -/
theorem p7 (k : Nat) : 2 ^ (7 * k) = 128 ^ k := by rw [Nat.pow_mul]
end Go.Proofs.Ytmdnohpolepcoaa

namespace Go.Proofs.Ytmdnohpolepcoaa
open Go.RowKit
set_option linter.unusedSimpArgs false
set_option linter.unusedVariables false
set_option maxRecDepth 10000

end Go.Proofs.Ytmdnohpolepcoaa

namespace Go.Proofs.Ytmdnohpolepcoaa
open Go.RowKit
set_option linter.unusedSimpArgs false
set_option linter.unusedVariables false
set_option maxRecDepth 10000

def Pol.good (p : Pol) : Prop := i64 p.sub ∧ u84 p.a p.b p.c p.d ∧ i64 p.bits ∧ u64 p.rate ∧ u64 p.burst ∧ u64 p.srate ∧ u64 p.sburst ∧ u64 p.quota ∧ u64 p.lease ∧ u64 p.quantum
instance (p : Pol) : Decidable p.good := by unfold Pol.good; infer_instance
def Ent.good (x : Ent) : Prop := x.pol.good ∧ u64 x.granted
instance (x : Ent) : Decidable x.good := by unfold Ent.good; infer_instance
theorem Pol.good.fits {p : Pol} (h : p.good) : p.fits := h.2.1
def Bk.good (b : Bk) : Prop := u64 b.period ∧ b.entries.length ≤ 1000000 ∧ ∀ x ∈ b.entries, x.good
instance (b : Bk) : Decidable b.good := by unfold Bk.good; infer_instance
theorem Bk.good.fits {b : Bk} (h : b.good) : b.fits := ⟨h.2.1, fun x hx => (h.2.2 x hx).1.fits⟩

/-! ### policy.Nums -/
def Pol.ns (p : Pol) : List Int := [p.sub, num p.a p.b p.c p.d, p.bits, p.rate, p.burst, p.srate, p.sburst, p.quota, p.lease, p.quantum]
def entNs (l : List Ent) : List Int := l.flatMap fun x => x.pol.ns ++ [x.granted]
def Bk.ns (b : Bk) : List Int := b.period :: entNs b.entries
end Go.Proofs.Ytmdnohpolepcoaa

namespace Go.Proofs.Ytmdnohpolepcoaa
open Go.RowKit
set_option linter.unusedSimpArgs false
set_option linter.unusedVariables false
set_option maxRecDepth 10000

def subIsP (n : Int) (p : Pol) : Bool := decide (p.sub = n)
end Go.Proofs.Ytmdnohpolepcoaa

namespace Go.Proofs.Ytmdnohpolepcoaa
open Go.RowKit
set_option linter.unusedSimpArgs false
set_option linter.unusedVariables false
set_option maxRecDepth 10000

def refOne (old : List Ent) (e : Evt) (id : Int) : Option Ent := if id ∈ e.drops then none else match old.find? (hasSub id), e.puts.find? (subIsP id) with
  | some x, some p => some ⟨p, x.granted⟩
  | some x, none => some x
  | none, some p => some ⟨p, 0⟩
  | none, none => none
def refBad (old : List Ent) (e : Evt) (id : Int) : Prop := id ∈ e.drops ∧ old.find? (hasSub id) = none
instance (old : List Ent) (e : Evt) (id : Int) : Decidable (refBad old e id) := by unfold refBad; infer_instance
def refEnts (old : List Ent) (e : Evt) (k : Nat) : List Ent := (List.range k).filterMap fun i : Nat => refOne old e ((i : Int) + 1)
end Go.Proofs.Ytmdnohpolepcoaa

namespace Go.Proofs.Ytmdnohpolepcoaa
open Go.RowKit
set_option linter.unusedSimpArgs false
set_option linter.unusedVariables false
set_option maxRecDepth 10000

/-- Behind a lease, or a new period. -/
def Bk.turn (b : Bk) (e : Evt) : Option Bk :=
  if e.kind = 2 then (leased b.entries e.sub e.granted).map fun l => ⟨b.period, l⟩
  else if e.period = b.period + 1 then some ⟨e.period, b.entries.map (·.grant 0)⟩ else none
end Go.Proofs.Ytmdnohpolepcoaa

namespace Go.Proofs.Ytmdnohpolepcoaa
open Go.RowKit
set_option linter.unusedSimpArgs false
set_option linter.unusedVariables false
set_option maxRecDepth 10000

noncomputable def Bk.rapplied (b : Bk) (e : Evt) : Option Bk := if b.ok ∧ e.right then
    (if e.kind = 1 then (if ∃ i : Nat, i < 255 ∧ refBad b.entries e ((i : Int) + 1) then none else Bk.fin (some ⟨b.period, refEnts b.entries e 255⟩))
     else if e.kind = 2 then (leased b.entries e.sub e.granted).map fun l => ⟨b.period, l⟩
     else if e.period = b.period + 1 then some ⟨e.period, b.entries.map (·.grant 0)⟩ else none)
  else none
end Go.Proofs.Ytmdnohpolepcoaa

namespace Go.Proofs.Ytmdnohpolepcoaa
open Go.RowKit
set_option linter.unusedSimpArgs false
set_option linter.unusedVariables false

/-! ### Lists in order -/
section
variable {α : Type} (key : α → Int)
variable {key}
end

/-! ### Changes -/
structure Chg where
  put : Bool
  pol : Pol
  deriving DecidableEq
def Chg.sub (c : Chg) : Int := c.pol.sub
end Go.Proofs.Ytmdnohpolepcoaa

namespace Go.Proofs.Ytmdnohpolepcoaa
open Go.Shelf
def Try.keysA_ren : Go.Shelf.Ren := ⟨fun | 7 => 17 | 10 => 29 | n => n, fun | 23 => 62 | 26 => 3 | 3 => 61 | 28 => 65 | 0 => 0 | 27 => 64 | 33 => 77 | 4 => 4 | n => n, fun | n => n⟩
theorem Try.keysA : Go.Proofs.SlLaysZI.n7 Try.prog Try.keysA_ren := {
  mixed := by kernel_rfl
  f7 := ⟨Try.f17.name, by decide, Try.func17.trans (congrArg some (by kernel_rfl))⟩
  f10 := ⟨Try.f29.name, by decide, Try.func29.trans (congrArg some (by kernel_rfl))⟩
  t0 := Try.underlying0
  a0 := Try.isAgg0
  z0 := Try.sizeOf0
  v0 := Try.zeroValue0
  t4 := Try.underlying4
  a4 := Try.isAgg4
  z4 := Try.sizeOf4
  v4 := Try.zeroValue4
  t23 := Try.underlying62
  a23 := Try.isAgg62
  z23 := Try.sizeOf62
  v23 := Try.zeroValue62
  t26 := Try.underlying3
  a26 := Try.isAgg3
  z26 := Try.sizeOf3
  v26 := Try.zeroValue3
  t27 := Try.underlying64
  a27 := Try.isAgg64
  z27 := Try.sizeOf64
  v27 := Try.zeroValue64
  t28 := Try.underlying65
  a28 := Try.isAgg65
  z28 := Try.sizeOf65
  v28 := Try.zeroValue65
  t33 := Try.underlying77
  a33 := Try.isAgg77
  z33 := Try.sizeOf77
  v33 := Try.zeroValue77 }
def Try.sortedA_ren : Go.Shelf.Ren := ⟨fun | 6 => 16 | 8 => 27 | 9 => 28 | 11 => 48 | 13 => 50 | 12 => 49 | 23 => 72 | 24 => 73 | 14 => 63 | 15 => 64 | 16 => 65 | 17 => 66 | 18 => 67 | 19 => 68 | 20 => 69 | 21 => 70 | 22 => 71 | 25 => 89 | 26 => 90 | 27 => 91 | 28 => 92 | 29 => 93 | 30 => 62 | 31 => 99 | n => n, fun | 26 => 3 | 28 => 65 | 24 => 34 | 0 => 0 | 3 => 3 | 37 => 95 | 48 => 116 | 50 => 30 | 4 => 4 | 40 => 108 | 39 => 107 | 45 => 113 | 5 => 5 | 9 => 9 | 51 => 129 | 55 => 133 | 57 => 137 | 58 => 138 | 33 => 77 | n => n, fun | n => n⟩
theorem Try.sortedA : Go.Proofs.SlLaysZI.n6 Try.prog Try.sortedA_ren := {
  mixed := by kernel_rfl
  f6 := ⟨Try.f16.name, by decide, Try.func16.trans (congrArg some (by kernel_rfl))⟩
  f8 := ⟨Try.f27.name, by decide, Try.func27.trans (congrArg some (by kernel_rfl))⟩
  f11 := ⟨Try.f48.name, by decide, Try.func48.trans (congrArg some (by kernel_rfl))⟩
  t0 := Try.underlying0
  a0 := Try.isAgg0
  z0 := Try.sizeOf0
  v0 := Try.zeroValue0
  t24 := Try.underlying34
  a24 := Try.isAgg34
  z24 := Try.sizeOf34
  v24 := Try.zeroValue34
  t26 := Try.underlying3
  a26 := Try.isAgg3
  z26 := Try.sizeOf3
  v26 := Try.zeroValue3
  t28 := Try.underlying65
  a28 := Try.isAgg65
  z28 := Try.sizeOf65
  v28 := Try.zeroValue65
  i26 := by kernel_rfl }
def Try.sortA_ren : Go.Shelf.Ren := ⟨fun | 5 => 28 | 8 => 50 | 7 => 49 | 19 => 72 | 20 => 73 | 10 => 63 | 11 => 64 | 12 => 65 | 13 => 66 | 14 => 67 | 15 => 68 | 16 => 69 | 17 => 70 | 18 => 71 | 30 => 89 | 31 => 90 | 32 => 91 | 33 => 92 | 34 => 93 | 35 => 62 | 40 => 99 | n => n, fun | 23 => 34 | 25 => 3 | 3 => 3 | 32 => 95 | 22 => 34 | 0 => 0 | 44 => 116 | 46 => 30 | 4 => 4 | 36 => 108 | 35 => 107 | 41 => 113 | 5 => 5 | 9 => 9 | 53 => 129 | 57 => 133 | 63 => 137 | 64 => 138 | n => n, fun | n => n⟩
theorem Try.sortA : Go.Proofs.SlLaysM.n5 Try.prog Try.sortA_ren := {
  mixed := by kernel_rfl
  f5 := ⟨Try.f28.name, by decide, Try.func28.trans (congrArg some (by kernel_rfl))⟩
  f7 := ⟨Try.f49.name, by decide, Try.func49.trans (congrArg some (by kernel_rfl))⟩
  f8 := Try.func50.trans (congrArg some (by kernel_rfl))
  f10 := ⟨Try.f63.name, by decide, Try.func63.trans (congrArg some (by kernel_rfl))⟩
  f11 := ⟨Try.f64.name, by decide, Try.func64.trans (congrArg some (by kernel_rfl))⟩
  f12 := ⟨Try.f65.name, by decide, Try.func65.trans (congrArg some (by kernel_rfl))⟩
  f13 := ⟨Try.f66.name, by decide, Try.func66.trans (congrArg some (by kernel_rfl))⟩
  f14 := ⟨Try.f67.name, by decide, Try.func67.trans (congrArg some (by kernel_rfl))⟩
  f15 := ⟨Try.f68.name, by decide, Try.func68.trans (congrArg some (by kernel_rfl))⟩
  f16 := ⟨Try.f69.name, by decide, Try.func69.trans (congrArg some (by kernel_rfl))⟩
  f17 := ⟨Try.f70.name, by decide, Try.func70.trans (congrArg some (by kernel_rfl))⟩
  f18 := ⟨Try.f71.name, by decide, Try.func71.trans (congrArg some (by kernel_rfl))⟩
  f19 := Try.func72.trans (congrArg some (by kernel_rfl))
  f20 := Try.func73.trans (congrArg some (by kernel_rfl))
  f30 := ⟨Try.f89.name, by decide, Try.func89.trans (congrArg some (by kernel_rfl))⟩
  f31 := Try.func90.trans (congrArg some (by kernel_rfl))
  f32 := Try.func91.trans (congrArg some (by kernel_rfl))
  f33 := ⟨Try.f92.name, by decide, Try.func92.trans (congrArg some (by kernel_rfl))⟩
  f34 := ⟨Try.f93.name, by decide, Try.func93.trans (congrArg some (by kernel_rfl))⟩
  f35 := ⟨Try.f62.name, by decide, Try.func62.trans (congrArg some (by kernel_rfl))⟩
  f40 := ⟨Try.f99.name, by decide, Try.func99.trans (congrArg some (by kernel_rfl))⟩
  t0 := Try.underlying0
  a0 := Try.isAgg0
  z0 := Try.sizeOf0
  v0 := Try.zeroValue0
  t3 := Try.underlying3
  a3 := Try.isAgg3
  z3 := Try.sizeOf3
  v3 := Try.zeroValue3
  t4 := Try.underlying4
  a4 := Try.isAgg4
  z4 := Try.sizeOf4
  v4 := Try.zeroValue4
  t5 := Try.underlying5
  a5 := Try.isAgg5
  z5 := Try.sizeOf5
  v5 := Try.zeroValue5
  t9 := Try.underlying9
  a9 := Try.isAgg9
  z9 := Try.sizeOf9
  v9 := Try.zeroValue9
  t22 := Try.underlying34
  a22 := Try.isAgg34
  z22 := Try.sizeOf34
  v22 := Try.zeroValue34
  t23 := Try.underlying34
  a23 := Try.isAgg34
  z23 := Try.sizeOf34
  v23 := Try.zeroValue34
  t25 := Try.underlying3
  a25 := Try.isAgg3
  z25 := Try.sizeOf3
  v25 := Try.zeroValue3
  t32 := Try.underlying95
  a32 := Try.isAgg95
  z32 := Try.sizeOf95
  v32 := Try.zeroValue95
  t35 := Try.underlying107
  a35 := Try.isAgg107
  z35 := Try.sizeOf107
  v35 := Try.zeroValue107
  t36 := Try.underlying108
  a36 := Try.isAgg108
  z36 := Try.sizeOf108
  v36 := Try.zeroValue108
  t41 := Try.underlying113
  a41 := Try.isAgg113
  z41 := Try.sizeOf113
  v41 := Try.zeroValue113
  t44 := Try.underlying116
  a44 := Try.isAgg116
  z44 := Try.sizeOf116
  v44 := Try.zeroValue116
  t46 := Try.underlying30
  a46 := Try.isAgg30
  z46 := Try.sizeOf30
  v46 := Try.zeroValue30
  t53 := Try.underlying129
  a53 := Try.isAgg129
  z53 := Try.sizeOf129
  v53 := Try.zeroValue129
  t57 := Try.underlying133
  a57 := Try.isAgg133
  z57 := Try.sizeOf133
  v57 := Try.zeroValue133
  t63 := Try.underlying137
  a63 := Try.isAgg137
  z63 := Try.sizeOf137
  v63 := Try.zeroValue137
  t64 := Try.underlying138
  a64 := Try.isAgg138
  z64 := Try.sizeOf138
  v64 := Try.zeroValue138 }
end Go.Proofs.Ytmdnohpolepcoaa

namespace Go.Proofs.Ytmdnohpolepcoaa
open Go.RowKit Go.Maps Go.Sort Go.Shelf
set_option linter.unusedSimpArgs false
set_option linter.unusedVariables false
set_option maxRecDepth 10000

def sortedS : Spec := fun args S => match args with
  | [.f (.func f) [] [.p i 0 0]] => match S[i]? with
    | some (.cells [.m j] 0 none true) => match S[j]? with
      | some (.map es clock) => match keysOf es with
        | some ks => if f = 29 ∧ ks.Nodup ∧ (es.map fun e => e.2.2).Nodup ∧ (∀ e ∈ es, e.2.2 < clock) ∧ es.length ≤ 1000000 ∧ (∀ k ∈ ks, -9223372036854775808 ≤ k ∧ k ≤ 9223372036854775807) then
            some (retX false S (isort ks), retM false (intE .i64) S (isort ks)) else none
        | none => none
      | _ => none
    | _ => none
  | _ => none
theorem sortsA (m : Nat) : AnyZI.SortsIn Try.prog Try.sortedA_ren Fence.wide m :=
  ⟨fun blk off cap ss W hH hblk hsz => callsIn_wide.2 (AnyM.slices_Sort_int Try.sortA blk off cap ss W hH hblk hsz),
   fun p cap W => callsIn_wide.2 (AnyM.slices_Sort_int_none Try.sortA p cap W)⟩
theorem isort_len (l : List Int) : (isort l).length = l.length := (isort_perm l).length_eq
theorem wf_i64 {k : Int} (h : -9223372036854775808 ≤ k ∧ k ≤ 9223372036854775807) : (Lit.int .i64 k).wf = true := by
  have h1 : IntKind.min .i64 = -9223372036854775808 := by decide
  have h2 : IntKind.max .i64 = 9223372036854775807 := by decide
  simp only [Lit.wf, h1, h2, Bool.and_eq_true, decide_eq_true_eq]
  exact h
/-- What the kit's sort answers at such a map. -/
theorem sorted_calls {w : World} {bx bm : Nat} {E : Array MapEntry} {clock : Nat} {ks : List Int} (hcell : w.cell? ⟨bx, 0, none⟩ = some (.map (some bm))) (hbx : bx < w.heap.size) (hE : w.heap[bm]? = some (.map E clock))
    (hk : E.toList.map (fun e => e.key) = ks.map encZ) (hnd : ks.Nodup) (hbn : (E.toList.map fun e => e.born).Nodup) (hbl : ∀ e ∈ E.toList, e.born < clock) (hlen : E.size ≤ 1000000) (hrg : ∀ k ∈ ks, -9223372036854775808 ≤ k ∧ k ≤ 9223372036854775807) :
    Calls Try.prog 16 #[.func (.func 29) #[] #[.pointer (some ⟨bx, 0, none⟩)]] w fun e w' => ∃ v : Value, e = .returned v ∧
      w'.ownsRow w.heap.size (Try.sortedA_ren.t 26) 1 v ks.length ((isort ks).map encZ) ∧ (v = .slice none 0 0 ↔ ks = []) ∧ Below w.heap.size w w' := by
  obtain ⟨R, hR⟩ : ∃ R : Value → Option (DataW Unit × List MemPlace), ∀ v, R v = some (.nil, []) := ⟨fun _ => some (.nil, []), fun _ => rfl⟩
  have hrd : ∀ x ∈ E.toList, ∃ k, k ∈ ks ∧ WideElems.rd Try.prog (Try.keysA_ren.t 26) R x = some (.int .i64 k, .nil) ∧ x.key = encZ k := by
    intro x hx
    have h1 : x.key ∈ E.toList.map (fun e => e.key) := List.mem_map.2 ⟨x, hx, rfl⟩
    rw [hk] at h1
    obtain ⟨k, hk1, hk2⟩ := List.mem_map.1 h1
    refine ⟨k, hk1, ?_, hk2.symm⟩
    obtain ⟨key, val, born⟩ := x
    simp only at hk2
    subst hk2
    exact WideElems.rd_mk (yv := (.nil, [])) (keyOf_int_mk Try.keysA.t26 (wf_i64 (hrg k hk1))) (hR _)
  have hF : WideElems.Fit Try.prog (Try.keysA_ren.t 26) R E clock := by
    refine ⟨Nat.le_trans hlen (by decide), ⟨hbl, hbn, ?_⟩, fun x hx => ?_⟩
    · rw [hk]
      exact List.Pairwise.map _ (fun a b hab e => hab (encZ_inj e)) hnd
    · obtain ⟨k, _, h, _⟩ := hrd x hx; exact ⟨_, h⟩
  have hown : w.ownsMap Try.prog (Try.keysA_ren.t 26) R bm E.size (.map ((E.toList.map (WideElems.rg Try.prog (Try.keysA_ren.t 26) R)).foldr DataW.insert [])) := ⟨E, clock, hE, hF, Nat.le_refl _, rfl⟩
  have hpm := WideShapes.sorted_perm (E.toList.map (WideElems.rg Try.prog (Try.keysA_ren.t 26) R))
  have hsize : Maps.size (DataW.map ((E.toList.map (WideElems.rg Try.prog (Try.keysA_ren.t 26) R)).foldr DataW.insert [])) = E.size := by
    show List.length _ = _
    rw [hpm.length_eq, List.length_map]; simp
  have hkeys : (intKeys (DataW.map ((E.toList.map (WideElems.rg Try.prog (Try.keysA_ren.t 26) R)).foldr DataW.insert []))).Perm ks := by
    show (List.map _ _).Perm _
    refine (hpm.map _).trans ?_
    rw [List.map_map]
    have : E.toList.map ((fun p : Lit × DataW Unit => Go.intOf p.1) ∘ WideElems.rg Try.prog (Try.keysA_ren.t 26) R) = ks := by
      have e1 : ks = (E.toList.map (fun e => e.key)).map (fun v => match v with | .int _ n => n | _ => 0) := by
        rw [hk, List.map_map]
        exact ((List.map_congr_left (g := id) fun a _ => rfl).trans (List.map_id _)).symm
      rw [e1, List.map_map]
      refine List.map_congr_left fun x hx => ?_
      obtain ⟨k, _, h, hq⟩ := hrd x hx
      simp only [Function.comp, WideElems.rg_of h, hq, Go.intOf, encZ]
    rw [this]
  have hseq := AnyZI.keys_gives (ρ := Try.keysA_ren) { Try.keysA with } Fence.wide 2 trivial rfl (by omega) bx bm E.size _ w hbx hcell hown
  have cS := AnyZI.sorted_in Try.sortedA Fence.wide 5 trivial trivial trivial trivial rfl (by omega) (sortsA _) (enters_of Try.func28 (by kernel_rfl) rfl) 29 #[.pointer (some ⟨bx, 0, none⟩)] trivial (enters_of Try.func29 (by kernel_rfl) rfl) _ (Maps.size _) (by rw [hsize]; exact Nat.le_trans hlen (by decide)) (by rw [hsize]; omega) w hseq
  have cS' : CallsIn Fence.wide 5 Try.prog 16 #[.func (.func 29) #[] #[.pointer (some ⟨bx, 0, none⟩)]] w _ := cS
  refine ((callsIn_wide (n := 5)).1 cS').mono fun e w' hp => ?_
  obtain ⟨v, ss, rfl, hperm, hrow, hnil, hb⟩ := hp
  have hp2 := hperm.trans hkeys
  refine ⟨v, rfl, ?_, ?_, hb⟩
  · rw [← merge_isort hp2, ← hp2.length_eq]; exact hrow
  · rw [hnil]
    constructor
    · rintro rfl; exact List.nil_perm.1 hp2
    · rintro rfl; exact List.perm_nil.1 hp2
theorem sorted_ok : SpecOK Try.prog 16 sortedS := by
  intro args S x S' h
  unfold sortedS at h
  split at h
  · rename_i f i
    split at h
    · rename_i j hBi
      split at h
      · rename_i es clock hBj
        split at h
        · rename_i ks hks
          split at h
          · rename_i hc
            obtain ⟨rfl, hnd, hbn, hbl, hlen, hrg⟩ := hc
            simp only [Option.some.injEq, Prod.mk.injEq] at h
            obtain ⟨rfl, rfl⟩ := h
            refine ⟨by kernel_rfl, fun base w0 K w vs hΛ hA hS => ?_⟩
            obtain ⟨v1, hvs⟩ : ∃ v1, vs.toList = [v1] := by
              match hh : vs.toList, hA.1 with
              | [p], _ => exact ⟨p, rfl⟩
            rw [hvs] at hA
            have q1 : VR K S (.f (.func 29) [] [.p i 0 0]) v1 := hA.2 0 (by simp) (by simp)
            have hvs' : vs = #[v1] := by rw [← Array.toArray_toList (xs := vs), hvs]
            subst hvs'
            cases q1 with
            | f _ _ _ x' y' hx hy hhx hhy =>
              have hx0 : x' = #[] := Array.eq_empty_of_size_eq_zero hx.symm
              subst hx0
              obtain ⟨vp, rfl⟩ : ∃ vp, y' = #[vp] := by
                obtain ⟨l⟩ := y'
                match l, hy with
                | [p], _ => exact ⟨p, rfl⟩
              have qp : VR K S (.p i 0 0) vp := hhy 0
              cases qp with
              | p _ _ _ a B h1 h2 h3 =>
                rw [hBi] at h1; injection h1 with h1; subst h1
                obtain rfl := h3 rfl
                obtain ⟨xc, hcell, hxc⟩ := hS.load hBi (k := 0) (by simp)
                have hxc : VR K S (.m j) xc := hxc
                obtain ⟨E, m1, m2, m3, m4⟩ := hS.blk j _ hBj
                obtain ⟨k1, k2⟩ := keysOf_len hks
                cases hxc with
                | m _ r B2 n1 n2 =>
                  rw [hBj] at n1; injection n1 with n1; subst n1
                  obtain rfl := n2 rfl
                  have hbi : K.μ i < w.heap.size := (hS.blk i _ hBi).lt
                  have hkk : E.toList.map (fun e => e.key) = ks.map encZ := by
                    refine List.ext_getElem (by simp [k1, m2]) fun k hk1 hk2 => ?_
                    have hke : k < es.length := by rw [m2]; simpa using hk1
                    have hkE : k < E.size := by simpa using hk1
                    have hq := (m4 k hke hkE).1
                    rw [k2 k hke (by simpa using hk2)] at hq
                    rw [List.getElem_map, List.getElem_map, Array.getElem_toList]
                    generalize hv : (E[k]).key = kv at hq ⊢
                    cases hq; rfl
                  have hbb : E.toList.map (fun e => e.born) = es.map (fun e => e.2.2) := by
                    refine List.ext_getElem (by simp [m2]) fun k hk1 hk2 => ?_
                    have hke : k < es.length := by simpa using hk2
                    have hkE : k < E.size := by simpa using hk1
                    rw [List.getElem_map, List.getElem_map, Array.getElem_toList]
                    exact (m4 k hke hkE).2.2.symm
                  have hbl' : ∀ e ∈ E.toList, e.born < clock := by
                    intro e he
                    have h1 : e.born ∈ E.toList.map (fun e => e.born) := List.mem_map.2 ⟨e, he, rfl⟩
                    rw [hbb] at h1
                    obtain ⟨e', he', h2⟩ := List.mem_map.1 h1
                    rw [← h2]; exact hbl e' he'
                  refine (sorted_calls (ks := ks) hcell hbi m1 hkk hnd (by rw [hbb]; exact hbn) hbl' (by rw [← m2]; exact hlen) hrg).mono fun e w' hp => ?_
                  obtain ⟨v, rfl, hrow, hnil, hb⟩ := hp
                  obtain ⟨s1, s2⟩ := hS.later hb
                  rcases hrow with ⟨hl, ⟨rfl, h0⟩ | ⟨g, cap, cur, rfl, hbase, hg, hn, hcm, hcs, htk⟩⟩
                  · have hks0 : ks = [] := List.eq_nil_of_length_eq_zero h0
                    subst hks0
                    exact ⟨K, _, rfl, .sn, s1, s2⟩
                  · have hne : ks ≠ [] := fun e0 => by simpa using hnil.2 e0
                    have hie : isort ks ≠ [] := fun e0 => by
                      have := isort_len ks
                      rw [e0] at this
                      exact hne (List.eq_nil_of_length_eq_zero this.symm)
                    obtain ⟨r1, r2⟩ := hS.comes hb hbase (n := cur.size) (.cells ((isort ks).flatMap (intE .i64).enc) 0 (some 1) true) fun K' S' hE hμ hσ => by
                      have hlf : ((isort ks).flatMap (intE .i64).enc).length = ks.length := by rw [enc_length, isort_len]; exact Nat.mul_one _
                      refine ⟨cur, _, _, by rw [hμ]; exact hg, hσ.symm, by rw [hlf]; omega, fun q => (by cases q), fun k hk => ?_, fun _ => ⟨by rw [hμ]; exact Nat.le_trans hS.hb hbase, fun o _ => by simp⟩⟩
                      rw [hlf] at hk
                      have hkc : k < cur.size := by omega
                      have e1 : ((isort ks).flatMap (intE .i64).enc).getD k .u = .i .i64 ((isort ks)[k]'(by rw [isort_len]; exact hk)) := by
                        have : (isort ks).flatMap (intE .i64).enc = (isort ks).map (AV.i .i64) := by
                          generalize isort ks = l
                          induction l with
                          | nil => rfl
                          | cons a l ih => rw [List.flatMap_cons, ih]; rfl
                        rw [this, List.getD_eq_getElem?_getD, List.getElem?_map, List.getElem?_eq_getElem (by rw [isort_len]; exact hk)]; rfl
                      have e2 : cur.getD k undef = encZ ((isort ks)[k]'(by rw [isort_len]; exact hk)) := by
                        have h1 : (cur.toList.take (ks.length * 1))[k]? = some (encZ ((isort ks)[k]'(by rw [isort_len]; exact hk))) := by
                          rw [htk, List.getElem?_map, List.getElem?_eq_getElem (by rw [isort_len]; exact hk)]; rfl
                        rw [List.getElem?_take, if_pos (by omega)] at h1
                        rw [Array.getD_eq_getD_getElem?, ← Array.getElem?_toList, h1]; rfl
                      rw [e1, e2]
                      exact .i ..
                    obtain ⟨a, l, hal⟩ := List.exists_cons_of_ne_nil hie
                    have hx : retX false S (isort ks) = .sl S.length 0 0 ks.length ks.length false := by
                      rw [← isort_len ks, hal]; rfl
                    have hm : retM false (intE .i64) S (isort ks) = S ++ [.cells ((isort ks).flatMap (intE .i64).enc) 0 (some 1) true] := by
                      rw [hal]; rfl
                    rw [hx, hm]
                    refine ⟨_, _, rfl, ?_, r1, r2⟩
                    refine .sl _ _ _ _ _ _ _ _ (.cells ((isort ks).flatMap (intE .i64).enc) 0 (some 1) true) (by simp) (Nat.le_refl _) (Nat.le_refl _) hn (fun q => by cases q) fun _ => ⟨?_, fun _ => ⟨1, rfl, ?_⟩⟩
                    · rw [(K.put_same _ _ _).1]
                    · rw [(K.put_same _ _ _).2]; omega
          · cases h
        · cases h
      · cases h
    · cases h
  · cases h
end Go.Proofs.Ytmdnohpolepcoaa

namespace Go.Proofs.Ytmdnohpolepcoaa
open Go.RowKit
set_option linter.unusedSimpArgs false
set_option linter.unusedVariables false
set_option maxRecDepth 10000

def Chg.enc (c : Chg) : List AV := [.i .i64 c.pol.sub, .i .u8 c.pol.a, .i .u8 c.pol.b, .i .u8 c.pol.c, .i .u8 c.pol.d, .i .i64 c.pol.bits, .i .u64 c.pol.rate, .i .u64 c.pol.burst, .i .u64 c.pol.srate, .i .u64 c.pol.sburst, .i .u64 c.pol.quota, .i .u64 c.pol.lease, .i .u64 c.pol.quantum, .b c.put]
def chgE : Enc Chg where
  enc := Chg.enc
  dec r := match r with
    | [.i .i64 sub, .i .u8 a, .i .u8 b, .i .u8 c, .i .u8 d, .i .i64 bits, .i .u64 rate, .i .u64 burst, .i .u64 srate, .i .u64 sburst, .i .u64 quota, .i .u64 lease, .i .u64 quantum, .b p] => some ⟨p, ⟨sub, a, b, c, d, bits, rate, burst, srate, sburst, quota, lease, quantum⟩⟩
    | _ => none
  sz := 14
  pos := by decide
  len _ := rfl
  de _ := rfl
  ed r a h := by
    split at h
    · injection h with h; subst h; rfl
    · cases h
theorem chgE_one (c : Chg) : (chgE.enc c).all AV.one = true := rfl
def TL (M : Mem) (x : AV) (j : Nat) (l : List Chg) : Prop := (l = [] ∧ x = .sn) ∨ (l ≠ [] ∧ ∃ v, x = .sl j 0 v l.length l.length false ∧ M[j]? = some (.cells (l.flatMap chgE.enc) v (some 14) true))
/-- At block it a Txn that holds changes (in block j), both not below b. -/
def TAt (b : Nat) (M : Mem) (it j : Nat) (l : List Chg) : Prop := b ≤ it ∧ (l ≠ [] → b ≤ j) ∧ ∃ x, M[it]? = some (.cells [x] 0 none true) ∧ TL M x j l
theorem TL.lst {M : Mem} {x : AV} {j : Nat} {l : List Chg} (h : TL M x j l) : lstV chgE M x = some l := by
  rcases h with ⟨rfl, rfl⟩ | ⟨h0, v, rfl, hB⟩
  · rfl
  · refine lst_lstV (.inr (.inr ⟨_, _, _, _, _, _, rfl, rfl, ?_⟩))
    rw [rowAt_B, hB, rowB_some, if_pos (by rw [enc_length]; show 0 + _ * 14 ≤ _ * 14; omega), List.drop_zero, ← enc_length, List.take_length]
theorem TL.extM {M M' : Mem} {x : AV} {j : Nat} {l : List Chg} (h : TL M x j l) (hM : ∀ B, l ≠ [] → M[j]? = some B → M'[j]? = some B) : TL M' x j l := by
  rcases h with h | ⟨h0, v, hx, hB⟩
  · exact .inl h
  · exact .inr ⟨h0, v, hx, hM _ h0 hB⟩
theorem TAt.keep {b it j : Nat} {M M' : Mem} {l : List Chg} (h : TAt b M it j l) (h1 : ∀ B, M[it]? = some B → M'[it]? = some B) (h2 : ∀ B, l ≠ [] → M[j]? = some B → M'[j]? = some B) : TAt b M' it j l := by
  obtain ⟨hb, hj, x, hx, hl⟩ := h
  exact ⟨hb, hj, x, h1 _ hx, hl.extM h2⟩
theorem TAt.ext {b it j : Nat} {M M' : Mem} {l : List Chg} (h : TAt b M it j l) (hM : M <+: M') : TAt b M' it j l := h.keep (fun B hB => at_pre hM hB) fun B _ hB => at_pre hM hB
/-- A change more. -/
theorem TL.app {M : Mem} {x : AV} {j it : Nat} {l : List Chg} (h : TL M x j l) (hl : l.length < 1000) (c : Chg) (hit : ∃ y, M[it]? = some (.cells [y] 0 none true)) :
    ∃ x' M' j', appV M 14 88 x c.enc 1 = some (x', M') ∧ TL M' x' j' (l ++ [c]) ∧ (l ≠ [] → j' = j) ∧ (l = [] → M.length ≤ j') ∧ M.length ≤ M'.length ∧ j' ≠ it ∧ (∀ (ib : Nat) (B : Blk), M[ib]? = some B → (l = [] ∨ ib ≠ j) → M'[ib]? = some B) ∧ M'[it]? = M[it]? := by
  obtain ⟨y, hit⟩ := hit
  rcases h with ⟨rfl, rfl⟩ | ⟨h0, v, rfl, hB⟩
  · refine ⟨_, _, M.length, app_sn (by omega) (by omega) (by omega), .inr ⟨by simp, 0, rfl, ?_⟩, fun q => absurd rfl q, fun _ => Nat.le_refl _, by simp, ?_, fun ib B hB _ => at_old hB, at_old hit ▸ hit.symm⟩
    · rw [at_app0]; simp [chgE]
    · have := (List.getElem?_eq_some_iff.1 hit).1
      omega
  · have hjl := (List.getElem?_eq_some_iff.1 hB).1
    have hne : j ≠ it := fun e => by
      rw [← e, hB] at hit
      injection hit with hit
      injection hit with _ _ q _
      cases q
    refine ⟨.sl j 0 (v + 1) (l.length + 1) (l.length + 1) false, M.set j (.cells (l.flatMap chgE.enc ++ c.enc) (v + 1) (some 14) true), j, ?_, .inr ⟨by simp, v + 1, by simp, ?_⟩, fun _ => rfl, fun q => absurd q h0, by simp, hne, fun ib B hb q => ?_, ?_⟩
    · simp only [appV]
      rw [if_neg (by omega), if_neg (by omega), if_pos ⟨by unfold lim; omega, by unfold lim; omega⟩]
      simp only [hB, Bool.false_eq_true, if_false]
      rw [if_pos ⟨trivial, trivial, trivial, by rw [enc_length]; exact Nat.le_refl _, chgE_one c⟩]
      have : (l.flatMap chgE.enc).take (l.length * 14) = l.flatMap chgE.enc := by
        rw [List.take_of_length_le]; rw [enc_length]; exact Nat.le_refl _
      rw [this]
    · rw [List.flatMap_append]; simp [hjl, chgE]
    · rw [List.getElem?_set_ne (Ne.symm (q.resolve_left h0))]; exact hb
    · rw [List.getElem?_set_ne hne]

/-! ### New, Len -/
end Go.Proofs.Ytmdnohpolepcoaa

namespace Go.Proofs.Ytmdnohpolepcoaa
open Go.RowKit
set_option linter.unusedSimpArgs false
set_option linter.unusedVariables false
set_option maxRecDepth 10000

end Go.Proofs.Ytmdnohpolepcoaa

namespace Go.Proofs.Ytmdnohpolepcoaa
open Go.RowKit
set_option linter.unusedSimpArgs false
set_option linter.unusedVariables false
set_option maxRecDepth 10000

/-- No subscriber twice. -/
def Once (l : List Ent) : Prop := l.Pairwise fun a b => a.pol.sub ≠ b.pol.sub
def Rises (l : List Ent) : Prop := l.Pairwise fun a b => a.pol.sub < b.pol.sub
theorem rises_ext : ∀ {l m : List Ent}, Rises l → Rises m → (∀ x, x ∈ l ↔ x ∈ m) → l = m
  | [], [], _, _, _ => rfl
  | [], b :: m, _, _, h => absurd ((h b).2 (by simp)) (by simp)
  | a :: l, [], _, _, h => absurd ((h a).1 (by simp)) (by simp)
  | a :: l, b :: m, h1, h2, h => by
    obtain ⟨a1, a2⟩ := List.pairwise_cons.1 h1
    obtain ⟨b1, b2⟩ := List.pairwise_cons.1 h2
    have hab : a = b := by
      rcases List.mem_cons.1 ((h a).1 (by simp)) with e | ha
      · exact e
      · rcases List.mem_cons.1 ((h b).2 (by simp)) with e | hb
        · exact e.symm
        · have := b1 a ha; have := a1 b hb; omega
    subst hab
    rw [rises_ext a2 b2 fun x => ?_]
    constructor
    · intro hx
      rcases List.mem_cons.1 ((h x).1 (by simp [hx])) with e | hm
      · have := a1 x hx; rw [e] at this; omega
      · exact hm
    · intro hx
      rcases List.mem_cons.1 ((h x).2 (by simp [hx])) with e | hm
      · have := b1 x hx; rw [e] at this; omega
      · exact hm
end Go.Proofs.Ytmdnohpolepcoaa

namespace Go.Proofs.Ytmdnohpolepcoaa
open Go.RowKit
set_option linter.unusedSimpArgs false
set_option linter.unusedVariables false
set_option maxRecDepth 10000

def cmpI (a b : Int) : Int := if a < b then -1 else if b < a then 1 else 0
end Go.Proofs.Ytmdnohpolepcoaa

namespace Go.Proofs.Ytmdnohpolepcoaa
open Go.RowKit
set_option linter.unusedSimpArgs false
set_option linter.unusedVariables false
set_option maxRecDepth 10000

end Go.Proofs.Ytmdnohpolepcoaa

namespace Go.Proofs.Ytmdnohpolepcoaa
open Go.RowKit
set_option linter.unusedSimpArgs false
set_option linter.unusedVariables false
set_option maxRecDepth 10000

/-- A list in a block of its own, perhaps with room behind it. -/
def Sp (i : Nat) (S : Mem) (x : AV) (l : List Ent) : Prop := ∃ v cap junk, x = .sl i 0 v l.length cap false ∧ S[i]? = some (.cells (l.flatMap entE.enc ++ junk) v (some 14) true) ∧ junk.length = (cap - l.length) * 14 ∧ l.length ≤ cap ∧ junk.all AV.one = true
theorem flat14 (l : List Ent) : (l.flatMap entE.enc).length = l.length * 14 := enc_length (E := entE) l
theorem Sp.lst {i : Nat} {S : Mem} {x : AV} {l : List Ent} (h : Sp i S x l) : lstV entE S x = some l := by
  obtain ⟨v, cap, junk, rfl, hB, hj, hlc, _⟩ := h
  refine lst_lstV (.inr (.inr ⟨_, _, _, _, _, _, rfl, rfl, ?_⟩))
  rw [rowAt_B, hB]
  show rowB _ 0 v (l.length * 14) = _
  rw [rowB_some, if_pos (by rw [List.length_append, flat14]; omega), List.drop_zero, List.take_append_of_le_length (by rw [flat14]; omega), ← flat14, List.take_length]
theorem Sp.app {i : Nat} {S : Mem} {x : AV} {l : List Ent} (h : Sp i S x l) (a : Ent) (hl : l.length ≤ 1000000) :
    ∃ x' B, appV S 14 88 x (entE.enc a) 1 = some (x', S.set i B) ∧ Sp i (S.set i B) x' (l ++ [a]) := by
  obtain ⟨v, cap, junk, rfl, hB, hj, hlc, hj1⟩ := h
  have ha14 : (entE.enc a).length = 14 := rfl
  have hlim1 : (l.length + 1) * 88 ≤ lim := by show _ ≤ 140737488355328; omega
  have hlim2 : l.length + 1 ≤ lim := by show _ ≤ 140737488355328; omega
  by_cases hc : l.length + 1 ≤ cap
  · refine ⟨.sl i 0 v (l.length + 1) cap false, .cells (splice (l.flatMap entE.enc ++ junk) (0 + l.length * 14) (entE.enc a)) v (some 14) true, ?_, ?_⟩
    · simp only [appV, hB]
      rw [if_neg (by omega), if_pos hc, if_pos ⟨trivial, by rw [List.length_append, flat14, hj]; omega, entE_one a⟩]
    · refine ⟨v, cap, junk.drop 14, by rw [List.length_append]; rfl, ?_, by rw [List.length_drop, hj, List.length_append]; simp; omega, by rw [List.length_append]; exact hc, ?_⟩
      · rw [at_set hB]
        congr 2
        unfold splice
        rw [Nat.zero_add, ha14, ← flat14, List.take_left, List.flatMap_append, List.drop_append, List.drop_of_length_le (by omega), List.nil_append, Nat.add_sub_cancel_left]
        simp [List.append_assoc]
      · rw [List.all_eq_true] at hj1 ⊢
        exact fun y hy => hj1 y (List.mem_of_mem_drop hy)
  · have hcl : cap = l.length := by omega
    obtain rfl : junk = [] := List.eq_nil_of_length_eq_zero (by rw [hj]; omega)
    rw [List.append_nil] at hB
    refine ⟨.sl i 0 (v + 1) (l.length + 1) (l.length + 1) false, .cells ((l.flatMap entE.enc).take (l.length * 14) ++ entE.enc a) (v + 1) (some 14) true, ?_, ?_⟩
    · simp only [appV, hB, Bool.false_eq_true, if_false]
      rw [if_neg (by omega), if_neg hc, if_pos ⟨hlim1, hlim2⟩, if_pos ⟨trivial, trivial, trivial, by rw [flat14]; omega, entE_one a⟩]
    · refine ⟨v + 1, l.length + 1, [], by rw [List.length_append]; rfl, ?_, by rw [List.length_append]; simp, by rw [List.length_append]; exact Nat.le_refl _, rfl⟩
      rw [at_set hB, ← flat14, List.take_length, List.append_nil, List.flatMap_append]
      simp
/-- A policy is laid in place. -/
theorem Sp.pol {i : Nat} {S : Mem} {x : AV} {l : List Ent} (h : Sp i S x l) {k : Nat} (hk : k < l.length) (p : Pol) :
    ∃ v cap cs, x = .sl i 0 v l.length cap false ∧ S[i]? = some (.cells cs v (some 14) true) ∧ k * 14 + 13 ≤ cs.length ∧ Sp i (S.set i (.cells (cs.take (k * 14) ++ (p.enc ++ cs.drop (k * 14 + 13))) v (some 14) true)) x (l.set k ⟨p, l[k].granted⟩) := by
  obtain ⟨v, cap, junk, rfl, hB, hj, hlc, hj1⟩ := h
  have hcs : k * 14 + 13 ≤ (l.flatMap entE.enc).length := by rw [flat14]; omega
  refine ⟨v, cap, _, rfl, hB, by rw [List.length_append]; omega, v, cap, junk, by rw [List.length_set], ?_, by rw [List.length_set]; exact hj, by rw [List.length_set]; exact hlc, hj1⟩
  rw [at_set hB]
  have hsp := splice_at (E := entE) l hk ⟨p, l[k].granted⟩ (f := 0) (ys := p.enc) (by simp [entE, Pol.enc]) (by rfl)
  have hsp : (l.flatMap entE.enc).take (k * 14) ++ p.enc ++ (l.flatMap entE.enc).drop (k * 14 + 13) = (l.set k ⟨p, l[k].granted⟩).flatMap entE.enc := by rw [← hsp]; show _ = (l.flatMap entE.enc).take (k * 14 + 0) ++ (p.enc ++ (l.flatMap entE.enc).drop (k * 14 + 0 + 13)); simp only [Nat.add_zero, List.append_assoc]
  rw [← hsp, List.take_append_of_le_length (by omega), List.drop_append_of_le_length (by omega)]
  simp [List.append_assoc]
end Go.Proofs.Ytmdnohpolepcoaa

namespace Go.Proofs.Ytmdnohpolepcoaa
open Go.RowKit
set_option linter.unusedSimpArgs false
set_option linter.unusedVariables false

theorem cmpI_neg {a b : Int} : cmpI a b < 0 ↔ a < b := by
  unfold cmpI
  split
  · rename_i h; exact ⟨fun _ => h, fun _ => by omega⟩
  · rename_i h
    split
    · exact ⟨fun z => by omega, fun z => absurd z h⟩
    · exact ⟨fun z => by omega, fun z => absurd z h⟩
/-- A permutation in which no later one is less than an earlier one: it rises, if no subscriber is there twice. -/
theorem rises_of_sorted {l d : List Ent} (hp : d.Perm l) (ho : Once l) (hs : ∀ i j (hij : i < j) (hj : j < d.length), ¬ cmpI d[j].pol.sub (d[i]'(by omega)).pol.sub < 0) : Rises d ∧ ∀ x, x ∈ d ↔ x ∈ l := by
  have hod : Once d := (hp.pairwise_iff fun h => Ne.symm h).2 ho
  refine ⟨List.pairwise_iff_getElem.2 fun i j hi hj hij => ?_, fun x => hp.mem_iff⟩
  have h1 := List.pairwise_iff_getElem.1 hod i j hi hj hij
  have h2 := hs i j hij hj
  rw [cmpI_neg] at h2
  omega
end Go.Proofs.Ytmdnohpolepcoaa

namespace Go.Proofs.Ytmdnohpolepcoaa
open Go.RowKit Go.Sort
set_option linter.unusedSimpArgs false
set_option linter.unusedVariables false
set_option maxRecDepth 10000

instance : Inhabited Ent := ⟨noEnt⟩
def entV (a : Ent) : List Value := [.int .i64 a.pol.sub, .int .u8 a.pol.a, .int .u8 a.pol.b, .int .u8 a.pol.c, .int .u8 a.pol.d, .int .i64 a.pol.bits, .int .u64 a.pol.rate, .int .u64 a.pol.burst, .int .u64 a.pol.srate, .int .u64 a.pol.sburst, .int .u64 a.pol.quota, .int .u64 a.pol.lease, .int .u64 a.pol.quantum, .int .u64 a.granted]
theorem entV_len (a : Ent) : (entV a).length = 14 := rfl
theorem entV_cell (a : Ent) : ∀ v ∈ entV a, v.oneCell' = true := by
  intro v hv
  simp only [entV, List.mem_cons, List.not_mem_nil, or_false] at hv
  rcases hv with rfl | rfl | rfl | rfl | rfl | rfl | rfl | rfl | rfl | rfl | rfl | rfl | rfl | rfl <;> rfl
theorem vr_i {K : Ctx} {S : Mem} {q : IntKind} {n : Int} {v : Value} (h : VR K S (.i q n) v) : v = .int q n := by cases h; rfl
theorem ent_cell {K : Ctx} {S : Mem} {a : Ent} {j : Nat} (hj : j < 14) {v : Value} (h : VR K S ((entE.enc a).getD j .u) v) : v = (entV a)[j]! := by
  simp only [entE, Ent.enc] at h
  match j, hj with
  | 0, _ | 1, _ | 2, _ | 3, _ | 4, _ | 5, _ | 6, _ | 7, _ | 8, _ | 9, _ | 10, _ | 11, _ | 12, _ | 13, _ => exact vr_i h
theorem cell_vr {K : Ctx} {S : Mem} {a : Ent} {j : Nat} (hj : j < 14) : VR K S ((entE.enc a).getD j .u) ((entV a)[j]!) := by
  simp only [entE, Ent.enc]
  match j, hj with
  | 0, _ | 1, _ | 2, _ | 3, _ | 4, _ | 5, _ | 6, _ | 7, _ | 8, _ | 9, _ | 10, _ | 11, _ | 12, _ | 13, _ => exact .i _ _
theorem flat_get {l : List Ent} {junk : List AV} {t : Nat} (ht : t < l.length * 14) : (l.flatMap entE.enc ++ junk).getD t .u = (entE.enc (l.toArray[t / 14]!)).getD (t % 14) .u := by
  have hk : t / 14 < l.length := by omega
  have e : l.toArray[t / 14]! = l[t / 14] := by rw [getElem!_pos l.toArray (t / 14) (by simpa using hk)]; simp
  rw [e]
  have hp := flat_part (f := entE.enc) (w := 14) (fun a => rfl) l (t / 14) hk
  simp only [List.getD_eq_getElem?_getD]
  congr 1
  rw [List.getElem?_append_left (by rw [flat14]; exact ht), ← hp, List.getElem?_take, if_pos (by omega), List.getElem?_drop]
  congr 1; omega
/-- A block of entries is what the kit's sort asks for. -/
theorem holds_of_sim {base : Bs} {w0 : World} {K : Ctx} {S : Mem} {w : World} (h : Sim base w0 K S w) {i v : Nat} {l : List Ent} {junk : List AV} {op : Option Nat} (hB : S[i]? = some (.cells (l.flatMap entE.enc ++ junk) v op true)) : HoldsK entV 14 w (K.μ i) 0 l.toArray := by
  intro j hj
  have hj' : j < l.length * 14 := by simpa using hj
  have hjl : j < (l.flatMap entE.enc ++ junk).length := by rw [List.length_append, flat14]; omega
  obtain ⟨x, h1, h2⟩ := h.load hB hjl
  have hf := (h.set1 hB hjl h2).1
  rw [Nat.zero_add]
  refine ⟨?_, hf⟩
  rw [h1]
  rw [flat_get hj'] at h2
  rw [get_flatK _ _ _ j (by simpa using hj')]
  exact congrArg some (ent_cell (by omega) h2)
theorem put_size (F arr : Array Value) : (putCells id 0 F arr).size = arr.size := by unfold putCells; simp
theorem put_get {F arr : Array Value} {k : Nat} (hk : k < arr.size) : (putCells id 0 F arr).getD k undef = if k < F.size then F[k]! else arr.getD k undef := by
  have h : (putCells id 0 F arr)[k]? = some (if 0 ≤ k ∧ k < 0 + F.size then id F[k - 0]! else arr[k]) := by
    unfold putCells
    rw [Array.getElem?_mapIdx, Array.getElem?_eq_getElem hk]; rfl
  rw [Array.getD_eq_getD_getElem?, h, Option.getD_some]
  by_cases c : k < F.size
  · rw [if_pos ⟨Nat.zero_le _, by omega⟩, if_pos c, Nat.sub_zero]; rfl
  · rw [if_neg (by omega), if_neg c, Array.getD_eq_getD_getElem?, Array.getElem?_eq_getElem hk]; rfl
/-- Behind the kit's sort. -/
theorem sim_sorted {base : Bs} {w0 : World} {K : Ctx} {S : Mem} {w : World} (h : Sim base w0 K S w) {i v : Nat} {l : List Ent} {junk : List AV} {op : Option Nat} (hB : S[i]? = some (.cells (l.flatMap entE.enc ++ junk) v op true)) {d : Array Ent} (hd : d.size = l.length) (n : Nat) (os : Array Obj) :
    Sim base w0 K (S.set i (.cells (d.toList.flatMap entE.enc ++ junk) v op true)) (sortWorldK entV 14 w (K.μ i) 0 n d os) ∧ Stp K S w K (S.set i (.cells (d.toList.flatMap entE.enc ++ junk) v op true)) (sortWorldK entV 14 w (K.μ i) 0 n d os) := by
  obtain ⟨c, et, fz, h1, h2, h3, h4, h5, h6⟩ := h.blk i _ hB
  have hdl : d.toList.length = l.length := by rw [Array.length_toList, hd]
  have hlen : (d.toList.flatMap entE.enc ++ junk).length = (l.flatMap entE.enc ++ junk).length := by rw [List.length_append, List.length_append, flat14, flat14, hdl]
  refine h.resort hB h1 (f := putCells id 0 (flatK entV 14 d)) (put_size _ _) hlen (fun k hk => ?_) n os
  have hkc : k < c.size := by rw [hlen] at hk; omega
  rw [put_get hkc, size_flatK]
  by_cases c1 : k < d.size * 14
  · rw [if_pos c1, get_flatK _ _ _ k c1, flat_get (l := d.toList) (by rw [hdl, ← hd]; exact c1)]
    rw [show d.toList.toArray = d by simp]
    exact cell_vr (by omega)
  · rw [if_neg c1]
    have h7 := h5 k (by rw [← hlen]; exact hk)
    have e : (d.toList.flatMap entE.enc ++ junk).getD k .u = (l.flatMap entE.enc ++ junk).getD k .u := by
      simp only [List.getD_eq_getElem?_getD]
      rw [List.getElem?_append_right (by rw [flat14, hdl, ← hd]; omega), List.getElem?_append_right (by rw [flat14, ← hd]; omega), flat14, flat14, hdl]
    rw [e]; exact h7
end Go.Proofs.Ytmdnohpolepcoaa

namespace Go.Proofs.Ytmdnohpolepcoaa
open Go.RowKit Go.Sort
set_option linter.unusedSimpArgs false
set_option linter.unusedVariables false
set_option maxRecDepth 100000

theorem nan_calls (a : Int) (W : World) : Calls Try.prog 62 #[.int .i64 a] W fun e w' => e = .returned (.bool false) ∧ w' = W := by
  go_enter Try.func62, Try.ntmps62
  go_wp2
  go_ret
  simp
set_option maxHeartbeats 1000000 in
theorem cmp_calls (a b : Int) (W : World) : Calls Try.prog 47 #[.int .i64 a, .int .i64 b] W fun e w' => e = .returned (.int .i64 (cmpI a b)) ∧ w' = W := by
  have h1 := fun (x : Int) (W : World) => nan_calls x W
  unfold cmpI
  go_enter Try.func47, Try.ntmps47
  by_cases c1 : a < b
  · go_wp2_with (go_at_call 62; refine (h1 _ _).mono ?_; rintro e w' ⟨rfl, rfl⟩)
    go_ret
    exact ⟨rfl, rfl⟩
  · by_cases c2 : b < a
    · go_wp2_with (go_at_call 62; refine (h1 _ _).mono ?_; rintro e w' ⟨rfl, rfl⟩)
      go_ret
      exact ⟨rfl, rfl⟩
    · go_wp2_with (go_at_call 62; refine (h1 _ _).mono ?_; rintro e w' ⟨rfl, rfl⟩)
      go_ret
      exact ⟨rfl, rfl⟩
set_option maxHeartbeats 1000000 in
theorem closure_calls (x y : Ent) (W : World) : Calls Try.prog 46 #[.agg (entV x).toArray, .agg (entV y).toArray] W fun e w' => e = .returned (.int .i64 (cmpI x.pol.sub y.pol.sub)) ∧ ∃ q os', w' = grow (W.drewN q) os' := by
  have hcon := fun W' => cmp_calls x.pol.sub y.pol.sub W'
  generalize cmpI x.pol.sub y.pol.sub = r at hcon ⊢
  obtain ⟨⟨s, a1, a2, a3, a4, a5, a6, a7, a8, a9, a10, a11, a12⟩, a13⟩ := x
  obtain ⟨⟨t, b1, b2, b3, b4, b5, b6, b7, b8, b9, b10, b11, b12⟩, b13⟩ := y
  simp only [entV] at hcon ⊢
  go_enter Try.func46, Try.ntmps46
  go_wp2_with (go_at_call 47; refine (hcon _).mono ?_; rintro e w' ⟨rfl, rfl⟩)
  go_ret
  exact ⟨rfl, 0, _, by rw [alloc_eq_grow, alloc_eq_grow, grow_grow]; rfl⟩
end Go.Proofs.Ytmdnohpolepcoaa

namespace Go.Proofs.Ytmdnohpolepcoaa
open Go.RowKit
set_option linter.unusedSimpArgs false
set_option linter.unusedVariables false
set_option maxRecDepth 10000

structure Cf where
  v : Nat
  cap : Nat
  junk : List AV
  l : List Ent
def Cf.x (i : Nat) (c : Cf) : AV := .sl i 0 c.v c.l.length c.cap false
def Cf.blk (c : Cf) : Blk := .cells (c.l.flatMap entE.enc ++ c.junk) c.v (some 14) true
structure Cf.wf (c : Cf) : Prop where
  hj : c.junk.length = (c.cap - c.l.length) * 14
  hc : c.l.length ≤ c.cap
  ho : c.junk.all AV.one = true
def Cf.app (c : Cf) (a : Ent) : Cf := if c.l.length + 1 ≤ c.cap then ⟨c.v, c.cap, c.junk.drop 14, c.l ++ [a]⟩ else ⟨c.v + 1, c.l.length + 1, [], c.l ++ [a]⟩
def Cf.pol (c : Cf) (k : Nat) (p : Pol) : Cf := ⟨c.v, c.cap, c.junk, c.l.set k ⟨p, (c.l.getD k noEnt).granted⟩⟩
noncomputable def sortE (l : List Ent) : List Ent := open Classical in if h : ∃ d, Rises d ∧ ∀ x, x ∈ d ↔ x ∈ l then h.choose else l
noncomputable def Cf.sort (c : Cf) : Cf := ⟨c.v, c.cap, c.junk, sortE c.l⟩
theorem Cf.app_l (c : Cf) (a : Ent) : (c.app a).l = c.l ++ [a] := by unfold Cf.app; split <;> rfl
section
variable {i : Nat} {S : Mem} {c : Cf}
theorem Cf.sp (hw : c.wf) (hB : S[i]? = some c.blk) : Sp i S (c.x i) c.l := ⟨_, _, _, rfl, hB, hw.hj, hw.hc, hw.ho⟩
theorem Cf.lst (hw : c.wf) (hB : S[i]? = some c.blk) : lstV entE S (c.x i) = some c.l := (Cf.sp hw hB).lst
theorem Cf.app_wf (hw : c.wf) (a : Ent) : (c.app a).wf := by
  have hj := hw.hj
  have hlc := hw.hc
  unfold Cf.app
  split
  · rename_i h
    refine ⟨?_, ?_, ?_⟩
    · show (c.junk.drop 14).length = (c.cap - (c.l ++ [a]).length) * 14
      rw [List.length_drop, hj, List.length_append]; simp; omega
    · show (c.l ++ [a]).length ≤ c.cap
      rw [List.length_append]; exact h
    · show (c.junk.drop 14).all AV.one = true
      have := hw.ho
      rw [List.all_eq_true] at this ⊢
      exact fun y hy => this y (List.mem_of_mem_drop hy)
  · refine ⟨?_, ?_, rfl⟩
    · show ([] : List AV).length = (c.l.length + 1 - (c.l ++ [a]).length) * 14
      rw [List.length_append]; simp
    · show (c.l ++ [a]).length ≤ c.l.length + 1
      rw [List.length_append]; exact Nat.le_refl _
theorem Cf.app_eq (hw : c.wf) (hB : S[i]? = some c.blk) (a : Ent) (hl : c.l.length ≤ 1000000) : appV S 14 88 (c.x i) (entE.enc a) 1 = some ((c.app a).x i, S.set i (c.app a).blk) := by
  have hj := hw.hj
  have hlc := hw.hc
  have ha14 : (entE.enc a).length = 14 := rfl
  have hlim1 : (c.l.length + 1) * 88 ≤ lim := by show _ ≤ 140737488355328; omega
  have hlim2 : c.l.length + 1 ≤ lim := by show _ ≤ 140737488355328; omega
  have hB : S[i]? = some (.cells (c.l.flatMap entE.enc ++ c.junk) c.v (some 14) true) := hB
  unfold Cf.app
  by_cases hc : c.l.length + 1 ≤ c.cap
  · rw [if_pos hc]
    simp only [appV, Cf.x, hB]
    rw [if_neg (by omega), if_pos hc, if_pos ⟨trivial, by rw [List.length_append, flat14, hj]; omega, entE_one a⟩]
    have hbk : splice (c.l.flatMap entE.enc ++ c.junk) (0 + c.l.length * 14) (entE.enc a) = (c.l ++ [a]).flatMap entE.enc ++ c.junk.drop 14 := by
      unfold splice
      rw [Nat.zero_add, ha14, ← flat14, List.take_left, List.flatMap_append, List.drop_append, List.drop_of_length_le (by omega), List.nil_append, Nat.add_sub_cancel_left]
      simp [List.append_assoc]
    rw [hbk, List.length_append]; rfl
  · have hcl : c.cap = c.l.length := by omega
    have hj0 : c.junk = [] := List.eq_nil_of_length_eq_zero (by rw [hj]; omega)
    rw [if_neg hc]
    rw [hj0, List.append_nil] at hB
    simp only [appV, Cf.x, hB, Bool.false_eq_true, if_false]
    rw [if_neg (by omega), if_neg hc, if_pos ⟨hlim1, hlim2⟩, if_pos ⟨trivial, trivial, trivial, by rw [flat14]; omega, entE_one a⟩]
    have hbk : (c.l.flatMap entE.enc).take (c.l.length * 14) ++ entE.enc a = (c.l ++ [a]).flatMap entE.enc ++ [] := by
      rw [← flat14, List.take_length, List.append_nil, List.flatMap_append]
      simp
    rw [hbk, List.length_append]; rfl
theorem Cf.pol_wf (hw : c.wf) (k : Nat) (p : Pol) : (c.pol k p).wf := by
  refine ⟨?_, ?_, hw.ho⟩
  · show c.junk.length = (c.cap - (c.l.set k _).length) * 14
    rw [List.length_set]; exact hw.hj
  · show (c.l.set k _).length ≤ c.cap
    rw [List.length_set]; exact hw.hc
theorem Cf.pol_eq (hw : c.wf) {k : Nat} (hk : k < c.l.length) (p : Pol) :
    k * 14 + 13 ≤ (c.l.flatMap entE.enc ++ c.junk).length ∧ (c.l.flatMap entE.enc ++ c.junk).take (k * 14) ++ (p.enc ++ (c.l.flatMap entE.enc ++ c.junk).drop (k * 14 + 13)) = (c.pol k p).l.flatMap entE.enc ++ c.junk := by
  have hcs : k * 14 + 13 ≤ (c.l.flatMap entE.enc).length := by rw [flat14]; omega
  refine ⟨by rw [List.length_append]; omega, ?_⟩
  have hg : c.l.getD k noEnt = c.l[k] := by rw [List.getD_eq_getElem?_getD, List.getElem?_eq_getElem hk]; rfl
  have hsp := splice_at (E := entE) c.l hk ⟨p, c.l[k].granted⟩ (f := 0) (ys := p.enc) (by simp [entE, Pol.enc]) (by rfl)
  have hsp : (c.l.flatMap entE.enc).take (k * 14) ++ p.enc ++ (c.l.flatMap entE.enc).drop (k * 14 + 13) = (c.l.set k ⟨p, c.l[k].granted⟩).flatMap entE.enc := by rw [← hsp]; show _ = (c.l.flatMap entE.enc).take (k * 14 + 0) ++ (p.enc ++ (c.l.flatMap entE.enc).drop (k * 14 + 0 + 13)); simp only [Nat.add_zero, List.append_assoc]
  show _ = (c.l.set k ⟨p, (c.l.getD k noEnt).granted⟩).flatMap entE.enc ++ c.junk
  rw [hg, ← hsp, List.take_append_of_le_length (by omega), List.drop_append_of_le_length (by omega)]
  simp [List.append_assoc]
end

/-! ### Sorting: plain -/
theorem ex_rises : ∀ (l : List Ent), Once l → ∃ d, Rises d ∧ (∀ x, x ∈ d ↔ x ∈ l) ∧ d.length = l.length
  | [], _ => ⟨[], List.Pairwise.nil, fun x => Iff.rfl, rfl⟩
  | a :: l, ho => by
    obtain ⟨h1, h2⟩ := List.pairwise_cons.1 ho
    obtain ⟨d, d1, d2, d3⟩ := ex_rises l h2
    refine ⟨d.filter (fun x => decide (x.pol.sub < a.pol.sub)) ++ a :: d.filter (fun x => decide (a.pol.sub < x.pol.sub)), ?_, fun x => ?_, ?_⟩
    · refine List.pairwise_append.2 ⟨d1.filter _, List.pairwise_cons.2 ⟨fun y hy => ?_, d1.filter _⟩, fun y hy z hz => ?_⟩
      · have := (List.mem_filter.1 hy).2; simpa using this
      · have h3 := (List.mem_filter.1 hy).2
        simp only [decide_eq_true_eq] at h3
        rcases List.mem_cons.1 hz with rfl | hz
        · exact h3
        · have h4 := (List.mem_filter.1 hz).2
          simp only [decide_eq_true_eq] at h4
          omega
    · simp only [List.mem_append, List.mem_cons, List.mem_filter, decide_eq_true_eq]
      constructor
      · rintro (⟨h, _⟩ | h | ⟨h, _⟩)
        · exact .inr ((d2 x).1 h)
        · exact .inl h
        · exact .inr ((d2 x).1 h)
      · rintro (h | h)
        · exact .inr (.inl h)
        · have := h1 x h
          by_cases hlt : x.pol.sub < a.pol.sub
          · exact .inl ⟨(d2 x).2 h, hlt⟩
          · exact .inr (.inr ⟨(d2 x).2 h, by omega⟩)
    · rw [List.length_append, List.length_cons, List.length_cons, ← d3]
      have hne : ∀ x ∈ d, x.pol.sub ≠ a.pol.sub := fun x hx => (h1 x ((d2 x).1 hx)).symm
      clear h1 h2 d1 d2 d3 ho
      induction d with
      | nil => rfl
      | cons b d ih =>
        have ih := ih fun x hx => hne x (by simp [hx])
        have hb := hne b (by simp)
        simp only [List.filter_cons]
        by_cases hlt : b.pol.sub < a.pol.sub
        · have h2 : ¬ a.pol.sub < b.pol.sub := by omega
          simp only [hlt, h2, decide_true, decide_false, if_true, Bool.false_eq_true, if_false, List.length_cons]
          omega
        · have h2 : a.pol.sub < b.pol.sub := by omega
          simp only [hlt, h2, decide_true, decide_false, if_true, Bool.false_eq_true, if_false, List.length_cons]
          omega
theorem sortE_ok {l : List Ent} (ho : Once l) : Rises (sortE l) ∧ (∀ x, x ∈ sortE l ↔ x ∈ l) ∧ (sortE l).length = l.length := by
  obtain ⟨d, d1, d2, d3⟩ := ex_rises l ho
  have hex : ∃ d, Rises d ∧ ∀ x, x ∈ d ↔ x ∈ l := ⟨d, d1, d2⟩
  have h : Rises (sortE l) ∧ ∀ x, x ∈ sortE l ↔ x ∈ l := by
    unfold sortE
    rw [dif_pos hex]; exact hex.choose_spec
  refine ⟨h.1, h.2, ?_⟩
  rw [rises_ext h.1 d1 fun x => (h.2 x).trans (d2 x).symm]; exact d3
theorem sortE_eq {l d : List Ent} (ho : Once l) (hd : Rises d) (hm : ∀ x, x ∈ d ↔ x ∈ l) : d = sortE l :=
  rises_ext hd (sortE_ok ho).1 fun x => (hm x).trans ((sortE_ok ho).2.1 x).symm
end Go.Proofs.Ytmdnohpolepcoaa

namespace Go.Proofs.Ytmdnohpolepcoaa
open Go.Shelf
def Try.laysSort_ren : Go.Shelf.Ren := ⟨fun | 6 => 45 | 15 => 50 | 14 => 61 | 28 => 72 | 29 => 73 | 20 => 81 | 21 => 82 | 22 => 83 | 23 => 84 | 24 => 85 | 25 => 86 | 26 => 87 | 27 => 88 | 46 => 96 | 47 => 90 | 48 => 91 | 49 => 97 | 50 => 98 | 57 => 100 | n => n, fun | 22 => 39 | 24 => 52 | 25 => 91 | 3 => 3 | 39 => 95 | 0 => 0 | 53 => 116 | 55 => 30 | 4 => 4 | 46 => 108 | 45 => 107 | 50 => 113 | 5 => 5 | 9 => 9 | 66 => 129 | 70 => 133 | 76 => 137 | 77 => 138 | n => n, fun | n => n⟩
theorem Try.laysSort : Go.Proofs.SlLaysF0.n6 Try.prog Try.laysSort_ren := {
  mixed := by kernel_rfl
  f6 := ⟨Try.f45.name, by decide, Try.func45.trans (congrArg some (by kernel_rfl))⟩
  f14 := ⟨Try.f61.name, by decide, Try.func61.trans (congrArg some (by kernel_rfl))⟩
  f15 := Try.func50.trans (congrArg some (by kernel_rfl))
  f20 := ⟨Try.f81.name, by decide, Try.func81.trans (congrArg some (by kernel_rfl))⟩
  f21 := ⟨Try.f82.name, by decide, Try.func82.trans (congrArg some (by kernel_rfl))⟩
  f22 := ⟨Try.f83.name, by decide, Try.func83.trans (congrArg some (by kernel_rfl))⟩
  f23 := ⟨Try.f84.name, by decide, Try.func84.trans (congrArg some (by kernel_rfl))⟩
  f24 := ⟨Try.f85.name, by decide, Try.func85.trans (congrArg some (by kernel_rfl))⟩
  f25 := ⟨Try.f86.name, by decide, Try.func86.trans (congrArg some (by kernel_rfl))⟩
  f26 := ⟨Try.f87.name, by decide, Try.func87.trans (congrArg some (by kernel_rfl))⟩
  f27 := ⟨Try.f88.name, by decide, Try.func88.trans (congrArg some (by kernel_rfl))⟩
  f28 := Try.func72.trans (congrArg some (by kernel_rfl))
  f29 := Try.func73.trans (congrArg some (by kernel_rfl))
  f46 := ⟨Try.f96.name, by decide, Try.func96.trans (congrArg some (by kernel_rfl))⟩
  f47 := Try.func90.trans (congrArg some (by kernel_rfl))
  f48 := Try.func91.trans (congrArg some (by kernel_rfl))
  f49 := ⟨Try.f97.name, by decide, Try.func97.trans (congrArg some (by kernel_rfl))⟩
  f50 := ⟨Try.f98.name, by decide, Try.func98.trans (congrArg some (by kernel_rfl))⟩
  f57 := ⟨Try.f100.name, by decide, Try.func100.trans (congrArg some (by kernel_rfl))⟩
  t0 := Try.underlying0
  a0 := Try.isAgg0
  z0 := Try.sizeOf0
  v0 := Try.zeroValue0
  t3 := Try.underlying3
  a3 := Try.isAgg3
  z3 := Try.sizeOf3
  v3 := Try.zeroValue3
  t4 := Try.underlying4
  a4 := Try.isAgg4
  z4 := Try.sizeOf4
  v4 := Try.zeroValue4
  t5 := Try.underlying5
  a5 := Try.isAgg5
  z5 := Try.sizeOf5
  v5 := Try.zeroValue5
  t9 := Try.underlying9
  a9 := Try.isAgg9
  z9 := Try.sizeOf9
  v9 := Try.zeroValue9
  t22 := Try.underlying39
  a22 := Try.isAgg39
  z22 := Try.sizeOf39
  v22 := Try.zeroValue39
  t25 := Try.underlying91
  a25 := Try.isAgg91
  z25 := Try.sizeOf91
  v25 := Try.zeroValue91
  t39 := Try.underlying95
  a39 := Try.isAgg95
  z39 := Try.sizeOf95
  v39 := Try.zeroValue95
  t45 := Try.underlying107
  a45 := Try.isAgg107
  z45 := Try.sizeOf107
  v45 := Try.zeroValue107
  t46 := Try.underlying108
  a46 := Try.isAgg108
  z46 := Try.sizeOf108
  v46 := Try.zeroValue108
  t50 := Try.underlying113
  a50 := Try.isAgg113
  z50 := Try.sizeOf113
  v50 := Try.zeroValue113
  t53 := Try.underlying116
  a53 := Try.isAgg116
  z53 := Try.sizeOf116
  v53 := Try.zeroValue116
  t55 := Try.underlying30
  a55 := Try.isAgg30
  z55 := Try.sizeOf30
  v55 := Try.zeroValue30
  t66 := Try.underlying129
  a66 := Try.isAgg129
  z66 := Try.sizeOf129
  v66 := Try.zeroValue129
  t70 := Try.underlying133
  a70 := Try.isAgg133
  z70 := Try.sizeOf133
  v70 := Try.zeroValue133
  t76 := Try.underlying137
  a76 := Try.isAgg137
  z76 := Try.sizeOf137
  v76 := Try.zeroValue137
  t77 := Try.underlying138
  a77 := Try.isAgg138
  z77 := Try.sizeOf138
  v77 := Try.zeroValue138 }
end Go.Proofs.Ytmdnohpolepcoaa

namespace Go.Proofs.Ytmdnohpolepcoaa
open Go.RowKit Go.Sort
set_option linter.unusedSimpArgs false
set_option linter.unusedVariables false
set_option maxRecDepth 10000

noncomputable def sortS : Spec := fun args S => match args with
  | [.sl i 0 v n cap false, .f (.func f) [] []] => open Classical in if h : f = 46 ∧ ∃ c : Cf, c.wf ∧ Once c.l ∧ c.l.length ≤ 1000000 ∧ v = c.v ∧ n = c.l.length ∧ cap = c.cap ∧ S[i]? = some c.blk then
      some (.tu [], S.set i h.2.choose.sort.blk) else none
  | _ => none
theorem cf_same {S : Mem} {i : Nat} {c c' : Cf} (h1 : c.v = c'.v) (h2 : c.l.length = c'.l.length) (h3 : c.cap = c'.cap) (h4 : S[i]? = some c.blk) (h5 : S[i]? = some c'.blk) : c = c' := by
  obtain ⟨v, cap, junk, l⟩ := c
  obtain ⟨v', cap', junk', l'⟩ := c'
  simp only at h1 h2 h3
  subst h1 h3
  rw [h4] at h5
  simp only [Cf.blk, Option.some.injEq, Blk.cells.injEq, and_true] at h5
  have h6 : (l.flatMap entE.enc).length = (l'.flatMap entE.enc).length := by rw [flat14, flat14, h2]
  obtain ⟨h7, h8⟩ := List.append_inj h5 h6
  have h9 : l = l' := by
    have e1 := decL_enc (E := entE) l
    have e2 := decL_enc (E := entE) l'
    rw [h7, h2] at e1
    rw [e1] at e2
    exact Option.some.inj e2
  rw [h9, h8]
theorem sort_eq {S : Mem} {i : Nat} {c : Cf} (hw : c.wf) (ho : Once c.l) (hl : c.l.length ≤ 1000000) (hB : S[i]? = some c.blk) : sortS [c.x i, .f (.func 46) [] []] S = some (.tu [], S.set i c.sort.blk) := by
  have hex : 46 = 46 ∧ ∃ c' : Cf, c'.wf ∧ Once c'.l ∧ c'.l.length ≤ 1000000 ∧ c.v = c'.v ∧ c.l.length = c'.l.length ∧ c.cap = c'.cap ∧ S[i]? = some c'.blk := ⟨rfl, c, hw, ho, hl, rfl, rfl, rfl, hB⟩
  simp only [sortS, Cf.x]
  rw [dif_pos hex]
  obtain ⟨_, _, _, g1, g2, g3, g4⟩ := hex.2.choose_spec
  exact congrArg (fun q : Cf => some (AV.tu [], S.set i q.sort.blk)) (cf_same g1 g2 g3 hB g4).symm
theorem swo_sub : SWO (ltOf fun x y : Ent => cmpI x.pol.sub y.pol.sub) := by
  have e : ∀ x y : Ent, ltOf (fun x y : Ent => cmpI x.pol.sub y.pol.sub) x y = decide (x.pol.sub < y.pol.sub) := fun x y => by
    unfold ltOf
    simp only
    exact decide_eq_decide.2 cmpI_neg
  refine ⟨fun x => ?_, fun x y z h1 h2 => ?_, fun x y z h1 h2 => ?_⟩
  · rw [e]; simp
  · rw [e] at h1 h2 ⊢
    simp only [decide_eq_true_eq] at h1 h2 ⊢
    omega
  · rw [e] at h1 h2 ⊢
    simp only [decide_eq_false_iff_not] at h1 h2 ⊢
    omega
theorem sort_ok : SpecOK Try.prog 45 sortS := by
  intro args S x S' h
  unfold sortS at h
  split at h
  · rename_i i v n cap f
    split at h
    · rename_i hex
      obtain ⟨rfl, hc⟩ := hex
      simp only [Option.some.injEq, Prod.mk.injEq] at h
      obtain ⟨rfl, rfl⟩ := h
      have sp := hc.choose_spec
      revert sp
      generalize hc.choose = c
      intro sp
      obtain ⟨hw, ho, hl, rfl, rfl, rfl, hB⟩ := sp
      clear hc
      refine ⟨by kernel_rfl, fun base w0 K w vs hΛ hA hS => ?_⟩
      obtain ⟨v1, v2, hvs⟩ : ∃ v1 v2, vs.toList = [v1, v2] := by
        match hh : vs.toList, hA.1 with
        | [p, q], _ => exact ⟨p, q, rfl⟩
      rw [hvs] at hA
      have q1 : VR K S (.sl i 0 c.v c.l.length c.cap false) v1 := hA.2 0 (by simp) (by simp)
      have q2 : VR K S (.f (.func 46) [] []) v2 := hA.2 1 (by simp) (by simp)
      have hvs' : vs = #[v1, v2] := by rw [← Array.toArray_toList (xs := vs), hvs]
      subst hvs'
      have hB : S[i]? = some (.cells (c.l.flatMap entE.enc ++ c.junk) c.v (some 14) true) := hB
      cases q1 with
      | sl _ _ _ _ _ _ a cc B h1 h2 h3 h4 h5 h6 =>
        rw [hB] at h1
        injection h1 with h1
        subst h1
        obtain ⟨rfl, _⟩ := h6 rfl
        cases q2 with
        | f _ _ _ x' y' hx hy hhx hhy =>
          have hx0 : x' = #[] := Array.eq_empty_of_size_eq_zero hx.symm
          have hy0 : y' = #[] := Array.eq_empty_of_size_eq_zero hy.symm
          subst hx0 hy0
          have hH := holds_of_sim hS hB
          have hblk : K.μ i < w.heap.size := by
            obtain ⟨ar, et, fz, g1, _⟩ := hS.blk i _ hB
            exact (Array.getElem?_eq_some_iff.1 g1).1
          have hk := AnyQ.slices_SortFunc Try.laysSort 14 Try.isAgg52 Try.sizeOf52 entV entV_len entV_cell (fun x y : Ent => cmpI x.pol.sub y.pol.sub) swo_sub 46 #[] (K.μ i) 0 cc c.l.toArray w
            (fun args w => run_callFunc (by kernel_rfl) args) (fun m os dk hs x y => closure_calls x y _) hH hblk (by simp; omega)
          have hk' : Calls Try.prog 45 #[.slice (some ⟨K.μ i, 0, none⟩) c.l.length cc, .func (.func 46) #[] #[]] w _ := hk
          refine hk'.mono fun e w' hp => ?_
          obtain ⟨rfl, d', n, os, hpm, hso, rfl⟩ := hp
          obtain ⟨p1, p2, p3⟩ := hpm
          have hsz : d'.size = c.l.length := by rw [p1]; simp
          have hd : d'.toList.length = c.l.length := by rw [Array.length_toList, hsz]
          have hperm : d'.toList.Perm c.l := by
            have e1 : d'.extract 0 c.l.toArray.size = d' := by
              rw [show c.l.toArray.size = d'.size by rw [hsz]; simp]; simp
            have e2 : c.l.toArray.extract 0 c.l.toArray.size = c.l.toArray := by simp
            rw [e1, e2] at p3
            simpa using p3
          have hri := rises_of_sorted hperm ho fun i j hij hj => by
            have hj' : j < d'.size := by simpa using hj
            have hh := hso i j (Nat.zero_le _) hij (by rw [show c.l.toArray.size = d'.size by rw [hsz]; simp]; exact hj')
            have e1 : d'[j]! = d'.toList[j] := by rw [getElem!_pos d' j hj']; simp
            have e2 : d'[i]! = d'.toList[i]'(by omega) := by rw [getElem!_pos d' i (by omega)]; simp
            rw [e1, e2] at hh
            unfold ltOf at hh
            simpa using hh
          have hde : d'.toList = sortE c.l := sortE_eq ho hri.1 hri.2
          obtain ⟨r1, r2⟩ := sim_sorted hS hB hsz n os
          have hbk : c.sort.blk = .cells (d'.toList.flatMap entE.enc ++ c.junk) c.v (some 14) true := by rw [hde]; rfl
          rw [hbk]
          exact ⟨K, _, rfl, .tu [] #[] rfl fun k => .u _, r1, r2⟩
    · cases h
  · cases h
end Go.Proofs.Ytmdnohpolepcoaa

namespace Go.Proofs.Ytmdnohpolepcoaa
open Go.RowKit
set_option linter.unusedSimpArgs false
set_option linter.unusedVariables false
set_option maxRecDepth 10000

/-- A list that is empty and has no block of its own to grow in. -/
def noX (S : Mem) : AV → Bool
  | .sn => true
  | .sl i 0 0 0 0 true => match S[i]? with
    | some (.cells [] 0 none true) => true
    | _ => false
  | _ => false
theorem noX_cases {S : Mem} {x : AV} (h : noX S x = true) : x = .sn ∨ ∃ i, x = .sl i 0 0 0 0 true ∧ S[i]? = some (.cells [] 0 none true) := by
  unfold noX at h
  split at h
  · exact .inl rfl
  · rename_i i
    split at h
    · rename_i hB; exact .inr ⟨i, rfl, hB⟩
    · cases h
  · cases h
def bs (md : Option Nat) (S : Mem) : Mem := match md with
  | some i => S.take i
  | none => S
/-- The list in its own block ('md': the block's number), or in no block yet, or in a new block. -/
def Kx (S M : Mem) (md : Option Nat) (x : AV) (c : Cf) : Prop := match md with
  | some i => x = c.x i ∧ c.wf ∧ i < S.length ∧ ∃ L, M = S.set i c.blk ++ L
  | none => S <+: M ∧ ((c.l = [] ∧ noX S x = true) ∨ ∃ (p : Nat) (c' : Cf), c'.l = c.l ∧ c'.wf ∧ x = c'.x (S.length + p) ∧ M[S.length + p]? = some c'.blk)
section
variable {S M : Mem} {md : Option Nat} {x : AV} {c : Cf}
theorem set_at {i : Nat} {B : Blk} (h : i < S.length) : (S.set i B)[i]? = some B := by simp [h]
theorem Kx.blk {i : Nat} (h : Kx S M (some i) x c) : M[i]? = some c.blk := by
  obtain ⟨_, _, hi, L, rfl⟩ := h
  exact at_old (set_at hi)
theorem Kx.ext (h : Kx S M md x c) : bs md S <+: M := by
  cases md with
  | none => exact h.1
  | some i =>
    obtain ⟨_, _, hi, L, rfl⟩ := h
    refine ext_more ?_ L
    show S.take i <+: S.set i c.blk
    rw [List.set_eq_take_append_cons_drop, if_pos hi]
    exact List.prefix_append _ _
theorem Kx.grow (h : Kx S M md x c) (U : Mem) : Kx S (M ++ U) md x c := by
  cases md with
  | none =>
    refine ⟨ext_more h.1 U, ?_⟩
    rcases h.2 with h | ⟨p, c', h1, h2, h3, h4⟩
    · exact .inl h
    · exact .inr ⟨p, c', h1, h2, h3, at_old h4⟩
  | some i =>
    obtain ⟨h1, h2, hi, L, rfl⟩ := h
    exact ⟨h1, h2, hi, L ++ U, by rw [List.append_assoc]⟩
theorem Kx.lst (h : Kx S M md x c) : lstV entE M x = some c.l := by
  cases md with
  | none =>
    obtain ⟨hS, ⟨h1, h2⟩ | ⟨p, c', h1, h2, h3, h4⟩⟩ := h
    · rw [h1]
      rcases noX_cases h2 with rfl | ⟨i, rfl, hB⟩
      · rfl
      · have hB' := at_pre hS hB
        refine lst_lstV (.inr (.inr ⟨_, _, _, _, _, _, rfl, rfl, ?_⟩))
        rw [rowAt_B, hB']; rfl
    · rw [h3, ← h1]; exact Cf.lst h2 h4
  | some i =>
    have hB := h.blk
    obtain ⟨rfl, h2, hi, L, rfl⟩ := h
    exact Cf.lst h2 hB
theorem Kx.app (h : Kx S M md x c) (a : Ent) (hl : c.l.length ≤ 1000000) : ∃ x' M', appV M 14 88 x (entE.enc a) 1 = some (x', M') ∧ Kx S M' md x' (c.app a) := by
  cases md with
  | none =>
    obtain ⟨hS, ⟨h1, h2⟩ | ⟨p, c', h1, h2, h3, h4⟩⟩ := h
    · obtain ⟨T, rfl⟩ := hS
      refine ⟨.sl (S ++ T).length 0 0 1 1 false, (S ++ T) ++ [.cells (entE.enc a) 0 (some 14) true], ?_, ext_more (ext_app _) _, .inr ⟨T.length, ⟨0, 1, [], [a]⟩, ?_, ⟨rfl, Nat.le_refl _, rfl⟩, ?_, ?_⟩⟩
      · rcases noX_cases h2 with rfl | ⟨i, rfl, hB⟩
        · simp only [appV]
          rw [if_neg (by omega), if_pos ⟨by decide, by decide⟩]
        · have hc : rowAt (S ++ T) i 0 0 (0 * 14) = some [] := by rw [rowAt_B, at_old hB]; rfl
          simp only [appV, hc]
          rw [if_neg (by omega), if_neg (by omega), if_pos ⟨by decide, by decide⟩]
          rfl
      · rw [Cf.app_l, h1]; rfl
      · rw [List.length_append]; rfl
      · rw [← List.length_append, at_app0]
        show some (Blk.cells (entE.enc a) 0 (some 14) true) = some (.cells ([a].flatMap entE.enc ++ []) 0 (some 14) true)
        simp
    · refine ⟨_, _, by rw [h3]; exact Cf.app_eq h2 h4 a (by rw [h1]; exact hl), ext_set hS (by omega) _, .inr ⟨p, c'.app a, by rw [Cf.app_l, Cf.app_l, h1], Cf.app_wf h2 a, rfl, at_set h4⟩⟩
  | some i =>
    have hB := h.blk
    obtain ⟨rfl, h2, hi, L, rfl⟩ := h
    exact ⟨_, _, Cf.app_eq h2 hB a hl, rfl, Cf.app_wf h2 a, hi, L, by rw [set_old (set_at hi), List.set_set]⟩
theorem Kx.pol (h : Kx S M md x c) {k : Nat} (hk : k < c.l.length) (p : Pol) :
    ∃ i cs v cap, x = .sl i 0 v c.l.length cap false ∧ M[i]? = some (.cells cs v (some 14) true) ∧ k * 14 + 13 ≤ cs.length ∧ Kx S (M.set i (.cells (cs.take (k * 14) ++ (p.enc ++ cs.drop (k * 14 + 13))) v (some 14) true)) md x (c.pol k p) := by
  cases md with
  | none =>
    obtain ⟨hS, ⟨h1, h2⟩ | ⟨q, c', h1, h2, h3, h4⟩⟩ := h
    · rw [h1] at hk; cases hk
    · have hk' : k < c'.l.length := by rw [h1]; exact hk
      obtain ⟨g1, g2⟩ := Cf.pol_eq h2 hk' p
      refine ⟨S.length + q, _, c'.v, c'.cap, by rw [h3, ← h1]; rfl, h4, g1, ext_set hS (by omega) _, .inr ⟨q, c'.pol k p, ?_, Cf.pol_wf h2 k p, ?_, ?_⟩⟩
      · show c'.l.set k _ = c.l.set k _
        rw [h1]
      · rw [h3]
        show AV.sl _ 0 c'.v c'.l.length c'.cap false = AV.sl _ 0 c'.v (c'.l.set k _).length c'.cap false
        rw [List.length_set]
      · rw [at_set h4, g2]; rfl
  | some i =>
    have hB := h.blk
    obtain ⟨rfl, h2, hi, L, rfl⟩ := h
    obtain ⟨g1, g2⟩ := Cf.pol_eq h2 hk p
    refine ⟨i, _, c.v, c.cap, rfl, hB, g1, ?_, Cf.pol_wf h2 k p, hi, L, ?_⟩
    · show AV.sl _ 0 c.v c.l.length c.cap false = AV.sl _ 0 c.v (c.l.set k _).length c.cap false
      rw [List.length_set]
    · rw [set_old (set_at hi), List.set_set, g2]; rfl
end
end Go.Proofs.Ytmdnohpolepcoaa

namespace Go.Proofs.Ytmdnohpolepcoaa
open Go.RowKit
set_option linter.unusedSimpArgs false
set_option linter.unusedVariables false
set_option maxRecDepth 10000

end Go.Proofs.Ytmdnohpolepcoaa

namespace Go.Proofs.Ytmdnohpolepcoaa
open Go.RowKit
set_option linter.unusedSimpArgs false
set_option linter.unusedVariables false
set_option maxRecDepth 10000

end Go.Proofs.Ytmdnohpolepcoaa

namespace Go.Proofs.Ytmdnohpolepcoaa
open Go.RowKit
set_option linter.unusedSimpArgs false
set_option linter.unusedVariables false

end Go.Proofs.Ytmdnohpolepcoaa

namespace Go.Proofs.Ytmdnohpolepcoaa
open Go.RowKit
set_option linter.unusedSimpArgs false
set_option linter.unusedVariables false
set_option maxRecDepth 10000

end Go.Proofs.Ytmdnohpolepcoaa

namespace Go.Proofs.Ytmdnohpolepcoaa
open Go.RowKit
set_option linter.unusedSimpArgs false
set_option linter.unusedVariables false
set_option maxRecDepth 10000

end Go.Proofs.Ytmdnohpolepcoaa

namespace Go.Proofs.Ytmdnohpolepcoaa
open Go.RowKit
set_option linter.unusedSimpArgs false
set_option linter.unusedVariables false
set_option maxRecDepth 10000

/-- The book behind an event. -/
noncomputable def Bk.after (b : Bk) (e : Evt) : Bk := (b.rapplied e).getD b
end Go.Proofs.Ytmdnohpolepcoaa

namespace Go.Proofs.Ytmdnohpolepcoaa
open Go.RowKit
set_option linter.unusedSimpArgs false
set_option linter.unusedVariables false
set_option maxRecDepth 10000

def Chg.fits (c : Chg) : Prop := c.pol.fits ∧ -9223372036854775808 ≤ c.pol.sub ∧ c.pol.sub ≤ 9223372036854775807
instance (c : Chg) : Decidable c.fits := by unfold Chg.fits; infer_instance
end Go.Proofs.Ytmdnohpolepcoaa

namespace Go.Proofs.Ytmdnohpolepcoaa
open Go.RowKit
set_option linter.unusedSimpArgs false
set_option linter.unusedVariables false
set_option maxRecDepth 1000000

/-- A list of one entry in order: as it is. -/
def sort1S : Spec := fun args S => match args with
  | [.sl i 0 v n cap false, .f (.func f) [] []] => match S[i]? with
    | some (.cells cs v' (some sz) true) => match entE.dec cs with
      | some a => if f = 46 ∧ v' = v ∧ sz = 14 ∧ n = 1 ∧ cap = 1 then some (.tu [], S) else none
      | none => none
    | _ => none
  | _ => none
theorem sort1_ok : SpecOK Try.prog 45 sort1S := by
  intro args S x S' h
  unfold sort1S at h
  split at h
  · rename_i i v n cap f
    split at h
    · rename_i cs v' sz hB
      split at h
      · rename_i a ha
        split at h
        · rename_i hc
          obtain ⟨rfl, rfl, rfl, rfl, rfl⟩ := hc
          cases h
          have hcs := entE.ed _ _ ha
          have hB' : S[i]? = some (Cf.blk ⟨v', 1, [], [a]⟩) := by rw [hB, hcs]; rfl
          have hs := sort_eq (i := i) (S := S) (c := ⟨v', 1, [], [a]⟩) ⟨rfl, Nat.le_refl _, rfl⟩ (List.pairwise_singleton ..) (show 1 ≤ 1000000 by omega) hB'
          have hse : sortE [a] = [a] := (sortE_eq (List.pairwise_singleton ..) (List.pairwise_singleton ..) fun x => Iff.rfl).symm
          have hbk : Cf.blk (Cf.sort ⟨v', 1, [], [a]⟩) = Cf.blk ⟨v', 1, [], [a]⟩ := by unfold Cf.sort Cf.blk; rw [hse]
          rw [hbk, set_self hB'] at hs
          exact sort_ok _ _ _ _ hs
        · cases h
      · cases h
    · cases h
  · cases h
def specs : List (FuncId × Spec) := [(16, sortedS), (45, sort1S)]
theorem specs_ok : ∀ p ∈ specs, SpecOK Try.prog p.1 p.2 := by
  intro p hp
  simp only [specs, List.mem_cons, List.not_mem_nil, or_false] at hp
  rcases hp with rfl | rfl
  · exact sorted_ok
  · exact sort1_ok
theorem alive_run : isTrue ((evMix specs tab 100000 100).fn 10 [] []) = true := by kernel_rfl
def aliveS : Spec := fun args S => match args with
  | [] => some (.b true, S)
  | _ => none
theorem alive_ok : SpecOK Try.prog 10 aliveS := by
  intro args S x S' h
  unfold aliveS at h
  split at h
  · cases h
    exact fnOK_of_below (by kernel_rfl) (fun w => calls_of_mix mixed specs_ok tab_ok alive_run w) S
  · cases h
end Go.Proofs.Ytmdnohpolepcoaa

namespace Go.Proofs.Ytmdnohpolepcoaa
open Go.RowKit
set_option linter.unusedSimpArgs false
set_option linter.unusedVariables false
set_option maxRecDepth 1000000

def specsN : List (FuncId × Spec) := [(16, sortedS), (45, sort1S), (10, aliveS)]
theorem specsN_ok : ∀ p ∈ specsN, SpecOK Try.prog p.1 p.2 := by
  intro p hp
  simp only [specsN, List.mem_cons, List.not_mem_nil, or_false] at hp
  rcases hp with rfl | rfl | rfl
  · exact sorted_ok
  · exact sort1_ok
  · exact alive_ok
theorem names_run : isTrue ((evMix specsN tab 100000 100).fn 3 [] []) = true := by kernel_rfl
theorem walkTxnNames (w : World) : Calls Try.prog 3 #[] w fun e w' => e = .returned (.bool true) ∧ Below w.heap.size w w' := calls_of_mix mixed specsN_ok tab_ok names_run w
end Go.Proofs.Ytmdnohpolepcoaa

