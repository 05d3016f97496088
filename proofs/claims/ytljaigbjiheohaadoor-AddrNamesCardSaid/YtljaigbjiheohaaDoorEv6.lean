/- Proved here: the evaluator's indexes, slice expressions, lengths, appends, copies and conversions of texts stand for the model's. No condition. -/
import Derived.Test.YtljaigbjiheohaaDoorEv5
namespace Go.Proofs.YtljaigbjiheohaaDoor
set_option linter.unusedSimpArgs false
set_option linter.unusedVariables false
open Go.RowKit

section
variable {P : Program} {base : Bs} {w0 : World} {K : Ctx} {S : Mem} {w : World}

/-! ### Indexes -/
/-- The address of an element: 'arr': of an array of so many. -/
def iaddrV (arr : Option Nat) (size : Nat) (x ix : AV) : Option AV :=
  match natV ix with
  | none => none
  | some n => match arr, x with
    | some len, .p i o v => if n < len then some (.p i (o + n * size) v) else none
    | none, .sl i o v len _ _ => if n < len then some (.p i (o + n * size) v) else none
    | _, _ => none

/-- What an array's or a slice's index wants to know of its type. -/
def idxOf (P : Program) (t : TypeId) : Option (Option Nat × TypeId × TypeInfo) :=
  match P.underlying t with
  | some (.array n e) => (P.info? e).map fun i => (some n, e, i)
  | some (.slice e) => (P.info? e).map fun i => (none, e, i)
  | _ => none

theorem VR.sl_addr {i o v len cap : Nat} {ex : Bool} {x : Value} (h : VR K S (.sl i o v len cap ex) x) (n : Nat) :
    ∃ a c, x = .slice (some a) len c ∧ len ≤ cap ∧ VR K S (.p i (o + n) v) (.pointer (some (a.add n))) := by
  cases h with
  | sl i o v len cap ex a c B hB hv hl hc he ha =>
    exact ⟨a, c, rfl, hl, .p _ _ _ _ B hB hv fun e => by rw [(ha e).1, add_eq]⟩

theorem good_iaddr (h : Sim base w0 K S w) {t e : TypeId} {arr : Option Nat} {inf : TypeInfo} (ht : idxOf P t = some (arr, e, inf)) {x ix y : AV} {vx vi : Value} (hx : VR K S x vx) (hi : VR K S ix vi) (hy : iaddrV arr inf.size x ix = some y) :
    Good base w0 K S w y S ((do let v ← Instr.indexAt t vx vi; pure (Next.value v) : Sem Next).run P w) := by
  unfold iaddrV at hy
  split at hy
  · cases hy
  · rename_i n hn
    obtain ⟨k, rfl⟩ := natV_ok hi hn
    unfold idxOf at ht
    split at hy
    · rename_i len i o v
      split at hy
      · rename_i hlt
        injection hy with hy; subst hy
        split at ht
        · rename_i len' e' hu
          obtain ⟨inf', hinf, heq⟩ := Option.map_eq_some_iff.1 ht
          injection heq with h1 h2; injection h2 with h2 h3
          injection h1 with h1
          subst h1; subst h2; subst h3
          obtain ⟨a, rfl, hv⟩ := hx.addr_off (n := n * inf'.size)
          refine Good.same h ?_ hv
          have hlt' : (n : Int) < (len' : Int) := by omega
          simp [Instr.indexAt, asIntOf, run_underlying' hu, Instr.sureAddr, hlt', run_sizeOf' hinf]
          intro hh; omega
        · rename_i e' hu
          obtain ⟨inf', hinf, heq⟩ := Option.map_eq_some_iff.1 ht
          injection heq with h1 h2; cases h1
        · cases ht
      · cases hy
    · rename_i i o v len cap ex
      split at hy
      · rename_i hlt
        injection hy with hy; subst hy
        split at ht
        · rename_i len' e' hu
          obtain ⟨inf', hinf, heq⟩ := Option.map_eq_some_iff.1 ht
          injection heq with h1 h2; cases h1
        · rename_i e' hu
          obtain ⟨inf', hinf, heq⟩ := Option.map_eq_some_iff.1 ht
          injection heq with h1 h2; injection h2 with h2 h3
          subst h2; subst h3
          obtain ⟨a, c, rfl, _, hv⟩ := hx.sl_addr (n * inf'.size)
          refine Good.same h ?_ hv
          have hlt' : (n : Int) < (len : Int) := by omega
          simp [Instr.indexAt, asIntOf, run_underlying' hu, hlt', run_sizeOf' hinf]
          intro hh; omega
        · cases ht
      · cases hy
    · cases hy

/-- An element of an array that is a value. -/
def ixaV (len size : Nat) (m : Option Nat) (x ix : AV) : Option AV :=
  match natV ix, x with
  | some n, .ag cs => if n < len then partV (n * size) m cs else none
  | _, _ => none

theorem good_ixa (h : Sim base w0 K S w) {t e : TypeId} {len : Nat} {inf : TypeInfo} (ht : idxOf P t = some (some len, e, inf)) {m : Option Nat} (hm : shapeOf P e = some m) {x ix y : AV} {vx vi : Value} (hx : VR K S x vx) (hi : VR K S ix vi) (hy : ixaV len inf.size m x ix = some y) :
    Good base w0 K S w y S ((do let v ← Instr.index t vx vi; pure (Next.value v) : Sem Next).run P w) := by
  unfold ixaV at hy
  split at hy
  · rename_i n cs hn
    obtain ⟨k, rfl⟩ := natV_ok hi hn
    split at hy
    · rename_i hlt
      cases hx with
      | ag _ x' hl hv =>
        obtain ⟨z, hz, hV⟩ := run_part (w := w) hm hl hv hy
        refine Good.same h ?_ hV
        unfold idxOf at ht
        split at ht
        · rename_i len' e' hu
          obtain ⟨inf', hinf, heq⟩ := Option.map_eq_some_iff.1 ht
          injection heq with h1 h2; injection h2 with h2 h3
          injection h1 with h1
          subst h1; subst h2; subst h3
          have hlt' : (n : Int) < (len' : Int) := by omega
          simp [Instr.index, asIntOf, run_underlying' hu, hlt', run_sizeOf' hinf, hz]
          intro hh; omega
        · rename_i e' hu
          obtain ⟨inf', hinf, heq⟩ := Option.map_eq_some_iff.1 ht
          injection heq with h1 h2; cases h1
        · cases ht
    · cases hy
  · cases hy

/-- A byte of a text. -/
def ixsV (x ix : AV) : Option AV :=
  match natV ix, x with
  | some n, .s l => match l[n]? with
    | some b => some (.i .u8 b.toNat)
    | none => none
  | _, _ => none

theorem good_ixs (h : Sim base w0 K S w) {t : TypeId} (ht : P.underlying t = some .string) {x ix y : AV} {vx vi : Value} (hx : VR K S x vx) (hi : VR K S ix vi) (hy : ixsV x ix = some y) :
    Good base w0 K S w y S ((do let v ← Instr.index t vx vi; pure (Next.value v) : Sem Next).run P w) := by
  unfold ixsV at hy
  split at hy
  · rename_i n l hn
    obtain ⟨k, rfl⟩ := natV_ok hi hn
    split at hy
    · rename_i b hb
      injection hy with hy; subst hy
      cases hx
      refine Good.same h ?_ (.i _ _)
      have hb' : (ByteArray.mk l.toArray)[n]? = some b := by
        obtain ⟨hlt, he⟩ := List.getElem?_eq_some_iff.1 hb
        have hlt' : n < (ByteArray.mk l.toArray).size := by rw [size_mk]; exact hlt
        rw [getElem?_pos (ByteArray.mk l.toArray) n hlt', ← he]
        rfl
      simp [Instr.index, asIntOf, run_underlying' ht, hb']
    · cases hy
  · cases hy

/-! ### Slice expressions -/
/-- A bound that may be left out. -/
def bndV (x : Option AV) (d top : Nat) : Option Nat :=
  match x with
  | none => some d
  | some x => match natV x with
    | some n => if n ≤ top then some n else none
    | none => none

def OptR (K : Ctx) (S : Mem) : Option AV → Option Value → Prop
  | none, none => True
  | some x, some v => VR K S x v
  | _, _ => False

theorem run_bound {x : AV} {v : Value} {n y : Nat} {code : BoundsCode} (hx : VR K S x v) (hn : natV x = some n) (hle : n ≤ y) : (Instr.sliceBound v y code).run P w = .ok n w := by
  obtain ⟨k, rfl⟩ := natV_ok hx hn
  have h0 : (0 : Int) ≤ n := by omega
  have h1 : (n : Int) ≤ y := by omega
  simp [Instr.sliceBound, asIntOf, h1]

/-- The three bounds: lower, upper, and that of the room. -/
def bnds (len cap : Nat) (lo hi mx : Option AV) : Option (Nat × Nat × Nat) :=
  match bndV mx cap cap with
  | none => none
  | some m => if mx.isSome && hi.isNone then none else match bndV hi len m with
    | none => none
    | some h => match bndV lo 0 h with
      | none => none
      | some l => if l ≤ h ∧ h ≤ m then some (l, h, m) else none

/-- At a capacity that may be greater than is known: the room's bound is the known one only if it is given. -/
theorem run_bnds {isS : Bool} {len cap c : Nat} {lo hi mx : Option AV} {vlo vhi vmx : Option Value} {l h m : Nat} (hlo : OptR K S lo vlo) (hhi : OptR K S hi vhi) (hmx : OptR K S mx vmx) (hc : cap ≤ c) (hb : bnds len cap lo hi mx = some (l, h, m)) :
    (Instr.sliceBounds isS len c vlo vhi vmx).run P w = .ok (l, h, if mx.isSome then m else c) w ∧ l ≤ h ∧ h ≤ m ∧ m ≤ cap ∧ (mx = none → m = cap) := by
  unfold bnds at hb
  split at hb
  · cases hb
  · rename_i m' hm
    split at hb
    · cases hb
    · rename_i hmh
      split at hb
      · cases hb
      · rename_i h' hh
        split at hb
        · cases hb
        · rename_i l' hl
          split at hb
          · rename_i hle
            simp only [Option.some.injEq, Prod.mk.injEq] at hb
            obtain ⟨rfl, rfl, rfl⟩ := hb
            have F1 : m' ≤ cap ∧ (mx = none → vmx = none ∧ m' = cap) ∧ ∀ v, vmx = some v → mx.isSome = true ∧ ∀ code, (Instr.sliceBound v c code).run P w = .ok m' w := by
              cases mx with
              | none =>
                cases vmx with
                | some v => exact absurd hmx id
                | none => simp only [bndV, Option.some.injEq] at hm; subst hm; exact ⟨Nat.le_refl _, fun _ => ⟨rfl, rfl⟩, fun v e => (by cases e)⟩
              | some x =>
                cases vmx with
                | none => exact absurd hmx id
                | some v =>
                  simp only [bndV] at hm
                  split at hm
                  · rename_i n hn
                    split at hm
                    · rename_i hle'
                      injection hm with hm; subst hm
                      refine ⟨hle', fun e => (by cases e), fun v' e => ⟨rfl, fun code => ?_⟩⟩
                      injection e with e; subst e
                      exact run_bound hmx hn (Nat.le_trans hle' hc)
                    · cases hm
                  · cases hm
            have F2 : ∀ M, m' ≤ M → (hi = none → vhi = none ∧ h' = len) ∧ ∀ v, vhi = some v → ∀ code, (Instr.sliceBound v M code).run P w = .ok h' w := by
              intro M hM
              cases hi with
              | none =>
                cases vhi with
                | some v => exact absurd hhi id
                | none => simp only [bndV, Option.some.injEq] at hh; subst hh; exact ⟨fun _ => ⟨rfl, rfl⟩, fun v e => (by cases e)⟩
              | some x =>
                cases vhi with
                | none => exact absurd hhi id
                | some v =>
                  simp only [bndV] at hh
                  split at hh
                  · rename_i n hn
                    split at hh
                    · rename_i hle'
                      injection hh with hh; subst hh
                      refine ⟨fun e => (by cases e), fun v' e code => ?_⟩
                      injection e with e; subst e
                      exact run_bound hhi hn (Nat.le_trans hle' hM)
                    · cases hh
                  · cases hh
            have F3 : (lo = none → vlo = none ∧ l' = 0) ∧ ∀ v, vlo = some v → ∀ code, (Instr.sliceBound v h' code).run P w = .ok l' w := by
              cases lo with
              | none =>
                cases vlo with
                | some v => exact absurd hlo id
                | none => simp only [bndV, Option.some.injEq] at hl; subst hl; exact ⟨fun _ => ⟨rfl, rfl⟩, fun v e => (by cases e)⟩
              | some x =>
                cases vlo with
                | none => exact absurd hlo id
                | some v =>
                  simp only [bndV] at hl
                  split at hl
                  · rename_i n hn
                    split at hl
                    · rename_i hle'
                      injection hl with hl; subst hl
                      refine ⟨fun e => (by cases e), fun v' e code => ?_⟩
                      injection e with e; subst e
                      exact run_bound hlo hn hle'
                    · cases hl
                  · cases hl
            obtain ⟨f1, f1', f1''⟩ := F1
            refine ⟨?_, hle.1, hle.2, f1, fun e => (f1' e).2⟩
            have n1 : mx = none ∨ mx.isSome = true := by cases mx <;> simp
            have n3 : vlo = none → l' = 0 := by
              intro e
              cases lo with
              | none => exact (F3.1 rfl).2
              | some x => subst e; exact absurd hlo id
            have n2 : vhi = none → hi = none ∧ h' = len := by
              intro e
              cases hi with
              | none => exact ⟨rfl, ((F2 m' (Nat.le_refl _)).1 rfl).2⟩
              | some x => subst e; exact absurd hhi id
            have n4 : vmx = none → mx = none := by
              intro e
              cases mx with
              | none => rfl
              | some x => subst e; exact absurd hmx id
            cases vmx with
            | none =>
              have em := n4 rfl
              subst em
              have hmc : m' = cap := (f1' rfl).2
              have F2' := (F2 c (by omega)).2
              cases vhi with
              | none =>
                obtain ⟨_, eh⟩ := n2 rfl
                cases vlo with
                | none => have := n3 rfl; subst this; subst eh; simp [Instr.sliceBounds]
                | some v => subst eh; simp [Instr.sliceBounds, F3.2 v rfl]
              | some v' =>
                cases vlo with
                | none => have := n3 rfl; subst this; simp [Instr.sliceBounds, F2' v' rfl]
                | some v => simp [Instr.sliceBounds, F2' v' rfl, F3.2 v rfl]
            | some vm =>
              obtain ⟨em, fm⟩ := f1'' vm rfl
              have F2' := (F2 m' (Nat.le_refl _)).2
              cases vhi with
              | none =>
                obtain ⟨eh, _⟩ := n2 rfl
                rw [em, eh] at hmh; simp at hmh
              | some v' =>
                cases vlo with
                | none => have := n3 rfl; subst this; simp [Instr.sliceBounds, F2' v' rfl, fm, em]
                | some v => simp [Instr.sliceBounds, F2' v' rfl, F3.2 v rfl, fm, em]
          · cases hb
end
end Go.Proofs.YtljaigbjiheohaaDoor
