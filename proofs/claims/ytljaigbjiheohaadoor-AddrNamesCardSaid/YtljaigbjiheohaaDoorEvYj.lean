/- Proved here: contracts of strconv's functions beside the evaluator. No condition. -/
import Derived.Test.YtljaigbjiheohaaDoorEvV
import Derived.Lib.ItoaNum
import Derived.Lib.AtoiAll
import Derived.Lib.AppendIntMem
namespace Go.Proofs.YtljaigbjiheohaaDoor
open Go.RowKit
set_option linter.unusedSimpArgs false
set_option linter.unusedVariables false

section
variable {P : Program}

/-- A call that changes nothing that was there: a contract with values that need no memory. -/
theorem fnOK_of_calls {f : FuncId} {args : List AV} {S : Mem} {x : AV} (hen : enterable P f = true)
    (h : ∀ (K : Ctx) (w : World) (vs : Array Value), ArgsR K S args vs.toList → Facts w → Calls P f vs w fun e w' => ∃ v, e = .returned v ∧ VR K S x v ∧ Below w.heap.size w w') : FnOK P f args S x S := by
  refine ⟨hen, fun base w0 K w vs hΛ hA hS => ?_⟩
  refine (h K w vs hA (hS.door w hS.below)).mono fun e w' ⟨v, he, hv, hb⟩ => ?_
  obtain ⟨h1, h2, h3, h4, h5⟩ := hb
  have hst : Stp K S w K S w' := ⟨.refl K S, h1, h2, h3, h4, fun b hb _ => h5 b hb, fun _ B' h => .inl ⟨B', h, id, rfl⟩⟩
  exact ⟨K, v, he, hv, ⟨fun i B hB => (hS.blk i B hB).mono (.refl K S) rfl rfl (h5 _ (hS.blk i B hB).lt), hS.inj, hS.step_below hst, Nat.le_trans hS.hb h4, hS.door⟩, hst⟩

/-- strconv.Itoa. -/
def itoaS : Spec := fun args S => match args with
  | [.i .i64 n] => if -9223372036854775808 ≤ n ∧ n ≤ 9223372036854775807 then some (.s (Lib.itoa n), S) else none
  | _ => none
theorem itoa_ok {f : FuncId} (hen : enterable P f = true)
    (hI : ∀ (n : Int) (w : World), -9223372036854775808 ≤ n → n ≤ 9223372036854775807 → Facts w → Calls P f #[.int .i64 n] w fun e w' => e = .returned (.string ⟨(Lib.itoa n).toArray⟩) ∧ Below w.heap.size w w') : SpecOK P f itoaS := by
  intro args S x S' h
  unfold itoaS at h
  split at h
  · rename_i n
    split at h
    · rename_i hc
      simp only [Option.some.injEq, Prod.mk.injEq] at h
      obtain ⟨rfl, rfl⟩ := h
      refine fnOK_of_calls hen fun K w vs hA hF => ?_
      obtain ⟨v1, hvs⟩ : ∃ v1, vs.toList = [v1] := by
        match hh : vs.toList, hA.1 with
        | [p], _ => exact ⟨p, rfl⟩
      rw [hvs] at hA
      have q1 : VR K S (.i .i64 n) v1 := hA.2 0 (by simp) (by simp)
      have hvs' : vs = #[v1] := by rw [← Array.toArray_toList (xs := vs), hvs]
      subst hvs'
      cases q1
      refine (hI n w hc.1 hc.2 hF).mono fun e w' ⟨he, hb⟩ => ⟨_, he, .s _, hb⟩
    · cases h
  · cases h

/-- strconv.FormatUint at base 10. -/
def fuintS : Spec := fun args S => match args with
  | [.i .u64 n, .i .i64 b] => if 0 ≤ n ∧ n ≤ 18446744073709551615 ∧ b = 10 then some (.s (Lib.decDigits n.toNat), S) else none
  | _ => none
theorem fuint_ok {f : FuncId} (hen : enterable P f = true)
    (hI : ∀ (n : Nat) (w : World), n < 18446744073709551616 → Facts w → Calls P f #[.int .u64 n, .int .i64 10] w fun e w' => e = .returned (.string ⟨(Lib.decDigits n).toArray⟩) ∧ Below w.heap.size w w') : SpecOK P f fuintS := by
  intro args S x S' h
  unfold fuintS at h
  split at h
  · rename_i n b
    split at h
    · rename_i hc
      obtain ⟨hc1, hc2, rfl⟩ := hc
      simp only [Option.some.injEq, Prod.mk.injEq] at h
      obtain ⟨rfl, rfl⟩ := h
      refine fnOK_of_calls hen fun K w vs hA hF => ?_
      obtain ⟨v1, v2, hvs⟩ : ∃ v1 v2, vs.toList = [v1, v2] := by
        match hh : vs.toList, hA.1 with
        | [p, q], _ => exact ⟨p, q, rfl⟩
      rw [hvs] at hA
      have q1 : VR K S (.i .u64 n) v1 := hA.2 0 (by simp) (by simp)
      have q2 : VR K S (.i .i64 10) v2 := hA.2 1 (by simp) (by simp)
      have hvs' : vs = #[v1, v2] := by rw [← Array.toArray_toList (xs := vs), hvs]
      subst hvs'
      cases q1; cases q2
      obtain ⟨m, rfl⟩ : ∃ m : Nat, n = m := ⟨n.toNat, by omega⟩
      exact (hI m w (by omega) hF).mono fun e w' ⟨he, hb⟩ => ⟨_, he, .s _, hb⟩
    · cases h
  · cases h

/-- How a parse ends: the answer; T: the error's type. -/
def atoiX (T : TypeId) (l : List UInt8) : AV := match Lib.atoiAll l with
  | .ok v => .tu [.i .i64 v, .ni]
  | .syntax => .tu [.i .i64 0, .it T .u]
  | .range => .tu [.i .i64 (Lib.atoiSat l), .it T .u]
/-- strconv.Atoi. -/
def atoiS (T : TypeId) : Spec := fun args S => match args with
  | [.s l] => if l.length ≤ 281474976710656 then some (atoiX T l, S) else none
  | _ => none
theorem tu2 {K : Ctx} {S : Mem} {a b : AV} {x y : Value} (h1 : VR K S a x) (h2 : VR K S b y) : VR K S (.tu [a, b]) (.tuple #[x, y]) := by
  refine .tu _ _ rfl fun k => ?_
  match k with
  | 0 => exact h1
  | 1 => exact h2
  | k + 2 => exact .u _
theorem bsize (l : List UInt8) : (ByteArray.mk l.toArray).size = l.length := by simp [ByteArray.size]
theorem atoi_ok {f : FuncId} {T : TypeId} (hen : enterable P f = true)
    (h1 : ∀ (s : ByteArray) (v : Int) (w : World), s.size ≤ 9223372036854775806 → Lib.atoiAll s.data.toList = .ok v → Calls P f #[.string s] w fun e w' => e = .returned (.tuple #[.int .i64 v, .nilIface]) ∧ Below w.heap.size w w')
    (h2 : ∀ (s : ByteArray) (w : World), s.size ≤ 281474976710656 → Lib.atoiAll s.data.toList = .syntax → Facts w → Calls P f #[.string s] w fun e w' => ∃ v, e = .returned (.tuple #[.int .i64 0, .iface T v]) ∧ Below w.heap.size w w')
    (h3 : ∀ (s : ByteArray) (w : World), s.size ≤ 281474976710656 → Lib.atoiAll s.data.toList = .range → Facts w → Calls P f #[.string s] w fun e w' => ∃ v, e = .returned (.tuple #[.int .i64 (Lib.atoiSat s.data.toList), .iface T v]) ∧ Below w.heap.size w w') : SpecOK P f (atoiS T) := by
  intro args S x S' h
  unfold atoiS at h
  split at h
  · rename_i l
    split at h
    · rename_i hc
      simp only [Option.some.injEq, Prod.mk.injEq] at h
      obtain ⟨rfl, rfl⟩ := h
      refine fnOK_of_calls hen fun K w vs hA hF => ?_
      obtain ⟨v1, hvs⟩ : ∃ v1, vs.toList = [v1] := by
        match hh : vs.toList, hA.1 with
        | [p], _ => exact ⟨p, rfl⟩
      rw [hvs] at hA
      have q1 : VR K S (.s l) v1 := hA.2 0 (by simp) (by simp)
      have hvs' : vs = #[v1] := by rw [← Array.toArray_toList (xs := vs), hvs]
      subst hvs'
      cases q1
      have hsz := bsize l
      unfold atoiX
      cases hr : Lib.atoiAll l with
      | ok v => exact (h1 ⟨l.toArray⟩ v w (by rw [hsz]; omega) hr).mono fun e w' ⟨he, hb⟩ => ⟨_, he, tu2 (.i _ _) .ni, hb⟩
      | «syntax» => exact (h2 ⟨l.toArray⟩ w (by rw [hsz]; omega) hr hF).mono fun e w' ⟨v, he, hb⟩ => ⟨_, he, tu2 (.i _ _) (.it _ _ _ (.u _)), hb⟩
      | range => exact (h3 ⟨l.toArray⟩ w (by rw [hsz]; omega) hr hF).mono fun e w' ⟨v, he, hb⟩ => ⟨_, he, tu2 (.i _ _) (.it _ _ _ (.u _)), hb⟩
    · cases h
  · cases h
end
end Go.Proofs.YtljaigbjiheohaaDoor
