/- Proved here: what the law of this claim leans on (an evaluator of the model's code, contracts of functions). No condition. -/
import Derived.Test.YtmolaemlenllmaaGreatQCode
import Derived.Test.YtmolaemlenllmaaGreatMb
import Derived.Laws.Externs
import Derived.WalkKit
import Derived.WalkSpells
namespace Go.Proofs.YtmolaemlenllmaaGreat
open Go.RowKit
attribute [go_sem] Option.map_none Option.map_some decide_true decide_false iaddr_i iaddr_sl_i not_true_eq_false not_false_eq_true ne_eq forall_const false_imp_iff true_imp_iff implies_true Int.cast_ofNat_Int Int.natCast_zero Int.natCast_one Int.add_zero Int.zero_add Nat.reduceBEq Nat.reduceAdd Nat.reduceSub Nat.reduceEqDiff Nat.reduceLeDiff Nat.reduceMul Nat.reduceLT Int.reduceLT Int.reduceLE Int.reduceAdd Int.reduceSub Int.reduceMul Int.reduceNeg Int.reduceEq Int.reduceNe Int.reduceToNat reduceCtorEq
attribute [go_sem ↓] reduceIte
end Go.Proofs.YtmolaemlenllmaaGreat
namespace Go.Proofs.YtmolaemlenllmaaGreat
open Go.RowKit
set_option linter.unusedSimpArgs false
set_option linter.unusedVariables false
set_option maxRecDepth 10000

theorem add64_run (x y : Int) (hx : 0 ≤ x) (hy : 0 ≤ y) (w : World) : (callFunc 118 #[.int .u64 x, .int .u64 y, .int .u64 0]).run Tryz.prog w =
    .ok (.value (.tuple #[.int .u64 ((x + y) % 18446744073709551616), .int .u64 ((x + y) / 18446744073709551616)])) w := by
  rw [run_callFunc_extern Tryz.func118 (by kernel_rfl) (by kernel_rfl) (by kernel_rfl) (e := add64Entry) (by kernel_rfl), run_add64 x y 0 hx hy (Int.le_refl 0) (by decide)]
  simp only [Result.andThen, Int.add_zero]
def satAdd (a b : Int) : Int := if a + b ≤ 18446744073709551615 then a + b else 18446744073709551615
theorem sadd_calls (a b : Int) (h1 : 0 ≤ a) (h2 : a ≤ 18446744073709551615) (h3 : 0 ≤ b) (h4 : b ≤ 18446744073709551615) (w : World) :
    Calls Tryz.prog 77 #[.int .u64 a, .int .u64 b] w fun e w' => e = .returned (.int .u64 (satAdd a b)) ∧ w' = w := by
  by_cases hc : a + b ≤ 18446744073709551615
  · have k0 : (a + b) / 18446744073709551616 = 0 := by omega
    have k1 : (a + b) % 18446744073709551616 = a + b := by omega
    have hr := fun w => add64_run a b h1 h3 w
    rw [k0, k1] at hr
    go_enter Tryz.func77, Tryz.ntmps77
    go_wp2_with (simp only [hr])
    go_ret
    simp [satAdd, hc]
  · have k0 : (a + b) / 18446744073709551616 = 1 := by omega
    have hr := fun w => add64_run a b h1 h3 w
    rw [k0] at hr
    go_enter Tryz.func77, Tryz.ntmps77
    go_wp2_with (simp only [hr])
    go_ret
    simp [satAdd, hc]
    omega
def saddS : Spec := fun args S => match args with
  | [.i .u64 a, .i .u64 b] => if 0 ≤ a ∧ a ≤ 18446744073709551615 ∧ 0 ≤ b ∧ b ≤ 18446744073709551615 then some (.i .u64 (satAdd a b), S) else none
  | _ => none
theorem sadd_ok : SpecOK Tryz.prog 77 saddS := by
  intro args S x S' h
  unfold saddS at h
  split at h
  · rename_i a b
    split at h
    · rename_i hc
      simp only [Option.some.injEq, Prod.mk.injEq] at h
      obtain ⟨rfl, rfl⟩ := h
      refine ⟨by kernel_rfl, fun base w0 K w vs hΛ hA hS => ?_⟩
      obtain ⟨v1, v2, hvs⟩ : ∃ v1 v2, vs.toList = [v1, v2] := by
        match hh : vs.toList, hA.1 with
        | [p, q], _ => exact ⟨p, q, rfl⟩
      rw [hvs] at hA
      have q1 : VR K S (.i .u64 a) v1 := hA.2 0 (by simp) (by simp)
      have q2 : VR K S (.i .u64 b) v2 := hA.2 1 (by simp) (by simp)
      have hvs' : vs = #[v1, v2] := by rw [← Array.toArray_toList (xs := vs), hvs]
      subst hvs'
      cases q1; cases q2
      refine (sadd_calls a b hc.1 hc.2.1 hc.2.2.1 hc.2.2.2 w).mono fun e w' ⟨he, hw⟩ => ?_
      subst he; subst hw
      exact post_of_below hS (Below.refl _ _) (.i _ _)
    · cases h
  · cases h
def specs : List (FuncId × Spec) := [(77, saddS)]
theorem specs_ok : ∀ p ∈ specs, SpecOK Tryz.prog p.1 p.2 := by
  intro p hp
  simp only [specs, List.mem_cons, List.not_mem_nil, or_false] at hp
  subst hp; exact sadd_ok
end Go.Proofs.YtmolaemlenllmaaGreat

namespace Go.Proofs.YtmolaemlenllmaaGreat
open Go.RowKit
set_option maxRecDepth 1000000
theorem aliveRuns : isTrue ((evMix specs tab 100000 100).fn 10 [] []) = true := by kernel_rfl
theorem alive (w : World) : Calls Tryz.prog 10 #[] w fun e w' => e = .returned (.bool true) ∧ Below w.heap.size w w' := calls_of_mix mixed specs_ok tab_ok aliveRuns w
theorem namesRuns : isTrue ((evMix specs tab 100000 100).fn 3 [] []) = true := by kernel_rfl
theorem names_calls (w : World) : Calls Tryz.prog 3 #[] w fun e w' => e = .returned (.bool true) ∧ Below w.heap.size w w' := calls_of_mix mixed specs_ok tab_ok namesRuns w
end Go.Proofs.YtmolaemlenllmaaGreat

namespace Go.Proofs.YtmolaemlenllmaaGreat
open Go.RowKit
theorem walkScriptNames (w : World) : Calls Tryz.prog 3 #[] w fun e w' => e = .returned (.bool true) ∧ Below w.heap.size w w' := names_calls w
end Go.Proofs.YtmolaemlenllmaaGreat

