/- Proved here: the calls Covers, Granted, Used, sat.Sub and May answer as told; the ledger's four cells are as told. -/
import Derived.Test.YtbggleijjoleiaaRows
import Derived.WalkKit
import Derived.WalkSpells
import Derived.WalkLawsBesides
import Derived.Deep.QuietTactic
import Derived.BigQuiet
namespace Go.Proofs.Ytbggleijjoleiaa
open Go.RowKit
set_option linter.unusedVariables false

set_option maxHeartbeats 400000 in
theorem covers (b : Nat) (q l g u n : Int) (w : World)
    (h0 : w.cell? ⟨b, 0, none⟩ = some (.int .u64 q)) (h1 : w.cell? ⟨b, 1, none⟩ = some (.int .u64 l)) (h2 : w.cell? ⟨b, 2, none⟩ = some (.int .u64 g)) (h3 : w.cell? ⟨b, 3, none⟩ = some (.int .u64 u))
    (hu : 0 ≤ u) (hug : u ≤ g) (hg : g ≤ 281474976710656) :
    Calls Try.prog 10 #[.pointer (some ⟨b, 0, none⟩), .int .u64 n] w fun e w' => e = .returned (.bool (decide (n ≤ g - u))) ∧ ∃ k, w' = w.drewN k := by
  go_enter Try.func10, Try.ntmps10
  go_wp2
  go_quiet (fail)
  go_wp2
  go_ret
  exact ⟨rfl, _, rfl⟩

set_option maxHeartbeats 400000 in
theorem granted (b : Nat) (q l g u : Int) (w : World)
    (h0 : w.cell? ⟨b, 0, none⟩ = some (.int .u64 q)) (h1 : w.cell? ⟨b, 1, none⟩ = some (.int .u64 l)) (h2 : w.cell? ⟨b, 2, none⟩ = some (.int .u64 g)) (h3 : w.cell? ⟨b, 3, none⟩ = some (.int .u64 u)) :
    Calls Try.prog 12 #[.pointer (some ⟨b, 0, none⟩)] w fun e w' => e = .returned (.int .u64 g) ∧ w' = w := by
  go_enter Try.func12, Try.ntmps12
  go_wp2
  go_ret
  exact ⟨rfl, rfl⟩

set_option maxHeartbeats 400000 in
theorem used (b : Nat) (q l g u : Int) (w : World)
    (h0 : w.cell? ⟨b, 0, none⟩ = some (.int .u64 q)) (h1 : w.cell? ⟨b, 1, none⟩ = some (.int .u64 l)) (h2 : w.cell? ⟨b, 2, none⟩ = some (.int .u64 g)) (h3 : w.cell? ⟨b, 3, none⟩ = some (.int .u64 u)) :
    Calls Try.prog 14 #[.pointer (some ⟨b, 0, none⟩)] w fun e w' => e = .returned (.int .u64 u) ∧ w' = w := by
  go_enter Try.func14, Try.ntmps14
  go_wp2
  go_ret
  exact ⟨rfl, rfl⟩

def subv (a b : Int) : Int := if b ≤ a then a - b else 0
theorem subv_le {a b : Int} (h : b ≤ a) : subv a b = a - b := if_pos h
theorem subv_lt {a b : Int} (h : ¬ b ≤ a) : subv a b = 0 := if_neg h

set_option maxHeartbeats 400000 in
theorem satSub (a b : Int) (w : World) (ha : 0 ≤ a) (hb : 0 ≤ b) (ha' : a ≤ 281474976710656) (hb' : b ≤ 281474976710656) :
    Calls Try.prog 27 #[.int .u64 a, .int .u64 b] w fun e w' => e = .returned (.int .u64 (subv a b)) ∧ w' = w := by
  by_cases h : b < a
  · rw [subv_le (by omega)]
    go_enter Try.func27, Try.ntmps27
    go_wp2
    go_ret
    exact ⟨rfl, rfl⟩
  · have e : subv a b = a - a := by unfold subv; split <;> omega
    rw [e]
    go_enter Try.func27, Try.ntmps27
    go_wp2
    go_ret
    exact ⟨rfl, rfl⟩

/-- The ledger in block b. -/
structure L (w : World) (b : Nat) (q l g u : Int) : Prop where
  c0 : w.cell? ⟨b, 0, none⟩ = some (.int .u64 q)
  c1 : w.cell? ⟨b, 1, none⟩ = some (.int .u64 l)
  c2 : w.cell? ⟨b, 2, none⟩ = some (.int .u64 g)
  c3 : w.cell? ⟨b, 3, none⟩ = some (.int .u64 u)
  fz : ∀ o, w.frozen? ⟨b, o, none⟩ = false

theorem L.drewN {w : World} {b : Nat} {q l g u : Int} (h : L w b q l g u) (k : Nat) : L (w.drewN k) b q l g u := ⟨h.c0, h.c1, h.c2, h.c3, h.fz⟩
theorem L.set2 {w : World} {b : Nat} {q l g u : Int} (h : L w b q l g u) (v : Int) : L (w.setCell ⟨b, 2, none⟩ (.int .u64 v)) b q l v u := by
  obtain ⟨h0, h1, h2, h3, hf⟩ := h
  refine ⟨?_, ?_, ?_, ?_, ?_⟩
  · exact (World.cell?_setCell_other _ _ _ _ (by simp)).trans h0
  · exact (World.cell?_setCell_other _ _ _ _ (by simp)).trans h1
  · exact World.cell?_setCell_same _ _ _ h2
  · exact (World.cell?_setCell_other _ _ _ _ (by simp)).trans h3
  · intro o; rw [World.frozen?_setCell]; exact hf o
theorem L.set3 {w : World} {b : Nat} {q l g u : Int} (h : L w b q l g u) (v : Int) : L (w.setCell ⟨b, 3, none⟩ (.int .u64 v)) b q l g v := by
  obtain ⟨h0, h1, h2, h3, hf⟩ := h
  refine ⟨?_, ?_, ?_, ?_, ?_⟩
  · exact (World.cell?_setCell_other _ _ _ _ (by simp)).trans h0
  · exact (World.cell?_setCell_other _ _ _ _ (by simp)).trans h1
  · exact (World.cell?_setCell_other _ _ _ _ (by simp)).trans h2
  · exact World.cell?_setCell_same _ _ _ h3
  · intro o; rw [World.frozen?_setCell]; exact hf o

/-- Only block b may have turned. -/
structure Only (b : Nat) (w w' : World) : Prop where
  os : w'.os = w.os
  tape : w'.tape = w.tape
  output : w'.output = w.output
  size : w'.heap.size = w.heap.size
  block : ∀ k, k ≠ b → w'.heap[k]? = w.heap[k]?
theorem Only.refl (b : Nat) (w : World) : Only b w w := ⟨rfl, rfl, rfl, rfl, fun _ _ => rfl⟩
theorem Only.drewN {b : Nat} {a w : World} (h : Only b a w) (n : Nat) : Only b a (w.drewN n) := ⟨h.os, h.tape, h.output, h.size, h.block⟩
theorem Only.setCell {b : Nat} {a w : World} (h : Only b a w) (o : Nat) (v : Value) : Only b a (w.setCell ⟨b, o, none⟩ v) :=
  ⟨h.os, h.tape, h.output, by simpa [World.setCell] using h.size, fun k hk => (Below.heap_setCell _ _ _ _ hk).trans (h.block k hk)⟩
theorem Only.below {B b : Nat} {a w : World} (h : Only b a w) (hb : B ≤ b) : Below B a w :=
  ⟨h.os, h.tape, h.output, by rw [h.size]; exact Nat.le_refl _, fun k hk => h.block k (by omega)⟩
theorem Only.trans {b : Nat} {a w w' : World} (h : Only b a w) (k : Only b w w') : Only b a w' :=
  ⟨k.os.trans h.os, k.tape.trans h.tape, k.output.trans h.output, k.size.trans h.size, fun i hi => (k.block i hi).trans (h.block i hi)⟩

set_option maxHeartbeats 400000 in
theorem may (b : Nat) (q l g u n : Int) (w : World) (h : L w b q l g u)
    (hu : 0 ≤ u) (hug : u ≤ g) (hg : g ≤ 281474976710656) (hq : 0 ≤ q) (hq' : q ≤ 281474976710656) (hn : 0 ≤ n) :
    Calls Try.prog 23 #[.pointer (some ⟨b, 0, none⟩), .int .u64 n] w fun e w' => e = .returned (.bool (decide (u + n ≤ q))) ∧ ∃ k, w' = w.drewN k := by
  obtain ⟨h0, h1, h2, h3, hf⟩ := h
  have hu' : u ≤ 281474976710656 := by omega
  by_cases hc : n ≤ subv q u
  · by_cases hd : u ≤ q
    · have e : decide (u + n ≤ q) = true := by unfold subv at hc; simp; omega
      rw [e]; clear e
      have k1 : decide (n ≤ subv q u) = true := by simpa using hc
      have k2 : decide (u ≤ q) = true := by simpa using hd
      clear hc hd
      go_enter Try.func23, Try.ntmps23
      go_wp2
      go_quiet ((go_at_call 27; exact Calls.quiet_of_same (satSub _ _ _ hq hu hq' hu')))
      go_wp2
      go_ret
      exact ⟨rfl, _, rfl⟩
    · have e : decide (u + n ≤ q) = false := by simp; omega
      rw [e]; clear e
      have k1 : decide (n ≤ subv q u) = true := by simpa using hc
      have k2 : decide (u ≤ q) = false := by simpa using hd
      clear hc hd
      go_enter Try.func23, Try.ntmps23
      go_wp2
      go_quiet ((go_at_call 27; exact Calls.quiet_of_same (satSub _ _ _ hq hu hq' hu')))
      go_wp2
      go_ret
      exact ⟨rfl, _, rfl⟩
  · have e : decide (u + n ≤ q) = false := by unfold subv at hc; simp; split at hc <;> omega
    rw [e]; clear e
    have k1 : decide (n ≤ subv q u) = false := by simpa using hc
    clear hc
    go_enter Try.func23, Try.ntmps23
    go_wp2
    go_quiet ((go_at_call 27; exact Calls.quiet_of_same (satSub _ _ _ hq hu hq' hu')))
    go_wp2
    go_ret
    exact ⟨rfl, _, rfl⟩
end Go.Proofs.Ytbggleijjoleiaa
