/- Proved here: the call Change answers as told. -/
import Derived.Test.YtbggleijjoleiaaE
namespace Go.Proofs.Ytbggleijjoleiaa
open Go.RowKit
set_option linter.unusedVariables false

theorem right2_ok (b c : Nat) (q l : Int) (w : World) (h0 : w.cell? ⟨b, 0, none⟩ = some (.int .u64 q)) (h1 : w.cell? ⟨b, 1, none⟩ = some (.int .u64 l))
    (hq : q ≤ 281474976710656) (hl : l ≤ 281474976710656) :
    Calls Try.prog 25 #[.slice (some ⟨b, 0, none⟩) 2 c] w fun e w' => e = .returned (.int .i64 0) ∧ w' = w := by
  refine right_ok ⟨b, 0, none⟩ c 2 (fun i => if i = 0 then q else l) w (by omega) ?_ ?_
  · intro i hi
    match i, hi with
    | 0, _ => exact h0
    | 1, _ => exact h1
  · intro i hi; split
    · exact hq
    · exact hl

theorem right2_no (b c : Nat) (q l : Int) (w : World) (h0 : w.cell? ⟨b, 0, none⟩ = some (.int .u64 q)) (h1 : w.cell? ⟨b, 1, none⟩ = some (.int .u64 l))
    (hbad : 281474976710656 < q ∨ 281474976710656 < l) :
    Calls Try.prog 25 #[.slice (some ⟨b, 0, none⟩) 2 c] w fun e w' => e = .returned (.int .i64 181) ∧ w' = w := by
  have hc : ∀ i, i < 2 → w.cell? ((⟨b, 0, none⟩ : Addr).add i) = some (.int .u64 ((fun i => if i = 0 then q else l) i)) := by
    intro i hi
    match i, hi with
    | 0, _ => exact h0
    | 1, _ => exact h1
  rcases hbad with h | h
  · exact right_no ⟨b, 0, none⟩ c 2 0 _ w (by omega) hc (by omega) h
  · exact right_no ⟨b, 0, none⟩ c 2 1 _ w (by omega) hc (by omega) h

theorem at20 (w : World) (x y : Value) (T : TypeId) : (w.alloc (.cells #[x, y] T)).cell? ⟨w.heap.size, 0, none⟩ = some x := by unfold World.cell?; simp only [heap_new]; rfl
theorem at21 (w : World) (x y : Value) (T : TypeId) : (w.alloc (.cells #[x, y] T)).cell? ⟨w.heap.size, 1, none⟩ = some y := by unfold World.cell?; simp only [heap_new]; rfl

/-- Blocks may be new; of the old ones only block b may have turned. -/
structure Chg (b : Nat) (w w' : World) : Prop where
  os : w'.os = w.os
  tape : w'.tape = w.tape
  output : w'.output = w.output
  size : w.heap.size ≤ w'.heap.size
  block : ∀ k, k ≠ b → k < w.heap.size → w'.heap[k]? = w.heap[k]?
theorem Chg.refl (b : Nat) (w : World) : Chg b w w := ⟨rfl, rfl, rfl, Nat.le_refl _, fun _ _ _ => rfl⟩
theorem Chg.trans {b : Nat} {a w w' : World} (h : Chg b a w) (k : Chg b w w') : Chg b a w' :=
  ⟨k.os.trans h.os, k.tape.trans h.tape, k.output.trans h.output, Nat.le_trans h.size k.size, fun i hi hs => (k.block i hi (Nat.lt_of_lt_of_le hs h.size)).trans (h.block i hi hs)⟩
theorem Only.chg {b : Nat} {a w : World} (h : Only b a w) : Chg b a w := ⟨h.os, h.tape, h.output, by rw [h.size]; exact Nat.le_refl _, fun k hk _ => h.block k hk⟩
theorem Chg.alloc (b : Nat) (w : World) (o : Obj) : Chg b w (w.alloc o) := ⟨rfl, rfl, rfl, by simp, fun k _ hs => Below.heap_alloc _ _ _ hs⟩
theorem Chg.below {B b : Nat} {a w : World} (h : Chg b a w) (hb : B ≤ b) (hB : B ≤ a.heap.size) : Below B a w :=
  ⟨h.os, h.tape, h.output, h.size, fun k hk => h.block k (by omega) (by omega)⟩

theorem L.alloc {w : World} {b : Nat} {q l g u : Int} (h : L w b q l g u) (o : Obj) : L (w.alloc o) b q l g u := by
  have hb := cell_lt h.c0
  have e : (w.alloc o).heap[b]? = w.heap[b]? := Below.heap_alloc _ _ _ hb
  have c : ∀ k, (w.alloc o).cell? ⟨b, k, none⟩ = w.cell? ⟨b, k, none⟩ := fun k => World.cell?_of_block (w := w) e
  have f : ∀ k, (w.alloc o).frozen? ⟨b, k, none⟩ = w.frozen? ⟨b, k, none⟩ := fun k => World.frozen?_of_block (w := w) e
  exact ⟨(c 0).trans h.c0, (c 1).trans h.c1, (c 2).trans h.c2, (c 3).trans h.c3, fun o => (f o).trans (h.fz o)⟩
theorem L.set0 {w : World} {b : Nat} {q l g u : Int} (h : L w b q l g u) (v : Int) : L (w.setCell ⟨b, 0, none⟩ (.int .u64 v)) b v l g u := by
  obtain ⟨h0, h1, h2, h3, hf⟩ := h
  refine ⟨?_, ?_, ?_, ?_, ?_⟩
  · exact World.cell?_setCell_same _ _ _ h0
  · exact (World.cell?_setCell_other _ _ _ _ (by simp)).trans h1
  · exact (World.cell?_setCell_other _ _ _ _ (by simp)).trans h2
  · exact (World.cell?_setCell_other _ _ _ _ (by simp)).trans h3
  · intro o; rw [World.frozen?_setCell]; exact hf o
theorem L.set1 {w : World} {b : Nat} {q l g u : Int} (h : L w b q l g u) (v : Int) : L (w.setCell ⟨b, 1, none⟩ (.int .u64 v)) b q v g u := by
  obtain ⟨h0, h1, h2, h3, hf⟩ := h
  refine ⟨?_, ?_, ?_, ?_, ?_⟩
  · exact (World.cell?_setCell_other _ _ _ _ (by simp)).trans h0
  · exact World.cell?_setCell_same _ _ _ h1
  · exact (World.cell?_setCell_other _ _ _ _ (by simp)).trans h2
  · exact (World.cell?_setCell_other _ _ _ _ (by simp)).trans h3
  · intro o; rw [World.frozen?_setCell]; exact hf o

set_option maxHeartbeats 400000 in
theorem change_ok (b : Nat) (q l g u q' l' : Int) (w : World) (h : L w b q l g u) (hq : q' ≤ 281474976710656) (hl : l' ≤ 281474976710656) :
    Calls Try.prog 15 #[.pointer (some ⟨b, 0, none⟩), .int .u64 q', .int .u64 l'] w fun e w' => e = .returned (.int .i64 0) ∧ L w' b q' l' g u ∧ Chg b w w' := by
  have hA := fun o => ((h.alloc o).set0 q').set1 l'
  have hB := fun o => (Chg.alloc b w o).trans ((((Only.refl b (w.alloc o)).setCell 0 (.int .u64 q')).setCell 1 (.int .u64 l')).chg)
  have hN := fun o => h.alloc o
  obtain ⟨c0, c1, c2, c3, hf⟩ := h
  have c0' := fun o => (hN o).c0
  have c1' := fun o => (hN o).c1
  have f0 := fun o => (hN o).fz 0
  have f1 := fun o => (hN o).fz 1
  have HA := Lib.hid hA
  have HB := Lib.hid hB
  clear hA hB hN
  go_enter Try.func15, Try.ntmps15
  go_wp2_with (go_at_call 25; refine (right2_ok _ _ q' l' _ (at20 ..) (at21 ..) hq hl).mono ?_; rintro e w' ⟨rfl, rfl⟩)
  go_ret
  exact ⟨rfl, HA.out _, HB.out _⟩

set_option maxHeartbeats 400000 in
theorem change_no (b : Nat) (q l g u q' l' : Int) (w : World) (h : L w b q l g u) (hbad : 281474976710656 < q' ∨ 281474976710656 < l') :
    Calls Try.prog 15 #[.pointer (some ⟨b, 0, none⟩), .int .u64 q', .int .u64 l'] w fun e w' => e = .returned (.int .i64 181) ∧ L w' b q l g u ∧ Chg b w w' := by
  have HA := Lib.hid (fun o => h.alloc o)
  go_enter Try.func15, Try.ntmps15
  go_wp2_with (go_at_call 25; refine (right2_no _ _ q' l' _ (at20 ..) (at21 ..) hbad).mono ?_; rintro e w' ⟨rfl, rfl⟩)
  go_ret
  exact ⟨rfl, HA.out _, Chg.alloc _ _ _⟩

set_option maxHeartbeats 1000000 in
theorem names_walk (w : World) : Calls Try.prog 5 #[] w fun e w' => e = .returned (.bool true) ∧ Below w.heap.size w w' := by
  go_enter Try.func5, Try.ntmps5
  go_wp2_with (go_at_call 8; ((with_reducible refine (new_no 281474976710657 0 0 _ (by omega)).mono ?_); rintro e w1 ⟨rfl, hB1⟩))
  go_wp2_with (go_at_call 8; ((with_reducible refine (new_ok 9 5 3 _ (by omega) (by omega) (by omega)).mono ?_); rintro e w2 ⟨b, hb, rfl, hL2, hB2, hs2⟩))
  go_wp2_with (go_at_call 7; ((with_reducible refine (alive _).mono ?_); rintro e w3 ⟨rfl, hB3⟩))
  have hL3 : L w3 b 9 5 3 3 := by
    have c : ∀ k, w3.cell? ⟨b, k, none⟩ = w2.cell? ⟨b, k, none⟩ := fun k => hB3.cell (p := ⟨b, k, none⟩) hs2
    have f : ∀ k, w3.frozen? ⟨b, k, none⟩ = w2.frozen? ⟨b, k, none⟩ := fun k => hB3.frozen (p := ⟨b, k, none⟩) hs2
    exact ⟨(c 0).trans hL2.c0, (c 1).trans hL2.c1, (c 2).trans hL2.c2, (c 3).trans hL2.c3, fun o => (f o).trans (hL2.fz o)⟩
  clear hL2
  go_wp2_with (go_at_call 14; ((with_reducible refine (used b 9 5 3 3 _ hL3.c0 hL3.c1 hL3.c2 hL3.c3).mono ?_); rintro e w4 ⟨rfl, rfl⟩))
  go_wp2_with (go_at_call 11; ((with_reducible refine (grant_no b 9 5 3 3 10 _ hL3 (by omega)).mono ?_); rintro e w4 ⟨rfl, rfl⟩))
  go_wp2_with (go_at_call 11; ((with_reducible refine (grant_no b 9 5 3 3 2 _ hL3 (by omega)).mono ?_); rintro e w4 ⟨rfl, rfl⟩))
  go_wp2_with (go_at_call 15; ((with_reducible refine (change_no b 9 5 3 3 1 281474976710657 _ hL3 (by omega)).mono ?_); rintro e w4 ⟨rfl, hL4, hC4⟩))
  go_ret
  have h12 := hB1.trans (hB2.mono hB1.size)
  have h13 := h12.trans (hB3.mono h12.size)
  exact ⟨rfl, h13.trans (hC4.below (Nat.le_trans hB1.size hb) h13.size)⟩
end Go.Proofs.Ytbggleijjoleiaa
