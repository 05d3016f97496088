/- Proved here: the calls right and New answer as told, and the chapter's example holds; no condition beyond those in each statement. -/
import Derived.Test.YtbggleijjoleiaaB
namespace Go.Proofs.Ytbggleijjoleiaa
open Go.RowKit
set_option linter.unusedVariables false

/-- 'right' at a row of numbers that all fit. -/
theorem right_ok (x : Addr) (c N : Nat) (f : Nat → Int) (w : World) (hx : N ≤ 100) (hc : ∀ i, i < N → w.cell? (x.add i) = some (.int .u64 (f i))) (hall : ∀ i, i < N → f i ≤ 281474976710656) :
    Calls Try.prog 25 #[.slice (some x) N c] w fun e w' => e = .returned (.int .i64 0) ∧ w' = w := by
  go_enter Try.func25, Try.ntmps25
  go_wp2
  go_loop [7] (fun i => ∃ k : Nat, k ≤ N ∧ i = .int .i64 k) (fun i => N - (intOf i).toNat)
  case atStart => exact ⟨0, Nat.zero_le _, rfl⟩
  case round =>
    obtain ⟨k, hk, rfl⟩ := hrel
    by_cases hlt : k < N
    · have h1 := hc k hlt
      have h2 : decide (281474976710656 < f k) = false := by have := hall k hlt; simp; omega
      clear hc hall
      go_wp2
      go_round
      case rel => exact ⟨k + 1, by omega, by go_num⟩
      case measure => simp [intOf]; omega
    · clear hc hall
      go_wp2
      go_ret
      exact ⟨rfl, rfl⟩

/-- 'right' at a row of numbers of which one does not fit. -/
theorem right_no (x : Addr) (c N m : Nat) (f : Nat → Int) (w : World) (hx : N ≤ 100) (hc : ∀ i, i < N → w.cell? (x.add i) = some (.int .u64 (f i))) (hm : m < N) (hbad : 281474976710656 < f m) :
    Calls Try.prog 25 #[.slice (some x) N c] w fun e w' => e = .returned (.int .i64 181) ∧ w' = w := by
  go_enter Try.func25, Try.ntmps25
  go_wp2
  go_loop [7] (fun i => ∃ k : Nat, k ≤ m ∧ i = .int .i64 k) (fun i => N - (intOf i).toNat)
  case atStart => exact ⟨0, Nat.zero_le _, rfl⟩
  case round =>
    obtain ⟨k, hk, rfl⟩ := hrel
    have hlt : k < N := by omega
    have h1 := hc k hlt
    by_cases hb : 281474976710656 < f k
    · have h2 : decide (281474976710656 < f k) = true := by simpa using hb
      clear hc hbad hb
      go_wp2
      go_ret
      exact ⟨rfl, rfl⟩
    · have h2 : decide (281474976710656 < f k) = false := by simpa using hb
      have hkm : k < m := by
        rcases Nat.lt_or_ge k m with h | h
        · exact h
        · obtain rfl : k = m := by omega
          exact absurd hbad hb
      clear hc hbad hb
      go_wp2
      go_round
      case rel => exact ⟨k + 1, by omega, by go_num⟩
      case measure => simp [intOf]; omega

theorem L_new {w1 : World} {b : Nat} {q l g u : Int} (h : w1.heap[b]? = some (.cells #[.int .u64 q, .int .u64 l, .int .u64 g, .int .u64 u] 52 (0, 0))) : L w1 b q l g u := by
  refine ⟨?_, ?_, ?_, ?_, ?_⟩
  · simp [World.cell?, h]
  · simp [World.cell?, h]
  · simp [World.cell?, h]
  · simp [World.cell?, h]
  · intro o; simp [World.frozen?, h]


theorem right3_ok (b c : Nat) (q l g : Int) (w : World) (h0 : w.cell? ⟨b, 0, none⟩ = some (.int .u64 q)) (h1 : w.cell? ⟨b, 1, none⟩ = some (.int .u64 l)) (h2 : w.cell? ⟨b, 2, none⟩ = some (.int .u64 g))
    (hq : q ≤ 281474976710656) (hl : l ≤ 281474976710656) (hg : g ≤ 281474976710656) :
    Calls Try.prog 25 #[.slice (some ⟨b, 0, none⟩) 3 c] w fun e w' => e = .returned (.int .i64 0) ∧ w' = w := by
  refine right_ok ⟨b, 0, none⟩ c 3 (fun i => if i = 0 then q else if i = 1 then l else g) w (by omega) ?_ ?_
  · intro i hi
    match i, hi with
    | 0, _ => exact h0
    | 1, _ => exact h1
    | 2, _ => exact h2
  · intro i hi; split
    · exact hq
    · split
      · exact hl
      · exact hg

theorem right3_no (b c : Nat) (q l g : Int) (w : World) (h0 : w.cell? ⟨b, 0, none⟩ = some (.int .u64 q)) (h1 : w.cell? ⟨b, 1, none⟩ = some (.int .u64 l)) (h2 : w.cell? ⟨b, 2, none⟩ = some (.int .u64 g))
    (hbad : 281474976710656 < q ∨ 281474976710656 < l ∨ 281474976710656 < g) :
    Calls Try.prog 25 #[.slice (some ⟨b, 0, none⟩) 3 c] w fun e w' => e = .returned (.int .i64 181) ∧ w' = w := by
  have hc : ∀ i, i < 3 → w.cell? ((⟨b, 0, none⟩ : Addr).add i) = some (.int .u64 ((fun i => if i = 0 then q else if i = 1 then l else g) i)) := by
    intro i hi
    match i, hi with
    | 0, _ => exact h0
    | 1, _ => exact h1
    | 2, _ => exact h2
  rcases hbad with h | h | h
  · exact right_no ⟨b, 0, none⟩ c 3 0 _ w (by omega) hc (by omega) h
  · exact right_no ⟨b, 0, none⟩ c 3 1 _ w (by omega) hc (by omega) h
  · exact right_no ⟨b, 0, none⟩ c 3 2 _ w (by omega) hc (by omega) h

theorem heap_new (w : World) (o : Obj) : (w.alloc o).heap[w.heap.size]? = some o := by show (w.heap.push o)[w.heap.size]? = some o; simp
theorem heap_new2 (w : World) (o p : Obj) : ((w.alloc o).alloc p).heap[w.heap.size + 1]? = some p := by
  have h := heap_new (w.alloc o) p
  rwa [show (w.alloc o).heap.size = w.heap.size + 1 from by simp] at h
theorem at0 (w : World) (x y z : Value) (T : TypeId) : (w.alloc (.cells #[x, y, z] T)).cell? ⟨w.heap.size, 0, none⟩ = some x := by unfold World.cell?; simp only [heap_new]; rfl
theorem at1 (w : World) (x y z : Value) (T : TypeId) : (w.alloc (.cells #[x, y, z] T)).cell? ⟨w.heap.size, 1, none⟩ = some y := by unfold World.cell?; simp only [heap_new]; rfl
theorem at2 (w : World) (x y z : Value) (T : TypeId) : (w.alloc (.cells #[x, y, z] T)).cell? ⟨w.heap.size, 2, none⟩ = some z := by unfold World.cell?; simp only [heap_new]; rfl

set_option maxHeartbeats 400000 in
theorem new_ok (q l g : Int) (w : World) (hq : q ≤ 281474976710656) (hl : l ≤ 281474976710656) (hg : g ≤ 281474976710656) :
    Calls Try.prog 8 #[.int .u64 q, .int .u64 l, .int .u64 g] w fun e w' => ∃ b, w.heap.size ≤ b ∧ e = .returned (.tuple #[.pointer (some ⟨b, 0, none⟩), .int .i64 0]) ∧ L w' b q l g g ∧ Below w.heap.size w w' ∧ b < w'.heap.size := by
  go_enter Try.func8, Try.ntmps8
  go_wp2_with (go_at_call 25; refine (right3_ok _ _ q l g _ (at0 ..) (at1 ..) (at2 ..) hq hl hg).mono ?_; rintro e w' ⟨rfl, rfl⟩)
  go_ret2
  refine ⟨w.heap.size + 1, by omega, rfl, L_new (heap_new2 ..), ?_, ?_⟩
  · exact ((Below.refl _ _).alloc (Nat.le_refl _) _).alloc (by simp) _
  · simp

set_option maxHeartbeats 400000 in
theorem new_no (q l g : Int) (w : World) (hbad : 281474976710656 < q ∨ 281474976710656 < l ∨ 281474976710656 < g) :
    Calls Try.prog 8 #[.int .u64 q, .int .u64 l, .int .u64 g] w fun e w' => e = .returned (.tuple #[.pointer none, .int .i64 181]) ∧ Below w.heap.size w w' := by
  go_enter Try.func8, Try.ntmps8
  go_wp2_with (go_at_call 25; refine (right3_no _ _ q l g _ (at0 ..) (at1 ..) (at2 ..) hbad).mono ?_; rintro e w' ⟨rfl, rfl⟩)
  go_ret2
  exact ⟨rfl, (Below.refl _ _).alloc (Nat.le_refl _) _⟩

theorem Only.inBelow {B b : Nat} {w w1 w2 : World} (h : Below B w w1) (k : Only b w1 w2) (hb : B ≤ b) : Below B w w2 := h.trans (k.below hb)

theorem want' (b : Nat) (q l g u n v : Int) (w : World) (hv : wantv q l g u n = v) (h : L w b q l g u)
    (hu : 0 ≤ u) (hug : u ≤ g) (hg : g ≤ 281474976710656) (hq : 0 ≤ q) (hq' : q ≤ 281474976710656) (hl : 0 ≤ l) (hl' : l ≤ 281474976710656) (hn : 0 ≤ n) :
    Calls Try.prog 9 #[.pointer (some ⟨b, 0, none⟩), .int .u64 n] w fun e w' => e = .returned (.int .u64 v) ∧ ∃ k, w' = w.drewN k := by
  subst hv; exact want b q l g u n w h hu hug hg hq hq' hl hl' hn

set_option maxHeartbeats 1000000 in
theorem alive (w : World) : Calls Try.prog 7 #[] w fun e w' => e = .returned (.bool true) ∧ Below w.heap.size w w' := by
  go_enter Try.func7, Try.ntmps7
  go_wp2_with (go_at_call 8; refine (new_ok 4000 1500 0 _ (by omega) (by omega) (by omega)).mono ?_; rintro e w1 ⟨b, hb, rfl, hL, hB, hs⟩)
  go_wp2_with (go_at_call 9; refine (want' b 4000 1500 0 0 100 1500 w1 (by decide) hL (by omega) (by omega) (by omega) (by omega) (by omega) (by omega) (by omega) (by omega)).mono ?_; rintro e w2 ⟨rfl, k2, rfl⟩)
  go_wp2_with (go_at_call 11; refine (grant_ok b 4000 1500 0 0 1500 _ (hL.drewN _) (by omega) (by omega)).mono ?_; rintro e w3 ⟨rfl, hL3, hO3⟩)
  go_wp2_with (go_at_call 13; refine (spend_ok b 4000 1500 1500 0 100 _ hL3 (by omega) (by omega) (by omega) (by omega) (by omega)).mono ?_; rintro e w4 ⟨rfl, hL4, hO4⟩)
  go_wp2_with (go_at_call 9; refine (want' b 4000 1500 1500 (0 + 100) 1450 1600 _ (by decide) hL4 (by omega) (by omega) (by omega) (by omega) (by omega) (by omega) (by omega) (by omega)).mono ?_; rintro e w5 ⟨rfl, k5, rfl⟩)
  go_wp2_with (go_at_call 14; refine (used b 4000 1500 1500 (0 + 100) _ (hL4.drewN _).c0 (hL4.drewN _).c1 (hL4.drewN _).c2 (hL4.drewN _).c3).mono ?_; rintro e w6 ⟨rfl, rfl⟩)
  go_wp2_with (go_at_call 12; refine (granted b 4000 1500 1500 (0 + 100) _ (hL4.drewN _).c0 (hL4.drewN _).c1 (hL4.drewN _).c2 (hL4.drewN _).c3).mono ?_; rintro e w6 ⟨rfl, rfl⟩)
  go_ret
  have hO : Only b w1 (w4.drewN k5) := (((Only.refl b w1).drewN k2).trans hO3).trans (hO4.drewN k5)
  exact ⟨rfl, Only.inBelow hB hO hb⟩

/-- The quota, the lease and what is spent so far: one number more. -/
structure Bnd (q l s g : Int) : Prop where
  s0 : 0 ≤ s
  sg : s ≤ g
  gq : g ≤ q
  gl : g - s ≤ l
end Go.Proofs.Ytbggleijjoleiaa
