/- Proved here: the walk of LedgerBound through its loop, for any quota, lease and numbers. -/
import Derived.Test.YtbggleijjoleiaaC
namespace Go.Proofs.Ytbggleijjoleiaa
open Go.RowKit
set_option linter.unusedVariables false

theorem cell_lt {w : World} {a : Addr} {v : Value} (h : w.cell? a = some v) : a.block < w.heap.size := by
  unfold World.cell? at h
  rcases Nat.lt_or_ge a.block w.heap.size with h1 | h1
  · exact h1
  · rw [Array.getElem?_eq_none h1] at h; cases h

theorem boolne (a b : Int) (h : a ≠ b) : (!(a == b)) = true := by simp [h]

/-- A round of the loop: what it does to the ledger. -/
structure Rnd (B : Nat) (w wr : World) (b : Nat) (q l g s : Int) : Prop where
  led : L wr b q l g s
  bnd : Bnd q l s g
  bel : Below B w wr

set_option maxRecDepth 100000 in
set_option maxHeartbeats 2000000 in
theorem bound_some (q l : Int) (x : Addr) (N c : Nat) (f : Nat → Int) (w : World) (hq0 : 0 ≤ q) (hl0 : 0 ≤ l) (hN : N ≤ maxLen)
    (hc : ∀ i, i < N → w.cell? (x.add i) = some (.int .u64 (f i))) (hf0 : ∀ i, i < N → 0 ≤ f i) :
    Calls Try.prog 3 #[.int .u64 q, .int .u64 l, .slice (some x) N c] w fun e w' => e = .returned (.bool true) ∧ Below w.heap.size w w' := by
  unfold maxLen at hN
  by_cases hbad : 281474976710656 < q ∨ 281474976710656 < l
  · have hbad' : 281474976710656 < q ∨ 281474976710656 < l ∨ (281474976710656 : Int) < 0 := by omega
    by_cases hqb : 281474976710656 < q
    · have k1 : decide (281474976710656 < q) = true := by simpa using hqb
      clear hbad hc hqb
      go_enter Try.func3, Try.ntmps3
      go_wp2_with (go_at_call 7; refine (alive _).mono ?_; rintro e w1 ⟨rfl, hB1⟩)
      go_wp2_with (go_at_call 8; refine (new_no q l 0 _ hbad').mono ?_; rintro e w2 ⟨rfl, hB2⟩)
      go_ret
      exact ⟨rfl, hB1.trans (hB2.mono hB1.size)⟩
    · have k1 : decide (281474976710656 < q) = false := by simpa using hqb
      have k2 : decide (281474976710656 < l) = true := by simp; omega
      clear hbad hc hqb
      go_enter Try.func3, Try.ntmps3
      go_wp2_with (go_at_call 7; refine (alive _).mono ?_; rintro e w1 ⟨rfl, hB1⟩)
      go_wp2_with (go_at_call 8; refine (new_no q l 0 _ hbad').mono ?_; rintro e w2 ⟨rfl, hB2⟩)
      go_ret
      exact ⟨rfl, hB1.trans (hB2.mono hB1.size)⟩
  · have hq : q ≤ 281474976710656 := by omega
    have hl : l ≤ 281474976710656 := by omega
    clear hbad
    go_enter Try.func3, Try.ntmps3
    go_wp2_with (go_at_call 7; refine (alive _).mono ?_; rintro e w1 ⟨rfl, hB1⟩)
    go_wp2_with (go_at_call 8; refine (new_ok q l 0 _ hq hl (by omega)).mono ?_; rintro e w2 ⟨b, hb, rfl, hL, hB2, hs⟩)
    · go_ret
      exact ⟨rfl, hB1.trans (hB2.mono hB1.size)⟩
    · have hbB : w.heap.size ≤ b := Nat.le_trans hB1.size hb
      go_loopw [9, 36] (fun sp i wr => ∃ (k : Nat) (g s : Int), k ≤ N ∧ i = .int .i64 k ∧ sp = .int .u64 s ∧ Rnd w.heap.size w wr b q l g s) (fun _ i _ => N - (intOf i).toNat)
      case atStart => exact ⟨0, 0, 0, Nat.zero_le _, rfl, rfl, ⟨hL, ⟨by omega, by omega, by omega, by omega⟩, hB1.trans (hB2.mono hB1.size)⟩⟩
      case round =>
        obtain ⟨k, g, s, hk, rfl, rfl, ⟨hLr, hbd, hbel⟩⟩ := hrel
        by_cases hlt : k < N
        · have hcell : wr.cell? (x.add k) = some (.int .u64 (f k)) := by
            have h := hc k hlt
            rw [hbel.cell (cell_lt h)]; exact h
          have hn0 := hf0 k hlt
          generalize f k = n at hcell hn0
          clear hc hf0 hL hs hB2 hB1
          by_cases hnl : l < n
          · have k1 : decide (l < n) = true := by simpa using hnl
            clear hnl
            go_wp2
            go_roundw
            case rel => exact ⟨k + 1, g, s, by omega, by go_num, rfl, ⟨hLr, hbd, hbel⟩⟩
            case measure => simp [intOf]; omega
          · have k1 : decide (l < n) = false := by simpa using hnl
            obtain ⟨b1, b2, b3, b4⟩ := hbd
            by_cases hfit : s + n ≤ q
            · have k2 : decide (s + n ≤ q) = true := by simpa using hfit
              by_cases hcov : n ≤ g - s
              · have hw : wantv q l g s n = g := by unfold wantv; rw [if_pos hcov]
                by_cases hg0 : g = 0
                · subst hg0
                  obtain rfl : s = 0 := by omega
                  obtain rfl : n = 0 := by omega
                  go_wp2_with (go_at_call 9; refine (want' b q l 0 0 0 0 _ hw hLr (by omega) (by omega) (by omega) (by omega) (by omega) (by omega) (by omega) (by omega)).mono ?_; rintro e w4 ⟨rfl, kk, rfl⟩)
                  have hL4 := hLr.drewN kk
                  go_wp2_with (go_at_call 10; refine (covers b q l 0 0 0 _ hL4.c0 hL4.c1 hL4.c2 hL4.c3 (by omega) (by omega) (by omega)).mono ?_; rintro e w5 ⟨rfl, kk1, rfl⟩)
                  have hL4' := hLr.drewN (kk + kk1)
                  go_wp2_with (go_at_call 12; refine (granted b q l 0 0 _ hL4'.c0 hL4'.c1 hL4'.c2 hL4'.c3).mono ?_; rintro e w5 ⟨rfl, rfl⟩)
                  go_wp2_with (go_at_call 11; refine (grant_ok b q l 0 0 0 _ hL4' (by omega) (by omega)).mono ?_; rintro e w5 ⟨rfl, hL5, hO5⟩)
                  go_wp2_with (go_at_call 13; refine (spend_ok b q l 0 0 0 _ hL5 (by omega) (by omega) (by omega) (by omega) (by omega)).mono ?_; rintro e w6 ⟨rfl, hL6, hO6⟩)
                  have m1 : decide (q < 0) = false := by simp; omega
                  have m3 : decide (l < 0) = false := by simp; omega
                  go_wp2_with (go_at_call 14; refine (used b q l 0 (0 + 0) _ hL6.c0 hL6.c1 hL6.c2 hL6.c3).mono ?_; rintro e w7 ⟨rfl, rfl⟩)
                  go_wp2_with (go_at_call 12; refine (granted b q l 0 (0 + 0) _ hL6.c0 hL6.c1 hL6.c2 hL6.c3).mono ?_; rintro e w7 ⟨rfl, rfl⟩)
                  go_roundw
                  case rel => exact ⟨k + 1, 0, 0, by omega, by go_num, rfl, ⟨hL6, ⟨by omega, by omega, by omega, by omega⟩, hbel.trans (((((Only.refl b wr).drewN (kk + kk1)).trans hO5).trans hO6).below hbB)⟩⟩
                  case measure => simp [intOf]; omega
                · have k3 : (g == 0) = false := by simpa using hg0
                  go_wp2_with (go_at_call 9; refine (want' b q l g s n g _ hw hLr (by omega) (by omega) (by omega) (by omega) (by omega) (by omega) (by omega) (by omega)).mono ?_; rintro e w4 ⟨rfl, kk, rfl⟩)
                  have hL4 := hLr.drewN kk
                  go_wp2_with (go_at_call 12; refine (granted b q l g s _ hL4.c0 hL4.c1 hL4.c2 hL4.c3).mono ?_; rintro e w5 ⟨rfl, rfl⟩)
                  go_wp2_with (go_at_call 11; refine (grant_ok b q l g s g _ hL4 (by omega) (by omega)).mono ?_; rintro e w5 ⟨rfl, hL5, hO5⟩)
                  go_wp2_with (go_at_call 13; refine (spend_ok b q l g s n _ hL5 (by omega) (by omega) (by omega) (by omega) (by omega)).mono ?_; rintro e w6 ⟨rfl, hL6, hO6⟩)
                  have m1 : decide (q < s + n) = false := by simp; omega
                  have m2 : decide (g < s + n) = false := by simp; omega
                  have m3 : decide (l < g - (s + n)) = false := by simp; omega
                  have m4 : decide (q < g) = false := by simp; omega
                  go_wp2_with (go_at_call 14; refine (used b q l g (s + n) _ hL6.c0 hL6.c1 hL6.c2 hL6.c3).mono ?_; rintro e w7 ⟨rfl, rfl⟩)
                  go_wp2_with (go_at_call 12; refine (granted b q l g (s + n) _ hL6.c0 hL6.c1 hL6.c2 hL6.c3).mono ?_; rintro e w7 ⟨rfl, rfl⟩)
                  go_roundw
                  case rel => exact ⟨k + 1, g, s + n, by omega, by go_num, rfl, ⟨hL6, ⟨by omega, by omega, by omega, by omega⟩, hbel.trans (((((Only.refl b wr).drewN kk).trans hO5).trans hO6).below hbB)⟩⟩
                  case measure => simp [intOf]; omega
              · obtain ⟨v, hw, v1, v2, v3, v4⟩ : ∃ v, wantv q l g s n = v ∧ g < v ∧ v ≤ q ∧ s + n ≤ v ∧ v ≤ s + l := ⟨max (min (s + l) q) (s + n), by unfold wantv; rw [if_neg hcov, if_pos hfit], by omega, by omega, by omega, by omega⟩
                have k3 : (v == 0) = false := by simp; omega
                go_wp2_with (go_at_call 9; refine (want' b q l g s n v _ hw hLr (by omega) (by omega) (by omega) (by omega) (by omega) (by omega) (by omega) (by omega)).mono ?_; rintro e w4 ⟨rfl, kk, rfl⟩)
                have hL4 := hLr.drewN kk
                have k4 : decide (v < g) = false := by simp; omega
                have k5 : decide (g < v) = true := by simp; omega
                go_wp2_with (go_at_call 12; refine (granted b q l g s _ hL4.c0 hL4.c1 hL4.c2 hL4.c3).mono ?_; rintro e w5 ⟨rfl, rfl⟩)
                go_wp2_with (go_at_call 11; refine (grant_ok b q l g s v _ hL4 (by omega) (by omega)).mono ?_; rintro e w5 ⟨rfl, hL5, hO5⟩)
                go_wp2_with (go_at_call 13; refine (spend_ok b q l v s n _ hL5 (by omega) (by omega) (by omega) (by omega) (by omega)).mono ?_; rintro e w6 ⟨rfl, hL6, hO6⟩)
                have m1 : decide (q < s + n) = false := by simp; omega
                have m2 : decide (v < s + n) = false := by simp; omega
                have m3 : decide (l < v - (s + n)) = false := by simp; omega
                have m4 : decide (q < v) = false := by simp; omega
                go_wp2_with (go_at_call 14; refine (used b q l v (s + n) _ hL6.c0 hL6.c1 hL6.c2 hL6.c3).mono ?_; rintro e w7 ⟨rfl, rfl⟩)
                go_wp2_with (go_at_call 12; refine (granted b q l v (s + n) _ hL6.c0 hL6.c1 hL6.c2 hL6.c3).mono ?_; rintro e w7 ⟨rfl, rfl⟩)
                go_roundw
                case rel => exact ⟨k + 1, v, s + n, by omega, by go_num, rfl, ⟨hL6, ⟨by omega, by omega, by omega, by omega⟩, hbel.trans (((((Only.refl b wr).drewN kk).trans hO5).trans hO6).below hbB)⟩⟩
                case measure => simp [intOf]; omega
            · have k2 : decide (s + n ≤ q) = false := by simpa using hfit
              have hw : wantv q l g s n = 0 := by unfold wantv; rw [if_neg (by omega), if_neg hfit]
              have kc : decide (n ≤ g - s) = false := by simp; omega
              go_wp2_with (go_at_call 9; refine (want' b q l g s n 0 _ hw hLr (by omega) (by omega) (by omega) (by omega) (by omega) (by omega) (by omega) (by omega)).mono ?_; rintro e w4 ⟨rfl, kk, rfl⟩)
              have hL4 := hLr.drewN kk
              go_wp2_with (go_at_call 10; refine (covers b q l g s n _ hL4.c0 hL4.c1 hL4.c2 hL4.c3 (by omega) (by omega) (by omega)).mono ?_; rintro e w5 ⟨rfl, kk1, rfl⟩)
              have hL4' := hLr.drewN (kk + kk1)
              have m1 : decide (q < s) = false := by simp; omega
              have m2 : decide (g < s) = false := by simp; omega
              have m3 : decide (l < g - s) = false := by simp; omega
              have m4 : decide (q < g) = false := by simp; omega
              go_wp2_with (go_at_call 14; refine (used b q l g s _ hL4'.c0 hL4'.c1 hL4'.c2 hL4'.c3).mono ?_; rintro e w7 ⟨rfl, rfl⟩)
              go_wp2_with (go_at_call 12; refine (granted b q l g s _ hL4'.c0 hL4'.c1 hL4'.c2 hL4'.c3).mono ?_; rintro e w7 ⟨rfl, rfl⟩)
              go_roundw
              case rel => exact ⟨k + 1, g, s, by omega, by go_num, rfl, ⟨hL4', ⟨b1, b2, b3, b4⟩, hbel.trans (((Only.refl b wr).drewN (kk + kk1)).below hbB)⟩⟩
              case measure => simp [intOf]; omega
        · go_wp2
          go_ret
          exact ⟨rfl, hbel⟩

set_option maxRecDepth 100000 in
set_option maxHeartbeats 1000000 in
theorem bound_none (q l : Int) (w : World) (hq0 : 0 ≤ q) (hl0 : 0 ≤ l) :
    Calls Try.prog 3 #[.int .u64 q, .int .u64 l, .slice none 0 0] w fun e w' => e = .returned (.bool true) ∧ Below w.heap.size w w' := by
  by_cases hbad : 281474976710656 < q ∨ 281474976710656 < l
  · have hbad' : 281474976710656 < q ∨ 281474976710656 < l ∨ (281474976710656 : Int) < 0 := by omega
    by_cases hqb : 281474976710656 < q
    · have k1 : decide (281474976710656 < q) = true := by simpa using hqb
      clear hbad hqb
      go_enter Try.func3, Try.ntmps3
      go_wp2_with (go_at_call 7; refine (alive _).mono ?_; rintro e w1 ⟨rfl, hB1⟩)
      go_wp2_with (go_at_call 8; refine (new_no q l 0 _ hbad').mono ?_; rintro e w2 ⟨rfl, hB2⟩)
      go_ret
      exact ⟨rfl, hB1.trans (hB2.mono hB1.size)⟩
    · have k1 : decide (281474976710656 < q) = false := by simpa using hqb
      have k2 : decide (281474976710656 < l) = true := by simp; omega
      clear hbad hqb
      go_enter Try.func3, Try.ntmps3
      go_wp2_with (go_at_call 7; refine (alive _).mono ?_; rintro e w1 ⟨rfl, hB1⟩)
      go_wp2_with (go_at_call 8; refine (new_no q l 0 _ hbad').mono ?_; rintro e w2 ⟨rfl, hB2⟩)
      go_ret
      exact ⟨rfl, hB1.trans (hB2.mono hB1.size)⟩
  · have hq : q ≤ 281474976710656 := by omega
    have hl : l ≤ 281474976710656 := by omega
    clear hbad
    go_enter Try.func3, Try.ntmps3
    go_wp2_with (go_at_call 7; refine (alive _).mono ?_; rintro e w1 ⟨rfl, hB1⟩)
    go_wp2_with (go_at_call 8; refine (new_ok q l 0 _ hq hl (by omega)).mono ?_; rintro e w2 ⟨b, hb, rfl, hL, hB2, hs⟩)
    have hB := hB1.trans (hB2.mono hB1.size)
    clear hL hs hB1 hB2
    go_loopw [9, 36] (fun sp i wr => i = .int .i64 0 ∧ Below w.heap.size w wr) (fun _ i _ => 0)
    case atStart => exact ⟨rfl, hB⟩
    case round =>
      obtain ⟨rfl, hbel⟩ := hrel
      go_wp2
      go_ret
      exact ⟨rfl, hbel⟩
end Go.Proofs.Ytbggleijjoleiaa
