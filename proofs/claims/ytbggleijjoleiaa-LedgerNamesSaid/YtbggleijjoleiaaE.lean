/- Proved here: the walk of LedgerCrash through its loop, for any quota, lease and numbers. -/
import Derived.Test.YtbggleijjoleiaaD
import Derived.Lib.Hide
namespace Go.Proofs.Ytbggleijjoleiaa
open Go.RowKit
set_option linter.unusedVariables false

/-- What holds at the head of a round: s is spent, c crashes, u counts as spent, g is granted. -/
structure Crs (q l s c u g : Int) : Prop where
  s0 : 0 ≤ s
  c0 : 0 ≤ c
  su : s ≤ u
  ug : u ≤ g
  gq : g ≤ q
  gl : g - u ≤ l
  uc : u ≤ s + l * c
  pb : l * c ≤ 281474976710656 * 200
  p0 : 0 ≤ l * c

theorem mul_bound {l c : Int} (hl : 0 ≤ l) (hl' : l ≤ 281474976710656) (hc : 0 ≤ c) (hc' : c ≤ 200) : l * c ≤ 281474976710656 * 200 ∧ 0 ≤ l * c :=
  ⟨Int.mul_le_mul hl' hc' hc (by omega), Int.mul_nonneg hl hc⟩

set_option maxRecDepth 100000 in
set_option maxHeartbeats 4000000 in
theorem crash_some (q l : Int) (x : Addr) (N c : Nat) (f : Nat → Int) (w : World) (hq0 : 0 ≤ q) (hl0 : 0 ≤ l) (hN : N ≤ maxLen)
    (hc : ∀ i, i < N → w.cell? (x.add i) = some (.int .u64 (f i))) (hf0 : ∀ i, i < N → 0 ≤ f i) :
    Calls Try.prog 4 #[.int .u64 q, .int .u64 l, .slice (some x) N c] w fun e w' => e = .returned (.bool true) ∧ Below w.heap.size w w' := by
  unfold maxLen at hN
  by_cases hbad : 281474976710656 < q ∨ 281474976710656 < l
  · have hbad' : 281474976710656 < q ∨ 281474976710656 < l ∨ (281474976710656 : Int) < 0 := by omega
    by_cases hqb : 281474976710656 < q
    · have k1 : decide (281474976710656 < q) = true := by simpa using hqb
      clear hbad hc hqb
      go_enter Try.func4, Try.ntmps4
      go_wp2_with (go_at_call 7; refine (alive _).mono ?_; rintro e w1 ⟨rfl, hB1⟩)
      go_wp2_with (go_at_call 8; refine (new_no q l 0 _ hbad').mono ?_; rintro e w2 ⟨rfl, hB2⟩)
      go_ret
      exact ⟨rfl, hB1.trans (hB2.mono hB1.size)⟩
    · have k1 : decide (281474976710656 < q) = false := by simpa using hqb
      have k2 : decide (281474976710656 < l) = true := by simp; omega
      clear hbad hc hqb
      go_enter Try.func4, Try.ntmps4
      go_wp2_with (go_at_call 7; refine (alive _).mono ?_; rintro e w1 ⟨rfl, hB1⟩)
      go_wp2_with (go_at_call 8; refine (new_no q l 0 _ hbad').mono ?_; rintro e w2 ⟨rfl, hB2⟩)
      go_ret
      exact ⟨rfl, hB1.trans (hB2.mono hB1.size)⟩
  · have hq : q ≤ 281474976710656 := by omega
    have hl : l ≤ 281474976710656 := by omega
    clear hbad
    by_cases hlen : 200 < N
    · have k0 : decide (200 < (N : Int)) = true := by simp; omega
      go_enter Try.func4, Try.ntmps4
      go_wp2_with (go_at_call 7; refine (alive _).mono ?_; rintro e w1 ⟨rfl, hB1⟩)
      go_wp2_with (go_at_call 8; refine (new_ok q l 0 _ hq hl (by omega)).mono ?_; rintro e w2 ⟨b, hb, rfl, hL, hB2, hs⟩)
      go_ret
      exact ⟨rfl, hB1.trans (hB2.mono hB1.size)⟩
    · have k0 : decide (200 < (N : Int)) = false := by simp; omega
      go_enter Try.func4, Try.ntmps4
      go_wp2_with (go_at_call 7; refine (alive _).mono ?_; rintro e w1 ⟨rfl, hB1⟩)
      go_wp2_with (go_at_call 8; refine (new_ok q l 0 _ hq hl (by omega)).mono ?_; rintro e w2 ⟨b, hb, rfl, hL, hB2, hs⟩)
      have hbB : w.heap.size ≤ b := Nat.le_trans hB1.size hb
      go_loopw [7, 9, 10, 43] (fun lp sp cr i wr => ∃ (k b : Nat) (s c u g : Int), k ≤ N ∧ c ≤ k ∧ i = .int .i64 k ∧ sp = .int .u64 s ∧ cr = .int .u64 c ∧ lp = .pointer (some ⟨b, 0, none⟩) ∧ w.heap.size ≤ b ∧ L wr b q l g u ∧ Crs q l s c u g ∧ Below w.heap.size w wr) (fun _ _ _ i _ => N - (intOf i).toNat)
      case atStart => exact ⟨0, b, 0, 0, 0, 0, Nat.zero_le _, by omega, rfl, rfl, rfl, rfl, hbB, hL, ⟨by omega, by omega, by omega, by omega, by omega, by omega, by omega, by omega, by omega⟩, hB1.trans (hB2.mono hB1.size)⟩
      case round =>
        clear hL hs hB2 hB1 hbB hb
        obtain ⟨k, d, s, cr, u, g, hk, hck, rfl, rfl, rfl, rfl, hbB, hLr, hcrs, hbel⟩ := hrel
        by_cases hlt : k < N
        · have hcell : wr.cell? (x.add k) = some (.int .u64 (f k)) := by
            have h := hc k hlt
            rw [hbel.cell (cell_lt h)]; exact h
          have hn0 := hf0 k hlt
          generalize f k = n at hcell hn0
          clear hc hf0
          obtain ⟨b0, b1, b2, b3, b4, b5, b6, b7, b8⟩ := hcrs
          by_cases hnl : l < n
          · have k1 : decide (l < n) = true := by simpa using hnl
            have hc' : cr + 1 ≤ 200 := by omega
            have hmb := mul_bound hl0 hl (by omega : (0 : Int) ≤ cr + 1) hc'
            have hma : l * (cr + 1) = l * cr + l := by rw [Int.mul_add, Int.mul_one]
            have HM := Lib.hid hma
            clear hma hnl
            go_wp2_with (go_at_call 12; refine (granted d q l g u _ hLr.c0 hLr.c1 hLr.c2 hLr.c3).mono ?_; rintro e w5 ⟨rfl, rfl⟩)
            go_wp2_with (go_at_call 8; refine (new_ok q l g _ hq hl (by omega)).mono ?_; rintro e w6 ⟨b', hb', rfl, hL6, hB6, hs6⟩)
            go_roundw
            case rel =>
              have hma := HM.out
              exact ⟨k + 1, b', s, cr + 1, g, g, by omega, by omega, by go_num, rfl, rfl, rfl, Nat.le_trans hbel.size hb', hL6, ⟨by omega, by omega, by omega, by omega, by omega, by omega, by omega, hmb.1, hmb.2⟩, hbel.trans (hB6.mono hbel.size)⟩
            case measure => simp [intOf]; omega
          · have k1 : decide (l < n) = false := by simpa using hnl
            by_cases hcov : n ≤ g - u
            · have hw : wantv q l g u n = g := by unfold wantv; rw [if_pos hcov]
              have kc : decide (n ≤ g - u) = true := by simpa using hcov
              have m1 : decide (q < u + n) = false := by simp; omega
              have m2 : decide (s + n + l * cr < u + n) = false := by simp; omega
              have m3 : decide (q < s + n) = false := by simp; omega
              by_cases hg0 : g = 0
              · subst hg0
                obtain rfl : u = 0 := by omega
                obtain rfl : n = 0 := by omega
                obtain rfl : s = 0 := by omega
                go_wp2_with (go_at_call 9; refine (want' d q l 0 0 0 0 _ hw hLr (by omega) (by omega) (by omega) (by omega) (by omega) (by omega) (by omega) (by omega)).mono ?_; rintro e w4 ⟨rfl, kk, rfl⟩)
                have hL4 := hLr.drewN kk
                go_wp2_with (go_at_call 10; refine (covers d q l 0 0 0 _ hL4.c0 hL4.c1 hL4.c2 hL4.c3 (by omega) (by omega) (by omega)).mono ?_; rintro e w5 ⟨rfl, kk1, rfl⟩)
                have hL4' := hLr.drewN (kk + kk1)
                go_wp2_with (go_at_call 11; refine (grant_ok d q l 0 0 0 _ hL4' (by omega) (by omega)).mono ?_; rintro e w5 ⟨rfl, hL5, hO5⟩)
                go_wp2_with (go_at_call 13; refine (spend_ok d q l 0 0 0 _ hL5 (by omega) (by omega) (by omega) (by omega) (by omega)).mono ?_; rintro e w6 ⟨rfl, hL6, hO6⟩)
                go_wp2_with (go_at_call 14; refine (used d q l 0 (0 + 0) _ hL6.c0 hL6.c1 hL6.c2 hL6.c3).mono ?_; rintro e w7 ⟨rfl, rfl⟩)
                go_roundw
                case rel => exact ⟨k + 1, d, 0, cr, 0, 0, by omega, by omega, by go_num, rfl, rfl, rfl, hbB, hL6, ⟨by omega, by omega, by omega, by omega, by omega, by omega, by omega, by omega, by omega⟩, hbel.trans (((((Only.refl d wr).drewN (kk + kk1)).trans hO5).trans hO6).below hbB)⟩
                case measure => simp [intOf]; omega
              · have k3 : (g == 0) = false := by simpa using hg0
                go_wp2_with (go_at_call 9; refine (want' d q l g u n g _ hw hLr (by omega) (by omega) (by omega) (by omega) (by omega) (by omega) (by omega) (by omega)).mono ?_; rintro e w4 ⟨rfl, kk, rfl⟩)
                have hL4 := hLr.drewN kk
                go_wp2_with (go_at_call 11; refine (grant_ok d q l g u g _ hL4 (by omega) (by omega)).mono ?_; rintro e w5 ⟨rfl, hL5, hO5⟩)
                go_wp2_with (go_at_call 13; refine (spend_ok d q l g u n _ hL5 (by omega) (by omega) (by omega) (by omega) (by omega)).mono ?_; rintro e w6 ⟨rfl, hL6, hO6⟩)
                go_wp2_with (go_at_call 14; refine (used d q l g (u + n) _ hL6.c0 hL6.c1 hL6.c2 hL6.c3).mono ?_; rintro e w7 ⟨rfl, rfl⟩)
                go_roundw
                case rel => exact ⟨k + 1, d, s + n, cr, u + n, g, by omega, by omega, by go_num, rfl, rfl, rfl, hbB, hL6, ⟨by omega, by omega, by omega, by omega, by omega, by omega, by omega, by omega, by omega⟩, hbel.trans (((((Only.refl d wr).drewN kk).trans hO5).trans hO6).below hbB)⟩
                case measure => simp [intOf]; omega
            · have kc : decide (n ≤ g - u) = false := by simpa using hcov
              by_cases hfit : u + n ≤ q
              · obtain ⟨v, hw, v1, v2, v3, v4⟩ : ∃ v, wantv q l g u n = v ∧ g < v ∧ v ≤ q ∧ u + n ≤ v ∧ v ≤ u + l := ⟨max (min (u + l) q) (u + n), by unfold wantv; rw [if_neg hcov, if_pos hfit], by omega, by omega, by omega, by omega⟩
                have k3 : (v == 0) = false := by simp; omega
                have m1 : decide (q < u + n) = false := by simp; omega
                have m2 : decide (s + n + l * cr < u + n) = false := by simp; omega
                have m3 : decide (q < s + n) = false := by simp; omega
                go_wp2_with (go_at_call 9; refine (want' d q l g u n v _ hw hLr (by omega) (by omega) (by omega) (by omega) (by omega) (by omega) (by omega) (by omega)).mono ?_; rintro e w4 ⟨rfl, kk, rfl⟩)
                have hL4 := hLr.drewN kk
                go_wp2_with (go_at_call 11; refine (grant_ok d q l g u v _ hL4 (by omega) (by omega)).mono ?_; rintro e w5 ⟨rfl, hL5, hO5⟩)
                go_wp2_with (go_at_call 13; refine (spend_ok d q l v u n _ hL5 (by omega) (by omega) (by omega) (by omega) (by omega)).mono ?_; rintro e w6 ⟨rfl, hL6, hO6⟩)
                go_wp2_with (go_at_call 14; refine (used d q l v (u + n) _ hL6.c0 hL6.c1 hL6.c2 hL6.c3).mono ?_; rintro e w7 ⟨rfl, rfl⟩)
                go_roundw
                case rel => exact ⟨k + 1, d, s + n, cr, u + n, v, by omega, by omega, by go_num, rfl, rfl, rfl, hbB, hL6, ⟨by omega, by omega, by omega, by omega, by omega, by omega, by omega, by omega, by omega⟩, hbel.trans (((((Only.refl d wr).drewN kk).trans hO5).trans hO6).below hbB)⟩
                case measure => simp [intOf]; omega
              · have hw : wantv q l g u n = 0 := by unfold wantv; rw [if_neg hcov, if_neg hfit]
                have m2 : decide (s + l * cr + n ≤ q) = false := by simp; omega
                go_wp2_with (go_at_call 9; refine (want' d q l g u n 0 _ hw hLr (by omega) (by omega) (by omega) (by omega) (by omega) (by omega) (by omega) (by omega)).mono ?_; rintro e w4 ⟨rfl, kk, rfl⟩)
                have hL4 := hLr.drewN kk
                go_wp2_with (go_at_call 10; refine (covers d q l g u n _ hL4.c0 hL4.c1 hL4.c2 hL4.c3 (by omega) (by omega) (by omega)).mono ?_; rintro e w5 ⟨rfl, kk1, rfl⟩)
                have hL4' := hLr.drewN (kk + kk1)
                go_roundw
                case rel => exact ⟨k + 1, d, s, cr, u, g, by omega, by omega, by go_num, rfl, rfl, rfl, hbB, hL4', ⟨by omega, by omega, by omega, by omega, by omega, by omega, by omega, by omega, by omega⟩, hbel.trans (((Only.refl d wr).drewN (kk + kk1)).below hbB)⟩
                case measure => simp [intOf]; omega
        · go_wp2
          go_ret
          exact ⟨rfl, hbel⟩

set_option maxRecDepth 100000 in
set_option maxHeartbeats 1000000 in
theorem crash_none (q l : Int) (w : World) (hq0 : 0 ≤ q) (hl0 : 0 ≤ l) :
    Calls Try.prog 4 #[.int .u64 q, .int .u64 l, .slice none 0 0] w fun e w' => e = .returned (.bool true) ∧ Below w.heap.size w w' := by
  by_cases hbad : 281474976710656 < q ∨ 281474976710656 < l
  · have hbad' : 281474976710656 < q ∨ 281474976710656 < l ∨ (281474976710656 : Int) < 0 := by omega
    by_cases hqb : 281474976710656 < q
    · have k1 : decide (281474976710656 < q) = true := by simpa using hqb
      clear hbad hqb
      go_enter Try.func4, Try.ntmps4
      go_wp2_with (go_at_call 7; refine (alive _).mono ?_; rintro e w1 ⟨rfl, hB1⟩)
      go_wp2_with (go_at_call 8; refine (new_no q l 0 _ hbad').mono ?_; rintro e w2 ⟨rfl, hB2⟩)
      go_ret
      exact ⟨rfl, hB1.trans (hB2.mono hB1.size)⟩
    · have k1 : decide (281474976710656 < q) = false := by simpa using hqb
      have k2 : decide (281474976710656 < l) = true := by simp; omega
      clear hbad hqb
      go_enter Try.func4, Try.ntmps4
      go_wp2_with (go_at_call 7; refine (alive _).mono ?_; rintro e w1 ⟨rfl, hB1⟩)
      go_wp2_with (go_at_call 8; refine (new_no q l 0 _ hbad').mono ?_; rintro e w2 ⟨rfl, hB2⟩)
      go_ret
      exact ⟨rfl, hB1.trans (hB2.mono hB1.size)⟩
  · have hq : q ≤ 281474976710656 := by omega
    have hl : l ≤ 281474976710656 := by omega
    clear hbad
    go_enter Try.func4, Try.ntmps4
    go_wp2_with (go_at_call 7; refine (alive _).mono ?_; rintro e w1 ⟨rfl, hB1⟩)
    go_wp2_with (go_at_call 8; refine (new_ok q l 0 _ hq hl (by omega)).mono ?_; rintro e w2 ⟨b, hb, rfl, hL, hB2, hs⟩)
    have hB := hB1.trans (hB2.mono hB1.size)
    clear hL hs hB1 hB2
    go_loopw [7, 9, 10, 43] (fun lp sp cr i wr => i = .int .i64 0 ∧ Below w.heap.size w wr) (fun _ _ _ _ _ => 0)
    case atStart => exact ⟨rfl, hB⟩
    case round =>
      obtain ⟨rfl, hbel⟩ := hrel
      go_wp2
      go_ret
      exact ⟨rfl, hbel⟩
end Go.Proofs.Ytbggleijjoleiaa
