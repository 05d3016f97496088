/- Proved here: the calls Want, Grant and Spend answer as told; the ledger's numbers are at most two to the power of 48. -/
import Derived.Test.YtbggleijjoleiaaA
namespace Go.Proofs.Ytbggleijjoleiaa
open Go.RowKit
set_option linter.unusedVariables false

theorem ret_int {k : IntKind} {a b : Int} (h : a = b) : Ending.returned (.int k a) = .returned (.int k b) := by rw [h]

/-- What would have to be granted. -/
def wantv (q l g u n : Int) : Int := if n ≤ g - u then g else if u + n ≤ q then max (min (u + l) q) (u + n) else 0

set_option maxHeartbeats 400000 in
theorem want (b : Nat) (q l g u n : Int) (w : World) (h : L w b q l g u)
    (hu : 0 ≤ u) (hug : u ≤ g) (hg : g ≤ 281474976710656) (hq : 0 ≤ q) (hq' : q ≤ 281474976710656) (hl : 0 ≤ l) (hl' : l ≤ 281474976710656) (hn : 0 ≤ n) :
    Calls Try.prog 9 #[.pointer (some ⟨b, 0, none⟩), .int .u64 n] w fun e w' => e = .returned (.int .u64 (wantv q l g u n)) ∧ ∃ k, w' = w.drewN k := by
  have hL := h
  obtain ⟨h0, h1, h2, h3, hf⟩ := h
  by_cases hc : n ≤ g - u
  · have e : wantv q l g u n = g := by unfold wantv; rw [if_pos hc]
    rw [e]; clear e
    have k1 : decide (n ≤ g - u) = true := by simpa using hc
    clear hc
    go_enter Try.func9, Try.ntmps9
    go_wp2_with (go_at_call 10; refine (covers b q l g u n _ h0 h1 h2 h3 hu hug hg).mono ?_; rintro e w' ⟨rfl, kk, rfl⟩)
    go_ret
    exact ⟨rfl, _, rfl⟩
  · have k1 : decide (n ≤ g - u) = false := by simpa using hc
    by_cases hd : u + n ≤ q
    · have e : wantv q l g u n = max (min (u + l) q) (u + n) := by unfold wantv; rw [if_neg hc, if_pos hd]
      rw [e]; clear e hc
      have k2 : decide (u + n ≤ q) = true := by simpa using hd
      have hn' : u + n ≤ 281474976710656 := by omega
      clear hd
      go_enter Try.func9, Try.ntmps9
      go_wp2_with (first | (go_at_call 10; refine (covers b q l g u n _ h0 h1 h2 h3 hu hug hg).mono ?_; rintro e w' ⟨rfl, kk, rfl⟩) | (go_at_call 23; refine (may b q l g u n _ (hL.drewN _) hu hug hg hq hq' hn).mono ?_; rintro e w' ⟨rfl, kk2, rfl⟩))
      go_quiet (fail)
      go_wp2
      all_goals
        go_ret
        refine ⟨ret_int ?_, _, rfl⟩
        first | omega | (split at * <;> omega)
    · have e : wantv q l g u n = 0 := by unfold wantv; rw [if_neg hc, if_neg hd]
      rw [e]; clear e hc
      have k2 : decide (u + n ≤ q) = false := by simpa using hd
      clear hd
      go_enter Try.func9, Try.ntmps9
      go_wp2_with (first | (go_at_call 10; refine (covers b q l g u n _ h0 h1 h2 h3 hu hug hg).mono ?_; rintro e w' ⟨rfl, kk, rfl⟩) | (go_at_call 23; refine (may b q l g u n _ (hL.drewN _) hu hug hg hq hq' hn).mono ?_; rintro e w' ⟨rfl, kk2, rfl⟩))
      go_ret
      exact ⟨rfl, _, rfl⟩

set_option maxHeartbeats 400000 in
theorem grant_ok (b : Nat) (q l g u n : Int) (w : World) (h : L w b q l g u) (h1 : g ≤ n) (h2 : n ≤ q) :
    Calls Try.prog 11 #[.pointer (some ⟨b, 0, none⟩), .int .u64 n] w fun e w' => e = .returned (.int .i64 0) ∧ L w' b q l n u ∧ Only b w w' := by
  have hL := h.set2 n
  obtain ⟨c0, c1, c2, c3, hf⟩ := h
  have f2 := hf 2
  have k1 : decide (n < g) = false := by simp; omega
  have k2 : decide (q < n) = false := by simp; omega
  go_enter Try.func11, Try.ntmps11
  go_wp2
  go_ret
  exact ⟨rfl, hL, (Only.refl _ _).setCell _ _⟩

set_option maxHeartbeats 400000 in
theorem grant_no (b : Nat) (q l g u n : Int) (w : World) (h : L w b q l g u) (hn : n < g ∨ q < n) :
    Calls Try.prog 11 #[.pointer (some ⟨b, 0, none⟩), .int .u64 n] w fun e w' => e = .returned (.int .i64 181) ∧ w' = w := by
  obtain ⟨c0, c1, c2, c3, hf⟩ := h
  by_cases h1 : n < g
  · have k1 : decide (n < g) = true := by simpa using h1
    clear hn h1
    go_enter Try.func11, Try.ntmps11
    go_wp2
    go_ret
    exact ⟨rfl, rfl⟩
  · have k1 : decide (n < g) = false := by simpa using h1
    have k2 : decide (q < n) = true := by simp; omega
    clear hn h1
    go_enter Try.func11, Try.ntmps11
    go_wp2
    go_ret
    exact ⟨rfl, rfl⟩

set_option maxHeartbeats 400000 in
theorem spend_ok (b : Nat) (q l g u n : Int) (w : World) (h : L w b q l g u)
    (hu : 0 ≤ u) (hug : u ≤ g) (hg : g ≤ 281474976710656) (hn : 0 ≤ n) (hc : n ≤ g - u) :
    Calls Try.prog 13 #[.pointer (some ⟨b, 0, none⟩), .int .u64 n] w fun e w' => e = .returned (.bool true) ∧ L w' b q l g (u + n) ∧ Only b w w' := by
  have hL := fun k => (h.drewN k).set3 (u + n)
  obtain ⟨c0, c1, c2, c3, hf⟩ := h
  have f3 := hf 3
  have k1 : decide (n ≤ g - u) = true := by simpa using hc
  have hb : u + n ≤ 281474976710656 := by omega
  clear hc
  go_enter Try.func13, Try.ntmps13
  go_wp2_with (go_at_call 10; refine (covers b q l g u n _ c0 c1 c2 c3 hu hug hg).mono ?_; rintro e w' ⟨rfl, kk, rfl⟩)
  go_ret
  exact ⟨rfl, hL _, ((Only.refl _ _).drewN _).setCell _ _⟩

set_option maxHeartbeats 400000 in
theorem spend_no (b : Nat) (q l g u n : Int) (w : World) (h : L w b q l g u)
    (hu : 0 ≤ u) (hug : u ≤ g) (hg : g ≤ 281474976710656) (hc : ¬ n ≤ g - u) :
    Calls Try.prog 13 #[.pointer (some ⟨b, 0, none⟩), .int .u64 n] w fun e w' => e = .returned (.bool false) ∧ ∃ k, w' = w.drewN k := by
  obtain ⟨c0, c1, c2, c3, hf⟩ := h
  have k1 : decide (n ≤ g - u) = false := by simpa using hc
  clear hc
  go_enter Try.func13, Try.ntmps13
  go_wp2_with (go_at_call 10; refine (covers b q l g u n _ c0 c1 c2 c3 hu hug hg).mono ?_; rintro e w' ⟨rfl, kk, rfl⟩)
  go_ret
  exact ⟨rfl, _, rfl⟩

end Go.Proofs.Ytbggleijjoleiaa
