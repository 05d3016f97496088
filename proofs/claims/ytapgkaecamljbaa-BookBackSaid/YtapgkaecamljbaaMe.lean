/- Proved here: what the law of this claim leans on (an evaluator of the model's code, contracts of functions). No condition. -/
import Derived.Test.YtapgkaecamljbaaMd
import Derived.Test.YtapgkaecamljbaaMc
namespace Go.Proofs.Ytapgkaecamljbaa
open Go.RowKit
set_option linter.unusedSimpArgs false
set_option linter.unusedVariables false
set_option maxRecDepth 10000

/-! ### Bytes as texts -/
def strB (l : List Int) : List UInt8 := l.map fun n => UInt8.ofNat n.toNat
theorem bytesV_B (l : List Int) : bytesV (l.flatMap byteE.enc) = some (strB l) := by
  induction l with
  | nil => rfl
  | cons a l ih =>
    rw [List.flatMap_cons]
    show bytesV (.i .u8 a :: l.flatMap byteE.enc) = _
    simp only [bytesV, ih]; rfl
theorem toStr_B {S : Mem} {x : AV} {l : List Int} (h : lstV byteE S x = some l) : toStrV S x = some (.s (strB l)) := by
  rcases lstV_lst h with ⟨rfl, rfl⟩ | ⟨rfl, rfl⟩ | ⟨i, o, v, len, cap, ex, rfl, rfl, hrow⟩
  · rfl
  · rfl
  · have hrow : rowAt S i o v l.length = some (l.flatMap byteE.enc) := by rw [show l.length = l.length * byteE.sz from (Nat.mul_one _).symm]; exact hrow
    simp only [toStrV, hrow, bytesV_B]
theorem ofNat_inj8 {a b : Nat} (ha : a < 256) (hb : b < 256) (h : UInt8.ofNat a = UInt8.ofNat b) : a = b := by
  have := congrArg UInt8.toNat h
  simp [UInt8.toNat_ofNat] at this
  omega
theorem strB_inj : ∀ {l m : List Int}, (∀ c ∈ l, u8 c) → (∀ c ∈ m, u8 c) → strB l = strB m → l = m
  | [], [], _, _, _ => rfl
  | [], _ :: _, _, _, h => by simp [strB] at h
  | _ :: _, [], _, _, h => by simp [strB] at h
  | a :: l, b :: m, h1, h2, h => by
    simp only [strB, List.map_cons, List.cons.injEq] at h
    have ha := h1 a (by simp)
    have hb := h2 b (by simp)
    unfold u8 at ha hb
    have e := ofNat_inj8 (by omega) (by omega) h.1
    rw [show a = b by omega, strB_inj (fun c hc => h1 c (by simp [hc])) (fun c hc => h2 c (by simp [hc])) h.2]

/-! ### The first number -/
def cutN (n : Int) : Int := n % 18446744073709551616
theorem cutN_u64 (n : Int) : u64 (cutN n) := by unfold u64 cutN; omega
theorem cutN_step {v c : Int} : cutN (c % 128 + 128 * v) = wrapV .u64 (wrapV .u64 (cutN v * 128) + c % 128) := by
  unfold cutN; simp only [wrapV]; omega
theorem getL_cut {b : List Int} {k : Nat} (hk : k < (b.take 10).length) (hu : ∀ c ∈ b, u8 c) (hp : ∀ c ∈ (b.take 10).take k, 128 ≤ c) (hc : (b.take 10)[k] < 128) :
    getL b = if leb (cutN (vals (b.take (k + 1)))) = b.take (k + 1) then some (cutN (vals (b.take (k + 1))), k + 1) else none := by
  have hu10 : ∀ c ∈ b.take 10, u8 c := fun c h => hu c (List.mem_of_mem_take h)
  have h10 : (b.take 10).length ≤ 10 := by rw [List.length_take]; omega
  have htt : (b.take 10).take (k + 1) = b.take (k + 1) := by rw [List.take_take, Nat.min_eq_left (by omega)]
  have hlen : (b.take (k + 1)).length = k + 1 := by
    rw [← htt, List.length_take]; omega
  split
  · rename_i h
    unfold getL
    have h1 := unleb_take (n := cutN (vals (b.take (k + 1)))) (cutN_u64 _).1 b 10 (by rw [h, hlen]; omega) (by rw [h]; exact List.take_prefix ..)
    rw [h1]
    simp only
    rw [if_pos (cutN_u64 _).2, h, hlen]
  · rename_i h
    cases hg : getL b with
    | none => rfl
    | some q =>
      obtain ⟨m, j⟩ := q
      obtain ⟨g1, g2, g3, _⟩ := getL_some hu hg
      unfold getL at hg
      have hsplit : b.take 10 = (b.take 10).take k ++ (b.take 10)[k] :: (b.take 10).drop (k + 1) := by rw [← List.drop_eq_getElem_cons hk, List.take_append_drop]
      have hm := unleb_more ((b.take 10).take k) ((b.take 10)[k] :: (b.take 10).drop (k + 1)) hp
      rw [← hsplit] at hm
      have h1 : unleb ((b.take 10)[k] :: (b.take 10).drop (k + 1)) = some ((b.take 10)[k], 1) := by rw [unleb, if_pos hc]
      have hlk : ((b.take 10).take k).length = k := by rw [List.length_take]; omega
      have huk := hu10 _ (List.getElem_mem hk)
      unfold u8 at huk
      rw [h1] at hm
      simp only at hm
      have hs := vals_snoc ((b.take 10).take k) (b.take 10)[k]
      rw [show (b.take 10).take k ++ [(b.take 10)[k]] = (b.take 10).take (k + 1) from (List.take_succ_eq_append_getElem hk).symm, hlk, htt, show (b.take 10)[k] % 128 = (b.take 10)[k] by omega] at hs
      rw [hlk, ← hs] at hm
      rw [hm] at hg
      by_cases h0 : (b.take 10)[k] = 0 ∧ (b.take 10).take k ≠ []
      · rw [if_pos h0] at hg; cases hg
      · rw [if_neg h0] at hg
        simp only at hg
        split at hg
        · simp only [Option.some.injEq, Prod.mk.injEq] at hg
          obtain ⟨h2, h3⟩ := hg
          exfalso; apply h
          have hcut : cutN m = m := by unfold cutN; have := g1.1; have := g1.2; omega
          rw [h2, hcut, g2, ← h3, Nat.add_comm]
        · cases hg
theorem oRGet_ok : OK Try.prog (lamOf Try.prog) (orcOf [(65, rputS 10)]) := orc_ok (by simpa using rput_ok 10)
theorem rget_ok : SpecOK Try.prog 71 getS := by
  intro args S x S' h
  simp only [getS] at h
  split at h
  · rename_i s
    split at h
    · rename_i b hl
      split at h
      · rename_i hc
        cases h
        obtain ⟨ho, hu, hlen⟩ := hc
        have hu : ∀ c ∈ b, u8 c := fun c hc => of_decide_eq_true (List.all_eq_true.1 hu c hc)
        have h10 : (b.take 10).length ≤ 10 := by rw [List.length_take]; omega
        have hl10 : (b.take 10).length ≤ b.length := by rw [List.length_take]; omega
        refine fn_of_wp f71 rfl (W_sound oRGet_ok mixed _ _ _ _ _ ?_)
        simp (maxSteps := 1000000) (disch := omega) only [c71, go_sem, Option.map_none, Option.map_some, ↓reduceIte, Nat.reduceBEq, Nat.reduceAdd, Nat.reduceSub, Nat.reduceEqDiff, Nat.reduceLeDiff, Nat.reduceMul, Nat.reduceLT, Int.reduceLT, Int.reduceLE, Int.reduceAdd, Int.reduceSub, Int.reduceMul, Int.reduceNeg, Int.reduceEq, Int.reduceNe, Int.reduceToNat, decide_true, decide_false, iaddr_i, iaddr_sl_i, not_true_eq_false, not_false_eq_true, reduceCtorEq, ne_eq, forall_const, false_imp_iff, true_imp_iff, implies_true, Int.cast_ofNat_Int, Int.natCast_zero, Int.natCast_one, Int.add_zero, Int.zero_add]
        refine wp_loop (fun j e M dl => dl = [] ∧ M = S ∧ ∃ (k : Nat), j = (b.take 10).length - k ∧ k ≤ (b.take 10).length ∧ (∀ c ∈ (b.take 10).take k, 128 ≤ c) ∧ e.get 0 = s ∧ e.get 5 = .i .i64 k) (j := (b.take 10).length)
          ⟨rfl, rfl, 0, rfl, Nat.zero_le _, by simp, rfl, rfl⟩ ?_
        rintro j e M d' ⟨rfl, rfl, k, rfl, hk, hp, h0, h5⟩
        refine W_sound oRGet_ok mixed _ _ _ _ _ ?_
        by_cases hkl : k < (b.take 10).length
        · have hkb : k < b.length := by omega
          obtain ⟨bi, o, v, cap, ex, rfl⟩ := lst_sl hl hkb
          have hcell := fun (j : Nat) (hj : j < b.length) => lstV_cell hl rfl (fun a => rfl) hj []
          simp only [List.append_nil] at hcell
          have hc0 := hcell k hkb
          have hkI : (k : Int) < b.length := by omega
          have hk10 : (k : Int) < 10 := by omega
          have hgk : (b.take 10)[k] = b[k] := List.getElem_take
          have huk := hu _ (List.getElem_mem hkb)
          have hwk : wrapV .i64 ((k : Int) + 1) = ((k + 1 : Nat) : Int) := by rw [wrap_i64 (by omega) (by omega)]; omega
          have hcut := getL_cut hkl hu hp
          have hp1 : b[k] ≥ 128 → ∀ c ∈ (b.take 10).take (k + 1), 128 ≤ c := fun h c hc => by
            rw [List.take_succ_eq_append_getElem hkl] at hc
            rcases List.mem_append.1 hc with hc | hc
            · exact hp c hc
            · rw [List.mem_singleton.1 hc, hgk]; exact h
          by_cases h128 : b[k] < 128
          · have hnc : ¬ (128 : Int) ≤ b[k] := by omega
            have hcut := hcut (by rw [hgk]; exact h128)
            simp (maxSteps := 1000000) (disch := omega) only [c71l2, h0, h5, hkI, hk10, Int.toNat_natCast, Nat.mul_one, hc0, hnc, go_sem, Option.map_none, Option.map_some, ↓reduceIte, Nat.reduceBEq, Nat.reduceAdd, Nat.reduceSub, Nat.reduceEqDiff, Nat.reduceLeDiff, Nat.reduceMul, Nat.reduceLT, Int.reduceLT, Int.reduceLE, Int.reduceAdd, Int.reduceSub, Int.reduceMul, Int.reduceNeg, Int.reduceEq, Int.reduceNe, Int.reduceToNat, decide_true, decide_false, iaddr_i, iaddr_sl_i, not_true_eq_false, not_false_eq_true, reduceCtorEq, ne_eq, forall_const, false_imp_iff, true_imp_iff, implies_true, Int.cast_ofNat_Int, Int.natCast_zero, Int.natCast_one, Int.add_zero, Int.zero_add]
            clear hp1 hp hc0
            have hlen : (b.take (k + 1)).length = k + 1 := by rw [List.length_take]; omega
            refine wp_loop (fun j e M' dl => dl = [] ∧ M' = M ∧ ∃ (i : Nat), j = i ∧ i ≤ k + 1 ∧ e.get 0 = .sl bi o v b.length cap ex ∧ e.get 5 = .i .i64 k ∧ e.get 7 = .i .i64 ((i : Int) - 1) ∧ e.get 6 = .i .u64 (cutN (vals ((b.take (k + 1)).drop i)))) (j := k + 1)
              ⟨rfl, rfl, k + 1, rfl, Nat.le_refl _, rfl, rfl, by rw [show (((k + 1 : Nat) : Int) - 1) = k by omega]; rfl, by rw [List.drop_of_length_le (by omega)]; rfl⟩ ?_
            rintro i e M' d' ⟨rfl, rfl, _, rfl, hi, h0, h5, h7, h6⟩
            refine W_sound oRGet_ok mixed _ _ _ _ _ ?_
            rcases Nat.eq_zero_or_pos i with hi0 | hi0
            · subst hi0
              rw [List.drop_zero] at h6
              have hjI : ¬ (0 : Int) ≤ ((0 : Nat) : Int) - 1 := by omega
              obtain ⟨t, ht, hlt, _⟩ := take_lst hl ho (q := .i64) (b := k + 1) (by omega)
              obtain ⟨X, M2, hX, hXl, hSM⟩ := rput_len M' (cutN_u64 (vals (b.take (k + 1))))
              have hs1 := toStr_B hlt
              have hs2 := toStr_B hXl
              have hub : ∀ c ∈ b.take (k + 1), u8 c := fun c hc => hu c (List.mem_of_mem_take hc)
              have huL := leb_u8 (cutN_u64 (vals (b.take (k + 1)))).1
              generalize cutN (vals (b.take (k + 1))) = n at *
              have ht : sliceV M' 1 (.sl bi o v b.length cap ex) none (some (.i .i64 ((k + 1 : Nat) : Int))) none = some t := ht
              by_cases hq : leb n = b.take (k + 1)
              · have hqs : ¬ strB (leb n) ≠ strB (b.take (k + 1)) := fun h => h (by rw [hq])
                simp (maxSteps := 1000000) (disch := omega) only [c71l0, h0, h5, h7, h6, hjI, hwk, ht, hs1, orc_cons, hX, hs2, hqs, go_sem, Option.map_none, Option.map_some, ↓reduceIte, Nat.reduceBEq, Nat.reduceAdd, Nat.reduceSub, Nat.reduceEqDiff, Nat.reduceLeDiff, Nat.reduceMul, Nat.reduceLT, Int.reduceLT, Int.reduceLE, Int.reduceAdd, Int.reduceSub, Int.reduceMul, Int.reduceNeg, Int.reduceEq, Int.reduceNe, Int.reduceToNat, decide_true, decide_false, iaddr_i, iaddr_sl_i, not_true_eq_false, not_false_eq_true, reduceCtorEq, ne_eq, forall_const, false_imp_iff, true_imp_iff, implies_true, Int.cast_ofNat_Int, Int.natCast_zero, Int.natCast_one, Int.add_zero, Int.zero_add]
                rw [hcut, if_pos hq]
                exact ⟨hSM, wkv_dropP hSM (got_flat _ _)⟩
              · have hqs : strB (leb n) ≠ strB (b.take (k + 1)) := fun h => hq (strB_inj huL hub h)
                simp (maxSteps := 1000000) (disch := omega) only [c71l0, h0, h5, h7, h6, hjI, hwk, ht, hs1, orc_cons, hX, hs2, hqs, go_sem, Option.map_none, Option.map_some, ↓reduceIte, Nat.reduceBEq, Nat.reduceAdd, Nat.reduceSub, Nat.reduceEqDiff, Nat.reduceLeDiff, Nat.reduceMul, Nat.reduceLT, Int.reduceLT, Int.reduceLE, Int.reduceAdd, Int.reduceSub, Int.reduceMul, Int.reduceNeg, Int.reduceEq, Int.reduceNe, Int.reduceToNat, decide_true, decide_false, iaddr_i, iaddr_sl_i, not_true_eq_false, not_false_eq_true, reduceCtorEq, ne_eq, forall_const, false_imp_iff, true_imp_iff, implies_true, Int.cast_ofNat_Int, Int.natCast_zero, Int.natCast_one, Int.add_zero, Int.zero_add]
                rw [hcut, if_neg hq]
                exact ⟨hSM, wkv_dropP hSM (got_flat _ _)⟩
            · have hjI : (0 : Int) ≤ (i : Int) - 1 := by omega
              obtain ⟨j, rfl⟩ : ∃ j, i = j + 1 := ⟨i - 1, by omega⟩
              have hj1 : ((j + 1 : Nat) : Int) - 1 = (j : Int) := by omega
              rw [hj1] at h7 hjI
              have hjb : j < b.length := by omega
              have hjI2 : (j : Int) < b.length := by omega
              have hcj := hcell j hjb
              have huj := hu _ (List.getElem_mem hjb)
              unfold u8 at huj
              have hrem : ∀ cst, binV .int cst .rem (.i .u8 b[j]) (.i .u8 128) = some (.i .u8 (b[j] % 128)) := fun cst => bin_rem_pos huj.1 (by omega)
              have hwj : wrapV .i64 ((j : Int) - 1) = (j : Int) - 1 := wrap_i64 (by omega) (by omega)
              have hstep := cutN_step (v := vals ((b.take (k + 1)).drop (j + 1))) (c := b[j])
              rw [show b[j] % 128 + 128 * vals ((b.take (k + 1)).drop (j + 1)) = vals ((b.take (k + 1)).drop j) by rw [List.drop_eq_getElem_cons (show j < (b.take (k + 1)).length by omega), List.getElem_take]; rfl] at hstep
              simp (maxSteps := 1000000) (disch := omega) only [c71l0, h0, h5, h7, h6, hjI, hjI2, Int.toNat_natCast, Nat.mul_one, hcj, hrem, hwj, go_sem, Option.map_none, Option.map_some, ↓reduceIte, Nat.reduceBEq, Nat.reduceAdd, Nat.reduceSub, Nat.reduceEqDiff, Nat.reduceLeDiff, Nat.reduceMul, Nat.reduceLT, Int.reduceLT, Int.reduceLE, Int.reduceAdd, Int.reduceSub, Int.reduceMul, Int.reduceNeg, Int.reduceEq, Int.reduceNe, Int.reduceToNat, decide_true, decide_false, iaddr_i, iaddr_sl_i, not_true_eq_false, not_false_eq_true, reduceCtorEq, ne_eq, forall_const, false_imp_iff, true_imp_iff, implies_true, Int.cast_ofNat_Int, Int.natCast_zero, Int.natCast_one, Int.add_zero, Int.zero_add]
              exact ⟨j, by omega, j, rfl, by omega, rfl, by rw [hstep]⟩
          · have hc : (128 : Int) ≤ b[k] := by omega
            simp (maxSteps := 1000000) (disch := omega) only [c71l2, h0, h5, hkI, hk10, Int.toNat_natCast, Nat.mul_one, hc0, hc, hwk, go_sem, Option.map_none, Option.map_some, ↓reduceIte, Nat.reduceBEq, Nat.reduceAdd, Nat.reduceSub, Nat.reduceEqDiff, Nat.reduceLeDiff, Nat.reduceMul, Nat.reduceLT, Int.reduceLT, Int.reduceLE, Int.reduceAdd, Int.reduceSub, Int.reduceMul, Int.reduceNeg, Int.reduceEq, Int.reduceNe, Int.reduceToNat, decide_true, decide_false, iaddr_i, iaddr_sl_i, not_true_eq_false, not_false_eq_true, reduceCtorEq, ne_eq, forall_const, false_imp_iff, true_imp_iff, implies_true, Int.cast_ofNat_Int, Int.natCast_zero, Int.natCast_one, Int.add_zero, Int.zero_add]
            exact ⟨(b.take 10).length - (k + 1), by omega, k + 1, rfl, hkl, hp1 (by omega), rfl⟩
        · have hnone : getL b = none := getL_none (by rw [List.take_of_length_le (by omega)] at hp; exact hp)
          by_cases hkI : (k : Int) < b.length
          · have hk10 : ¬ (k : Int) < 10 := by rw [List.length_take] at hkl; omega
            simp (maxSteps := 1000000) (disch := omega) only [c71l2, h0, h5, lst_len hl, hkI, hk10, go_sem, Option.map_none, Option.map_some, ↓reduceIte, Nat.reduceBEq, Nat.reduceAdd, Nat.reduceSub, Nat.reduceEqDiff, Nat.reduceLeDiff, Nat.reduceMul, Nat.reduceLT, Int.reduceLT, Int.reduceLE, Int.reduceAdd, Int.reduceSub, Int.reduceMul, Int.reduceNeg, Int.reduceEq, Int.reduceNe, Int.reduceToNat, decide_true, decide_false, iaddr_i, iaddr_sl_i, not_true_eq_false, not_false_eq_true, reduceCtorEq, ne_eq, forall_const, false_imp_iff, true_imp_iff, implies_true, Int.cast_ofNat_Int, Int.natCast_zero, Int.natCast_one, Int.add_zero, Int.zero_add]
            rw [hnone]
            exact wkv_same
          · simp (maxSteps := 1000000) (disch := omega) only [c71l2, h0, h5, lst_len hl, hkI, go_sem, Option.map_none, Option.map_some, ↓reduceIte, Nat.reduceBEq, Nat.reduceAdd, Nat.reduceSub, Nat.reduceEqDiff, Nat.reduceLeDiff, Nat.reduceMul, Nat.reduceLT, Int.reduceLT, Int.reduceLE, Int.reduceAdd, Int.reduceSub, Int.reduceMul, Int.reduceNeg, Int.reduceEq, Int.reduceNe, Int.reduceToNat, decide_true, decide_false, iaddr_i, iaddr_sl_i, not_true_eq_false, not_false_eq_true, reduceCtorEq, ne_eq, forall_const, false_imp_iff, true_imp_iff, implies_true, Int.cast_ofNat_Int, Int.natCast_zero, Int.natCast_one, Int.add_zero, Int.zero_add]
            rw [hnone]
            exact wkv_same
      · cases h
    · cases h
  · cases h
end Go.Proofs.Ytapgkaecamljbaa

namespace Go.Proofs.Ytapgkaecamljbaa
open Go.RowKit
set_option linter.unusedSimpArgs false
set_option linter.unusedVariables false
set_option maxRecDepth 10000

/-- Some numbers are read, the rest is to come. -/
def goOn (pre r : List Int) : Option (List Int) := match allF r.length r with
  | some l => if (pre ++ l).length ≤ 128 then some (pre ++ l) else none
  | none => none
theorem goOn_start (b : List Int) : goOn [] b = unlebs b := rfl
theorem goOn_nil (pre : List Int) (h : pre.length ≤ 128) : goOn pre [] = some pre := by
  simp [goOn, allF, h]
theorem allF_cons {r : List Int} (h : r ≠ []) : allF r.length r = match getL r with
    | some (n, k) => (allF (r.length - 1) (r.drop k)).map (n :: ·)
    | none => none := by
  obtain ⟨f, hf⟩ : ∃ f, r.length = f + 1 := ⟨r.length - 1, by have := List.length_pos_iff.2 h; omega⟩
  rw [hf, allF, if_neg h, Nat.add_sub_cancel]
  first | done | (cases getL r <;> rfl)
theorem goOn_none {pre r : List Int} (h : r ≠ []) (hg : getL r = none) : goOn pre r = none := by
  simp only [goOn, allF_cons h, hg]
theorem goOn_some {pre r : List Int} {n : Int} {k : Nat} (h : r ≠ []) (hu : ∀ c ∈ r, u8 c) (hg : getL r = some (n, k)) : goOn pre r = goOn (pre ++ [n]) (r.drop k) := by
  obtain ⟨_, _, _, h1, h2⟩ := getL_some hu hg
  simp only [goOn, allF_cons h, hg]
  rw [allF_fuel (r.length - 1) (r.drop k).length (r.drop k) (fun c hc => hu c (List.mem_of_mem_drop hc)) (by rw [List.length_drop]; omega) (Nat.le_refl _)]
  cases allF (r.drop k).length (r.drop k) with
  | none => rfl
  | some l => simp
theorem goOn_full {pre r : List Int} (h : r ≠ []) (hp : 128 ≤ pre.length) : goOn pre r = none := by
  simp only [goOn, allF_cons h]
  cases getL r with
  | none => rfl
  | some q =>
    obtain ⟨n, k⟩ := q
    simp only
    cases allF (r.length - 1) (r.drop k) with
    | none => rfl
    | some l =>
      simp only [Option.map_some]
      rw [if_neg (by simp; omega)]
def lallS (z : Bool) : Spec := fun args S => match args with
  | [x] => match lstV byteE S x with
    | some b => if openQ S 1 x = true ∧ b.all (fun c => decide (u8 c)) = true ∧ b.length ≤ 1000000 then match unlebs b with
        | some l => some (.tu [retX z S l, .i .i64 0], retM z numE S l)
        | none => some (.tu [.sn, .i .i64 21], S)
      else none
    | none => none
  | _ => none
theorem lallS_eq {z : Bool} {S : Mem} {x : AV} {b : List Int} (hl : lstV byteE S x = some b) (ho : openQ S 1 x = true) (hu : ∀ c ∈ b, u8 c) (hlen : b.length ≤ 1000000) : lallS z [x] S = match unlebs b with
        | some l => some (.tu [retX z S l, .i .i64 0], retM z numE S l)
        | none => some (.tu [.sn, .i .i64 21], S) := by
  simp only [lallS, hl, if_pos (And.intro ho (And.intro (List.all_eq_true.2 fun c h => decide_eq_true (hu c h)) hlen))]
theorem numL_flat : ∀ (n : Nat) (a : Int), ∀ c ∈ numE.enc a, AV.Flat n c := by
  intro n a c hc
  have : c = .i .u64 a := by simpa [numE, intE] using hc
  rw [this]; exact Flat_i
theorem oLAll_ok : OK Try.prog (lamOf Try.prog) (orcOf [(67, getS)]) := orc_ok (by simpa using get_ok)
theorem lall_ok : SpecOK Try.prog 44 (lallS false) := by
  intro args S x S' h
  simp only [lallS] at h
  split at h
  · rename_i s
    split at h
    · rename_i b hl
      split at h
      · rename_i hc
        obtain ⟨ho, hu, hlen⟩ := hc
        have hu : ∀ c ∈ b, u8 c := fun c hc => of_decide_eq_true (List.all_eq_true.1 hu c hc)
        refine fn_of_wp f44 rfl (W_sound oLAll_ok mixed _ _ _ _ _ ?_)
        simp (maxSteps := 1000000) (disch := omega) only [c44, go_sem, Option.map_none, Option.map_some, ↓reduceIte, Nat.reduceBEq, Nat.reduceAdd, Nat.reduceSub, Nat.reduceEqDiff, Nat.reduceLeDiff, Nat.reduceMul, Nat.reduceLT, Int.reduceLT, Int.reduceLE, Int.reduceAdd, Int.reduceSub, Int.reduceMul, Int.reduceNeg, Int.reduceEq, Int.reduceNe, Int.reduceToNat, decide_true, decide_false, iaddr_i, iaddr_sl_i, not_true_eq_false, not_false_eq_true, reduceCtorEq, ne_eq, forall_const, false_imp_iff, true_imp_iff, implies_true, Int.cast_ofNat_Int, Int.natCast_zero, Int.natCast_one, Int.add_zero, Int.zero_add]
        refine wp_loop (fun j e M dl => dl = [] ∧ ∃ (pre r : List Int) (t y : AV), j = r.length ∧ r.length ≤ b.length ∧ pre.length ≤ 128 ∧ unlebs b = goOn pre r ∧ (∀ c ∈ r, u8 c) ∧ lstV byteE S t = some r ∧ openQ S 1 t = true ∧ Acc false numE S M y pre ∧
          e.get 0 = t ∧ e.get 4 = y) (j := b.length) ⟨rfl, [], b, s, .sn, rfl, Nat.le_refl _, by simp, (goOn_start b).symm, hu, hl, ho, acc_nil ext_refl, rfl, rfl⟩ ?_
        rintro j e M d' ⟨rfl, pre, r, t, y, rfl, hrb, hp, hgo, hur, ht, hot, hy, h0, h4⟩
        refine W_sound oLAll_ok mixed _ _ _ _ _ ?_
        have htM := lst_ext ht hy.ext
        by_cases hr : r = []
        · subst hr
          rw [hgo, goOn_nil _ hp] at h
          cases h
          simp (maxSteps := 1000000) (disch := omega) only [c44l0, h0, h4, lst_len htM, List.length_nil, go_sem, Option.map_none, Option.map_some, ↓reduceIte, Nat.reduceBEq, Nat.reduceAdd, Nat.reduceSub, Nat.reduceEqDiff, Nat.reduceLeDiff, Nat.reduceMul, Nat.reduceLT, Int.reduceLT, Int.reduceLE, Int.reduceAdd, Int.reduceSub, Int.reduceMul, Int.reduceNeg, Int.reduceEq, Int.reduceNe, Int.reduceToNat, decide_true, decide_false, iaddr_i, iaddr_sl_i, not_true_eq_false, not_false_eq_true, reduceCtorEq, ne_eq, forall_const, false_imp_iff, true_imp_iff, implies_true, Int.cast_ofNat_Int, Int.natCast_zero, Int.natCast_one, Int.add_zero, Int.zero_add]
          exact hy.ret2 numL_flat Flat_i
        · have hr0 : 0 < r.length := List.length_pos_iff.2 hr
          have hrI : (0 : Int) < r.length := by omega
          have hget := getS_eq htM (openQ_ext hot hy.ext) hur (by omega)
          cases hg : getL r with
          | none =>
            rw [hgo, goOn_none hr hg] at h
            cases h
            rw [hg] at hget
            simp only [got] at hget
            simp (maxSteps := 1000000) (disch := omega) only [c44l0, h0, h4, lst_len htM, hrI, orc_cons, hget, go_sem, Option.map_none, Option.map_some, ↓reduceIte, Nat.reduceBEq, Nat.reduceAdd, Nat.reduceSub, Nat.reduceEqDiff, Nat.reduceLeDiff, Nat.reduceMul, Nat.reduceLT, Int.reduceLT, Int.reduceLE, Int.reduceAdd, Int.reduceSub, Int.reduceMul, Int.reduceNeg, Int.reduceEq, Int.reduceNe, Int.reduceToNat, decide_true, decide_false, iaddr_i, iaddr_sl_i, not_true_eq_false, not_false_eq_true, reduceCtorEq, ne_eq, forall_const, false_imp_iff, true_imp_iff, implies_true, Int.cast_ofNat_Int, Int.natCast_zero, Int.natCast_one, Int.add_zero, Int.zero_add]
            exact wkv_dropP hy.ext rfl
          | some q =>
            obtain ⟨n, k⟩ := q
            rw [hg] at hget
            simp only [got] at hget
            by_cases hp1 : pre.length = 128
            · rw [hgo, goOn_full hr (by omega)] at h
              cases h
              have hpI : (128 : Int) ≤ pre.length := by omega
              simp (maxSteps := 1000000) (disch := omega) only [c44l0, h0, h4, lst_len htM, hrI, orc_cons, hget, lst_len hy.lst, hpI, go_sem, Option.map_none, Option.map_some, ↓reduceIte, Nat.reduceBEq, Nat.reduceAdd, Nat.reduceSub, Nat.reduceEqDiff, Nat.reduceLeDiff, Nat.reduceMul, Nat.reduceLT, Int.reduceLT, Int.reduceLE, Int.reduceAdd, Int.reduceSub, Int.reduceMul, Int.reduceNeg, Int.reduceEq, Int.reduceNe, Int.reduceToNat, decide_true, decide_false, iaddr_i, iaddr_sl_i, not_true_eq_false, not_false_eq_true, reduceCtorEq, ne_eq, forall_const, false_imp_iff, true_imp_iff, implies_true, Int.cast_ofNat_Int, Int.natCast_zero, Int.natCast_one, Int.add_zero, Int.zero_add]
              exact wkv_dropP hy.ext rfl
            · have hpI : ¬ (128 : Int) ≤ pre.length := by omega
              obtain ⟨_, _, _, hk0, hk1⟩ := getL_some hur hg
              obtain ⟨y', M', ha, hy'⟩ := (hy.grow [.cells [.i .u64 n] 0 none true]).app (bytes := 8) numE_one n (by omega) (by omega)
              have ha : appV (M ++ [.cells [.i .u64 n] 0 none true]) 1 8 y [.i .u64 n] 1 = some (y', M') := ha
              obtain ⟨t', ht', hlt', hot'⟩ := drop_lst ht hot (q := .i64) hk1
              obtain ⟨T, hT⟩ := hy'.ext
              have hsl : sliceV M' 1 t (some (.i .i64 (k : Int))) none none = some t' := by rw [← hT]; exact sliceV_grow T ht'
              simp (maxSteps := 1000000) (disch := omega) only [c44l0, h0, h4, lst_len htM, hrI, orc_cons, hget, lst_len hy.lst, hpI, List.replicate, ha, hsl, go_sem, Option.map_none, Option.map_some, ↓reduceIte, Nat.reduceBEq, Nat.reduceAdd, Nat.reduceSub, Nat.reduceEqDiff, Nat.reduceLeDiff, Nat.reduceMul, Nat.reduceLT, Int.reduceLT, Int.reduceLE, Int.reduceAdd, Int.reduceSub, Int.reduceMul, Int.reduceNeg, Int.reduceEq, Int.reduceNe, Int.reduceToNat, decide_true, decide_false, iaddr_i, iaddr_sl_i, not_true_eq_false, not_false_eq_true, reduceCtorEq, ne_eq, forall_const, false_imp_iff, true_imp_iff, implies_true, Int.cast_ofNat_Int, Int.natCast_zero, Int.natCast_one, Int.add_zero, Int.zero_add]
              refine ⟨(r.drop k).length, by rw [List.length_drop]; omega, pre ++ [n], r.drop k, t', y', rfl, by rw [List.length_drop]; omega, by rw [List.length_append, List.length_singleton]; omega, by rw [hgo, goOn_some hr hur hg], fun c hc => hur c (List.mem_of_mem_drop hc), hlt', hot', hy', rfl, rfl⟩
      · cases h
    · cases h
  · cases h
theorem oRLAll_ok : OK Try.prog (lamOf Try.prog) (orcOf [(71, getS)]) := orc_ok (by simpa using rget_ok)
theorem rlall_ok : SpecOK Try.prog 47 (lallS true) := by
  intro args S x S' h
  simp only [lallS] at h
  split at h
  · rename_i s
    split at h
    · rename_i b hl
      split at h
      · rename_i hc
        obtain ⟨ho, hu, hlen⟩ := hc
        have hu : ∀ c ∈ b, u8 c := fun c hc => of_decide_eq_true (List.all_eq_true.1 hu c hc)
        refine fn_of_wp f47 rfl (W_sound oRLAll_ok mixed _ _ _ _ _ ?_)
        simp (maxSteps := 1000000) (disch := omega) only [c47, go_sem, Option.map_none, Option.map_some, ↓reduceIte, Nat.reduceBEq, Nat.reduceAdd, Nat.reduceSub, Nat.reduceEqDiff, Nat.reduceLeDiff, Nat.reduceMul, Nat.reduceLT, Int.reduceLT, Int.reduceLE, Int.reduceAdd, Int.reduceSub, Int.reduceMul, Int.reduceNeg, Int.reduceEq, Int.reduceNe, Int.reduceToNat, decide_true, decide_false, iaddr_i, iaddr_sl_i, not_true_eq_false, not_false_eq_true, reduceCtorEq, ne_eq, forall_const, false_imp_iff, true_imp_iff, implies_true, Int.cast_ofNat_Int, Int.natCast_zero, Int.natCast_one, Int.add_zero, Int.zero_add]
        refine wp_loop (fun j e M dl => dl = [] ∧ ∃ (pre : List Int) (i : Nat) (y : AV), j = b.length - i ∧ i ≤ b.length ∧ pre.length ≤ 128 ∧ unlebs b = goOn pre (b.drop i) ∧ Acc true numE S M y pre ∧
          e.get 0 = s ∧ e.get 5 = .i .i64 i ∧ e.get 4 = y) (j := b.length) ⟨rfl, [], 0, .sl S.length 0 0 0 0 true, rfl, Nat.zero_le _, by simp, by rw [List.drop_zero]; exact (goOn_start b).symm, acc_lit ext_refl, rfl, rfl, rfl⟩ ?_
        rintro j e M d' ⟨rfl, pre, i, y, rfl, hib, hp, hgo, hy, h0, h5, h4⟩
        refine W_sound oRLAll_ok mixed _ _ _ _ _ ?_
        have hlM := lst_ext hl hy.ext
        by_cases hr : b.length ≤ i
        · rw [List.drop_of_length_le hr] at hgo
          rw [hgo, goOn_nil _ hp] at h
          cases h
          have hiI : ¬ (i : Int) < b.length := by omega
          simp (maxSteps := 1000000) (disch := omega) only [c47l0, h0, h4, h5, lst_len hlM, hiI, go_sem, Option.map_none, Option.map_some, ↓reduceIte, Nat.reduceBEq, Nat.reduceAdd, Nat.reduceSub, Nat.reduceEqDiff, Nat.reduceLeDiff, Nat.reduceMul, Nat.reduceLT, Int.reduceLT, Int.reduceLE, Int.reduceAdd, Int.reduceSub, Int.reduceMul, Int.reduceNeg, Int.reduceEq, Int.reduceNe, Int.reduceToNat, decide_true, decide_false, iaddr_i, iaddr_sl_i, not_true_eq_false, not_false_eq_true, reduceCtorEq, ne_eq, forall_const, false_imp_iff, true_imp_iff, implies_true, Int.cast_ofNat_Int, Int.natCast_zero, Int.natCast_one, Int.add_zero, Int.zero_add]
          exact hy.ret2 numL_flat Flat_i
        · have hiI : (i : Int) < b.length := by omega
          have hur : ∀ c ∈ b.drop i, u8 c := fun c hc => hu c (List.mem_of_mem_drop hc)
          have hr : b.drop i ≠ [] := fun e => hr (by have := congrArg List.length e; rw [List.length_drop] at this; simp at this; omega)
          obtain ⟨t, hst, htM, hot⟩ := drop_lst hlM (openQ_ext ho hy.ext) (q := .i64) hib
          have hst : sliceV M 1 s (some (.i .i64 (i : Int))) none none = some t := hst
          have hget := getS_eq htM hot hur (by rw [List.length_drop]; omega)
          cases hg : getL (b.drop i) with
          | none =>
            rw [hgo, goOn_none hr hg] at h
            cases h
            rw [hg] at hget
            simp only [got] at hget
            simp (maxSteps := 1000000) (disch := omega) only [c47l0, h0, h4, h5, lst_len hlM, hiI, hst, orc_cons, hget, go_sem, Option.map_none, Option.map_some, ↓reduceIte, Nat.reduceBEq, Nat.reduceAdd, Nat.reduceSub, Nat.reduceEqDiff, Nat.reduceLeDiff, Nat.reduceMul, Nat.reduceLT, Int.reduceLT, Int.reduceLE, Int.reduceAdd, Int.reduceSub, Int.reduceMul, Int.reduceNeg, Int.reduceEq, Int.reduceNe, Int.reduceToNat, decide_true, decide_false, iaddr_i, iaddr_sl_i, not_true_eq_false, not_false_eq_true, reduceCtorEq, ne_eq, forall_const, false_imp_iff, true_imp_iff, implies_true, Int.cast_ofNat_Int, Int.natCast_zero, Int.natCast_one, Int.add_zero, Int.zero_add]
            exact wkv_dropP hy.ext rfl
          | some q =>
            obtain ⟨n, k⟩ := q
            rw [hg] at hget
            simp only [got] at hget
            by_cases hp1 : pre.length = 128
            · rw [hgo, goOn_full hr (by omega)] at h
              cases h
              have hpI : (pre.length : Int) = 128 := by omega
              simp (maxSteps := 1000000) (disch := omega) only [c47l0, h0, h4, h5, lst_len hlM, hiI, hst, orc_cons, hget, lst_len hy.lst, hpI, go_sem, Option.map_none, Option.map_some, ↓reduceIte, Nat.reduceBEq, Nat.reduceAdd, Nat.reduceSub, Nat.reduceEqDiff, Nat.reduceLeDiff, Nat.reduceMul, Nat.reduceLT, Int.reduceLT, Int.reduceLE, Int.reduceAdd, Int.reduceSub, Int.reduceMul, Int.reduceNeg, Int.reduceEq, Int.reduceNe, Int.reduceToNat, decide_true, decide_false, iaddr_i, iaddr_sl_i, not_true_eq_false, not_false_eq_true, reduceCtorEq, ne_eq, forall_const, false_imp_iff, true_imp_iff, implies_true, Int.cast_ofNat_Int, Int.natCast_zero, Int.natCast_one, Int.add_zero, Int.zero_add]
              exact wkv_dropP hy.ext rfl
            · have hpI : ¬ (pre.length : Int) = 128 := by omega
              obtain ⟨_, _, _, hk0, hk1⟩ := getL_some hur hg
              rw [List.length_drop] at hk1
              obtain ⟨y', M', ha, hy'⟩ := (hy.grow [.cells [.i .u64 n] 0 none true]).app (bytes := 8) numE_one n (by omega) (by omega)
              have ha : appV (M ++ [.cells [.i .u64 n] 0 none true]) 1 8 y [.i .u64 n] 1 = some (y', M') := ha
              have hwi : wrapV .i64 ((i : Int) + (k : Int)) = ((i + k : Nat) : Int) := by rw [wrap_i64 (by omega) (by omega)]; omega
              simp (maxSteps := 1000000) (disch := omega) only [c47l0, h0, h4, h5, lst_len hlM, hiI, hst, orc_cons, hget, lst_len hy.lst, hpI, List.replicate, ha, hwi, go_sem, Option.map_none, Option.map_some, ↓reduceIte, Nat.reduceBEq, Nat.reduceAdd, Nat.reduceSub, Nat.reduceEqDiff, Nat.reduceLeDiff, Nat.reduceMul, Nat.reduceLT, Int.reduceLT, Int.reduceLE, Int.reduceAdd, Int.reduceSub, Int.reduceMul, Int.reduceNeg, Int.reduceEq, Int.reduceNe, Int.reduceToNat, decide_true, decide_false, iaddr_i, iaddr_sl_i, not_true_eq_false, not_false_eq_true, reduceCtorEq, ne_eq, forall_const, false_imp_iff, true_imp_iff, implies_true, Int.cast_ofNat_Int, Int.natCast_zero, Int.natCast_one, Int.add_zero, Int.zero_add]
              refine ⟨b.length - (i + k), by omega, pre ++ [n], i + k, y', rfl, by omega, by rw [List.length_append, List.length_singleton]; omega, by rw [hgo, goOn_some hr hur hg, List.drop_drop], hy', rfl, rfl⟩
      · cases h
    · cases h
  · cases h
end Go.Proofs.Ytapgkaecamljbaa

namespace Go.Proofs.Ytapgkaecamljbaa
open Go.RowKit
set_option linter.unusedSimpArgs false
set_option linter.unusedVariables false
set_option maxRecDepth 10000

/-! ### sat.Int -/
def satS : Spec := fun args S => match args with
  | [.i .u64 n] => if u64 n then (if n ≤ 9223372036854775807 then some (.tu [.i .i64 n, .b true], S) else some (.tu [.i .i64 0, .b false], S)) else none
  | _ => none
theorem sat_ok : SpecOK Try.prog 69 satS := by
  intro args S x S' h
  simp only [satS] at h
  split at h
  · rename_i n
    split at h
    · rename_i hn
      obtain ⟨h0, h1⟩ := hn
      refine fn_of_wp f69 rfl (W_sound none_ok mixed _ _ _ _ _ ?_)
      split at h
      · rename_i hc
        cases h
        have hc' : ¬ (9223372036854775807 : Int) < n := by omega
        simp (maxSteps := 1000000) (disch := omega) only [c69, hc', wrap_i64, go_sem, Option.map_none, Option.map_some, ↓reduceIte, Nat.reduceBEq, Nat.reduceAdd, Nat.reduceSub, Nat.reduceEqDiff, Nat.reduceLeDiff, Nat.reduceMul, Nat.reduceLT, Int.reduceLT, Int.reduceLE, Int.reduceAdd, Int.reduceSub, Int.reduceMul, Int.reduceNeg, Int.reduceEq, Int.reduceNe, Int.reduceToNat, decide_true, decide_false, iaddr_i, iaddr_sl_i, not_true_eq_false, not_false_eq_true, reduceCtorEq, ne_eq, forall_const, false_imp_iff, true_imp_iff, implies_true, Int.cast_ofNat_Int, Int.natCast_zero, Int.natCast_one, Int.add_zero, Int.zero_add]
        exact wkv_same
      · rename_i hc
        cases h
        have hc' : (9223372036854775807 : Int) < n := by omega
        simp (maxSteps := 1000000) (disch := omega) only [c69, hc', go_sem, Option.map_none, Option.map_some, ↓reduceIte, Nat.reduceBEq, Nat.reduceAdd, Nat.reduceSub, Nat.reduceEqDiff, Nat.reduceLeDiff, Nat.reduceMul, Nat.reduceLT, Int.reduceLT, Int.reduceLE, Int.reduceAdd, Int.reduceSub, Int.reduceMul, Int.reduceNeg, Int.reduceEq, Int.reduceNe, Int.reduceToNat, decide_true, decide_false, iaddr_i, iaddr_sl_i, not_true_eq_false, not_false_eq_true, reduceCtorEq, ne_eq, forall_const, false_imp_iff, true_imp_iff, implies_true, Int.cast_ofNat_Int, Int.natCast_zero, Int.natCast_one, Int.add_zero, Int.zero_add]
        exact wkv_same
    · cases h
  · cases h

theorem sat_case {n : Int} (h : u64 n) : ∃ (n' : Int) (ok : Bool), (∀ M, satS [.i .u64 n] M = some (.tu [.i .i64 n', .b ok], M)) ∧ (ok = true → n' = n) ∧ (ok = false → 255 < n) := by
  by_cases hc : n ≤ 9223372036854775807
  · exact ⟨n, true, fun M => by simp only [satS, if_pos h, if_pos hc], fun _ => rfl, fun h => by cases h⟩
  · exact ⟨0, false, fun M => by simp only [satS, if_pos h, if_neg hc], fun h => (by cases h), fun _ => by omega⟩

/-! ### policy.Of -/
def Pol.mk10 (s n b r bu sr sb q le qu : Int) : Pol := ⟨s, b3 n, b2 n, b1 n, b0 n, b, r, bu, sr, sb, q, le, qu⟩
def Pol.zero : Pol := ⟨0, 0, 0, 0, 0, 0, 0, 0, 0, 0, 0, 0, 0⟩
def Pol.of (l : List Int) : Option Pol := match l with
  | [s, n, b, r, bu, sr, sb, q, le, qu] => if n ≤ 4294967295 ∧ (Pol.mk10 s n b r bu sr sb q le qu).right then some (Pol.mk10 s n b r bu sr sb q le qu) else none
  | _ => none
def polOr : Option Pol → AV
  | some p => .tu [.ag p.enc, .i .i64 0]
  | none => .tu [.ag Pol.zero.enc, .i .i64 111]
def polOfS : Spec := fun args S => match args with
  | [x] => match lstV numE S x with
    | some l => if l.all (fun n => decide (u64 n)) = true then some (polOr (Pol.of l), S) else none
    | none => none
  | _ => none
theorem polOfS_eq {S : Mem} {x : AV} {l : List Int} (hl : lstV numE S x = some l) (hu : ∀ n ∈ l, u64 n) : polOfS [x] S = some (polOr (Pol.of l), S) := by
  simp only [polOfS, hl, if_pos (List.all_eq_true.2 fun n h => decide_eq_true (hu n h))]
theorem polOr_flat (o : Option Pol) (n : Nat) : (polOr o).flat n := by
  cases o <;> rfl
theorem Pol.of_len {l : List Int} (h : l.length ≠ 10) : Pol.of l = none := by
  unfold Pol.of
  split
  · exact absurd rfl h
  · rfl
theorem oOf_ok : OK Try.prog (lamOf Try.prog) (orcOf [(69, satS), (70, ofS), (59, polS)]) := orc_ok (by simpa using ⟨sat_ok, of_ok, pol_ok⟩)
theorem polOf_ok : SpecOK Try.prog 46 polOfS := by
  intro args S x S' h
  simp only [polOfS] at h
  split at h
  · rename_i t
    split at h
    · rename_i l hl
      split at h
      · rename_i hu
        have hu : ∀ n ∈ l, u64 n := fun n hn => of_decide_eq_true (List.all_eq_true.1 hu n hn)
        cases h
        refine fn_of_wp f46 rfl (W_sound oOf_ok mixed _ _ _ _ _ ?_)
        have hl' := lst_len hl
        by_cases h10 : l.length = 10
        · match l, h10 with
          | [s, n, b, r, bu, sr, sb, q, le, qu], _ =>
            have hus := hu s (by simp)
            have hun := hu n (by simp)
            have hub := hu b (by simp)
            obtain ⟨bi, o, v, cap, ex, rfl⟩ := lst_sl hl (k := 0) (by simp)
            have hc : ∀ (k : Nat) (hk : k < 10) L, cellB ((S ++ L)[bi]?) (o + k) v = some (.i .u64 ([s, n, b, r, bu, sr, sb, q, le, qu][k])) := fun k hk L => lstV_cell hl rfl (fun a => rfl) (by simpa using hk) L
            have c0 := fun L => hc 0 (by omega) L
            have c1 := fun L => hc 1 (by omega) L
            have c2 := fun L => hc 2 (by omega) L
            have c3 := fun L => hc 3 (by omega) L
            have c4 := fun L => hc 4 (by omega) L
            have c5 := fun L => hc 5 (by omega) L
            have c6 := fun L => hc 6 (by omega) L
            have c7 := fun L => hc 7 (by omega) L
            have c8 := fun L => hc 8 (by omega) L
            have c9 := fun L => hc 9 (by omega) L
            simp only [List.getElem_cons_zero, List.getElem_cons_succ, Nat.add_zero] at c0 c1 c2 c3 c4 c5 c6 c7 c8 c9
            clear hc
            simp only [List.length_cons, List.length_nil, Nat.zero_add, Nat.reduceAdd] at hl hl' ⊢
            by_cases hn : n ≤ 4294967295
            · have hnI : ¬ (4294967295 : Int) < n := by omega
              have hn32 : u32 n := ⟨hun.1, by omega⟩
              have hw : wrapV .u32 n = n := wrap_u32 hun.1 (by omega)
              have hadr := fun M => ofS_eq hn32 M
              simp only [adr] at hadr
              obtain ⟨s', oks, hs, hs1, hs2⟩ := sat_case hus
              obtain ⟨b', okb, hb, hb1, hb2⟩ := sat_case hub
              cases oks with
              | false =>
                have hof : Pol.of [s, n, b, r, bu, sr, sb, q, le, qu] = none := by
                  simp only [Pol.of]; rw [if_neg fun h => by have h1 := h.2.2.1; have h2 := hs2 rfl; simp only [Pol.mk10] at h1; omega]
                simp (maxSteps := 1000000) (disch := omega) only [c46, hl', List.replicate, c0, c1, c2, c3, c4, c5, c6, c7, c8, c9, hnI, orc_cons, hs, hb, hw, hadr, go_sem, Option.map_none, Option.map_some, ↓reduceIte, Nat.reduceBEq, Nat.reduceAdd, Nat.reduceSub, Nat.reduceEqDiff, Nat.reduceLeDiff, Nat.reduceMul, Nat.reduceLT, Int.reduceLT, Int.reduceLE, Int.reduceAdd, Int.reduceSub, Int.reduceMul, Int.reduceNeg, Int.reduceEq, Int.reduceNe, Int.reduceToNat, decide_true, decide_false, iaddr_i, iaddr_sl_i, not_true_eq_false, not_false_eq_true, reduceCtorEq, ne_eq, forall_const, false_imp_iff, true_imp_iff, implies_true, Int.cast_ofNat_Int, Int.natCast_zero, Int.natCast_one, Int.add_zero, Int.zero_add]
                rw [hof]
                exact wkv_drop (polOr_flat _ _)
              | true =>
                obtain rfl := hs1 rfl
                cases okb with
                | false =>
                  have hof : Pol.of [s', n, b, r, bu, sr, sb, q, le, qu] = none := by
                    simp only [Pol.of]; rw [if_neg fun h => by have h1 := h.2.2.2.1.1; have h2 := hb2 rfl; have h3 := cl_bound b; simp only [Pol.mk10] at h1; omega]
                  simp (maxSteps := 1000000) (disch := omega) only [c46, hl', List.replicate, c0, c1, c2, c3, c4, c5, c6, c7, c8, c9, hnI, orc_cons, hs, hb, hw, hadr, go_sem, Option.map_none, Option.map_some, ↓reduceIte, Nat.reduceBEq, Nat.reduceAdd, Nat.reduceSub, Nat.reduceEqDiff, Nat.reduceLeDiff, Nat.reduceMul, Nat.reduceLT, Int.reduceLT, Int.reduceLE, Int.reduceAdd, Int.reduceSub, Int.reduceMul, Int.reduceNeg, Int.reduceEq, Int.reduceNe, Int.reduceToNat, decide_true, decide_false, iaddr_i, iaddr_sl_i, not_true_eq_false, not_false_eq_true, reduceCtorEq, ne_eq, forall_const, false_imp_iff, true_imp_iff, implies_true, Int.cast_ofNat_Int, Int.natCast_zero, Int.natCast_one, Int.add_zero, Int.zero_add]
                  rw [hof]
                  exact wkv_drop (polOr_flat _ _)
                | true =>
                  obtain rfl := hb1 rfl
                  have hfit : (Pol.mk10 s' n b' r bu sr sb q le qu).fits := u84_b hn32
                  have hpol := fun M => polS_eq hfit M
                  by_cases hr : (Pol.mk10 s' n b' r bu sr sb q le qu).right
                  · have hof : Pol.of [s', n, b', r, bu, sr, sb, q, le, qu] = some (Pol.mk10 s' n b' r bu sr sb q le qu) := by
                      simp only [Pol.of]; rw [if_pos ⟨hn, hr⟩]
                    have hd : decide (Pol.mk10 s' n b' r bu sr sb q le qu).right = true := decide_eq_true hr
                    simp only [hd] at hpol
                    simp only [Pol.mk10, Pol.enc] at hpol
                    simp (maxSteps := 1000000) (disch := omega) only [c46, hl', List.replicate, c0, c1, c2, c3, c4, c5, c6, c7, c8, c9, hnI, orc_cons, hs, hb, hw, hadr, hpol, go_sem, Option.map_none, Option.map_some, ↓reduceIte, Nat.reduceBEq, Nat.reduceAdd, Nat.reduceSub, Nat.reduceEqDiff, Nat.reduceLeDiff, Nat.reduceMul, Nat.reduceLT, Int.reduceLT, Int.reduceLE, Int.reduceAdd, Int.reduceSub, Int.reduceMul, Int.reduceNeg, Int.reduceEq, Int.reduceNe, Int.reduceToNat, decide_true, decide_false, iaddr_i, iaddr_sl_i, not_true_eq_false, not_false_eq_true, reduceCtorEq, ne_eq, forall_const, false_imp_iff, true_imp_iff, implies_true, Int.cast_ofNat_Int, Int.natCast_zero, Int.natCast_one, Int.add_zero, Int.zero_add]
                    rw [hof]
                    exact wkv_drop (polOr_flat _ _)
                  · have hof : Pol.of [s', n, b', r, bu, sr, sb, q, le, qu] = none := by
                      simp only [Pol.of]; rw [if_neg fun h => hr h.2]
                    have hd : decide (Pol.mk10 s' n b' r bu sr sb q le qu).right = false := decide_eq_false hr
                    simp only [hd] at hpol
                    simp only [Pol.mk10, Pol.enc] at hpol
                    simp (maxSteps := 1000000) (disch := omega) only [c46, hl', List.replicate, c0, c1, c2, c3, c4, c5, c6, c7, c8, c9, hnI, orc_cons, hs, hb, hw, hadr, hpol, go_sem, Option.map_none, Option.map_some, ↓reduceIte, Nat.reduceBEq, Nat.reduceAdd, Nat.reduceSub, Nat.reduceEqDiff, Nat.reduceLeDiff, Nat.reduceMul, Nat.reduceLT, Int.reduceLT, Int.reduceLE, Int.reduceAdd, Int.reduceSub, Int.reduceMul, Int.reduceNeg, Int.reduceEq, Int.reduceNe, Int.reduceToNat, decide_true, decide_false, iaddr_i, iaddr_sl_i, not_true_eq_false, not_false_eq_true, reduceCtorEq, ne_eq, forall_const, false_imp_iff, true_imp_iff, implies_true, Int.cast_ofNat_Int, Int.natCast_zero, Int.natCast_one, Int.add_zero, Int.zero_add]
                    rw [hof]
                    exact wkv_drop (polOr_flat _ _)
            · have hnI : (4294967295 : Int) < n := by omega
              have hof : Pol.of [s, n, b, r, bu, sr, sb, q, le, qu] = none := by simp only [Pol.of]; rw [if_neg fun h => hn h.1]
              simp (maxSteps := 1000000) (disch := omega) only [c46, hl', List.replicate, c0, c1, hnI, go_sem, Option.map_none, Option.map_some, ↓reduceIte, Nat.reduceBEq, Nat.reduceAdd, Nat.reduceSub, Nat.reduceEqDiff, Nat.reduceLeDiff, Nat.reduceMul, Nat.reduceLT, Int.reduceLT, Int.reduceLE, Int.reduceAdd, Int.reduceSub, Int.reduceMul, Int.reduceNeg, Int.reduceEq, Int.reduceNe, Int.reduceToNat, decide_true, decide_false, iaddr_i, iaddr_sl_i, not_true_eq_false, not_false_eq_true, reduceCtorEq, ne_eq, forall_const, false_imp_iff, true_imp_iff, implies_true, Int.cast_ofNat_Int, Int.natCast_zero, Int.natCast_one, Int.add_zero, Int.zero_add]
              rw [hof]
              exact wkv_drop (polOr_flat _ _)
        · have h10I : ¬ (l.length : Int) = 10 := by omega
          simp (maxSteps := 1000000) (disch := omega) only [c46, hl', List.replicate, h10I, go_sem, Option.map_none, Option.map_some, ↓reduceIte, Nat.reduceBEq, Nat.reduceAdd, Nat.reduceSub, Nat.reduceEqDiff, Nat.reduceLeDiff, Nat.reduceMul, Nat.reduceLT, Int.reduceLT, Int.reduceLE, Int.reduceAdd, Int.reduceSub, Int.reduceMul, Int.reduceNeg, Int.reduceEq, Int.reduceNe, Int.reduceToNat, decide_true, decide_false, iaddr_i, iaddr_sl_i, not_true_eq_false, not_false_eq_true, reduceCtorEq, ne_eq, forall_const, false_imp_iff, true_imp_iff, implies_true, Int.cast_ofNat_Int, Int.natCast_zero, Int.natCast_one, Int.add_zero, Int.zero_add]
          rw [Pol.of_len h10]
          exact wkv_drop (polOr_flat _ _)
      · cases h
    · cases h
  · cases h
/-! ### The document's -/
theorem oROf_ok : OK Try.prog (lamOf Try.prog) (orcOf [(72, ofS), (63, polS)]) := orc_ok (by simpa using ⟨rof_ok, rpol_ok⟩)
theorem rpolOf_ok : SpecOK Try.prog 48 polOfS := by
  intro args S x S' h
  simp only [polOfS] at h
  split at h
  · rename_i t
    split at h
    · rename_i l hl
      split at h
      · rename_i hu
        have hu : ∀ n ∈ l, u64 n := fun n hn => of_decide_eq_true (List.all_eq_true.1 hu n hn)
        cases h
        refine fn_of_wp f48 rfl (W_sound oROf_ok mixed _ _ _ _ _ ?_)
        have hl' := lst_len hl
        by_cases h10 : l.length = 10
        · match l, h10 with
          | [s, n, b, r, bu, sr, sb, q, le, qu], _ =>
            have hus := hu s (by simp)
            have hun := hu n (by simp)
            have hub := hu b (by simp)
            obtain ⟨bi, o, v, cap, ex, rfl⟩ := lst_sl hl (k := 0) (by simp)
            have hc : ∀ (k : Nat) (hk : k < 10) L, cellB ((S ++ L)[bi]?) (o + k) v = some (.i .u64 ([s, n, b, r, bu, sr, sb, q, le, qu][k])) := fun k hk L => lstV_cell hl rfl (fun a => rfl) (by simpa using hk) L
            have c0 := fun L => hc 0 (by omega) L
            have c1 := fun L => hc 1 (by omega) L
            have c2 := fun L => hc 2 (by omega) L
            have c3 := fun L => hc 3 (by omega) L
            have c4 := fun L => hc 4 (by omega) L
            have c5 := fun L => hc 5 (by omega) L
            have c6 := fun L => hc 6 (by omega) L
            have c7 := fun L => hc 7 (by omega) L
            have c8 := fun L => hc 8 (by omega) L
            have c9 := fun L => hc 9 (by omega) L
            simp only [List.getElem_cons_zero, List.getElem_cons_succ, Nat.add_zero] at c0 c1 c2 c3 c4 c5 c6 c7 c8 c9
            clear hc
            simp only [List.length_cons, List.length_nil, Nat.zero_add, Nat.reduceAdd] at hl hl' ⊢
            by_cases hs : s ≤ 255
            · have hsI : ¬ (255 : Int) < s := by omega
              by_cases hn : n ≤ 4294967295
              · have hnI : ¬ (4294967295 : Int) < n := by omega
                by_cases hb : b ≤ 32
                · have hbI : ¬ (32 : Int) < b := by omega
                  have hn32 : u32 n := ⟨hun.1, by omega⟩
                  have hw : wrapV .u32 n = n := wrap_u32 hun.1 (by omega)
                  have hw1 : wrapV .i64 s = s := wrap_i64 (by have := hus.1; omega) (by omega)
                  have hw2 : wrapV .i64 b = b := wrap_i64 (by have := hub.1; omega) (by omega)
                  have hadr := fun M => ofS_eq hn32 M
                  simp only [adr] at hadr
                  have hfit : (Pol.mk10 s n b r bu sr sb q le qu).fits := u84_b hn32
                  have hpol := fun M => polS_eq hfit M
                  by_cases hr : (Pol.mk10 s n b r bu sr sb q le qu).right
                  · have hof : Pol.of [s, n, b, r, bu, sr, sb, q, le, qu] = some (Pol.mk10 s n b r bu sr sb q le qu) := by
                      simp only [Pol.of]; rw [if_pos ⟨hn, hr⟩]
                    have hd : decide (Pol.mk10 s n b r bu sr sb q le qu).right = true := decide_eq_true hr
                    simp only [hd] at hpol
                    simp only [Pol.mk10, Pol.enc] at hpol
                    simp (maxSteps := 1000000) (disch := omega) only [c48, hl', List.replicate, c0, c1, c2, c3, c4, c5, c6, c7, c8, c9, hsI, hnI, hbI, orc_cons, hw, hw1, hw2, hadr, hpol, go_sem, Option.map_none, Option.map_some, ↓reduceIte, Nat.reduceBEq, Nat.reduceAdd, Nat.reduceSub, Nat.reduceEqDiff, Nat.reduceLeDiff, Nat.reduceMul, Nat.reduceLT, Int.reduceLT, Int.reduceLE, Int.reduceAdd, Int.reduceSub, Int.reduceMul, Int.reduceNeg, Int.reduceEq, Int.reduceNe, Int.reduceToNat, decide_true, decide_false, iaddr_i, iaddr_sl_i, not_true_eq_false, not_false_eq_true, reduceCtorEq, ne_eq, forall_const, false_imp_iff, true_imp_iff, implies_true, Int.cast_ofNat_Int, Int.natCast_zero, Int.natCast_one, Int.add_zero, Int.zero_add]
                    rw [hof]
                    exact wkv_drop (polOr_flat _ _)
                  · have hof : Pol.of [s, n, b, r, bu, sr, sb, q, le, qu] = none := by
                      simp only [Pol.of]; rw [if_neg fun h => hr h.2]
                    have hd : decide (Pol.mk10 s n b r bu sr sb q le qu).right = false := decide_eq_false hr
                    simp only [hd] at hpol
                    simp only [Pol.mk10, Pol.enc] at hpol
                    simp (maxSteps := 1000000) (disch := omega) only [c48, hl', List.replicate, c0, c1, c2, c3, c4, c5, c6, c7, c8, c9, hsI, hnI, hbI, orc_cons, hw, hw1, hw2, hadr, hpol, go_sem, Option.map_none, Option.map_some, ↓reduceIte, Nat.reduceBEq, Nat.reduceAdd, Nat.reduceSub, Nat.reduceEqDiff, Nat.reduceLeDiff, Nat.reduceMul, Nat.reduceLT, Int.reduceLT, Int.reduceLE, Int.reduceAdd, Int.reduceSub, Int.reduceMul, Int.reduceNeg, Int.reduceEq, Int.reduceNe, Int.reduceToNat, decide_true, decide_false, iaddr_i, iaddr_sl_i, not_true_eq_false, not_false_eq_true, reduceCtorEq, ne_eq, forall_const, false_imp_iff, true_imp_iff, implies_true, Int.cast_ofNat_Int, Int.natCast_zero, Int.natCast_one, Int.add_zero, Int.zero_add]
                    rw [hof]
                    exact wkv_drop (polOr_flat _ _)
                · have hbI : (32 : Int) < b := by omega
                  have hof : Pol.of [s, n, b, r, bu, sr, sb, q, le, qu] = none := by
                    simp only [Pol.of]; rw [if_neg fun h => by have h1 := h.2.2.2.1.1; have h3 := cl_bound b; simp only [Pol.mk10] at h1; omega]
                  simp (maxSteps := 1000000) (disch := omega) only [c48, hl', List.replicate, c0, c1, c2, hsI, hnI, hbI, go_sem, Option.map_none, Option.map_some, ↓reduceIte, Nat.reduceBEq, Nat.reduceAdd, Nat.reduceSub, Nat.reduceEqDiff, Nat.reduceLeDiff, Nat.reduceMul, Nat.reduceLT, Int.reduceLT, Int.reduceLE, Int.reduceAdd, Int.reduceSub, Int.reduceMul, Int.reduceNeg, Int.reduceEq, Int.reduceNe, Int.reduceToNat, decide_true, decide_false, iaddr_i, iaddr_sl_i, not_true_eq_false, not_false_eq_true, reduceCtorEq, ne_eq, forall_const, false_imp_iff, true_imp_iff, implies_true, Int.cast_ofNat_Int, Int.natCast_zero, Int.natCast_one, Int.add_zero, Int.zero_add]
                  rw [hof]
                  exact wkv_drop (polOr_flat _ _)
              · have hnI : (4294967295 : Int) < n := by omega
                have hof : Pol.of [s, n, b, r, bu, sr, sb, q, le, qu] = none := by simp only [Pol.of]; rw [if_neg fun h => hn h.1]
                simp (maxSteps := 1000000) (disch := omega) only [c48, hl', List.replicate, c0, c1, hsI, hnI, go_sem, Option.map_none, Option.map_some, ↓reduceIte, Nat.reduceBEq, Nat.reduceAdd, Nat.reduceSub, Nat.reduceEqDiff, Nat.reduceLeDiff, Nat.reduceMul, Nat.reduceLT, Int.reduceLT, Int.reduceLE, Int.reduceAdd, Int.reduceSub, Int.reduceMul, Int.reduceNeg, Int.reduceEq, Int.reduceNe, Int.reduceToNat, decide_true, decide_false, iaddr_i, iaddr_sl_i, not_true_eq_false, not_false_eq_true, reduceCtorEq, ne_eq, forall_const, false_imp_iff, true_imp_iff, implies_true, Int.cast_ofNat_Int, Int.natCast_zero, Int.natCast_one, Int.add_zero, Int.zero_add]
                rw [hof]
                exact wkv_drop (polOr_flat _ _)
            · have hsI : (255 : Int) < s := by omega
              have hof : Pol.of [s, n, b, r, bu, sr, sb, q, le, qu] = none := by
                simp only [Pol.of]; rw [if_neg fun h => by have h1 := h.2.2.1; simp only [Pol.mk10] at h1; omega]
              simp (maxSteps := 1000000) (disch := omega) only [c48, hl', List.replicate, c0, hsI, go_sem, Option.map_none, Option.map_some, ↓reduceIte, Nat.reduceBEq, Nat.reduceAdd, Nat.reduceSub, Nat.reduceEqDiff, Nat.reduceLeDiff, Nat.reduceMul, Nat.reduceLT, Int.reduceLT, Int.reduceLE, Int.reduceAdd, Int.reduceSub, Int.reduceMul, Int.reduceNeg, Int.reduceEq, Int.reduceNe, Int.reduceToNat, decide_true, decide_false, iaddr_i, iaddr_sl_i, not_true_eq_false, not_false_eq_true, reduceCtorEq, ne_eq, forall_const, false_imp_iff, true_imp_iff, implies_true, Int.cast_ofNat_Int, Int.natCast_zero, Int.natCast_one, Int.add_zero, Int.zero_add]
              rw [hof]
              exact wkv_drop (polOr_flat _ _)
        · have h10I : ¬ (l.length : Int) = 10 := by omega
          simp (maxSteps := 1000000) (disch := omega) only [c48, hl', List.replicate, h10I, go_sem, Option.map_none, Option.map_some, ↓reduceIte, Nat.reduceBEq, Nat.reduceAdd, Nat.reduceSub, Nat.reduceEqDiff, Nat.reduceLeDiff, Nat.reduceMul, Nat.reduceLT, Int.reduceLT, Int.reduceLE, Int.reduceAdd, Int.reduceSub, Int.reduceMul, Int.reduceNeg, Int.reduceEq, Int.reduceNe, Int.reduceToNat, decide_true, decide_false, iaddr_i, iaddr_sl_i, not_true_eq_false, not_false_eq_true, reduceCtorEq, ne_eq, forall_const, false_imp_iff, true_imp_iff, implies_true, Int.cast_ofNat_Int, Int.natCast_zero, Int.natCast_one, Int.add_zero, Int.zero_add]
          rw [Pol.of_len h10]
          exact wkv_drop (polOr_flat _ _)
      · cases h
    · cases h
  · cases h
end Go.Proofs.Ytapgkaecamljbaa

namespace Go.Proofs.Ytapgkaecamljbaa
open Go.RowKit
set_option linter.unusedSimpArgs false
set_option linter.unusedVariables false
set_option maxRecDepth 10000

/-! ### Lists that are built, and other blocks -/
section
variable {α : Type} {E : Enc α} {S M : Mem}
theorem Acc.app' {bytes : Nat} {x : AV} {l : List α} (hE : ∀ a, (E.enc a).all AV.one = true) (h : Acc false E S M x l) (a : α) (h1 : (l.length + 1) * bytes ≤ 70368744177664) (h2 : l.length + 1 ≤ 70368744177664) :
    ∃ x' M', appV M E.sz bytes x (E.enc a) 1 = some (x', M') ∧ Acc false E S M' x' (l ++ [a]) ∧ ∀ (ib : Nat) (B : Blk), M[ib]? = some B → B.opn = none → M'[ib]? = some B := by
  obtain ⟨x', M', ha, hA⟩ := h.app (bytes := bytes) hE a h1 h2
  refine ⟨x', M', ha, hA, fun ib B hB hn => ?_⟩
  obtain ⟨T, rfl, ⟨rfl, _, rfl⟩ | ⟨_, hz, _⟩ | ⟨h0, p, v, rfl, hp⟩⟩ := h
  · rw [app_sn (by omega) (by simpa using h1) (by omega)] at ha
    simp only [Option.some.injEq, Prod.mk.injEq] at ha
    rw [← ha.2]
    exact at_old hB
  · cases hz
  · have h1' : (l.length + 1) * bytes ≤ lim := h1
    have h2' : l.length + 1 ≤ lim := h2
    have hc : (S ++ T)[S.length + p]? = some (.cells (l.flatMap E.enc) v (some E.sz) true) := by rw [at_app]; exact hp
    simp only [appV] at ha
    rw [if_neg (by omega), if_neg (by omega), if_pos ⟨h1', h2'⟩] at ha
    simp only [hc, Bool.false_eq_true, if_false] at ha
    rw [if_pos ⟨trivial, trivial, trivial, by rw [enc_length]; omega, hE a⟩] at ha
    simp only [Option.some.injEq, Prod.mk.injEq] at ha
    rw [← ha.2]
    have hne : S.length + p ≠ ib := fun e => by
      rw [← e, hc] at hB
      injection hB with hB
      rw [← hB] at hn
      cases hn
    rw [List.getElem?_set_ne hne]; exact hB
theorem Acc.setB {x : AV} {l : List α} (h : Acc false E S M x l) {ib : Nat} (hS : S.length ≤ ib) {B : Blk} (hB : M[ib]? = some B) (hn : B.opn = none) (B' : Blk) : Acc false E S (M.set ib B') x l := by
  obtain ⟨q, rfl⟩ : ∃ q, ib = S.length + q := ⟨ib - S.length, by omega⟩
  obtain ⟨T, rfl, h⟩ := h
  rw [at_app] at hB
  refine ⟨T.set q B', set_app, ?_⟩
  rcases h with h | ⟨_, hz, _⟩ | ⟨h0, p, v, h1, h2⟩
  · exact .inl h
  · cases hz
  · have hne : q ≠ p := fun e => by
      rw [e, h2] at hB
      injection hB with hB
      rw [← hB] at hn
      cases hn
    exact .inr (.inr ⟨h0, p, v, h1, by rw [List.getElem?_set_ne hne]; exact h2⟩)
theorem Acc.base {z : Bool} {S2 : Mem} {x : AV} {l : List α} (hS : S <+: S2) (h : Acc z E S2 M x l) : Acc z E S M x l := by
  obtain ⟨U, rfl⟩ := hS
  obtain ⟨T, rfl, h⟩ := h
  refine ⟨U ++ T, by rw [List.append_assoc], ?_⟩
  have at2 : ∀ p, (U ++ T)[U.length + p]? = T[p]? := fun p => at_app
  rcases h with h | ⟨h0, hz, p, h1, h2⟩ | ⟨h0, p, v, h1, h2⟩
  · exact .inl h
  · exact .inr (.inl ⟨h0, hz, U.length + p, by rw [h1, List.length_append, Nat.add_assoc], by rw [at2]; exact h2⟩)
  · exact .inr (.inr ⟨h0, U.length + p, v, by rw [h1, List.length_append, Nat.add_assoc], by rw [at2]; exact h2⟩)
theorem ext_set (h : S <+: M) {ib : Nat} (hS : S.length ≤ ib) (B : Blk) : S <+: M.set ib B := by
  obtain ⟨T, rfl⟩ := h
  obtain ⟨q, rfl⟩ : ∃ q, ib = S.length + q := ⟨ib - S.length, by omega⟩
  rw [set_app]
  exact ext_app _
end

/-! ### Reading a book: plain -/
def entsN : Nat → List Int → Option (List Ent)
  | 0, r => if r = [] then some [] else none
  | n + 1, r => match Pol.of (r.take 10) with
    | some p => (entsN n (r.drop 11)).map (⟨p, r.getD 10 0⟩ :: ·)
    | none => none
noncomputable def Bk.ofNums : List Int → Option Bk
  | [] => none
  | p :: r => if r.length % 11 = 0 then match entsN (r.length / 11) r with
      | some es => Bk.fin (some ⟨p, es⟩)
      | none => none
    else none
noncomputable def Bk.read (b : List Int) : Option Bk := match unlebs b with
  | some l => Bk.ofNums l
  | none => none
theorem entsN_none {n : Nat} {r : List Int} (h : Pol.of (r.take 10) = none) : entsN (n + 1) r = none := by
  simp only [entsN, h]
theorem entsN_some {n : Nat} {r : List Int} {p : Pol} (h : Pol.of (r.take 10) = some p) : entsN (n + 1) r = (entsN n (r.drop 11)).map (⟨p, r.getD 10 0⟩ :: ·) := by
  simp only [entsN, h]
theorem Pol.of_fits {l : List Int} {p : Pol} (hu : ∀ n ∈ l, u64 n) (h : Pol.of l = some p) : p.good ∧ p.right := by
  unfold Pol.of at h
  split at h
  · rename_i s n b r bu sr sb q le qu
    split at h
    · rename_i hc
      injection h with h; subst h
      have h0 := fun m hm => hu m hm
      have hn := hu n (by simp)
      have hs := hu s (by simp)
      have hb := hu b (by simp)
      have hr := hc.2
      have hr1 := hr.2.1
      have hr2 := hr.2.2.1.1
      have hr3 := cl_bound b
      simp only [Pol.mk10] at hr1 hr2
      refine ⟨⟨⟨by have := hs.1; simp only [Pol.mk10]; omega, by simp only [Pol.mk10]; omega⟩, u84_b ⟨hn.1, by omega⟩, ⟨by have := hb.1; simp only [Pol.mk10]; omega, by simp only [Pol.mk10]; omega⟩, hu _ (by simp [Pol.mk10]), hu _ (by simp [Pol.mk10]), hu _ (by simp [Pol.mk10]), hu _ (by simp [Pol.mk10]), hu _ (by simp [Pol.mk10]), hu _ (by simp [Pol.mk10]), hu _ (by simp [Pol.mk10])⟩, hr⟩
    · cases h
  · cases h
theorem entsN_good : ∀ (n : Nat) (r : List Int) (es : List Ent), (∀ m ∈ r, u64 m) → entsN n r = some es → es.length = n ∧ ∀ x ∈ es, x.good
  | 0, r, es, _, h => by
    simp only [entsN] at h
    split at h
    · cases h; exact ⟨rfl, by simp⟩
    · cases h
  | n + 1, r, es, hu, h => by
    simp only [entsN] at h
    split at h
    · rename_i p hp
      obtain ⟨es', he, rfl⟩ := Option.map_eq_some_iff.1 h
      obtain ⟨h1, h2⟩ := entsN_good n _ es' (fun m hm => hu m (List.mem_of_mem_drop hm)) he
      refine ⟨by simp [h1], fun x hx => ?_⟩
      rcases List.mem_cons.1 hx with rfl | hx
      · refine ⟨(Pol.of_fits (fun m hm => hu m (List.mem_of_mem_take hm)) hp).1, ?_⟩
        simp only [List.getD_eq_getElem?_getD]
        cases hg : r[10]? with
        | none => exact ⟨by simp, by simp⟩
        | some m => simp only [Option.getD_some]; exact hu m (List.mem_of_getElem? hg)
      · exact h2 x hx
    · cases h
/-- What is read, ahead of what is to come. -/
def EntsAt (r : List Int) (k : Nat) (es : List Ent) : Prop := es.length = k ∧ (∀ x ∈ es, x.good) ∧ (r.length % 11 = 0 → entsN (r.length / 11) r = (entsN (r.length / 11 - k) (r.drop (11 * k))).map (es ++ ·))
theorem entsAt_start (r : List Int) : EntsAt r 0 [] := by
  refine ⟨rfl, by simp, fun _ => ?_⟩
  simp
theorem entsAt_step {r : List Int} {k : Nat} {es : List Ent} {p : Pol} {g : Int} (h : EntsAt r k es) (hu : ∀ m ∈ r, u64 m) (hk : 11 * k + 11 ≤ r.length) (hp : Pol.of ((r.drop (11 * k)).take 10) = some p) (hg : (r.drop (11 * k))[10]? = some g) : EntsAt r (k + 1) (es ++ [⟨p, g⟩]) := by
  obtain ⟨h1, h2, h3⟩ := h
  have hpg := (Pol.of_fits (fun m hm => hu m (List.mem_of_mem_drop (List.mem_of_mem_take hm))) hp).1
  have hgg : u64 g := hu g (List.mem_of_mem_drop (List.mem_of_getElem? hg))
  refine ⟨by simp [h1], fun x hx => ?_, fun hr => ?_⟩
  · rcases List.mem_append.1 hx with hx | hx
    · exact h2 x hx
    · rw [List.mem_singleton.1 hx]; exact ⟨hpg, hgg⟩
  · rw [h3 hr, show r.length / 11 - k = (r.length / 11 - (k + 1)) + 1 by omega, entsN_some hp, List.drop_drop, show 11 * k + 11 = 11 * (k + 1) by omega, List.getD_eq_getElem?_getD, hg]
    cases entsN (r.length / 11 - (k + 1)) (r.drop (11 * (k + 1))) with
    | none => rfl
    | some l => simp
theorem entsAt_none {p : Int} {r : List Int} {k : Nat} {es : List Ent} (h : EntsAt r k es) (hk : 11 * k + 11 ≤ r.length) (hp : Pol.of ((r.drop (11 * k)).take 10) = none) : Bk.ofNums (p :: r) = none := by
  simp only [Bk.ofNums]
  split
  · rename_i hr
    rw [h.2.2 hr, show r.length / 11 - k = (r.length / 11 - (k + 1)) + 1 by omega, entsN_none hp]
    rfl
  · rfl
theorem entsAt_end {p : Int} {r : List Int} {k : Nat} {es : List Ent} (h : EntsAt r k es) (hk : r.length = 11 * k) : Bk.ofNums (p :: r) = Bk.fin (some ⟨p, es⟩) := by
  simp only [Bk.ofNums]
  rw [if_pos (by omega), h.2.2 (by omega), show r.length / 11 - k = 0 by omega, List.drop_of_length_le (by omega)]
  simp [entsN]
theorem ofNums_odd {p : Int} {r : List Int} (h : r.length % 11 ≠ 0) : Bk.ofNums (p :: r) = none := by
  simp only [Bk.ofNums, if_neg h]

/-! ### The numbers of bytes, as a call -/
theorem lall_some {z : Bool} {S : Mem} {x : AV} {b l : List Int} (hl : lstV byteE S x = some b) (ho : openQ S 1 x = true) (hu : ∀ c ∈ b, u8 c) (hlen : b.length ≤ 1000000) (h : unlebs b = some l) :
    ∃ X M, lallS z [x] S = some (.tu [X, .i .i64 0], M) ∧ lstV numE M X = some l ∧ S <+: M ∧ (l ≠ [] → openQ M 1 X = true) := by
  refine ⟨retX z S l, retM z numE S l, by rw [lallS_eq hl ho hu hlen, h], retX_lst, retM_ext, fun hne => ?_⟩
  rw [retX_ne hne, retM_ne hne]
  simp [openQ, at_app0, Blk.opn, numE, intE]
theorem lall_none {z : Bool} {S : Mem} {x : AV} {b : List Int} (hl : lstV byteE S x = some b) (ho : openQ S 1 x = true) (hu : ∀ c ∈ b, u8 c) (hlen : b.length ≤ 1000000) (h : unlebs b = none) :
    lallS z [x] S = some (.tu [.sn, .i .i64 21], S) := by
  rw [lallS_eq hl ho hu hlen, h]
end Go.Proofs.Ytapgkaecamljbaa

namespace Go.Proofs.Ytapgkaecamljbaa
open Go.RowKit
set_option linter.unusedSimpArgs false
set_option linter.unusedVariables false
set_option maxRecDepth 10000

theorem at_pre {S M : Mem} {i : Nat} {B : Blk} (h : S <+: M) (hB : S[i]? = some B) : M[i]? = some B := by
  obtain ⟨T, rfl⟩ := h; exact at_old hB
theorem set_self {S : Mem} {i : Nat} {B : Blk} (h : S[i]? = some B) : S.set i B = S := by
  obtain ⟨hi, he⟩ := List.getElem?_eq_some_iff.1 h
  subst he
  exact List.set_getElem_self hi
noncomputable def readS : Spec := fun args S => match args with
  | [x] => match lstV byteE S x with
    | some b => if openQ S 1 x = true ∧ b.all (fun c => decide (u8 c)) = true ∧ b.length ≤ 1000000 then match Bk.read b with
        | some bk => some (bookR false S bk 0)
        | none => some (.tu [.ag [.i .u64 0, .sn], .i .i64 131], S)
      else none
    | none => none
  | _ => none
theorem readS_eq {S : Mem} {x : AV} {b : List Int} (hl : lstV byteE S x = some b) (ho : openQ S 1 x = true) (hu : ∀ c ∈ b, u8 c) (hlen : b.length ≤ 1000000) : readS [x] S = match Bk.read b with
        | some bk => some (bookR false S bk 0)
        | none => some (.tu [.ag [.i .u64 0, .sn], .i .i64 131], S) := by
  simp only [readS, hl, if_pos (And.intro ho (And.intro (List.all_eq_true.2 fun c h => decide_eq_true (hu c h)) hlen))]
theorem oRRd_ok : OK Try.prog (lamOf Try.prog) (orcOf [(47, lallS true), (48, polOfS), (21, brightS)]) := orc_ok (by simpa using ⟨rlall_ok, rpolOf_ok, rbright_ok⟩)
theorem rread_ok : SpecOK Try.prog 25 readS := by
  intro args S x S' h
  simp only [readS] at h
  split at h
  · rename_i s
    split at h
    · rename_i b hl
      split at h
      · rename_i hc
        obtain ⟨ho, hu, hlen⟩ := hc
        have hu : ∀ c ∈ b, u8 c := fun c hc => of_decide_eq_true (List.all_eq_true.1 hu c hc)
        refine fn_of_wp f25 rfl (W_sound oRRd_ok mixed _ _ _ _ _ ?_)
        have hlS := fun L => lstV_grow hl L
        have hoS := fun L => openQ_grow ho L
        cases hun : unlebs b with
        | none =>
          have hrd : Bk.read b = none := by unfold Bk.read; rw [hun]
          rw [hrd] at h
          cases h
          have hall := fun L => lall_none (z := true) (hlS L) (hoS L) hu hlen hun
          simp (maxSteps := 1000000) (disch := omega) only [c25, List.replicate, orc_cons, hall, go_sem, Option.map_none, Option.map_some, ↓reduceIte, Nat.reduceBEq, Nat.reduceAdd, Nat.reduceSub, Nat.reduceEqDiff, Nat.reduceLeDiff, Nat.reduceMul, Nat.reduceLT, Int.reduceLT, Int.reduceLE, Int.reduceAdd, Int.reduceSub, Int.reduceMul, Int.reduceNeg, Int.reduceEq, Int.reduceNe, Int.reduceToNat, decide_true, decide_false, iaddr_i, iaddr_sl_i, not_true_eq_false, not_false_eq_true, reduceCtorEq, ne_eq, forall_const, false_imp_iff, true_imp_iff, implies_true, Int.cast_ofNat_Int, Int.natCast_zero, Int.natCast_one, Int.add_zero, Int.zero_add]
          exact wkv_drop rfl
        | some l =>
          have hrd : Bk.read b = Bk.ofNums l := by unfold Bk.read; rw [hun]
          rw [hrd] at h
          obtain ⟨hlb, hlu, hl128⟩ := lebs_unlebs hu hun
          obtain ⟨X, M0, hall, hX, hSM0, hoX⟩ := lall_some (z := true) (hlS [.cells [.i .u64 0, .sn] 0 none true]) (hoS _) hu hlen hun
          have hlX := fun M' => lst_len hX M'
          have hat : M0[S.length]? = some (.cells [.i .u64 0, .sn] 0 none true) := at_pre hSM0 (by rw [at_app0]; rfl)
          have hset := set_self hat
          have hS0 := (ext_app _).trans hSM0
          have hS0l : S.length < M0.length := (List.getElem?_eq_some_iff.1 hat).1
          match l, hl128 with
          | [], _ =>
            cases h
            simp (maxSteps := 1000000) (disch := omega) only [c25, List.replicate, orc_cons, hall, hlX, List.length_nil, hat, hset, go_sem, Option.map_none, Option.map_some, ↓reduceIte, Nat.reduceBEq, Nat.reduceAdd, Nat.reduceSub, Nat.reduceEqDiff, Nat.reduceLeDiff, Nat.reduceMul, Nat.reduceLT, Int.reduceLT, Int.reduceLE, Int.reduceAdd, Int.reduceSub, Int.reduceMul, Int.reduceNeg, Int.reduceEq, Int.reduceNe, Int.reduceToNat, decide_true, decide_false, iaddr_i, iaddr_sl_i, not_true_eq_false, not_false_eq_true, reduceCtorEq, ne_eq, forall_const, false_imp_iff, true_imp_iff, implies_true, Int.cast_ofNat_Int, Int.natCast_zero, Int.natCast_one, Int.add_zero, Int.zero_add]
            exact wkv_dropP hS0 rfl
          | p :: r, hl128 =>
            obtain ⟨bi, o, v, cap, ex, rfl⟩ := lst_sl hX (k := 0) (by simp)
            simp only [List.length_cons] at hX hl128 hall hoX hlX
            have hne : ¬ ((r.length + 1 : Nat) : Int) = 0 := by omega
            have hc0 := lstV_cell hX rfl (fun a => rfl) (k := 0) (by simp) []
            rw [List.append_nil, Nat.add_zero, List.getElem_cons_zero] at hc0
            simp (maxSteps := 1000000) (disch := omega) only [c25, List.replicate, orc_cons, hall, hlX, hne, hc0, go_sem, Option.map_none, Option.map_some, ↓reduceIte, Nat.reduceBEq, Nat.reduceAdd, Nat.reduceSub, Nat.reduceEqDiff, Nat.reduceLeDiff, Nat.reduceMul, Nat.reduceLT, Int.reduceLT, Int.reduceLE, Int.reduceAdd, Int.reduceSub, Int.reduceMul, Int.reduceNeg, Int.reduceEq, Int.reduceNe, Int.reduceToNat, decide_true, decide_false, iaddr_i, iaddr_sl_i, not_true_eq_false, not_false_eq_true, reduceCtorEq, ne_eq, forall_const, false_imp_iff, true_imp_iff, implies_true, Int.cast_ofNat_Int, Int.natCast_zero, Int.natCast_one, Int.add_zero, Int.zero_add]
            have hur : ∀ m ∈ r, u64 m := fun m hm => hlu m (by simp [hm])
            refine wp_loop (fun j e M dl => dl = [] ∧ ∃ (k : Nat) (es : List Ent) (y : AV), j = r.length - 11 * k ∧ 11 * k ≤ r.length ∧ EntsAt r k es ∧ M0 <+: M ∧ M[M0.length]? = some (.cells [.i .u64 p, y] 0 none true) ∧ Acc false entE M0 M y es ∧
              e.get 2 = .p S.length 0 0 ∧ e.get 4 = .sl bi o v (r.length + 1) cap ex ∧ e.get 6 = .p M0.length 0 0 ∧ e.get 7 = .i .i64 ((11 * k + 1 : Nat) : Int)) (j := r.length)
              ⟨rfl, 0, [], .sn, rfl, Nat.zero_le _, entsAt_start r, ext_app _, by rw [at_app0]; rfl, acc_nil (ext_app _), rfl, rfl, rfl, rfl⟩ ?_
            rintro j e M d' ⟨rfl, k, es, y, rfl, hk, hes, hM0M, hB, hA, h2, h4, h6, h7⟩
            refine W_sound oRRd_ok mixed _ _ _ _ _ ?_
            have hXM := lst_ext hX hM0M
            have hlM := lst_len hXM
            have hatM := at_pre hM0M hat
            have hSM := hS0.trans hM0M
            have hsetM := set_self hatM
            have hatset := fun B => at_set (B' := B) hatM
            simp only [List.length_cons] at hlM
            have hw11 : wrapV .i64 (((11 * k + 1 : Nat) : Int) + 11) = ((11 * (k + 1) + 1 : Nat) : Int) := by rw [wrap_i64 (by omega) (by omega)]; omega
            by_cases hkr : 11 * k + 11 ≤ r.length
            · have hkI : ((11 * (k + 1) + 1 : Nat) : Int) ≤ ((r.length + 1 : Nat) : Int) := by omega
              have hoM := openQ_ext (hoX (by simp)) hM0M
              obtain ⟨t, hst, hlt, hot⟩ := part_lst hXM hoM (q := .i64) (q' := .i64) (a := 11 * k + 1) (b := 11 * k + 11) (by omega) (by rw [List.length_cons]; omega)
              rw [List.drop_succ_cons, show 11 * k + 11 - (11 * k + 1) = 10 by omega] at hlt
              have hst : sliceV M 1 (.sl bi o v (r.length + 1) cap ex) (some (.i .i64 ((11 * k + 1 : Nat) : Int))) (some (.i .i64 ((11 * k + 11 : Nat) : Int))) none = some t := hst
              have hw10 : wrapV .i64 (((11 * k + 1 : Nat) : Int) + 10) = ((11 * k + 11 : Nat) : Int) := by rw [wrap_i64 (by omega) (by omega)]; omega
              have hpol := polOfS_eq hlt (fun m hm => hur m (List.mem_of_mem_drop (List.mem_of_mem_take hm)))
              have hato := fun L => at_old (L := L) hatM
              have hseto := fun L => set_self (at_old (L := L) hatM)
              have hBo := fun L => at_old (L := L) hB
              cases hq : Pol.of ((r.drop (11 * k)).take 10) with
              | none =>
                rw [entsAt_none hes hkr hq] at h
                cases h
                rw [hq] at hpol
                simp only [polOr, Pol.zero, Pol.enc] at hpol
                simp (maxSteps := 1000000) (disch := omega) only [c25l1, h2, h4, h6, h7, hlM, hw11, hkI, hw10, hst, orc_cons, hpol, List.replicate, hato, hseto, go_sem, Option.map_none, Option.map_some, ↓reduceIte, Nat.reduceBEq, Nat.reduceAdd, Nat.reduceSub, Nat.reduceEqDiff, Nat.reduceLeDiff, Nat.reduceMul, Nat.reduceLT, Int.reduceLT, Int.reduceLE, Int.reduceAdd, Int.reduceSub, Int.reduceMul, Int.reduceNeg, Int.reduceEq, Int.reduceNe, Int.reduceToNat, decide_true, decide_false, iaddr_i, iaddr_sl_i, not_true_eq_false, not_false_eq_true, reduceCtorEq, ne_eq, forall_const, false_imp_iff, true_imp_iff, implies_true, Int.cast_ofNat_Int, Int.natCast_zero, Int.natCast_one, Int.add_zero, Int.zero_add]
                exact wkv_dropP (hSM.trans (ext_app _)) rfl
              | some q =>
                rw [hq] at hpol
                have h10r : 11 * k + 10 < r.length := by omega
                have hg : (r.drop (11 * k))[10]? = some (r[11 * k + 10]) := by rw [List.getElem?_drop, List.getElem?_eq_getElem h10r]
                have hcX := fun L => lstV_cell hXM rfl (fun a => rfl) (k := 11 * k + 11) (by rw [List.length_cons]; omega) L
                have hgc : (p :: r)[11 * k + 11]'(by rw [List.length_cons]; omega) = r[11 * k + 10] := rfl
                rw [hgc] at hcX
                generalize hgv : r[11 * k + 10] = g at hcX hg
                have hkI2 : ((11 * k + 11 : Nat) : Int) < ((r.length + 1 : Nat) : Int) := by omega
                obtain ⟨y', M', ha, hA', hkeep⟩ := (hA.grow [.cells q.enc 0 none true, .cells (entE.enc ⟨q, g⟩) 0 none true]).app' (bytes := 88) entE_one ⟨q, g⟩ (by have := hes.1; omega) (by have := hes.1; omega)
                have hB' := hkeep _ _ (hBo _) rfl
                have hlen2 := hes.1
                simp only [entE, Ent.enc, Pol.enc] at ha
                simp only [polOr, Pol.enc] at hpol
                simp (maxSteps := 1000000) (disch := omega) only [c25l1, h2, h4, h6, h7, hlM, hw11, hkI, hw10, hst, orc_cons, hpol, List.replicate, hBo, hkI2, Int.toNat_natCast, Nat.mul_one, hcX, ha, hB', lst_cells hA'.lst, lst_one hA'.lst, go_sem, Option.map_none, Option.map_some, ↓reduceIte, Nat.reduceBEq, Nat.reduceAdd, Nat.reduceSub, Nat.reduceEqDiff, Nat.reduceLeDiff, Nat.reduceMul, Nat.reduceLT, Int.reduceLT, Int.reduceLE, Int.reduceAdd, Int.reduceSub, Int.reduceMul, Int.reduceNeg, Int.reduceEq, Int.reduceNe, Int.reduceToNat, decide_true, decide_false, iaddr_i, iaddr_sl_i, not_true_eq_false, not_false_eq_true, reduceCtorEq, ne_eq, forall_const, false_imp_iff, true_imp_iff, implies_true, Int.cast_ofNat_Int, Int.natCast_zero, Int.natCast_one, Int.add_zero, Int.zero_add]
                refine ⟨r.length - 11 * (k + 1), by omega, k + 1, es ++ [⟨q, g⟩], y', rfl, by omega, entsAt_step hes hur hkr hq hg, ext_set hA'.ext (Nat.le_refl _) _, at_set hB', hA'.setB (Nat.le_refl _) hB' rfl _, rfl⟩
            · have hkI : ¬ ((11 * (k + 1) + 1 : Nat) : Int) ≤ ((r.length + 1 : Nat) : Int) := by omega
              by_cases h11 : r.length = 11 * k
              · have hne2 : ∀ cst, binV .int cst .neq (.i .i64 ((11 * k + 1 : Nat) : Int)) (.i .i64 ((r.length + 1 : Nat) : Int)) = some (.b false) := fun cst => by rw [bin_neq, decide_eq_false (by omega)]
                rw [entsAt_end hes h11] at h
                have hfit : Bk.fits ⟨p, es⟩ := ⟨by have := hes.1; simp only; omega, fun x hx => (hes.2.1 x hx).1.fits⟩
                have hbr := bright_eq (bookOf_mk (p := p) hA.lst) hfit
                by_cases hok : (Bk.mk p es).ok
                · rw [show Bk.fin (some ⟨p, es⟩) = some ⟨p, es⟩ by simp only [Bk.fin, if_pos hok]] at h
                  cases h
                  rw [decide_eq_true hok] at hbr
                  simp (maxSteps := 1000000) (disch := omega) only [c25l1, h2, h4, h6, h7, hlM, hw11, hkI, hne2, hB, orc_cons, hbr, hatM, hatset, lst_one hA.lst, go_sem, Option.map_none, Option.map_some, ↓reduceIte, Nat.reduceBEq, Nat.reduceAdd, Nat.reduceSub, Nat.reduceEqDiff, Nat.reduceLeDiff, Nat.reduceMul, Nat.reduceLT, Int.reduceLT, Int.reduceLE, Int.reduceAdd, Int.reduceSub, Int.reduceMul, Int.reduceNeg, Int.reduceEq, Int.reduceNe, Int.reduceToNat, decide_true, decide_false, iaddr_i, iaddr_sl_i, not_true_eq_false, not_false_eq_true, reduceCtorEq, ne_eq, forall_const, false_imp_iff, true_imp_iff, implies_true, Int.cast_ofNat_Int, Int.natCast_zero, Int.natCast_one, Int.add_zero, Int.zero_add]
                  have hA2 := (hA.base hS0).setB (Nat.le_refl _) hatM rfl (.cells [.i .u64 p, y] 0 none true)
                  exact hA2.retB entE_flat Flat_i Flat_i
                · rw [show Bk.fin (some ⟨p, es⟩) = none by simp only [Bk.fin, if_neg hok]] at h
                  cases h
                  rw [decide_eq_false hok] at hbr
                  simp (maxSteps := 1000000) (disch := omega) only [c25l1, h2, h4, h6, h7, hlM, hw11, hkI, hne2, hB, orc_cons, hbr, hatM, hsetM, go_sem, Option.map_none, Option.map_some, ↓reduceIte, Nat.reduceBEq, Nat.reduceAdd, Nat.reduceSub, Nat.reduceEqDiff, Nat.reduceLeDiff, Nat.reduceMul, Nat.reduceLT, Int.reduceLT, Int.reduceLE, Int.reduceAdd, Int.reduceSub, Int.reduceMul, Int.reduceNeg, Int.reduceEq, Int.reduceNe, Int.reduceToNat, decide_true, decide_false, iaddr_i, iaddr_sl_i, not_true_eq_false, not_false_eq_true, reduceCtorEq, ne_eq, forall_const, false_imp_iff, true_imp_iff, implies_true, Int.cast_ofNat_Int, Int.natCast_zero, Int.natCast_one, Int.add_zero, Int.zero_add]
                  exact wkv_dropP hSM rfl
              · have hne2 : ¬ ((11 * k + 1 : Nat) : Int) = ((r.length + 1 : Nat) : Int) := by omega
                rw [ofNums_odd (by omega)] at h
                cases h
                simp (maxSteps := 1000000) (disch := omega) only [c25l1, h2, h4, h6, h7, hlM, hw11, hkI, hne2, hatM, hsetM, go_sem, Option.map_none, Option.map_some, ↓reduceIte, Nat.reduceBEq, Nat.reduceAdd, Nat.reduceSub, Nat.reduceEqDiff, Nat.reduceLeDiff, Nat.reduceMul, Nat.reduceLT, Int.reduceLT, Int.reduceLE, Int.reduceAdd, Int.reduceSub, Int.reduceMul, Int.reduceNeg, Int.reduceEq, Int.reduceNe, Int.reduceToNat, decide_true, decide_false, iaddr_i, iaddr_sl_i, not_true_eq_false, not_false_eq_true, reduceCtorEq, ne_eq, forall_const, false_imp_iff, true_imp_iff, implies_true, Int.cast_ofNat_Int, Int.natCast_zero, Int.natCast_one, Int.add_zero, Int.zero_add]
                exact wkv_dropP hSM rfl
      · cases h
    · cases h
  · cases h
end Go.Proofs.Ytapgkaecamljbaa

namespace Go.Proofs.Ytapgkaecamljbaa
open Go.RowKit
set_option linter.unusedSimpArgs false
set_option linter.unusedVariables false
set_option maxRecDepth 10000

def rdPath : List Bool := [true, true, true, true, false, true, false]
/-- While the chunks are gone through. -/
structure Jm (S M1 : Mem) (p : Int) (r : List Int) (x1 : AV) (env : Env) (k : Nat) (es : List Ent) (y : AV) (M : Mem) : Prop where
  hM : M1 <+: M
  hB : M[M1.length]? = some (.cells [.i .u64 p, y] 0 none true)
  h1 : M[M1.length + 1]? = some (.cells [x1] 0 none true)
  h2 : M[M1.length + 2]? = some (.cells [.i .i64 11] 0 none true)
  hd : M[M1.length + 3]? = some (.dfr true)
  hl : M[M1.length + 4]? = some (.loop 24 rdPath env .ready none)
  hA : Acc false entE M1 M y es
  he : EntsAt r k es
/-- Behind a chunk that is no policy. -/
structure Jb (S M1 : Mem) (env : Env) (M : Mem) : Prop where
  hS : S <+: M
  h2 : M[S.length]? = some (.cells [.i .u64 0, .sn] 0 none true)
  h3 : M[S.length + 1]? = some (.cells [.i .i64 131] 0 none true)
  hd : M[M1.length + 3]? = some (.dfr true)
  hl : M[M1.length + 4]? = some (.loop 24 rdPath env .done (some .ret))
theorem oRd_ok : OK Try.prog (lamOf Try.prog) (orcOf [(46, polOfS)]) := orc_ok (by simpa using polOf_ok)
theorem round_good {S M1 M : Mem} {p : Int} {r : List Int} {x1 : AV} {env : Env} {k : Nat} {es : List Ent} {y : AV} (J : Jm S M1 p r x1 env k es y M)
    (e2 : env.get 2 = .p S.length 0 0) (e3 : env.get 3 = .p (S.length + 1) 0 0) (e6 : env.get 6 = .p M1.length 0 0) {t : AV} (ht : lstV numE M1 t = some ((r.drop (11 * k)).take 11)) (hot : openQ M1 1 t = true)
    (hk : 11 * k + 11 ≤ r.length) (hur : ∀ m ∈ r, u64 m) (hr : r.length ≤ 128) {q : Pol} (hq : Pol.of ((r.drop (11 * k)).take 10) = some q) :
    ∃ g y' M', RdOK Try.prog (M1.length + 4) [t] M (.b true) M' ∧ Jm S M1 p r x1 env (k + 1) (es ++ [⟨q, g⟩]) y' M' := by
  obtain ⟨hM, hB, h1, h2, hd, hl, hA, he⟩ := J
  have hlen11 : ((r.drop (11 * k)).take 11).length = 11 := by rw [List.length_take, List.length_drop]; omega
  have h10r : 11 * k + 10 < r.length := by omega
  have hg : (r.drop (11 * k))[10]? = some (r[11 * k + 10]) := by rw [List.getElem?_drop, List.getElem?_eq_getElem h10r]
  have hMb := ext_set hM (show M1.length ≤ M1.length + 4 by omega) (.loop 24 rdPath env .busy none)
  have hAb := hA.setB (show M1.length ≤ M1.length + 4 by omega) hl rfl (.loop 24 rdPath env .busy none)
  have hne : ∀ {i : Nat} {B : Blk}, i ≠ M1.length + 4 → M[i]? = some B → (M.set (M1.length + 4) (.loop 24 rdPath env .busy none))[i]? = some B := fun hi hB => by rw [List.getElem?_set_ne (Ne.symm hi)]; exact hB
  have hlb : (M.set (M1.length + 4) (.loop 24 rdPath env .busy none))[M1.length + 4]? = some (.loop 24 rdPath env .busy none) := at_set hl
  have bB := hne (by omega) hB
  have b1 := hne (by omega) h1
  have b2 := hne (by omega) h2
  have bd := hne (by omega) hd
  clear hne
  generalize hMbe : M.set (M1.length + 4) (.loop 24 rdPath env .busy none) = Mb at hMb hAb hlb bB b1 b2 bd
  have htM := lst_ext ht hMb
  have hoM := openQ_ext hot hMb
  obtain ⟨tu, hsl, hlu, hou⟩ := take_lst htM hoM (q := .i64) (b := 10) (by omega)
  rw [List.take_take, Nat.min_eq_left (by omega)] at hlu
  have hsl : sliceV Mb 1 t none (some (.i .i64 10)) none = some tu := hsl
  have hpol := polOfS_eq hlu (fun m hm => hur m (List.mem_of_mem_drop (List.mem_of_mem_take hm)))
  rw [hq] at hpol
  obtain ⟨bi, o, v, cap, ex, rfl⟩ := lst_sl htM (k := 0) (by omega)
  have hcX := fun L => lstV_cell htM rfl (fun a => rfl) (k := 10) (by omega) L
  have hgc : ((r.drop (11 * k)).take 11)[10]'(by omega) = r[11 * k + 10] := by rw [List.getElem_take, List.getElem_drop]
  rw [hgc] at hcX
  generalize hgv : r[11 * k + 10] = g at hcX hg
  rw [hlen11] at *
  obtain ⟨y', M', ha, hA', hkeep⟩ := (hAb.grow [.cells q.enc 0 none true, .cells (entE.enc ⟨q, g⟩) 0 none true]).app' (bytes := 88) entE_one ⟨q, g⟩ (by have := he.1; omega) (by have := he.1; omega)
  have bBo := fun L => at_old (L := L) bB
  have hB' := hkeep _ _ (bBo _) rfl
  have hlb' := hkeep _ _ (at_old hlb) rfl
  have hb1' := hkeep _ _ (at_old b1) rfl
  have hb2' := hkeep _ _ (at_old b2) rfl
  have hbd' := hkeep _ _ (at_old bd) rfl
  refine ⟨g, y', (M'.set M1.length (.cells [.i .u64 p, y'] 0 none true)).set (M1.length + 4) (.loop 24 rdPath env .ready none), ?_, ?_⟩
  · refine round_of_wp hl f24 (List.mem_cons_self ..) rfl (W_sound oRd_ok mixed _ _ _ _ _ ?_)
    simp (maxSteps := 1000000) (disch := omega) only [c24ra0, bindE, go_sem, Option.map_none, Option.map_some, ↓reduceIte, Nat.reduceBEq, Nat.reduceAdd, Nat.reduceSub, Nat.reduceEqDiff, Nat.reduceLeDiff, Nat.reduceMul, Nat.reduceLT, Int.reduceLT, Int.reduceLE, Int.reduceAdd, Int.reduceSub, Int.reduceMul, Int.reduceNeg, Int.reduceEq, Int.reduceNe, Int.reduceToNat, decide_true, decide_false, iaddr_i, iaddr_sl_i, not_true_eq_false, not_false_eq_true, reduceCtorEq, ne_eq, forall_const, false_imp_iff, true_imp_iff, implies_true, Int.cast_ofNat_Int, Int.natCast_zero, Int.natCast_one, Int.add_zero, Int.zero_add]
    refine ⟨rfl, rfl, 24, rdPath, env, none, hl, ?_⟩
    refine W_sound oRd_ok mixed _ _ _ _ _ ?_
    rw [hMbe]
    simp only [entE, Ent.enc, Pol.enc] at ha
    simp only [polOr, Pol.enc] at hpol
    simp (maxSteps := 1000000) (disch := omega) only [c24rb0, e2, e3, e6, hsl, orc_cons, hpol, List.replicate, bBo, Int.toNat_natCast, Nat.mul_one, hcX, ha, hB', lst_cells hA'.lst, lst_one hA'.lst, go_sem, Option.map_none, Option.map_some, ↓reduceIte, Nat.reduceBEq, Nat.reduceAdd, Nat.reduceSub, Nat.reduceEqDiff, Nat.reduceLeDiff, Nat.reduceMul, Nat.reduceLT, Int.reduceLT, Int.reduceLE, Int.reduceAdd, Int.reduceSub, Int.reduceMul, Int.reduceNeg, Int.reduceEq, Int.reduceNe, Int.reduceToNat, decide_true, decide_false, iaddr_i, iaddr_sl_i, not_true_eq_false, not_false_eq_true, reduceCtorEq, ne_eq, forall_const, false_imp_iff, true_imp_iff, implies_true, Int.cast_ofNat_Int, Int.natCast_zero, Int.natCast_one, Int.add_zero, Int.zero_add]
    exact ⟨24, rdPath, env, .busy, none, by rw [List.getElem?_set_ne (by omega)]; exact hlb', wkv_same⟩
  · have n1 : ∀ {i : Nat} {B : Blk}, i ≠ M1.length → i ≠ M1.length + 4 → M'[i]? = some B → ((M'.set M1.length (.cells [.i .u64 p, y'] 0 none true)).set (M1.length + 4) (.loop 24 rdPath env .ready none))[i]? = some B := fun ha hb hB => by
      rw [List.getElem?_set_ne (Ne.symm hb), List.getElem?_set_ne (Ne.symm ha)]; exact hB
    have hl2 : (M'.set M1.length (.cells [.i .u64 p, y'] 0 none true))[M1.length + 4]? = some (.loop 24 rdPath env .busy none) := by rw [List.getElem?_set_ne (by omega)]; exact hlb'
    have hA2 := hA'.setB (Nat.le_refl _) hB' rfl (.cells [.i .u64 p, y'] 0 none true)
    exact ⟨ext_set (ext_set hA'.ext (Nat.le_refl _) _) (by omega) _, by rw [List.getElem?_set_ne (by omega)]; exact at_set hB', n1 (by omega) (by omega) hb1', n1 (by omega) (by omega) hb2', n1 (by omega) (by omega) hbd', at_set hl2,
      hA2.setB (by omega) hl2 rfl _, entsAt_step he hur hk hq hg⟩
theorem round_bad {S M1 M : Mem} {p : Int} {r : List Int} {x1 : AV} {env : Env} {k : Nat} {es : List Ent} {y : AV} (J : Jm S M1 p r x1 env k es y M) (hS1 : S <+: M1)
    (m2 : M1[S.length]? = some (.cells [.i .u64 0, .sn] 0 none true)) (m3 : M1[S.length + 1]? = some (.cells [.i .i64 0] 0 none true))
    (e2 : env.get 2 = .p S.length 0 0) (e3 : env.get 3 = .p (S.length + 1) 0 0) (e6 : env.get 6 = .p M1.length 0 0) {t : AV} (ht : lstV numE M1 t = some ((r.drop (11 * k)).take 11)) (hot : openQ M1 1 t = true)
    (hk : 11 * k + 11 ≤ r.length) (hur : ∀ m ∈ r, u64 m) (hq : Pol.of ((r.drop (11 * k)).take 10) = none) :
    ∃ M', RdOK Try.prog (M1.length + 4) [t] M (.b false) M' ∧ Jb S M1 env M' := by
  obtain ⟨hM, hB, h1, h2, hd, hl, hA, he⟩ := J
  have hlen11 : ((r.drop (11 * k)).take 11).length = 11 := by rw [List.length_take, List.length_drop]; omega
  have hS1l : S.length + 1 < M1.length := (List.getElem?_eq_some_iff.1 m3).1
  have hMb := ext_set hM (show M1.length ≤ M1.length + 4 by omega) (.loop 24 rdPath env .busy none)
  have hne : ∀ {i : Nat} {B : Blk}, i ≠ M1.length + 4 → M[i]? = some B → (M.set (M1.length + 4) (.loop 24 rdPath env .busy none))[i]? = some B := fun hi hB => by rw [List.getElem?_set_ne (Ne.symm hi)]; exact hB
  have hlb : (M.set (M1.length + 4) (.loop 24 rdPath env .busy none))[M1.length + 4]? = some (.loop 24 rdPath env .busy none) := at_set hl
  have bd := hne (by omega) hd
  have bm2 := hne (by omega) (at_pre hM m2)
  have bm3 := hne (by omega) (at_pre hM m3)
  clear hne
  generalize hMbe : M.set (M1.length + 4) (.loop 24 rdPath env .busy none) = Mb at hMb hlb bd bm2 bm3
  have htM := lst_ext ht hMb
  have hoM := openQ_ext hot hMb
  obtain ⟨tu, hsl, hlu, hou⟩ := take_lst htM hoM (q := .i64) (b := 10) (by omega)
  rw [List.take_take, Nat.min_eq_left (by omega)] at hlu
  have hsl : sliceV Mb 1 t none (some (.i .i64 10)) none = some tu := hsl
  have hpol := polOfS_eq hlu (fun m hm => hur m (List.mem_of_mem_drop (List.mem_of_mem_take hm)))
  rw [hq] at hpol
  simp only [polOr, Pol.zero, Pol.enc] at hpol
  have bm2o := fun L => at_old (L := L) bm2
  have bm3o := fun L => at_old (L := L) bm3
  have hset2 := fun L => set_self (at_old (L := L) bm2)
  have hMl : M1.length ≤ Mb.length := List.IsPrefix.length_le hMb
  have hset3 := fun (L : Mem) (B : Blk) => set_old (L := L) (B' := B) bm3
  have hlast : ((Mb.set (S.length + 1) (.cells [.i .i64 131] 0 none true)) ++ [Blk.cells Pol.zero.enc 0 none true])[M1.length + 4]? = some (.loop 24 rdPath env .busy none) := at_old (by rw [List.getElem?_set_ne (by omega)]; exact hlb)
  refine ⟨((Mb.set (S.length + 1) (.cells [.i .i64 131] 0 none true)) ++ [Blk.cells Pol.zero.enc 0 none true]).set (M1.length + 4) (.loop 24 rdPath env .done (some .ret)), ?_, ?_⟩
  · refine round_of_wp hl f24 (List.mem_cons_self ..) rfl (W_sound oRd_ok mixed _ _ _ _ _ ?_)
    simp (maxSteps := 1000000) (disch := omega) only [c24ra0, bindE, go_sem, Option.map_none, Option.map_some, ↓reduceIte, Nat.reduceBEq, Nat.reduceAdd, Nat.reduceSub, Nat.reduceEqDiff, Nat.reduceLeDiff, Nat.reduceMul, Nat.reduceLT, Int.reduceLT, Int.reduceLE, Int.reduceAdd, Int.reduceSub, Int.reduceMul, Int.reduceNeg, Int.reduceEq, Int.reduceNe, Int.reduceToNat, decide_true, decide_false, iaddr_i, iaddr_sl_i, not_true_eq_false, not_false_eq_true, reduceCtorEq, ne_eq, forall_const, false_imp_iff, true_imp_iff, implies_true, Int.cast_ofNat_Int, Int.natCast_zero, Int.natCast_one, Int.add_zero, Int.zero_add]
    refine ⟨rfl, rfl, 24, rdPath, env, none, hl, ?_⟩
    refine W_sound oRd_ok mixed _ _ _ _ _ ?_
    rw [hMbe]
    simp (maxSteps := 1000000) (disch := omega) only [c24rb0, e2, e3, e6, hsl, orc_cons, hpol, List.replicate, bm2o, bm3o, hset2, hset3, go_sem, Option.map_none, Option.map_some, ↓reduceIte, Nat.reduceBEq, Nat.reduceAdd, Nat.reduceSub, Nat.reduceEqDiff, Nat.reduceLeDiff, Nat.reduceMul, Nat.reduceLT, Int.reduceLT, Int.reduceLE, Int.reduceAdd, Int.reduceSub, Int.reduceMul, Int.reduceNeg, Int.reduceEq, Int.reduceNe, Int.reduceToNat, decide_true, decide_false, iaddr_i, iaddr_sl_i, not_true_eq_false, not_false_eq_true, reduceCtorEq, ne_eq, forall_const, false_imp_iff, true_imp_iff, implies_true, Int.cast_ofNat_Int, Int.natCast_zero, Int.natCast_one, Int.add_zero, Int.zero_add]
    exact ⟨24, rdPath, env, .busy, none, hlast, wkv_same⟩
  · have n2 : ∀ {i : Nat} {B : Blk}, i ≠ M1.length + 4 → (Mb.set (S.length + 1) (.cells [.i .i64 131] 0 none true))[i]? = some B → (((Mb.set (S.length + 1) (.cells [.i .i64 131] 0 none true)) ++ [Blk.cells Pol.zero.enc 0 none true]).set (M1.length + 4) (.loop 24 rdPath env .done (some .ret)))[i]? = some B := fun ha hB => by
      rw [List.getElem?_set_ne (Ne.symm ha)]; exact at_old hB
    exact ⟨ext_set (ext_more (ext_set (hS1.trans hMb) (by omega) _) _) (by omega) _, n2 (by omega) (by rw [List.getElem?_set_ne (by omega)]; exact bm2), n2 (by omega) (at_set bm3), n2 (by omega) (by rw [List.getElem?_set_ne (by omega)]; exact bd), at_set hlast⟩
end Go.Proofs.Ytapgkaecamljbaa

namespace Go.Proofs.Ytapgkaecamljbaa
open Go.RowKit
set_option linter.unusedSimpArgs false
set_option linter.unusedVariables false
set_option maxRecDepth 10000

theorem bnds_3 {q q' q2 : IntKind} {len cap a b : Nat} (h : a ≤ b) (h2 : b ≤ cap) : bnds len cap (some (.i q (a : Int))) (some (.i q' (b : Int))) (some (.i q2 (b : Int))) = some (a, b, b) := by
  simp [bnds, bndV, natV, h, h2]
theorem part3_lst {α : Type} {E : Enc α} {S : Mem} {x : AV} {l : List α} (h : lstV E S x = some l) (ho : openQ S E.sz x = true) {q q' q2 : IntKind} {a b : Nat} (hab : a < b) (hb : b ≤ l.length) :
    ∃ x', sliceV S E.sz x (some (.i q (a : Int))) (some (.i q' (b : Int))) (some (.i q2 (b : Int))) = some x' ∧ lstV E S x' = some ((l.drop a).take (b - a)) ∧ openQ S E.sz x' = true := by
  obtain ⟨i, o, v, cap, ex, rfl⟩ := lst_sl h (k := 0) (by omega)
  simp only [openQ, Bool.and_eq_true, decide_eq_true_eq, Bool.or_eq_true] at ho
  obtain ⟨hlc, ho⟩ := ho
  have hr := (lstV_at h).2
  have hle : a * E.sz + (b - a) * E.sz ≤ l.length * E.sz := by rw [← Nat.add_mul]; exact Nat.mul_le_mul_right _ (by omega)
  have hr2 := row_part hr hle
  rw [flat_drop, flat_take] at hr2
  have hlen : ((l.drop a).take (b - a)).length = b - a := by rw [List.length_take, List.length_drop]; omega
  simp only [sliceV, bnds_3 (Nat.le_of_lt hab) (Nat.le_trans hb hlc), Option.isSome_some, Bool.or_true, if_true]
  refine ⟨_, rfl, lst_lstV (.inr (.inr ⟨_, _, _, _, _, _, rfl, hlen, ?_⟩)), by simp [openQ]⟩
  unfold cutAt
  rw [if_neg (by omega)]; exact hr2
def chunkS : Spec := fun args S => match args with
  | [x, .i .i64 n] => match lstV numE S x with
    | some _ => if 1 ≤ n then some (.f (.func 68) [] [.p S.length 0 0, .p (S.length + 1) 0 0], S ++ [.cells [x] 0 none true, .cells [.i .i64 n] 0 none true]) else none
    | none => none
  | _ => none
theorem chunkS_eq {S : Mem} {x : AV} {l : List Int} (h : lstV numE S x = some l) : chunkS [x, .i .i64 11] S = some (.f (.func 68) [] [.p S.length 0 0, .p (S.length + 1) 0 0], S ++ [.cells [x] 0 none true, .cells [.i .i64 11] 0 none true]) := by
  simp only [chunkS, h]
  rw [if_pos (by omega)]
theorem chunk_ok : SpecOK Try.prog 45 chunkS := by
  intro args S x S' h
  simp only [chunkS] at h
  split at h
  · rename_i t n
    split at h
    · rename_i l hl
      split at h
      · rename_i hn
        cases h
        have hnI : ¬ n < 1 := by omega
        refine fn_of_wp f45 rfl (W_sound none_ok mixed _ _ _ _ _ ?_)
        simp (maxSteps := 1000000) (disch := omega) only [c45, lst_cells hl, hnI, go_sem, Option.map_none, Option.map_some, ↓reduceIte, Nat.reduceBEq, Nat.reduceAdd, Nat.reduceSub, Nat.reduceEqDiff, Nat.reduceLeDiff, Nat.reduceMul, Nat.reduceLT, Int.reduceLT, Int.reduceLE, Int.reduceAdd, Int.reduceSub, Int.reduceMul, Int.reduceNeg, Int.reduceEq, Int.reduceNe, Int.reduceToNat, decide_true, decide_false, iaddr_i, iaddr_sl_i, not_true_eq_false, not_false_eq_true, reduceCtorEq, ne_eq, forall_const, false_imp_iff, true_imp_iff, implies_true, Int.cast_ofNat_Int, Int.natCast_zero, Int.natCast_one, Int.add_zero, Int.zero_add]
        exact wkv_same
      · cases h
    · cases h
  · cases h

/-- What is known when all chunks are gone through, or one was none. -/
def chunkR (S M1 : Mem) (p : Int) (r : List Int) (x1 : AV) (env : Env) : AV → Mem → Prop := fun _ M =>
  (∃ es y, Jm S M1 p r x1 env (r.length / 11) es y M) ∨ (Jb S M1 env M ∧ Bk.ofNums (p :: r) = none)
theorem chunk1_ok {S M1 M3 : Mem} {p : Int} {r : List Int} {x1 : AV} {env : Env} (J0 : Jm S M1 p r x1 env 0 [] .sn M3) (hS1 : S <+: M1)
    (m2 : M1[S.length]? = some (.cells [.i .u64 0, .sn] 0 none true)) (m3 : M1[S.length + 1]? = some (.cells [.i .i64 0] 0 none true))
    (e2 : env.get 2 = .p S.length 0 0) (e3 : env.get 3 = .p (S.length + 1) 0 0) (e6 : env.get 6 = .p M1.length 0 0)
    (hx : lstV numE M1 x1 = some r) (hox : openQ M1 1 x1 = true) (hr11 : r.length % 11 = 0) (hur : ∀ m ∈ r, u64 m) (hr : r.length ≤ 128) :
    FnR Try.prog 68 [.y (M1.length + 4), .p (M1.length + 1) 0 0, .p (M1.length + 2) 0 0] M3 (chunkR S M1 p r x1 env) := by
  refine fnR_of_wp f68 rfl (W_sound none_ok mixed _ _ _ _ _ ?_)
  simp (maxSteps := 1000000) (disch := omega) only [c68, go_sem, Option.map_none, Option.map_some, ↓reduceIte, Nat.reduceBEq, Nat.reduceAdd, Nat.reduceSub, Nat.reduceEqDiff, Nat.reduceLeDiff, Nat.reduceMul, Nat.reduceLT, Int.reduceLT, Int.reduceLE, Int.reduceAdd, Int.reduceSub, Int.reduceMul, Int.reduceNeg, Int.reduceEq, Int.reduceNe, Int.reduceToNat, decide_true, decide_false, iaddr_i, iaddr_sl_i, not_true_eq_false, not_false_eq_true, reduceCtorEq, ne_eq, forall_const, false_imp_iff, true_imp_iff, implies_true, Int.cast_ofNat_Int, Int.natCast_zero, Int.natCast_one, Int.add_zero, Int.zero_add]
  refine wp_loop (fun j e M dl => dl = [] ∧ ∃ (k : Nat) (es : List Ent) (y : AV), j = r.length / 11 - k ∧ k ≤ r.length / 11 ∧ Jm S M1 p r x1 env k es y M ∧
    e.get 0 = .y (M1.length + 4) ∧ e.get 1 = .p (M1.length + 1) 0 0 ∧ e.get 2 = .p (M1.length + 2) 0 0 ∧ e.get 4 = .i .i64 ((11 * k : Nat) : Int)) (j := r.length / 11)
    ⟨rfl, 0, [], .sn, rfl, Nat.zero_le _, J0, rfl, rfl, rfl, rfl⟩ ?_
  rintro j e M d' ⟨rfl, k, es, y, rfl, hk, J, h0, h1, h2, h4⟩
  have hxM := lst_ext hx J.hM
  have j1 := J.h1
  have j2 := J.h2
  by_cases hkm : k < r.length / 11
  · have hk11 : 11 * k + 11 ≤ r.length := by omega
    obtain ⟨t2, hs2, hlt2, _⟩ := drop_lst hx hox (q := .i64) (a := 11 * k) (by omega)
    obtain ⟨t, hs, hlt, hot⟩ := part3_lst hx hox (q := .i64) (q' := .i64) (q2 := .i64) (a := 11 * k) (b := 11 * k + 11) (by omega) (by omega)
    rw [show 11 * k + 11 - 11 * k = 11 by omega] at hlt
    obtain ⟨T, hT⟩ := J.hM
    have hs2 : sliceV M 1 x1 (some (.i .i64 ((11 * k : Nat) : Int))) none none = some t2 := by rw [← hT]; exact sliceV_grow T hs2
    have hs : sliceV M 1 x1 (some (.i .i64 ((11 * k : Nat) : Int))) (some (.i .i64 ((11 * k + 11 : Nat) : Int))) (some (.i .i64 ((11 * k + 11 : Nat) : Int))) = some t := by rw [← hT]; exact sliceV_grow T hs
    have hkI : ((11 * k : Nat) : Int) < (r.length : Int) := by omega
    have hl2 := lst_len hlt2
    have hmin : min (11 : Int) ((r.drop (11 * k)).length : Nat) = 11 := by rw [List.length_drop]; omega
    have hw : wrapV .i64 (((11 * k : Nat) : Int) + 11) = ((11 * k + 11 : Nat) : Int) := by rw [wrap_i64 (by omega) (by omega)]; omega
    cases hq : Pol.of ((r.drop (11 * k)).take 10) with
    | none =>
      obtain ⟨M', hrd, JB⟩ := round_bad J hS1 m2 m3 e2 e3 e6 hlt hot hk11 hur hq
      refine W_sound (orcY_ok (l := []) (by simp) hrd) mixed _ _ _ _ _ ?_
      simp (maxSteps := 1000000) (disch := omega) only [c68l1, h0, h1, h2, h4, j1, j2, lst_len hxM, hkI, hs2, hl2, hmin, hw, hs, orcY_y, go_sem, Option.map_none, Option.map_some, ↓reduceIte, Nat.reduceBEq, Nat.reduceAdd, Nat.reduceSub, Nat.reduceEqDiff, Nat.reduceLeDiff, Nat.reduceMul, Nat.reduceLT, Int.reduceLT, Int.reduceLE, Int.reduceAdd, Int.reduceSub, Int.reduceMul, Int.reduceNeg, Int.reduceEq, Int.reduceNe, Int.reduceToNat, decide_true, decide_false, iaddr_i, iaddr_sl_i, not_true_eq_false, not_false_eq_true, reduceCtorEq, ne_eq, forall_const, false_imp_iff, true_imp_iff, implies_true, Int.cast_ofNat_Int, Int.natCast_zero, Int.natCast_one, Int.add_zero, Int.zero_add]
      exact .inr ⟨JB, entsAt_none J.he hk11 hq⟩
    | some q =>
      obtain ⟨g, y', M', hrd, J'⟩ := round_good J e2 e3 e6 hlt hot hk11 hur hr hq
      have k2 := J'.h2
      refine W_sound (orcY_ok (l := []) (by simp) hrd) mixed _ _ _ _ _ ?_
      simp (maxSteps := 1000000) (disch := omega) only [c68l1, h0, h1, h2, h4, j1, j2, lst_len hxM, hkI, hs2, hl2, hmin, hw, hs, orcY_y, k2, go_sem, Option.map_none, Option.map_some, ↓reduceIte, Nat.reduceBEq, Nat.reduceAdd, Nat.reduceSub, Nat.reduceEqDiff, Nat.reduceLeDiff, Nat.reduceMul, Nat.reduceLT, Int.reduceLT, Int.reduceLE, Int.reduceAdd, Int.reduceSub, Int.reduceMul, Int.reduceNeg, Int.reduceEq, Int.reduceNe, Int.reduceToNat, decide_true, decide_false, iaddr_i, iaddr_sl_i, not_true_eq_false, not_false_eq_true, reduceCtorEq, ne_eq, forall_const, false_imp_iff, true_imp_iff, implies_true, Int.cast_ofNat_Int, Int.natCast_zero, Int.natCast_one, Int.add_zero, Int.zero_add]
      exact ⟨r.length / 11 - (k + 1), by omega, k + 1, _, y', rfl, by omega, J', rfl⟩
  · have hkI : ¬ ((11 * k : Nat) : Int) < (r.length : Int) := by omega
    obtain rfl : k = r.length / 11 := by omega
    refine W_sound none_ok mixed _ _ _ _ _ ?_
    simp (maxSteps := 1000000) (disch := omega) only [c68l1, h0, h1, h2, h4, j1, j2, lst_len hxM, hkI, go_sem, Option.map_none, Option.map_some, ↓reduceIte, Nat.reduceBEq, Nat.reduceAdd, Nat.reduceSub, Nat.reduceEqDiff, Nat.reduceLeDiff, Nat.reduceMul, Nat.reduceLT, Int.reduceLT, Int.reduceLE, Int.reduceAdd, Int.reduceSub, Int.reduceMul, Int.reduceNeg, Int.reduceEq, Int.reduceNe, Int.reduceToNat, decide_true, decide_false, iaddr_i, iaddr_sl_i, not_true_eq_false, not_false_eq_true, reduceCtorEq, ne_eq, forall_const, false_imp_iff, true_imp_iff, implies_true, Int.cast_ofNat_Int, Int.natCast_zero, Int.natCast_one, Int.add_zero, Int.zero_add]
    exact .inl ⟨es, y, J⟩
end Go.Proofs.Ytapgkaecamljbaa

namespace Go.Proofs.Ytapgkaecamljbaa
open Go.RowKit
set_option linter.unusedSimpArgs false
set_option linter.unusedVariables false
set_option maxRecDepth 10000

theorem ofNums_mod {l : List Int} (h : l.length % 11 ≠ 1) : Bk.ofNums l = none := by
  cases l with
  | nil => rfl
  | cons p r => exact ofNums_odd (by rw [List.length_cons] at h; omega)
/-- Behind the loop. -/
structure Jx (S M1 : Mem) (p : Int) (es : List Ent) (y : AV) (M : Mem) : Prop where
  hS : S <+: M
  h2 : M[S.length]? = some (.cells [.i .u64 0, .sn] 0 none true)
  h3 : M[S.length + 1]? = some (.cells [.i .i64 0] 0 none true)
  hB : M[M1.length]? = some (.cells [.i .u64 p, y] 0 none true)
  hd : M[M1.length + 3]? = some (.dfr true)
  hA : Acc false entE S M y es
theorem jm_end {S M1 M : Mem} {p : Int} {r : List Int} {x1 : AV} {env : Env} {k : Nat} {es : List Ent} {y : AV} (J : Jm S M1 p r x1 env k es y M) (hS1 : S <+: M1)
    (m2 : M1[S.length]? = some (.cells [.i .u64 0, .sn] 0 none true)) (m3 : M1[S.length + 1]? = some (.cells [.i .i64 0] 0 none true)) (B : Blk) : Jx S M1 p es y (M.set (M1.length + 4) B) := by
  have hl := (List.getElem?_eq_some_iff.1 m3).1
  have st : ∀ {i : Nat} {B' : Blk}, i ≠ M1.length + 4 → M[i]? = some B' → (M.set (M1.length + 4) B)[i]? = some B' := fun hi hB => by rw [List.getElem?_set_ne (Ne.symm hi)]; exact hB
  exact ⟨hS1.trans (ext_set J.hM (by omega) _), st (by omega) (at_pre J.hM m2), st (by omega) (at_pre J.hM m3), st (by omega) J.hB, st (by omega) J.hd, (J.hA.setB (by omega) J.hl rfl B).base hS1⟩
structure Jy (S M1 : Mem) (M : Mem) : Prop where
  hS : S <+: M
  h2 : M[S.length]? = some (.cells [.i .u64 0, .sn] 0 none true)
  h3 : M[S.length + 1]? = some (.cells [.i .i64 131] 0 none true)
  hd : M[M1.length + 3]? = some (.dfr true)
theorem jb_end {S M1 M : Mem} {env : Env} (J : Jb S M1 env M) (hl : S.length + 1 < M1.length) (B : Blk) : Jy S M1 (M.set (M1.length + 4) B) := by
  have st : ∀ {i : Nat} {B' : Blk}, i ≠ M1.length + 4 → M[i]? = some B' → (M.set (M1.length + 4) B)[i]? = some B' := fun hi hB => by rw [List.getElem?_set_ne (Ne.symm hi)]; exact hB
  exact ⟨ext_set J.hS (by omega) _, st (by omega) J.h2, st (by omega) J.h3, st (by omega) J.hd⟩
theorem oBRd_ok : OK Try.prog (lamOf Try.prog) (orcOf [(44, lallS false), (45, chunkS), (16, brightS)]) := orc_ok (by simpa using ⟨lall_ok, chunk_ok, bright_ok⟩)
theorem read_ok : SpecOK Try.prog 24 readS := by
  intro args S x S' h
  simp only [readS] at h
  split at h
  · rename_i s
    split at h
    · rename_i b hl
      split at h
      · rename_i hc
        obtain ⟨ho, hu, hlen⟩ := hc
        have hu : ∀ c ∈ b, u8 c := fun c hc => of_decide_eq_true (List.all_eq_true.1 hu c hc)
        refine fn_of_wp f24 rfl (W_sound oBRd_ok mixed _ _ _ _ _ ?_)
        have hlS := fun L => lstV_grow hl L
        have hoS := fun L => openQ_grow ho L
        cases hun : unlebs b with
        | none =>
          have hrd : Bk.read b = none := by unfold Bk.read; rw [hun]
          rw [hrd] at h
          cases h
          have hall := fun L => lall_none (z := false) (hlS L) (hoS L) hu hlen hun
          simp (maxSteps := 1000000) (disch := omega) only [c24, List.replicate, orc_cons, hall, go_sem, Option.map_none, Option.map_some, ↓reduceIte, Nat.reduceBEq, Nat.reduceAdd, Nat.reduceSub, Nat.reduceEqDiff, Nat.reduceLeDiff, Nat.reduceMul, Nat.reduceLT, Int.reduceLT, Int.reduceLE, Int.reduceAdd, Int.reduceSub, Int.reduceMul, Int.reduceNeg, Int.reduceEq, Int.reduceNe, Int.reduceToNat, decide_true, decide_false, iaddr_i, iaddr_sl_i, not_true_eq_false, not_false_eq_true, reduceCtorEq, ne_eq, forall_const, false_imp_iff, true_imp_iff, implies_true, Int.cast_ofNat_Int, Int.natCast_zero, Int.natCast_one, Int.add_zero, Int.zero_add]
          exact wkv_drop rfl
        | some l =>
          have hrd : Bk.read b = Bk.ofNums l := by unfold Bk.read; rw [hun]
          rw [hrd] at h
          obtain ⟨hlb, hlu, hl128⟩ := lebs_unlebs hu hun
          obtain ⟨X, M0, hall, hX, hSM0, hoX⟩ := lall_some (z := false) (hlS [.cells [.i .u64 0, .sn] 0 none true, .cells [.i .i64 0] 0 none true]) (hoS _) hu hlen hun
          have hlX := fun M' => lst_len hX M'
          have m2 : M0[S.length]? = some (.cells [.i .u64 0, .sn] 0 none true) := at_pre hSM0 (by rw [at_app0]; rfl)
          have m3 : M0[S.length + 1]? = some (.cells [.i .i64 0] 0 none true) := at_pre hSM0 (by rw [at_app]; rfl)
          have hS0 := (ext_app _).trans hSM0
          have hS0l : S.length + 1 < M0.length := (List.getElem?_eq_some_iff.1 m3).1
          have hset2 := set_self m2
          by_cases hmod : l.length % 11 = 1
          · match l, hl128, hmod with
            | p :: r, hl128, hmod =>
              obtain ⟨bi, o, v, cap, ex, rfl⟩ := lst_sl hX (k := 0) (by simp)
              simp only [List.length_cons] at hX hl128 hall hoX hlX hmod
              have hmI : ∀ cst, binV .int cst .rem (.i .i64 ((r.length + 1 : Nat) : Int)) (.i .i64 11) = some (.i .i64 1) := fun cst => by rw [bin_rem_pos (by omega) (by omega)]; congr 2; omega
              have hc0 := fun L => lstV_cell hX rfl (fun a => rfl) (k := 0) (by simp) L
              simp only [Nat.add_zero, List.getElem_cons_zero] at hc0
              have hc0' := hc0 []
              rw [List.append_nil] at hc0'
              obtain ⟨x1, hs1, hx1, hox1⟩ := drop_lst hX (hoX (by simp)) (q := .i64) (a := 1) (by simp)
              rw [List.drop_succ_cons, List.drop_zero] at hx1
              have hs1 : ∀ L, sliceV (M0 ++ L) 1 (.sl bi o v (r.length + 1) cap ex) (some (.i .i64 1)) none none = some x1 := fun L => sliceV_grow L hs1
              have hch : chunkS [x1, .i .i64 11] (M0 ++ [.cells [.i .u64 p, .sn] 0 none true]) = some (.f (.func 68) [] [.p (M0.length + 1) 0 0, .p (M0.length + 2) 0 0], M0 ++ [.cells [.i .u64 p, .sn] 0 none true, .cells [x1] 0 none true, .cells [.i .i64 11] 0 none true]) := by
                rw [chunkS_eq (lstV_grow hx1 _)]; simp
              simp (maxSteps := 1000000) (disch := omega) only [c24, List.replicate, orc_cons, hall, hlX, hmI, hc0, hc0', hs1, hch, go_sem, Option.map_none, Option.map_some, ↓reduceIte, Nat.reduceBEq, Nat.reduceAdd, Nat.reduceSub, Nat.reduceEqDiff, Nat.reduceLeDiff, Nat.reduceMul, Nat.reduceLT, Int.reduceLT, Int.reduceLE, Int.reduceAdd, Int.reduceSub, Int.reduceMul, Int.reduceNeg, Int.reduceEq, Int.reduceNe, Int.reduceToNat, decide_true, decide_false, iaddr_i, iaddr_sl_i, not_true_eq_false, not_false_eq_true, reduceCtorEq, ne_eq, forall_const, false_imp_iff, true_imp_iff, implies_true, Int.cast_ofNat_Int, Int.natCast_zero, Int.natCast_one, Int.add_zero, Int.zero_add]
              have hur : ∀ m ∈ r, u64 m := fun m hm => hlu m (by simp [hm])
              have hl3 : (M0 ++ [Blk.cells [.i .u64 p, .sn] 0 none true, .cells [x1] 0 none true, .cells [.i .i64 11] 0 none true]).length = M0.length + 3 := by simp
              have hrf : ∀ (e : Env) (keep : List Nat), (keepE e keep).get 2 = .p S.length 0 0 → (keepE e keep).get 3 = .p (S.length + 1) 0 0 → (keepE e keep).get 6 = .p M0.length 0 0 →
                  FnR Try.prog 68 ([] ++ [.y ((M0 ++ [Blk.cells [.i .u64 p, .sn] 0 none true, .cells [x1] 0 none true, .cells [.i .i64 11] 0 none true]).length + 1)] ++ [.p (M0.length + 1) 0 0, .p (M0.length + 2) 0 0])
                    (M0 ++ [Blk.cells [.i .u64 p, .sn] 0 none true, .cells [x1] 0 none true, .cells [.i .i64 11] 0 none true] ++ [.dfr true, .loop 24 rdPath (keepE e keep) .ready none]) (chunkR S M0 p r x1 (keepE e keep)) := by
                intro e keep g2 g3 g6
                rw [hl3, List.append_assoc M0]
                exact chunk1_ok ⟨ext_app _, by rw [at_app0]; rfl, by rw [at_app]; rfl, by rw [at_app]; rfl, by rw [at_app]; rfl, by rw [at_app]; rfl, acc_nil (ext_app _), entsAt_start r⟩ hS0 m2 m3 g2 g3 g6 hx1 hox1 (by omega) hur (by omega)
              apply wp_rf rfl (hrf _ _ (by rfl) (by rfl) (by rfl))
              rw [hl3]
              rintro y0 S2 (⟨es, y, J⟩ | ⟨JB, hnone⟩)
              · refine ⟨_, _, _, _, _, J.hl, by simp, ?_⟩
                rw [entsAt_end J.he (by omega)] at h
                have JX := jm_end J hS0 m2 m3
                have he := J.he
                generalize (Blk.loop _ _ _ _ _ : Blk) = B
                have JX := JX B
                rw [show M0.length + 3 + 1 = M0.length + 4 from rfl]
                generalize S2.set (M0.length + 4) B = M3 at JX ⊢
                obtain ⟨tS, t2, t3, tB, td, tA⟩ := JX
                have hfit : Bk.fits ⟨p, es⟩ := ⟨by have := he.1; simp only; omega, fun x hx => (he.2.1 x hx).1.fits⟩
                have hbr := bright_eq (bookOf_mk (p := p) tA.lst) hfit
                by_cases hok : (Bk.mk p es).ok
                · rw [show Bk.fin (some ⟨p, es⟩) = some ⟨p, es⟩ by simp only [Bk.fin, if_pos hok]] at h
                  cases h
                  rw [decide_eq_true hok] at hbr
                  obtain ⟨M4, hM4⟩ : ∃ M4, M4 = M3.set S.length (.cells [.i .u64 p, y] 0 none true) := ⟨_, rfl⟩
                  have f2 : M4[S.length]? = some (.cells [.i .u64 p, y] 0 none true) := by rw [hM4]; exact at_set t2
                  have f3 : M4[S.length + 1]? = some (.cells [.i .i64 0] 0 none true) := by rw [hM4, List.getElem?_set_ne (by omega)]; exact t3
                  have fd : M4[M0.length + 3]? = some (.dfr true) := by rw [hM4, List.getElem?_set_ne (by omega)]; exact td
                  have fA : Acc false entE S M4 y es := by rw [hM4]; exact tA.setB (Nat.le_refl _) t2 rfl _
                  have fset := set_self f3
                  have g2 : (M4.set (M0.length + 3) (.dfr false))[S.length]? = some (.cells [.i .u64 p, y] 0 none true) := by rw [List.getElem?_set_ne (by omega)]; exact f2
                  have g3 : (M4.set (M0.length + 3) (.dfr false))[S.length + 1]? = some (.cells [.i .i64 0] 0 none true) := by rw [List.getElem?_set_ne (by omega)]; exact f3
                  simp (maxSteps := 1000000) (disch := omega) only [tB, orc_cons, hbr, t2, t3, lst_one tA.lst, ← hM4, f2, f3, fset, ret_d fd, g2, g3, go_sem, Option.map_none, Option.map_some, ↓reduceIte, Nat.reduceBEq, Nat.reduceAdd, Nat.reduceSub, Nat.reduceEqDiff, Nat.reduceLeDiff, Nat.reduceMul, Nat.reduceLT, Int.reduceLT, Int.reduceLE, Int.reduceAdd, Int.reduceSub, Int.reduceMul, Int.reduceNeg, Int.reduceEq, Int.reduceNe, Int.reduceToNat, decide_true, decide_false, iaddr_i, iaddr_sl_i, not_true_eq_false, not_false_eq_true, reduceCtorEq, ne_eq, forall_const, false_imp_iff, true_imp_iff, implies_true, Int.cast_ofNat_Int, Int.natCast_zero, Int.natCast_one, Int.add_zero, Int.zero_add]
                  exact (fA.setB (by omega) fd rfl _).retB entE_flat Flat_i Flat_i
                · rw [show Bk.fin (some ⟨p, es⟩) = none by simp only [Bk.fin, if_neg hok]] at h
                  cases h
                  rw [decide_eq_false hok] at hbr
                  have s2 := set_self t2
                  obtain ⟨M5, hM5⟩ : ∃ M5, M5 = M3.set (S.length + 1) (.cells [.i .i64 131] 0 none true) := ⟨_, rfl⟩
                  have f2 : M5[S.length]? = some (.cells [.i .u64 0, .sn] 0 none true) := by rw [hM5, List.getElem?_set_ne (by omega)]; exact t2
                  have f3 : M5[S.length + 1]? = some (.cells [.i .i64 131] 0 none true) := by rw [hM5]; exact at_set t3
                  have fd : M5[M0.length + 3]? = some (.dfr true) := by rw [hM5, List.getElem?_set_ne (by omega)]; exact td
                  have fS : S <+: M5 := by rw [hM5]; exact ext_set tS (by omega) _
                  have g2 : (M5.set (M0.length + 3) (.dfr false))[S.length]? = some (.cells [.i .u64 0, .sn] 0 none true) := by rw [List.getElem?_set_ne (by omega)]; exact f2
                  have g3 : (M5.set (M0.length + 3) (.dfr false))[S.length + 1]? = some (.cells [.i .i64 131] 0 none true) := by rw [List.getElem?_set_ne (by omega)]; exact f3
                  simp (maxSteps := 1000000) (disch := omega) only [tB, orc_cons, hbr, t2, t3, s2, ← hM5, ret_d fd, g2, g3, go_sem, Option.map_none, Option.map_some, ↓reduceIte, Nat.reduceBEq, Nat.reduceAdd, Nat.reduceSub, Nat.reduceEqDiff, Nat.reduceLeDiff, Nat.reduceMul, Nat.reduceLT, Int.reduceLT, Int.reduceLE, Int.reduceAdd, Int.reduceSub, Int.reduceMul, Int.reduceNeg, Int.reduceEq, Int.reduceNe, Int.reduceToNat, decide_true, decide_false, iaddr_i, iaddr_sl_i, not_true_eq_false, not_false_eq_true, reduceCtorEq, ne_eq, forall_const, false_imp_iff, true_imp_iff, implies_true, Int.cast_ofNat_Int, Int.natCast_zero, Int.natCast_one, Int.add_zero, Int.zero_add]
                  exact wkv_dropP (ext_set fS (by omega) _) rfl
              · refine ⟨_, _, _, _, _, JB.hl, by simp, ?_⟩
                rw [hnone] at h
                cases h
                have JX := jb_end JB hS0l
                generalize (Blk.loop _ _ _ _ _ : Blk) = B
                have JX := JX B
                rw [show M0.length + 3 + 1 = M0.length + 4 from rfl]
                generalize S2.set (M0.length + 4) B = M3 at JX ⊢
                obtain ⟨tS, t2, t3, td⟩ := JX
                have g2 : (M3.set (M0.length + 3) (.dfr false))[S.length]? = some (.cells [.i .u64 0, .sn] 0 none true) := by rw [List.getElem?_set_ne (by omega)]; exact t2
                have g3 : (M3.set (M0.length + 3) (.dfr false))[S.length + 1]? = some (.cells [.i .i64 131] 0 none true) := by rw [List.getElem?_set_ne (by omega)]; exact t3
                simp (maxSteps := 1000000) (disch := omega) only [Jump.ix, ret_d td, g2, g3, go_sem, Option.map_none, Option.map_some, ↓reduceIte, Nat.reduceBEq, Nat.reduceAdd, Nat.reduceSub, Nat.reduceEqDiff, Nat.reduceLeDiff, Nat.reduceMul, Nat.reduceLT, Int.reduceLT, Int.reduceLE, Int.reduceAdd, Int.reduceSub, Int.reduceMul, Int.reduceNeg, Int.reduceEq, Int.reduceNe, Int.reduceToNat, decide_true, decide_false, iaddr_i, iaddr_sl_i, not_true_eq_false, not_false_eq_true, reduceCtorEq, ne_eq, forall_const, false_imp_iff, true_imp_iff, implies_true, Int.cast_ofNat_Int, Int.natCast_zero, Int.natCast_one, Int.add_zero, Int.zero_add]
                exact wkv_dropP (ext_set tS (by omega) _) rfl
          · have hrem : ∀ cst, binV .int cst .rem (.i .i64 (l.length : Int)) (.i .i64 11) = some (.i .i64 ((l.length % 11 : Nat) : Int)) := fun cst => by rw [bin_rem_pos (by omega) (by omega)]; rfl
            have hne : ¬ ((l.length % 11 : Nat) : Int) = 1 := by omega
            obtain ⟨M5, hM5⟩ : ∃ M5, M5 = M0.set (S.length + 1) (.cells [.i .i64 131] 0 none true) := ⟨_, rfl⟩
            have f2 : M5[S.length]? = some (.cells [.i .u64 0, .sn] 0 none true) := by rw [hM5, List.getElem?_set_ne (by omega)]; exact m2
            have f3 : M5[S.length + 1]? = some (.cells [.i .i64 131] 0 none true) := by rw [hM5]; exact at_set m3
            have fS : S <+: M5 := by rw [hM5]; exact ext_set hS0 (by omega) _
            rw [ofNums_mod hmod] at h
            cases h
            simp (maxSteps := 1000000) (disch := omega) only [c24, List.replicate, orc_cons, hall, hlX, hrem, hne, m2, m3, hset2, ← hM5, f2, f3, go_sem, Option.map_none, Option.map_some, ↓reduceIte, Nat.reduceBEq, Nat.reduceAdd, Nat.reduceSub, Nat.reduceEqDiff, Nat.reduceLeDiff, Nat.reduceMul, Nat.reduceLT, Int.reduceLT, Int.reduceLE, Int.reduceAdd, Int.reduceSub, Int.reduceMul, Int.reduceNeg, Int.reduceEq, Int.reduceNe, Int.reduceToNat, decide_true, decide_false, iaddr_i, iaddr_sl_i, not_true_eq_false, not_false_eq_true, reduceCtorEq, ne_eq, forall_const, false_imp_iff, true_imp_iff, implies_true, Int.cast_ofNat_Int, Int.natCast_zero, Int.natCast_one, Int.add_zero, Int.zero_add]
            exact wkv_dropP fS rfl
      · cases h
    · cases h
  · cases h
end Go.Proofs.Ytapgkaecamljbaa

namespace Go.Proofs.Ytapgkaecamljbaa
open Go.RowKit
set_option linter.unusedSimpArgs false
set_option linter.unusedVariables false
set_option maxRecDepth 10000

theorem of_ns {p : Pol} (hg : p.good) (hr : p.right) : Pol.of p.ns = some p := by
  obtain ⟨_, ⟨ha, hb, hc, hd⟩, _⟩ := hg
  have hn := u32_num ha hb hc hd
  unfold u32 at hn
  obtain ⟨sub, a, b, c, d, bits, rate, burst, srate, sburst, quota, lease, quantum⟩ := p
  simp only at ha hb hc hd hn
  unfold u8 at ha hb hc hd
  have e3 : b3 (num a b c d) = a := by unfold b3 num; omega
  have e2 : b2 (num a b c d) = b := by unfold b2 num; omega
  have e1 : b1 (num a b c d) = c := by unfold b1 num; omega
  have e0 : b0 (num a b c d) = d := by unfold b0 num; omega
  have hm : Pol.mk10 sub (num a b c d) bits rate burst srate sburst quota lease quantum = ⟨sub, a, b, c, d, bits, rate, burst, srate, sburst, quota, lease, quantum⟩ := by
    unfold Pol.mk10; rw [e3, e2, e1, e0]
  simp only [Pol.ns, Pol.of, hm]
  rw [if_pos ⟨hn.2, hr⟩]
theorem ns_of {l : List Int} {p : Pol} (hu : ∀ n ∈ l, u64 n) (h : Pol.of l = some p) : p.ns = l := by
  unfold Pol.of at h
  split at h
  · rename_i s n b r bu sr sb q le qu
    split at h
    · rename_i hc
      injection h with h; subst h
      have hn := hu n (by simp)
      have : num (b3 n) (b2 n) (b1 n) (b0 n) = n := by unfold num b3 b2 b1 b0; have := hn.1; omega
      simp only [Pol.ns, Pol.mk10, this]
    · cases h
  · cases h
theorem pns_len (p : Pol) : p.ns.length = 10 := rfl
theorem entsN_ns : ∀ (l : List Ent), (∀ x ∈ l, x.good) → (∀ x ∈ l, x.pol.right) → entsN l.length (entNs l) = some l
  | [], _, _ => rfl
  | x :: l, hg, hr => by
    have e : entNs (x :: l) = x.pol.ns ++ x.granted :: entNs l := by unfold entNs; rw [List.flatMap_cons, List.append_assoc]; rfl
    have h1 : (entNs (x :: l)).take 10 = x.pol.ns := by rw [e, List.take_append_of_le_length (by rw [pns_len]; omega), List.take_of_length_le (by rw [pns_len]; omega)]
    have h2 : (entNs (x :: l)).drop 11 = entNs l := by rw [e, List.drop_append, List.drop_of_length_le (by rw [pns_len]; omega), pns_len]; rfl
    have h3 : (entNs (x :: l)).getD 10 0 = x.granted := by
      rw [e, List.getD_eq_getElem?_getD, List.getElem?_append_right (by rw [pns_len]; omega), pns_len]; rfl
    rw [List.length_cons, entsN_some (p := x.pol) (by rw [h1]; exact of_ns (hg x (by simp)).1 (hr x (by simp))), h2, h3, entsN_ns l (fun y hy => hg y (by simp [hy])) (fun y hy => hr y (by simp [hy]))]
    rfl
theorem ns_entsN : ∀ (n : Nat) (r : List Int) (es : List Ent), (∀ m ∈ r, u64 m) → r.length = 11 * n → entsN n r = some es → entNs es = r
  | 0, r, es, _, hl, h => by
    obtain rfl : r = [] := List.eq_nil_of_length_eq_zero (by omega)
    cases h; rfl
  | n + 1, r, es, hu, hl, h => by
    simp only [entsN] at h
    split at h
    · rename_i p hp
      obtain ⟨es', he, rfl⟩ := Option.map_eq_some_iff.1 h
      have h1 := ns_entsN n _ es' (fun m hm => hu m (List.mem_of_mem_drop hm)) (by rw [List.length_drop]; omega) he
      have h2 := ns_of (fun m hm => hu m (List.mem_of_mem_take hm)) hp
      have e : entNs (⟨p, r.getD 10 0⟩ :: es') = p.ns ++ (r.getD 10 0 :: entNs es') := by unfold entNs; rw [List.flatMap_cons, List.append_assoc]; rfl
      rw [e, h1, h2]
      have h10 : 10 < r.length := by omega
      rw [List.getD_eq_getElem?_getD, List.getElem?_eq_getElem h10, Option.getD_some, ← List.drop_eq_getElem_cons h10, List.take_append_drop]
    · cases h
theorem okR {b : Bk} (ho : b.ok) : ∀ x ∈ b.entries, x.pol.right := by
  intro x hx
  obtain ⟨i, hi, rfl⟩ := List.getElem_of_mem hx
  have := (ho.2.2.1.2 i (by unfold polsOf; simpa using hi) (by unfold polsOf; simpa using hi)).1
  simpa [polsOf] using this
theorem okL {b : Bk} (ho : b.ok) : b.entries.length ≤ 8 := by
  have := ho.2.2.1.1
  unfold polsOf at this
  simpa using this
/-- There, and back. -/
theorem read_bytes {b : Bk} (hg : b.good) (ho : b.ok) : Bk.read (lebs b.ns) = some b := by
  have h8 := okL ho
  have hl := entNs_len b.entries
  unfold Bk.read
  rw [unlebs_lebs (bns_u64 hg ho) (by unfold Bk.ns; rw [List.length_cons, hl]; omega)]
  simp only [Bk.ns, Bk.ofNums]
  rw [if_pos (by omega), show (entNs b.entries).length / 11 = b.entries.length by omega, entsN_ns _ hg.2.2 (okR ho)]
  simp only [Bk.fin]
  rw [if_pos ho]
/-- What is read is good, and written so. -/
theorem bytes_read {d : List Int} {b : Bk} (hu : ∀ c ∈ d, u8 c) (h : Bk.read d = some b) : b.ok ∧ b.good ∧ lebs b.ns = d := by
  unfold Bk.read at h
  cases hun : unlebs d with
  | none => rw [hun] at h; cases h
  | some l =>
    rw [hun] at h
    obtain ⟨hlb, hlu, h128⟩ := lebs_unlebs hu hun
    cases l with
    | nil => cases h
    | cons p r =>
      have hur : ∀ m ∈ r, u64 m := fun m hm => hlu m (by simp [hm])
      simp only [Bk.ofNums] at h
      split at h
      · rename_i h11
        cases he : entsN (r.length / 11) r with
        | none => rw [he] at h; cases h
        | some es =>
          rw [he] at h
          simp only [Bk.fin] at h
          split at h
          · rename_i hok
            cases h
            obtain ⟨h1, h2⟩ := entsN_good _ _ _ hur he
            refine ⟨hok, ⟨hlu p (by simp), by rw [List.length_cons] at h128; simp only; omega, h2⟩, ?_⟩
            unfold Bk.ns
            rw [ns_entsN _ r es hur (by omega) he]
            exact hlb
          · cases h
      · cases h
/-! ### How many bytes -/
theorem lebs_app (l m : List Int) : lebs (l ++ m) = lebs l ++ lebs m := by unfold lebs; rw [List.flatMap_append]
theorem leb7 {n : Int} (h : n ≤ 281474976710656) : (leb n).length ≤ 7 := leb_len 6 n (by show n < 128 * 4398046511104; omega)
theorem bytes_len {b : Bk} (hg : b.good) (ho : b.ok) : (lebs b.ns).length ≤ 600 := by
  have h8 := okL ho
  have hr := okR ho
  have h48 : ∀ x ∈ b.entries, x.granted ≤ 281474976710656 := ho.2.2.2
  have hp := leb7 ho.2.1
  have key : ∀ l : List Ent, (∀ x ∈ l, x.good) → (∀ x ∈ l, x.pol.right) → (∀ x ∈ l, x.granted ≤ 281474976710656) → (lebs (entNs l)).length ≤ 64 * l.length := by
    intro l
    induction l with
    | nil => intro _ _ _; simp [entNs, lebs]
    | cons x l ih =>
      intro h1 h2 h3
      have ih := ih (fun y hy => h1 y (by simp [hy])) (fun y hy => h2 y (by simp [hy])) (fun y hy => h3 y (by simp [hy]))
      have e : entNs (x :: l) = (x.pol.ns ++ [x.granted]) ++ entNs l := by unfold entNs; rw [List.flatMap_cons]
      have hx := h2 x (by simp)
      have hxg := (h1 x (by simp)).1
      obtain ⟨_, ⟨ha, hb, hc, hd⟩, _⟩ := hxg
      have hn := u32_num ha hb hc hd
      unfold u32 at hn
      have hbits := cl_bound x.pol.bits
      have hb2 := hx.2.2.1.1
      have n1 := leb_len 1 x.pol.sub (by have := hx.2.1; show _ < 128 * 128; omega)
      have n2 := leb_len 4 (num x.pol.a x.pol.b x.pol.c x.pol.d) (by show _ < 128 * 268435456; omega)
      have n3 := leb_len 0 x.pol.bits (by show _ < 128 * 1; omega)
      have hnum := hx.2.2.2.1
      unfold Pol.nums at hnum
      have n4 := leb7 (hnum x.pol.rate (by simp))
      have n5 := leb7 (hnum x.pol.burst (by simp))
      have n6 := leb7 (hnum x.pol.srate (by simp))
      have n7 := leb7 (hnum x.pol.sburst (by simp))
      have n8 := leb7 (hnum x.pol.quota (by simp))
      have n9 := leb7 (hnum x.pol.lease (by simp))
      have n10 := leb7 (hnum x.pol.quantum (by simp))
      have n11 := leb7 (h3 x (by simp))
      rw [e, lebs_app, lebs_app, List.length_append, List.length_append, List.length_cons]
      have hns : (lebs x.pol.ns).length ≤ 57 := by
        unfold lebs Pol.ns
        simp only [List.flatMap_cons, List.flatMap_nil, List.length_append, List.length_nil]
        omega
      have hg1 : (lebs [x.granted]).length ≤ 7 := by
        unfold lebs
        simp only [List.flatMap_cons, List.flatMap_nil, List.length_append, List.length_nil]
        omega
      omega
  have := key b.entries hg.2.2 hr h48
  unfold Bk.ns
  have e : lebs (b.period :: entNs b.entries) = leb b.period ++ lebs (entNs b.entries) := by unfold lebs; rw [List.flatMap_cons]
  rw [e, List.length_append]
  omega
end Go.Proofs.Ytapgkaecamljbaa

namespace Go.Proofs.Ytapgkaecamljbaa
open Go.RowKit
set_option linter.unusedSimpArgs false
set_option linter.unusedVariables false
set_option maxRecDepth 100000

theorem alive_run : isTrue ((evAll tab 100000 100).fn 11 [] []) = true := by kernel_rfl
def aliveS : Spec := fun args S => match args with
  | [] => some (.b true, S)
  | _ => none
theorem alive_ok : SpecOK Try.prog 11 aliveS := by
  intro args S x S' h
  unfold aliveS at h
  split at h
  · cases h
    exact fnOK_of_below (by kernel_rfl) (fun w => calls_of_ev mixed tab_ok alive_run w) S
  · cases h

end Go.Proofs.Ytapgkaecamljbaa

namespace Go.Proofs.Ytapgkaecamljbaa
open Go.RowKit
set_option linter.unusedSimpArgs false
set_option linter.unusedVariables false
set_option maxRecDepth 10000

def fndIS : Spec := fun args S => match args with
  | [x, .i .i64 n] => match lstV (intE .i64) S x with
    | some l => if l.length ≤ 1000000 then some (.i .i64 (idx (fun y => decide (n = y)) l), S) else none
    | _ => none
  | _ => none
theorem fndI_ok : SpecOK Try.prog 88 fndIS := by
  intro args S x S' h
  simp only [fndIS] at h
  split at h
  · rename_i s n
    split at h
    · rename_i l hl
      split at h
      · rename_i hlim
        cases h
        refine fn_of_wp f88 rfl (W_sound none_ok mixed _ _ _ _ _ ?_)
        simp (maxSteps := 1000000) (disch := omega) only [c88, lst_len hl, go_sem, Option.map_none, Option.map_some, ↓reduceIte, Nat.reduceBEq, Nat.reduceAdd, Nat.reduceSub, Nat.reduceEqDiff, Nat.reduceLeDiff, Nat.reduceMul, Nat.reduceLT, Int.reduceLT, Int.reduceLE, Int.reduceAdd, Int.reduceSub, Int.reduceMul, Int.reduceNeg, Int.reduceEq, Int.reduceNe, Int.reduceToNat, decide_true, decide_false, iaddr_i, iaddr_sl_i, not_true_eq_false, not_false_eq_true, reduceCtorEq, ne_eq, forall_const, false_imp_iff, true_imp_iff, implies_true, Int.cast_ofNat_Int, Int.natCast_zero, Int.natCast_one, Int.add_zero, Int.zero_add]
        refine wp_loop (fun j e M dl => dl = [] ∧ ∃ k : Nat, j = l.length - k ∧ k ≤ l.length ∧ M = S ∧ (∀ i (hi : i < k) (hl : i < l.length), decide (n = l[i]) = false) ∧
          e.get 0 = s ∧ e.get 1 = .i .i64 n ∧ e.get 7 = .i .i64 l.length ∧ e.get 8 = .i .i64 k) (j := l.length) ⟨rfl, 0, rfl, Nat.zero_le _, rfl, fun i hi => absurd hi (Nat.not_lt_zero _), rfl, rfl, rfl, rfl⟩ ?_
        rintro j e M d' ⟨rfl, k, rfl, hk, rfl, hn, h0, h1, h7, h8⟩
        refine W_sound none_ok mixed _ _ _ _ _ ?_
        by_cases hkl : k < l.length
        · obtain ⟨bi, o, v, cap, ex, rfl⟩ := lst_sl hl hkl
          have hc := lstV_cell hl rfl (fun a => rfl) hkl []
          rw [List.append_nil] at hc
          have hkI : (k : Int) < l.length := by omega
          simp (maxSteps := 1000000) (disch := omega) only [c88l0, h0, h1, h7, h8, hkI, Int.toNat_natCast, Nat.mul_one, hc, go_sem, Option.map_none, Option.map_some, ↓reduceIte, Nat.reduceBEq, Nat.reduceAdd, Nat.reduceSub, Nat.reduceEqDiff, Nat.reduceLeDiff, Nat.reduceMul, Nat.reduceLT, Int.reduceLT, Int.reduceLE, Int.reduceAdd, Int.reduceSub, Int.reduceMul, Int.reduceNeg, Int.reduceEq, Int.reduceNe, Int.reduceToNat, decide_true, decide_false, iaddr_i, iaddr_sl_i, not_true_eq_false, not_false_eq_true, reduceCtorEq, ne_eq, forall_const, false_imp_iff, true_imp_iff, implies_true, Int.cast_ofNat_Int, Int.natCast_zero, Int.natCast_one, Int.add_zero, Int.zero_add]
          refine ⟨fun hp => ?_, fun hp => ⟨l.length - (k + 1), by omega, k + 1, rfl, hkl, fun i hi hil => ?_, rfl⟩⟩
          · rw [idx_at hkl (decide_eq_true hp) fun j hj => hn j hj (by omega)]
            exact wkv_same
          · by_cases hik : i = k
            · subst hik; exact decide_eq_false hp
            · exact hn i (by omega) hil
        · have hkI : ¬ (k : Int) < l.length := by omega
          simp (maxSteps := 1000000) (disch := omega) only [c88l0, h0, h1, h7, h8, hkI, go_sem, Option.map_none, Option.map_some, ↓reduceIte, Nat.reduceBEq, Nat.reduceAdd, Nat.reduceSub, Nat.reduceEqDiff, Nat.reduceLeDiff, Nat.reduceMul, Nat.reduceLT, Int.reduceLT, Int.reduceLE, Int.reduceAdd, Int.reduceSub, Int.reduceMul, Int.reduceNeg, Int.reduceEq, Int.reduceNe, Int.reduceToNat, decide_true, decide_false, iaddr_i, iaddr_sl_i, not_true_eq_false, not_false_eq_true, reduceCtorEq, ne_eq, forall_const, false_imp_iff, true_imp_iff, implies_true, Int.cast_ofNat_Int, Int.natCast_zero, Int.natCast_one, Int.add_zero, Int.zero_add]
          rw [idx_none fun j hj => hn j (by omega) hj]
          exact wkv_same
      · cases h
    · cases h
  · cases h
theorem fndI_eq {S : Mem} {x : AV} {l} (hl : lstV (intE .i64) S x = some l) (n : Int) (hn : l.length ≤ 1000000) : fndIS [x, .i .i64 n] S = some (.i .i64 (idx (fun y => decide (n = y)) l), S) := by
  simp only [fndIS, hl, if_pos hn]
def inIS : Spec := fun args S => match args with
  | [x, .i .i64 n] => match lstV (intE .i64) S x with
    | some l => if l.length ≤ 1000000 then some (.b (decide (n ∈ l)), S) else none
    | _ => none
  | _ => none
theorem oInI_ok : OK Try.prog (lamOf Try.prog) (orcOf [(88, fndIS)]) := orc_ok (by simpa using fndI_ok)
theorem inI_ok : SpecOK Try.prog 75 inIS := by
  intro args S x S' h
  simp only [inIS] at h
  split at h
  · rename_i s n
    split at h
    · rename_i l hl
      split at h
      · rename_i hlim
        cases h
        have hi := fndI_eq hl n hlim
        refine fn_of_wp f75 rfl (W_sound oInI_ok mixed _ _ _ _ _ ?_)
        simp (maxSteps := 1000000) (disch := omega) only [c75, orc_cons, hi, go_sem, Option.map_none, Option.map_some, ↓reduceIte, Nat.reduceBEq, Nat.reduceAdd, Nat.reduceSub, Nat.reduceEqDiff, Nat.reduceLeDiff, Nat.reduceMul, Nat.reduceLT, Int.reduceLT, Int.reduceLE, Int.reduceAdd, Int.reduceSub, Int.reduceMul, Int.reduceNeg, Int.reduceEq, Int.reduceNe, Int.reduceToNat, decide_true, decide_false, iaddr_i, iaddr_sl_i, not_true_eq_false, not_false_eq_true, reduceCtorEq, ne_eq, forall_const, false_imp_iff, true_imp_iff, implies_true, Int.cast_ofNat_Int, Int.natCast_zero, Int.natCast_one, Int.add_zero, Int.zero_add]
        refine wkv_bP ext_refl ?_
        rw [idx_ge, List.any_eq_true]
        exact ⟨fun hm => ⟨n, hm, by simp⟩, fun ⟨y, hy, hp⟩ => by rw [decide_eq_true_eq] at hp; rw [hp]; exact hy⟩
      · cases h
    · cases h
  · cases h
theorem inI_eq {S : Mem} {x : AV} {l} (hl : lstV (intE .i64) S x = some l) (n : Int) (hn : l.length ≤ 1000000) : inIS [x, .i .i64 n] S = some (.b (decide (n ∈ l)), S) := by
  simp only [inIS, hl, if_pos hn]

structure Evt where
  kind : Int
  sub : Int
  puts : List Pol
  drops : List Int
  granted : Int
  period : Int
  deriving DecidableEq
def evtOf (S : Mem) (cs : List AV) : Option Evt := match cs with
  | [.i .i64 k, .i .i64 s, xp, xd, .i .u64 g, .i .u64 p] => match lstV polE S xp, lstV (intE .i64) S xd with
    | some ps, some ds => some ⟨k, s, ps, ds, g, p⟩
    | _, _ => none
  | _ => none
theorem evtOf_ok {S : Mem} {cs : List AV} {e : Evt} (h : evtOf S cs = some e) : ∃ xp xd, cs = [.i .i64 e.kind, .i .i64 e.sub, xp, xd, .i .u64 e.granted, .i .u64 e.period] ∧ lstV polE S xp = some e.puts ∧ lstV (intE .i64) S xd = some e.drops := by
  unfold evtOf at h
  split at h
  · split at h
    · rename_i h1 h2; cases h; exact ⟨_, _, rfl, h1, h2⟩
    · cases h
  · cases h
theorem evtOf_mk {S : Mem} {xp xd : AV} {k s g p : Int} {ps : List Pol} {ds : List Int} (h1 : lstV polE S xp = some ps) (h2 : lstV (intE .i64) S xd = some ds) : evtOf S [.i .i64 k, .i .i64 s, xp, xd, .i .u64 g, .i .u64 p] = some ⟨k, s, ps, ds, g, p⟩ := by
  simp only [evtOf, h1, h2]
theorem evtOf_ext {S M : Mem} {cs : List AV} {e : Evt} (h : evtOf S cs = some e) (hS : S <+: M) : evtOf M cs = some e := by
  obtain ⟨xp, xd, rfl, h1, h2⟩ := evtOf_ok h
  exact evtOf_mk (lst_ext h1 hS) (lst_ext h2 hS)
def Evt.fits (e : Evt) : Prop := e.puts.length ≤ 1000000 ∧ e.drops.length ≤ 1000000 ∧ ∀ p ∈ e.puts, p.fits
instance (e : Evt) : Decidable e.fits := by unfold Evt.fits; infer_instance

/-! ### Same -/
def esameS : Spec := fun args S => match args with
  | [.ag c1, .ag c2] => match evtOf S c1, evtOf S c2 with
    | some a, some b => if a.fits then some (.b (decide (a = b)), S) else none
    | _, _ => none
  | _ => none
theorem oSame_ok : OK Try.prog (lamOf Try.prog) (orcOf [(76, eqlPS), (77, eqlIS)]) := orc_ok (by simpa using ⟨eqlP_ok, eqlI_ok⟩)
theorem esame_ok : SpecOK Try.prog 50 esameS := by
  intro args S x S' h
  simp only [esameS] at h
  split at h
  · rename_i c1 c2
    split at h
    · rename_i a b ha hb
      split at h
      · rename_i hf
        cases h
        obtain ⟨p1, d1, rfl, hp1, hd1⟩ := evtOf_ok ha
        obtain ⟨p2, d2, rfl, hp2, hd2⟩ := evtOf_ok hb
        have e1 := fun L => eqlP_eq (lstV_grow hp1 L) (lstV_grow hp2 L) hf.1
        have e2 := fun L => eqlI_eq (lstV_grow hd1 L) (lstV_grow hd2 L) hf.2.1
        refine fn_of_wp f50 rfl (W_sound oSame_ok mixed _ _ _ _ _ ?_)
        simp (maxSteps := 1000000) (disch := omega) only [c50, orc_cons, e1, e2, go_sem, Option.map_none, Option.map_some, ↓reduceIte, Nat.reduceBEq, Nat.reduceAdd, Nat.reduceSub, Nat.reduceEqDiff, Nat.reduceLeDiff, Nat.reduceMul, Nat.reduceLT, Int.reduceLT, Int.reduceLE, Int.reduceAdd, Int.reduceSub, Int.reduceMul, Int.reduceNeg, Int.reduceEq, Int.reduceNe, Int.reduceToNat, decide_true, decide_false, iaddr_i, iaddr_sl_i, not_true_eq_false, not_false_eq_true, reduceCtorEq, ne_eq, forall_const, false_imp_iff, true_imp_iff, implies_true, Int.cast_ofNat_Int, Int.natCast_zero, Int.natCast_one, Int.add_zero, Int.zero_add]
        obtain ⟨k1, s1, ps1, ds1, g1, q1⟩ := a
        obtain ⟨k2, s2, ps2, ds2, g2, q2⟩ := b
        simp only [Evt.mk.injEq]
        refine ⟨fun h1 => ⟨fun h2 => ⟨fun h3 => ⟨fun h4 => ⟨fun h5 => wkv_b ?_, fun h5 => wkv_f ?_⟩, fun h4 => wkv_f ?_⟩, fun h3 => wkv_f ?_⟩, fun h2 => wkv_f ?_⟩, fun h1 => wkv_f ?_⟩
        · exact ⟨fun q => q.2.2.2.1, fun q => ⟨h1, h2, h5, q, h3, h4⟩⟩
        · exact fun q => h5 q.2.2.1
        · exact fun q => h4 q.2.2.2.2.2
        · exact fun q => h3 q.2.2.2.2.1
        · exact fun q => h2 q.2.1
        · exact fun q => h1 q.1
      · cases h
    · cases h
  · cases h
theorem esame_eq {S : Mem} {c1 c2 : List AV} {a b : Evt} (ha : evtOf S c1 = some a) (hb : evtOf S c2 = some b) (hf : a.fits) : esameS [.ag c1, .ag c2] S = some (.b (decide (a = b)), S) := by
  simp only [esameS, ha, hb, if_pos hf]

/-! ### sub, value -/
def subOk (n : Int) : Prop := 1 ≤ n ∧ n ≤ 255
instance (n : Int) : Decidable (subOk n) := by unfold subOk; infer_instance
def valOk (n : Int) : Prop := 1 ≤ n ∧ n ≤ 281474976710656
instance (n : Int) : Decidable (valOk n) := by unfold valOk; infer_instance
def subS : Spec := fun args S => match args with
  | [.i .i64 n] => some (.b (decide (subOk n)), S)
  | _ => none
def valueS : Spec := fun args S => match args with
  | [.i .u64 n] => some (.b (decide (valOk n)), S)
  | _ => none
theorem sub_ok : SpecOK Try.prog 51 subS := by
  intro args S x S' h
  simp only [subS] at h
  split at h
  · cases h
    refine fn_of_wp f51 rfl (W_sound none_ok mixed _ _ _ _ _ ?_)
    simp (maxSteps := 1000000) (disch := omega) only [c51, go_sem, Option.map_none, Option.map_some, ↓reduceIte, Nat.reduceBEq, Nat.reduceAdd, Nat.reduceSub, Nat.reduceEqDiff, Nat.reduceLeDiff, Nat.reduceMul, Nat.reduceLT, Int.reduceLT, Int.reduceLE, Int.reduceAdd, Int.reduceSub, Int.reduceMul, Int.reduceNeg, Int.reduceEq, Int.reduceNe, Int.reduceToNat, decide_true, decide_false, iaddr_i, iaddr_sl_i, not_true_eq_false, not_false_eq_true, reduceCtorEq, ne_eq, forall_const, false_imp_iff, true_imp_iff, implies_true, Int.cast_ofNat_Int, Int.natCast_zero, Int.natCast_one, Int.add_zero, Int.zero_add]
    exact ⟨fun h1 => wkv_bP ext_refl ⟨fun q => q.2, fun q => ⟨h1, q⟩⟩, fun h1 => wkv_fP ext_refl fun q => h1 q.1⟩
  · cases h
theorem value_ok : SpecOK Try.prog 52 valueS := by
  intro args S x S' h
  simp only [valueS] at h
  split at h
  · cases h
    refine fn_of_wp f52 rfl (W_sound none_ok mixed _ _ _ _ _ ?_)
    simp (maxSteps := 1000000) (disch := omega) only [c52, go_sem, Option.map_none, Option.map_some, ↓reduceIte, Nat.reduceBEq, Nat.reduceAdd, Nat.reduceSub, Nat.reduceEqDiff, Nat.reduceLeDiff, Nat.reduceMul, Nat.reduceLT, Int.reduceLT, Int.reduceLE, Int.reduceAdd, Int.reduceSub, Int.reduceMul, Int.reduceNeg, Int.reduceEq, Int.reduceNe, Int.reduceToNat, decide_true, decide_false, iaddr_i, iaddr_sl_i, not_true_eq_false, not_false_eq_true, reduceCtorEq, ne_eq, forall_const, false_imp_iff, true_imp_iff, implies_true, Int.cast_ofNat_Int, Int.natCast_zero, Int.natCast_one, Int.add_zero, Int.zero_add]
    exact ⟨fun h1 => wkv_bP ext_refl ⟨fun q => q.2, fun q => ⟨h1, q⟩⟩, fun h1 => wkv_fP ext_refl fun q => h1 q.1⟩
  · cases h

/-! ### drops -/
def inDropsS : Spec := fun args S => match args with
  | [.ag cs, .p i o v] => match polE.dec cs, cellB (S[i]?) o v with
    | some p, some x => match lstV (intE .i64) S x with
      | some l => if l.length ≤ 1000000 then some (.b (decide (p.sub ∈ l)), S) else none
      | none => none
    | _, _ => none
  | _ => none
theorem cell_lt {S : Mem} {i o v : Nat} {x : AV} (h : cellB (S[i]?) o v = some x) : ∀ L : Mem, cellB ((S ++ L)[i]?) o v = some x := fun L => by
  have hi : i < S.length := by
    rcases Nat.lt_or_ge i S.length with h' | h'
    · exact h'
    · rw [List.getElem?_eq_none h'] at h; simp [cellB] at h
  rw [List.getElem?_append_left hi]; exact h
theorem oInD_ok : OK Try.prog (lamOf Try.prog) (orcOf [(75, inIS)]) := orc_ok (by simpa using inI_ok)
theorem inDrops_ok : SpecOK Try.prog 74 inDropsS := by
  intro args S x S' h
  simp only [inDropsS] at h
  split at h
  · rename_i cs i o v
    split at h
    · rename_i p s hp hs
      split at h
      · rename_i l hl
        split at h
        · rename_i hlim
          cases h
          obtain rfl := polE.ed _ _ hp
          have hc := cell_lt hs
          have hi := fun L => inI_eq (lstV_grow hl L) p.sub hlim
          refine fn_of_wp f74 rfl (W_sound oInD_ok mixed _ _ _ _ _ ?_)
          simp (maxSteps := 1000000) (disch := omega) only [c74, polE, Pol.enc, hc, orc_cons, hi, go_sem, Option.map_none, Option.map_some, ↓reduceIte, Nat.reduceBEq, Nat.reduceAdd, Nat.reduceSub, Nat.reduceEqDiff, Nat.reduceLeDiff, Nat.reduceMul, Nat.reduceLT, Int.reduceLT, Int.reduceLE, Int.reduceAdd, Int.reduceSub, Int.reduceMul, Int.reduceNeg, Int.reduceEq, Int.reduceNe, Int.reduceToNat, decide_true, decide_false, iaddr_i, iaddr_sl_i, not_true_eq_false, not_false_eq_true, reduceCtorEq, ne_eq, forall_const, false_imp_iff, true_imp_iff, implies_true, Int.cast_ofNat_Int, Int.natCast_zero, Int.natCast_one, Int.add_zero, Int.zero_add]
          exact wkv_drop rfl
        · cases h
      · cases h
    · cases h
  · cases h
def predP (f : AV) (S : Mem) : Option (Pol → Bool) := match f with
  | .f (.func g) [] [.p i o v] => if g = 74 then match cellB (S[i]?) o v with
    | some x => match lstV (intE .i64) S x with
      | some l => if l.length ≤ 1000000 then some (fun p => decide (p.sub ∈ l)) else none
      | none => none
    | none => none else none
  | _ => none
def polO : Orc := orcOf [(74, inDropsS)]
theorem polO_ok : OK Try.prog (lamOf Try.prog) polO := orc_ok (by simpa using inDrops_ok)
theorem predP_call {f : AV} {S : Mem} {p : Pol → Bool} (h : predP f S = some p) : ∃ g b, f = .f (.func g) [] b ∧ ∀ x, polO.fn g (.ag (polE.enc x) :: b) S = some (.b (p x), S) := by
  unfold predP at h
  split at h
  · split at h
    · rename_i hg; subst hg
      split at h
      · rename_i s hs
        split at h
        · rename_i l hl
          split at h
          · rename_i hlim
            injection h with h; subst h
            refine ⟨_, _, rfl, fun x => ?_⟩
            have he : polO.fn 74 = inDropsS := by funext a S; rfl
            rw [he]
            simp only [inDropsS, polE.de, hs, hl, if_pos hlim]
          · cases h
        · cases h
      · cases h
    · cases h
  · cases h
theorem predP_drops {S : Mem} {i o v : Nat} {x : AV} {l : List Int} (h : cellB (S[i]?) o v = some x) (hl : lstV (intE .i64) S x = some l) (hn : l.length ≤ 1000000) : predP (.f (.func 74) [] [.p i o v]) S = some (fun p => decide (p.sub ∈ l)) := by
  simp only [predP, if_true, h, hl, if_pos hn]

def idxPS : Spec := fun args S => match args with
  | [x, f] => match lstV polE S x, predP f S with
    | some l, some p => if l.length ≤ 1000000 then some (.i .i64 (idx p l), S) else none
    | _, _ => none
  | _ => none
theorem idxP_ok : SpecOK Try.prog 87 idxPS := by
  intro args S x S' h
  simp only [idxPS] at h
  split at h
  · rename_i s f
    split at h
    · rename_i l p hl hp
      split at h
      · rename_i hlim
        cases h
        obtain ⟨g, b, rfl, hg⟩ := predP_call hp
        refine fn_of_wp f87 rfl (W_sound polO_ok mixed _ _ _ _ _ ?_)
        simp (maxSteps := 1000000) (disch := omega) only [c87, lst_len hl, go_sem, Option.map_none, Option.map_some, ↓reduceIte, Nat.reduceBEq, Nat.reduceAdd, Nat.reduceSub, Nat.reduceEqDiff, Nat.reduceLeDiff, Nat.reduceMul, Nat.reduceLT, Int.reduceLT, Int.reduceLE, Int.reduceAdd, Int.reduceSub, Int.reduceMul, Int.reduceNeg, Int.reduceEq, Int.reduceNe, Int.reduceToNat, decide_true, decide_false, iaddr_i, iaddr_sl_i, not_true_eq_false, not_false_eq_true, reduceCtorEq, ne_eq, forall_const, false_imp_iff, true_imp_iff, implies_true, Int.cast_ofNat_Int, Int.natCast_zero, Int.natCast_one, Int.add_zero, Int.zero_add]
        refine wp_loop (fun j e M dl => dl = [] ∧ ∃ k : Nat, j = l.length - k ∧ k ≤ l.length ∧ M = S ∧ (∀ i (hi : i < k) (hl : i < l.length), p l[i] = false) ∧
          e.get 0 = s ∧ e.get 1 = .f (.func g) [] b ∧ e.get 7 = .i .i64 l.length ∧ e.get 8 = .i .i64 k) (j := l.length) ⟨rfl, 0, rfl, Nat.zero_le _, rfl, fun i hi => absurd hi (Nat.not_lt_zero _), rfl, rfl, rfl, rfl⟩ ?_
        rintro j e M d' ⟨rfl, k, rfl, hk, rfl, hn, h0, h1, h7, h8⟩
        refine W_sound polO_ok mixed _ _ _ _ _ ?_
        by_cases hkl : k < l.length
        · obtain ⟨bi, o, v, cap, ex, rfl⟩ := lst_sl hl hkl
          have hc := lstV_row hl hkl []
          rw [List.append_nil] at hc
          have hc : rowB (M[bi]?) (o + k * 13) v 13 = some (polE.enc l[k]) := hc
          have hkI : (k : Int) < l.length := by omega
          simp (maxSteps := 1000000) (disch := omega) only [c87l0, h0, h1, h7, h8, hkI, Int.toNat_natCast, Nat.mul_one, hc, hg, go_sem, Option.map_none, Option.map_some, ↓reduceIte, Nat.reduceBEq, Nat.reduceAdd, Nat.reduceSub, Nat.reduceEqDiff, Nat.reduceLeDiff, Nat.reduceMul, Nat.reduceLT, Int.reduceLT, Int.reduceLE, Int.reduceAdd, Int.reduceSub, Int.reduceMul, Int.reduceNeg, Int.reduceEq, Int.reduceNe, Int.reduceToNat, decide_true, decide_false, iaddr_i, iaddr_sl_i, not_true_eq_false, not_false_eq_true, reduceCtorEq, ne_eq, forall_const, false_imp_iff, true_imp_iff, implies_true, Int.cast_ofNat_Int, Int.natCast_zero, Int.natCast_one, Int.add_zero, Int.zero_add]
          cases hpk : p l[k] with
          | true =>
            refine ⟨fun _ => ?_, fun h => by cases h⟩
            rw [idx_at hkl hpk fun j hj => hn j hj (by omega)]
            exact wkv_same
          | false =>
            refine ⟨(fun h => by cases h), fun _ => ⟨l.length - (k + 1), by omega, k + 1, rfl, hkl, fun i hi hil => ?_, rfl⟩⟩
            by_cases hik : i = k
            · subst hik; exact hpk
            · exact hn i (by omega) hil
        · have hkI : ¬ (k : Int) < l.length := by omega
          simp (maxSteps := 1000000) (disch := omega) only [c87l0, h0, h1, h7, h8, hkI, go_sem, Option.map_none, Option.map_some, ↓reduceIte, Nat.reduceBEq, Nat.reduceAdd, Nat.reduceSub, Nat.reduceEqDiff, Nat.reduceLeDiff, Nat.reduceMul, Nat.reduceLT, Int.reduceLT, Int.reduceLE, Int.reduceAdd, Int.reduceSub, Int.reduceMul, Int.reduceNeg, Int.reduceEq, Int.reduceNe, Int.reduceToNat, decide_true, decide_false, iaddr_i, iaddr_sl_i, not_true_eq_false, not_false_eq_true, reduceCtorEq, ne_eq, forall_const, false_imp_iff, true_imp_iff, implies_true, Int.cast_ofNat_Int, Int.natCast_zero, Int.natCast_one, Int.add_zero, Int.zero_add]
          rw [idx_none fun j hj => hn j (by omega) hj]
          exact wkv_same
      · cases h
    · cases h
  · cases h
theorem idxP_eq {S : Mem} {x f : AV} {l p} (hl : lstV polE S x = some l) (hp : predP f S = some p) (hn : l.length ≤ 1000000) : idxPS [x, f] S = some (.i .i64 (idx p l), S) := by
  simp only [idxPS, hl, hp, if_pos hn]

def hasPS : Spec := fun args S => match args with
  | [x, f] => match lstV polE S x, predP f S with
    | some l, some p => if l.length ≤ 1000000 then some (.b (l.any p), S) else none
    | _, _ => none
  | _ => none
theorem oHasP_ok : OK Try.prog (lamOf Try.prog) (orcOf [(87, idxPS)]) := orc_ok (by simpa using idxP_ok)
theorem hasP_ok : SpecOK Try.prog 73 hasPS := by
  intro args S x S' h
  simp only [hasPS] at h
  split at h
  · rename_i s f
    split at h
    · rename_i l p hl hp
      split at h
      · rename_i hlim
        cases h
        have hi := idxP_eq hl hp hlim
        refine fn_of_wp f73 rfl (W_sound oHasP_ok mixed _ _ _ _ _ ?_)
        simp (maxSteps := 1000000) (disch := omega) only [c73, orc_cons, hi, go_sem, Option.map_none, Option.map_some, ↓reduceIte, Nat.reduceBEq, Nat.reduceAdd, Nat.reduceSub, Nat.reduceEqDiff, Nat.reduceLeDiff, Nat.reduceMul, Nat.reduceLT, Int.reduceLT, Int.reduceLE, Int.reduceAdd, Int.reduceSub, Int.reduceMul, Int.reduceNeg, Int.reduceEq, Int.reduceNe, Int.reduceToNat, decide_true, decide_false, iaddr_i, iaddr_sl_i, not_true_eq_false, not_false_eq_true, reduceCtorEq, ne_eq, forall_const, false_imp_iff, true_imp_iff, implies_true, Int.cast_ofNat_Int, Int.natCast_zero, Int.natCast_one, Int.add_zero, Int.zero_add]
        refine wkv_eq wkv_same ?_ rfl
        congr 1
        have := idx_ge p l
        cases h : l.any p
        · rw [h] at this; simp [this]
        · rw [h] at this; simp [this]
      · cases h
    · cases h
  · cases h
theorem hasP_eq {S : Mem} {x f : AV} {l p} (hl : lstV polE S x = some l) (hp : predP f S = some p) (hn : l.length ≤ 1000000) : hasPS [x, f] S = some (.b (l.any p), S) := by
  simp only [hasPS, hl, hp, if_pos hn]

/-- They rise, from 1 to 255. -/
def riseTo (l : List Int) (k : Nat) : Prop := ∀ i (h : i < l.length), i < k → subOk l[i] ∧ ∀ h0 : 0 < i, l[i - 1] < l[i]
def dropsOk (l : List Int) (ps : List Pol) : Prop := l.length ≤ 8 ∧ riseTo l l.length ∧ ∀ p ∈ ps, p.sub ∉ l
noncomputable instance (l : List Int) (ps : List Pol) : Decidable (dropsOk l ps) := Classical.propDecidable _
noncomputable def dropsS : Spec := fun args S => match args with
  | [x, y] => match lstV (intE .i64) S x, lstV polE S y with
    | some l, some ps => if l.length ≤ 1000000 ∧ ps.length ≤ 1000000 then some (.b (decide (dropsOk l ps)), S) else none
    | _, _ => none
  | _ => none
theorem oDr_ok : OK Try.prog (lamOf Try.prog) (orcOf [(51, subS), (73, hasPS)]) := orc_ok (by simpa using ⟨sub_ok, hasP_ok⟩)
theorem drops_ok : SpecOK Try.prog 49 dropsS := by
  intro args S x S' h
  simp only [dropsS] at h
  split at h
  · rename_i s t
    split at h
    · rename_i l ps hl hps
      split at h
      · rename_i hlim
        cases h
        refine fn_of_wp f49 rfl (W_sound oDr_ok mixed _ _ _ _ _ ?_)
        simp (maxSteps := 1000000) (disch := omega) only [c49, lst_len hl, lst_len hps, lst_cells hl, go_sem, Option.map_none, Option.map_some, ↓reduceIte, Nat.reduceBEq, Nat.reduceAdd, Nat.reduceSub, Nat.reduceEqDiff, Nat.reduceLeDiff, Nat.reduceMul, Nat.reduceLT, Int.reduceLT, Int.reduceLE, Int.reduceAdd, Int.reduceSub, Int.reduceMul, Int.reduceNeg, Int.reduceEq, Int.reduceNe, Int.reduceToNat, decide_true, decide_false, iaddr_i, iaddr_sl_i, not_true_eq_false, not_false_eq_true, reduceCtorEq, ne_eq, forall_const, false_imp_iff, true_imp_iff, implies_true, Int.cast_ofNat_Int, Int.natCast_zero, Int.natCast_one, Int.add_zero, Int.zero_add]
        refine ⟨fun h8 => wkv_f fun q => by have := q.1; omega, fun h8 => ?_⟩
        refine wp_loop (fun j e M dl => dl = [] ∧ ∃ k : Nat, j = l.length - k ∧ k ≤ l.length ∧ M = S ++ [.cells [s] 0 none true] ∧ riseTo l k ∧
          e.get 2 = .p S.length 0 0 ∧ e.get 10 = s ∧ e.get 1 = t ∧ e.get 11 = .i .i64 l.length ∧ e.get 12 = .i .i64 k) (j := l.length) ⟨rfl, 0, rfl, Nat.zero_le _, rfl, fun i _ hi => absurd hi (Nat.not_lt_zero _), rfl, rfl, rfl, rfl, rfl⟩ ?_
        rintro j e M d' ⟨rfl, k, rfl, hk, rfl, hn, h2, h10, h1, h11, h12⟩
        refine W_sound oDr_ok mixed _ _ _ _ _ ?_
        by_cases hkl : k < l.length
        · obtain ⟨bi, o, v, cap, ex, rfl⟩ := lst_sl hl hkl
          have hc := lstV_cell hl rfl (fun a => rfl) hkl
          have hkI : (k : Int) < l.length := by omega
          have hpos : (0 < (k : Int)) = (0 < k) := by simp
          have hw : wrapV .i64 ((k : Int) + 1) = ((k + 1 : Nat) : Int) := by rw [wrap_i64 (by omega) (by omega)]; omega
          have more : subOk l[k] → (∀ h0 : 0 < k, (l[k - 1]'(by omega)) < l[k]) → riseTo l (k + 1) := fun a b i hi hik => by
            by_cases e : i = k
            · subst e; exact ⟨a, b⟩
            · exact hn i hi (by omega)
          by_cases h0k : 0 < k
          · have hp : ∀ L, cellB ((S ++ L)[bi]?) (o + (k - 1)) v = some (.i .i64 (l[k - 1]'(by omega))) := lstV_cell hl rfl (fun a => rfl) (show k - 1 < l.length by omega)
            have hk1 : wrapV .i64 ((k : Int) - 1) = ((k - 1 : Nat) : Int) := by rw [wrap_i64 (by omega) (by omega)]; omega
            simp (maxSteps := 1000000) (disch := omega) only [c49l0, h1, h2, h10, h11, h12, hkI, Int.toNat_natCast, Nat.mul_one, hc, hp, orc_cons, subS, hpos, h0k, hk1, hw, go_sem, Option.map_none, Option.map_some, ↓reduceIte, Nat.reduceBEq, Nat.reduceAdd, Nat.reduceSub, Nat.reduceEqDiff, Nat.reduceLeDiff, Nat.reduceMul, Nat.reduceLT, Int.reduceLT, Int.reduceLE, Int.reduceAdd, Int.reduceSub, Int.reduceMul, Int.reduceNeg, Int.reduceEq, Int.reduceNe, Int.reduceToNat, decide_true, decide_false, iaddr_i, iaddr_sl_i, not_true_eq_false, not_false_eq_true, reduceCtorEq, ne_eq, forall_const, false_imp_iff, true_imp_iff, implies_true, Int.cast_ofNat_Int, Int.natCast_zero, Int.natCast_one, Int.add_zero, Int.zero_add]
            refine ⟨fun hs => ⟨fun hb => wkv_f fun q => ?_, fun hb => ⟨l.length - (k + 1), by omega, k + 1, rfl, hkl, more (Decidable.not_not.1 hs) fun _ => by omega, rfl⟩⟩, fun hs => wkv_f fun q => hs (q.2.1 k hkl hkl).1⟩
            have := (q.2.1 k hkl hkl).2 h0k
            omega
          · simp (maxSteps := 1000000) (disch := omega) only [c49l0, h1, h2, h10, h11, h12, hkI, Int.toNat_natCast, Nat.mul_one, hc, orc_cons, subS, hpos, h0k, hw, go_sem, Option.map_none, Option.map_some, ↓reduceIte, Nat.reduceBEq, Nat.reduceAdd, Nat.reduceSub, Nat.reduceEqDiff, Nat.reduceLeDiff, Nat.reduceMul, Nat.reduceLT, Int.reduceLT, Int.reduceLE, Int.reduceAdd, Int.reduceSub, Int.reduceMul, Int.reduceNeg, Int.reduceEq, Int.reduceNe, Int.reduceToNat, decide_true, decide_false, iaddr_i, iaddr_sl_i, not_true_eq_false, not_false_eq_true, reduceCtorEq, ne_eq, forall_const, false_imp_iff, true_imp_iff, implies_true, Int.cast_ofNat_Int, Int.natCast_zero, Int.natCast_one, Int.add_zero, Int.zero_add]
            exact ⟨fun hs => ⟨l.length - (k + 1), by omega, k + 1, rfl, hkl, more (Decidable.not_not.1 hs) fun h => absurd h h0k, rfl⟩, fun hs => wkv_f fun q => hs (q.2.1 k hkl hkl).1⟩
        · have hkI : ¬ (k : Int) < l.length := by omega
          have hh := hasP_eq (lstV_grow hps [.cells [s] 0 none true]) (predP_drops (i := S.length) (o := 0) (v := 0) (by rw [at_app0]; rfl) (lstV_grow hl _) hlim.1) hlim.2
          simp (maxSteps := 1000000) (disch := omega) only [c49l0, h1, h2, h10, h11, h12, hkI, orc_cons, hh, un_not_b, go_sem, Option.map_none, Option.map_some, ↓reduceIte, Nat.reduceBEq, Nat.reduceAdd, Nat.reduceSub, Nat.reduceEqDiff, Nat.reduceLeDiff, Nat.reduceMul, Nat.reduceLT, Int.reduceLT, Int.reduceLE, Int.reduceAdd, Int.reduceSub, Int.reduceMul, Int.reduceNeg, Int.reduceEq, Int.reduceNe, Int.reduceToNat, decide_true, decide_false, iaddr_i, iaddr_sl_i, not_true_eq_false, not_false_eq_true, reduceCtorEq, ne_eq, forall_const, false_imp_iff, true_imp_iff, implies_true, Int.cast_ofNat_Int, Int.natCast_zero, Int.natCast_one, Int.add_zero, Int.zero_add]
          refine wkv_eqP (ext_app _) ?_ rfl
          congr 1
          rw [Bool.eq_iff_iff, decide_eq_true_iff, Bool.not_eq_true', List.any_eq_false]
          refine ⟨fun q p hp => by simpa using q.2.2 p hp, fun q => ⟨by omega, (by rwa [show k = l.length by omega] at hn), fun p hp => by simpa using q p hp⟩⟩
      · cases h
    · cases h
  · cases h
theorem drops_eq {S : Mem} {x y : AV} {l : List Int} {ps : List Pol} (h1 : lstV (intE .i64) S x = some l) (h2 : lstV polE S y = some ps) (hl : l.length ≤ 1000000) (hp : ps.length ≤ 1000000) : dropsS [x, y] S = some (.b (decide (dropsOk l ps)), S) := by
  simp only [dropsS, h1, h2, if_pos (And.intro hl hp)]
end Go.Proofs.Ytapgkaecamljbaa

namespace Go.Proofs.Ytapgkaecamljbaa
open Go.RowKit
set_option linter.unusedSimpArgs false
set_option linter.unusedVariables false
set_option maxRecDepth 100000

def greatS : Spec := fun args S => match args with
  | [.ag cb, .ag ce] => match bookOf S cb, evtOf S ce with
    | some b, some e => some (.b (decide (30 < b.entries.length ∨ 30 < e.puts.length ∨ 30 < e.drops.length)), S)
    | _, _ => none
  | _ => none
theorem great_ok : SpecOK Try.prog 12 greatS := by
  intro args S x S' h
  simp only [greatS] at h
  split at h
  · rename_i cb ce
    split at h
    · rename_i b ev hb hev
      cases h
      obtain ⟨s, rfl, hl⟩ := bookOf_ok hb
      obtain ⟨xp, xd, rfl, hp, hd⟩ := evtOf_ok hev
      refine fn_of_wp f12 rfl (W_sound none_ok mixed _ _ _ _ _ ?_)
      simp (maxSteps := 1000000) (disch := omega) only [c12, lst_len hl, lst_len hp, lst_len hd, go_sem, Option.map_none, Option.map_some, ↓reduceIte, Nat.reduceBEq, Nat.reduceAdd, Nat.reduceSub, Nat.reduceEqDiff, Nat.reduceLeDiff, Nat.reduceMul, Nat.reduceLT, Int.reduceLT, Int.reduceLE, Int.reduceAdd, Int.reduceSub, Int.reduceMul, Int.reduceNeg, Int.reduceEq, Int.reduceNe, Int.reduceToNat, decide_true, decide_false, iaddr_i, iaddr_sl_i, not_true_eq_false, not_false_eq_true, reduceCtorEq, ne_eq, forall_const, false_imp_iff, true_imp_iff, implies_true, Int.cast_ofNat_Int, Int.natCast_zero, Int.natCast_one, Int.add_zero, Int.zero_add]
      refine ⟨fun h1 => ⟨fun h2 => wkv_b ?_, fun h2 => ?_⟩, fun h1 => ?_⟩
      · constructor
        · rintro (z | z | z) <;> omega
        · intro z; omega
      · rw [decide_eq_true (by omega)]; exact wkv_drop rfl
      · rw [decide_eq_true (by omega)]; exact wkv_drop rfl
    · cases h
  · cases h
theorem great_eq {S : Mem} {cb ce : List AV} {b : Bk} {e : Evt} (hb : bookOf S cb = some b) (he : evtOf S ce = some e) : greatS [.ag cb, .ag ce] S = some (.b (decide (30 < b.entries.length ∨ 30 < e.puts.length ∨ 30 < e.drops.length)), S) := by
  simp only [greatS, hb, he]
end Go.Proofs.Ytapgkaecamljbaa

namespace Go.Proofs.Ytapgkaecamljbaa
open Go.RowKit
set_option linter.unusedSimpArgs false
set_option linter.unusedVariables false
set_option maxRecDepth 10000

theorem Acc.openB {α : Type} {z : Bool} {E : Enc α} {S M : Mem} {x : AV} {l : List α} (h : Acc z E S M x l) : Go.Proofs.Ytapgkaecamljbaa.openQ M E.sz x = true := by
  by_cases hl : l = []
  · obtain ⟨T, rfl, ⟨_, _, rfl⟩ | ⟨_, _, p, rfl, _⟩ | ⟨h0, _⟩⟩ := h
    · rfl
    · rfl
    · exact absurd hl h0
  · exact openS_Q (h.opens hl)
theorem bytes_callB {S : Mem} {cb : List AV} {b : Bk} (hb : bookOf S cb = some b) (hg : b.good) : ∃ X M, bytesS [.ag cb] S = some (.tu [X, .i .i64 (if b.ok then 0 else 131)], M) ∧ lstV byteE M X = some (if b.ok then lebs b.ns else []) ∧ S <+: M ∧ openQ M 1 X = true := by
  by_cases ho : b.ok
  · refine ⟨retX true S (lebs b.ns), retM true byteE S (lebs b.ns), by simp only [bytesS, hb, if_pos hg, if_pos ho], ?_, retM_ext, (retX_acc (E := byteE)).openB⟩
    rw [if_pos ho]; exact retX_lst
  · refine ⟨.sn, S, by simp only [bytesS, hb, if_pos hg, if_neg ho], ?_, ext_refl, rfl⟩
    rw [if_neg ho]; rfl
theorem read_some {S : Mem} {x : AV} {b : List Int} {bk : Bk} (hl : lstV byteE S x = some b) (ho : openQ S 1 x = true) (hu : ∀ c ∈ b, u8 c) (hlen : b.length ≤ 1000000) (h : Bk.read b = some bk) :
    ∃ y M, readS [x] S = some (.tu [.ag [.i .u64 bk.period, y], .i .i64 0], M) ∧ lstV entE M y = some bk.entries ∧ S <+: M := by
  rw [readS_eq hl ho hu hlen, h]
  exact ⟨_, _, rfl, retX_lst, retM_ext⟩
/-- The law's second half. -/
theorem back_tail {S M : Mem} {t : AV} {d : List Int} (hl : lstV byteE S t = some d) (ho : openQ S 1 t = true) (hu : ∀ c ∈ d, u8 c) (hlen : d.length ≤ 1500) (hM : S <+: M) :
    ∃ p y e M3 X e2 M4, readS [t] M = some (.tu [.ag [.i .u64 p, y], .i .i64 e], M3) ∧ y.cells = some [y] ∧ y.one = true ∧ bytesS [.ag [.i .u64 p, y]] (M3 ++ [.cells [.i .u64 p, y] 0 none true]) = some (.tu [X, .i .i64 e2], M4) ∧ S <+: M4 ∧
      ((e = 131) ∨ (e = 0 ∧ e2 = 0 ∧ lstV byteE M4 X = some d ∧ lstV byteE M4 t = some d)) := by
  have hlM := lst_ext hl hM
  have hoM := openQ_ext ho hM
  cases hr : Bk.read d with
  | none =>
    have hg : (Bk.mk 0 []).good := ⟨⟨by simp, by simp⟩, by simp, by simp⟩
    obtain ⟨X, M4, h1, h2, h3, _⟩ := bytes_callB (S := M ++ [.cells [.i .u64 0, .sn] 0 none true]) (bookOf_mk (p := 0) (x := .sn) (l := []) rfl) hg
    exact ⟨0, .sn, 131, M, X, _, M4, by rw [readS_eq hlM hoM hu (by omega), hr], rfl, rfl, h1, (hM.trans (ext_app _)).trans h3, .inl rfl⟩
  | some bk =>
    obtain ⟨hok, hg, hd⟩ := bytes_read hu hr
    obtain ⟨y, M3, hc, hy, hM3⟩ := read_some hlM hoM hu (by omega) hr
    obtain ⟨X, M4, h1, h2, h3, _⟩ := bytes_callB (S := M3 ++ [.cells [.i .u64 bk.period, y] 0 none true]) (bookOf_mk (p := bk.period) (lstV_grow hy _)) hg
    rw [show (Bk.mk bk.period bk.entries) = bk from rfl, if_pos hok] at h1 h2
    rw [hd] at h2
    have hS4 := ((hM.trans hM3).trans (ext_app _)).trans h3
    exact ⟨bk.period, y, 0, M3, X, 0, M4, hc, lst_cells hy, lst_one hy, h1, hS4, .inr ⟨rfl, rfl, h2, lst_ext hl hS4⟩⟩
theorem oBa_ok : OK Try.prog (lamOf Try.prog) (orcOf [(11, aliveS), (12, greatS), (16, brightS), (22, bsameS), (17, bytesS), (24, readS)]) := orc_ok (by simpa using ⟨alive_ok, great_ok, bright_ok, bsame_ok, bytes_ok, read_ok⟩)
theorem back_ok (S : Mem) (p : Int) (s t : AV) (l : List Ent) (d : List Int) (hl : lstV entE S s = some l) (hgl : ∀ x ∈ l, x.good) (hp : u64 p) (hd : lstV byteE S t = some d) (hu : ∀ c ∈ d, u8 c) (ho : openQ S 1 t = true) :
    FnOK Try.prog 10 [.ag [.i .u64 p, s], t] S (.b true) S := by
  have g1 := fun L => great_eq (bookOf_mk (p := p) (lstV_grow hl L)) (evtOf_mk (S := S ++ L) (k := 0) (s := 0) (g := 0) (p := 0) (xp := .sn) (xd := .sn) (ps := []) (ds := []) rfl rfl)
  refine fn_of_wp f10 rfl (W_sound oBa_ok mixed _ _ _ _ _ ?_)
  by_cases h30 : 30 < l.length
  · have hdc : decide (30 < (Bk.mk p l).entries.length ∨ 30 < (Evt.mk 0 0 [] [] 0 0).puts.length ∨ 30 < (Evt.mk 0 0 [] [] 0 0).drops.length) = true := decide_eq_true (.inl h30)
    rw [hdc] at g1
    simp (maxSteps := 1000000) (disch := omega) only [c10, orc_cons, lst_cells hl, aliveS, g1, go_sem, Option.map_none, Option.map_some, ↓reduceIte, Nat.reduceBEq, Nat.reduceAdd, Nat.reduceSub, Nat.reduceEqDiff, Nat.reduceLeDiff, Nat.reduceMul, Nat.reduceLT, Int.reduceLT, Int.reduceLE, Int.reduceAdd, Int.reduceSub, Int.reduceMul, Int.reduceNeg, Int.reduceEq, Int.reduceNe, Int.reduceToNat, decide_true, decide_false, iaddr_i, iaddr_sl_i, not_true_eq_false, not_false_eq_true, reduceCtorEq, ne_eq, forall_const, false_imp_iff, true_imp_iff, implies_true, Int.cast_ofNat_Int, Int.natCast_zero, Int.natCast_one, Int.add_zero, Int.zero_add]
    exact wkv_drop rfl
  have hdc : decide (30 < (Bk.mk p l).entries.length ∨ 30 < (Evt.mk 0 0 [] [] 0 0).puts.length ∨ 30 < (Evt.mk 0 0 [] [] 0 0).drops.length) = false := decide_eq_false (by rintro (h | h | h); exact h30 h; simp at h; simp at h)
  rw [hdc] at g1
  have hld := lst_len hd
  by_cases h15 : 1500 < d.length
  · have hI : (1500 : Int) < d.length := by omega
    simp (maxSteps := 1000000) (disch := omega) only [c10, orc_cons, lst_cells hl, aliveS, g1, hld, hI, go_sem, Option.map_none, Option.map_some, ↓reduceIte, Nat.reduceBEq, Nat.reduceAdd, Nat.reduceSub, Nat.reduceEqDiff, Nat.reduceLeDiff, Nat.reduceMul, Nat.reduceLT, Int.reduceLT, Int.reduceLE, Int.reduceAdd, Int.reduceSub, Int.reduceMul, Int.reduceNeg, Int.reduceEq, Int.reduceNe, Int.reduceToNat, decide_true, decide_false, iaddr_i, iaddr_sl_i, not_true_eq_false, not_false_eq_true, reduceCtorEq, ne_eq, forall_const, false_imp_iff, true_imp_iff, implies_true, Int.cast_ofNat_Int, Int.natCast_zero, Int.natCast_one, Int.add_zero, Int.zero_add]
    exact wkv_drop rfl
  have hI : ¬ (1500 : Int) < d.length := by omega
  have hgood : (Bk.mk p l).good := ⟨hp, by show l.length ≤ _; omega, hgl⟩
  obtain ⟨X1, M1, hc1, hX1, hM1, hoX1⟩ := bytes_callB (bookOf_mk (p := p) (lstV_grow hl [.cells [.i .u64 p, s] 0 none true])) hgood
  have hS1 := (ext_app _).trans hM1
  have hA1 : M1[S.length]? = some (.cells [.i .u64 p, s] 0 none true) := at_pre hM1 (by rw [at_app0]; rfl)
  have b1 := bright_eq (bookOf_mk (p := p) (lst_ext hl hS1)) hgood.fits
  by_cases hok : (Bk.mk p l).ok
  · rw [if_pos hok] at hc1 hX1
    rw [decide_eq_true hok] at b1
    have hub : ∀ c ∈ lebs (Bk.mk p l).ns, u8 c := fun c hc => by
      unfold lebs at hc
      obtain ⟨n, hn, hc⟩ := List.mem_flatMap.1 hc
      exact leb_u8 (bns_u64 hgood hok n hn).1 c hc
    have h600 := bytes_len hgood hok
    have h6I : ¬ (600 : Int) < (lebs (Bk.mk p l).ns).length := by omega
    obtain ⟨y, M2, hc2, hy, hM2⟩ := read_some hX1 hoX1 hub (by omega) (read_bytes hgood hok)
    simp only at hc2 hy
    have hA2 : ∀ L, (M2 ++ L)[S.length]? = some (.cells [.i .u64 p, s] 0 none true) := fun L => at_old (at_pre hM2 hA1)
    have hS2 := hS1.trans hM2
    have hs2 : ∀ L, bsameS [.ag [.i .u64 p, s], .ag [.i .u64 p, y]] (M2 ++ L) = some (.b true, M2 ++ L) := fun L => by
      simp only [bsameS, bookOf_mk (p := p) (lst_ext hl (ext_more hS2 L)), bookOf_mk (p := p) (lstV_grow hy L)]
      rw [if_pos (by omega)]; simp
    obtain ⟨p', y', e, M3, X, e2, M4, k1, k2, k3, k4, k5, k6⟩ := back_tail hd ho hu (by omega) (ext_more hS2 [.cells [.i .u64 p, y] 0 none true])
    have hlX := lst_len hX1
    rcases k6 with rfl | ⟨rfl, rfl, k7, k8⟩
    · simp (maxSteps := 1000000) (disch := omega) only [c10, orc_cons, lst_cells hl, aliveS, g1, hld, hI, hc1, hA1, b1, hc2, List.replicate, lst_cells hy, lst_one hy, hA2, hs2, hlX, h6I, k1, k2, k3, k4, go_sem, Option.map_none, Option.map_some, ↓reduceIte, Nat.reduceBEq, Nat.reduceAdd, Nat.reduceSub, Nat.reduceEqDiff, Nat.reduceLeDiff, Nat.reduceMul, Nat.reduceLT, Int.reduceLT, Int.reduceLE, Int.reduceAdd, Int.reduceSub, Int.reduceMul, Int.reduceNeg, Int.reduceEq, Int.reduceNe, Int.reduceToNat, decide_true, decide_false, iaddr_i, iaddr_sl_i, not_true_eq_false, not_false_eq_true, reduceCtorEq, ne_eq, forall_const, false_imp_iff, true_imp_iff, implies_true, Int.cast_ofNat_Int, Int.natCast_zero, Int.natCast_one, Int.add_zero, Int.zero_add]
      exact wkv_dropP k5 rfl
    · have t1 := toStr_B k7
      have t2 := toStr_B k8
      simp (maxSteps := 1000000) (disch := omega) only [c10, orc_cons, lst_cells hl, aliveS, g1, hld, hI, hc1, hA1, b1, hc2, List.replicate, lst_cells hy, lst_one hy, hA2, hs2, hlX, h6I, k1, k2, k3, k4, t1, t2, go_sem, Option.map_none, Option.map_some, ↓reduceIte, Nat.reduceBEq, Nat.reduceAdd, Nat.reduceSub, Nat.reduceEqDiff, Nat.reduceLeDiff, Nat.reduceMul, Nat.reduceLT, Int.reduceLT, Int.reduceLE, Int.reduceAdd, Int.reduceSub, Int.reduceMul, Int.reduceNeg, Int.reduceEq, Int.reduceNe, Int.reduceToNat, decide_true, decide_false, iaddr_i, iaddr_sl_i, not_true_eq_false, not_false_eq_true, reduceCtorEq, ne_eq, forall_const, false_imp_iff, true_imp_iff, implies_true, Int.cast_ofNat_Int, Int.natCast_zero, Int.natCast_one, Int.add_zero, Int.zero_add]
      exact wkv_dropP k5 rfl
  · rw [if_neg hok] at hc1 hX1
    rw [decide_eq_false hok] at b1
    obtain ⟨p', y', e, M3, X, e2, M4, k1, k2, k3, k4, k5, k6⟩ := back_tail hd ho hu (by omega) hS1
    rcases k6 with rfl | ⟨rfl, rfl, k7, k8⟩
    · simp (maxSteps := 1000000) (disch := omega) only [c10, orc_cons, lst_cells hl, aliveS, g1, hld, hI, hc1, hA1, b1, List.replicate, k1, k2, k3, k4, go_sem, Option.map_none, Option.map_some, ↓reduceIte, Nat.reduceBEq, Nat.reduceAdd, Nat.reduceSub, Nat.reduceEqDiff, Nat.reduceLeDiff, Nat.reduceMul, Nat.reduceLT, Int.reduceLT, Int.reduceLE, Int.reduceAdd, Int.reduceSub, Int.reduceMul, Int.reduceNeg, Int.reduceEq, Int.reduceNe, Int.reduceToNat, decide_true, decide_false, iaddr_i, iaddr_sl_i, not_true_eq_false, not_false_eq_true, reduceCtorEq, ne_eq, forall_const, false_imp_iff, true_imp_iff, implies_true, Int.cast_ofNat_Int, Int.natCast_zero, Int.natCast_one, Int.add_zero, Int.zero_add]
      exact wkv_dropP k5 rfl
    · have t1 := toStr_B k7
      have t2 := toStr_B k8
      simp (maxSteps := 1000000) (disch := omega) only [c10, orc_cons, lst_cells hl, aliveS, g1, hld, hI, hc1, hA1, b1, List.replicate, k1, k2, k3, k4, t1, t2, go_sem, Option.map_none, Option.map_some, ↓reduceIte, Nat.reduceBEq, Nat.reduceAdd, Nat.reduceSub, Nat.reduceEqDiff, Nat.reduceLeDiff, Nat.reduceMul, Nat.reduceLT, Int.reduceLT, Int.reduceLE, Int.reduceAdd, Int.reduceSub, Int.reduceMul, Int.reduceNeg, Int.reduceEq, Int.reduceNe, Int.reduceToNat, decide_true, decide_false, iaddr_i, iaddr_sl_i, not_true_eq_false, not_false_eq_true, reduceCtorEq, ne_eq, forall_const, false_imp_iff, true_imp_iff, implies_true, Int.cast_ofNat_Int, Int.natCast_zero, Int.natCast_one, Int.add_zero, Int.zero_add]
      exact wkv_dropP k5 rfl
end Go.Proofs.Ytapgkaecamljbaa

namespace Go.Proofs.Ytapgkaecamljbaa
open Go.RowKit
set_option linter.unusedVariables false
set_option maxRecDepth 100000

section
variable {H : Type} {enc : TypeId × Value → H} {W : World}

theorem wf_u8 {n : Int} (h : (Lit.int .u8 n).wf = true) : u8 n := by
  simp only [Lit.wf, IntKind.min, IntKind.max, IntKind.signed, IntKind.bits, Bool.and_eq_true] at h
  unfold u8
  simpa using h
theorem wf_u64 {n : Int} (h : (Lit.int .u64 n).wf = true) : u64 n := by
  simp only [Lit.wf, IntKind.min, IntKind.max, IntKind.signed, IntKind.bits, Bool.and_eq_true] at h
  unfold u64
  simpa using h
theorem wf_i64 {n : Int} (h : (Lit.int .i64 n).wf = true) : i64 n := by
  simp only [Lit.wf, IntKind.min, IntKind.max, IntKind.signed, IntKind.bits, Bool.and_eq_true] at h
  unfold i64
  simpa using h

theorem enc_inj {α : Type} {E : Enc α} {a b : α} (h : E.enc a = E.enc b) : a = b := by
  have h1 := E.de a
  rw [h, E.de] at h1
  injection h1 with h1; exact h1.symm

end
end Go.Proofs.Ytapgkaecamljbaa

namespace Go.Proofs.Ytapgkaecamljbaa
open Go.RowKit
set_option linter.unusedVariables false
set_option maxRecDepth 100000

section
variable {H : Type} {enc : TypeId × Value → H} {W : World}
theorem cellBytes {v : Value} (h : CellIs enc Try.prog W (.slice 5) v) : ∃ l : List Int, lstV byteE (absS W) (absV W v) = some l ∧ ∀ x ∈ l, u8 x := by
  have s2 : shapes Try.prog 20 5 = some [.int .u8] := by kernel_rfl
  have c2 : Try.prog.cellsOf 5 = 1 := by kernel_rfl
  have row : ∀ cs : List Value, RowIs enc Try.prog W [.int .u8] cs → ∃ a : Int, cs.map (absV W) = [AV.i .u8 a] ∧ u8 a := fun cs h => by
    obtain ⟨h1, h2⟩ := h
    match cs, h1 with
    | [x], _ =>
      obtain ⟨a, rfl, w⟩ := h2 0 (by simp) (by simp)
      exact ⟨a, rfl, wf_u8 w⟩
  obtain ⟨l, hl, hf, _⟩ := lst_of (e := fun n => [AV.i .u8 n]) (sz := 1) c2 (by omega) h (fun cs fuel x ht => let ⟨a, h1, h2⟩ := row _ (shapes_ok 20 fuel 5 cs x _ ht s2); ⟨a, h1, rfl⟩)
    (good := u8) (fun cs fuel x a ht he => let ⟨a', h1, h2⟩ := row _ (shapes_ok 20 fuel 5 cs x _ ht s2); enc_inj (E := intE .u8) (h1.symm.trans he) ▸ h2)
  exact ⟨l, lst_lstV (E := intE .u8) hl, hf⟩
theorem cellOpen {e : TypeId} {n : Nat} {v : Value} (h : CellIs enc Try.prog W (.slice e) v) : openQ (absS W) n (absV W v) = true := by
  rcases h with rfl | ⟨a, len, cap, rfl, hl, _, _⟩
  · rfl
  · obtain ⟨b, o, sp⟩ := a
    simp only [absV]
    split
    · rfl
    · cases numOf W b with
      | none => rfl
      | some i => cases sp with
        | none => simp [openQ, hl]
        | some q => rfl
theorem argBytes {v : Value} {base : Nat} {d : DataW H} {ps : List MemPlace} (o : Value.okWide Try.prog W .any base 48 v) (h : DataW.Trod enc Try.prog W 0 (fun _ => true) true 48 v d ps) :
    ∃ l, lstV byteE (absS W) (absA W v) = some l ∧ (∀ c ∈ l, u8 c) ∧ openQ (absS W) 1 (absA W v) = true := by
  have s0 : shapes Try.prog 20 48 = some [.slice 5] := by kernel_rfl
  have hv : v.cells.toList = [v] ∧ absA W v = absV W v := by
    cases v with
    | agg cs =>
      unfold Value.okWide at o
      rw [Try.underlying48] at o
      unfold Cell.okWide at o
      rw [Try.underlying48] at o
      unfold Cell.ok at o
      rw [Try.underlying48] at o
      simp at o
    | _ => exact ⟨rfl, rfl⟩
  obtain ⟨h1, h2⟩ := arg_row h s0
  rw [hv.1] at h1 h2
  have hc := h2 0 (by simp) (by simp)
  simp only [List.getElem_cons_zero] at hc
  rw [hv.2]
  obtain ⟨l, hl, hu⟩ := cellBytes hc
  exact ⟨l, hl, hu, cellOpen hc⟩
end
end Go.Proofs.Ytapgkaecamljbaa

namespace Go.Proofs.Ytapgkaecamljbaa
open Go.RowKit
set_option linter.unusedVariables false
set_option maxRecDepth 100000

section
variable {H : Type} {enc : TypeId × Value → H} {W : World}

abbrev polSh : List CS := [.int .i64, .int .u8, .int .u8, .int .u8, .int .u8, .int .i64, .int .u64, .int .u64, .int .u64, .int .u64, .int .u64, .int .u64, .int .u64]
theorem rowPol {cs : List Value} (h : RowIs enc Try.prog W polSh cs) : ∃ a : Pol, cs.map (absV W) = a.enc ∧ a.good := by
  obtain ⟨h1, h2⟩ := h
  match cs, h1 with
  | [x0, x1, x2, x3, x4, x5, x6, x7, x8, x9, x10, x11, x12], _ =>
    obtain ⟨a0, rfl, w0⟩ := h2 0 (by simp) (by simp)
    obtain ⟨a1, rfl, w1⟩ := h2 1 (by simp) (by simp)
    obtain ⟨a2, rfl, w2⟩ := h2 2 (by simp) (by simp)
    obtain ⟨a3, rfl, w3⟩ := h2 3 (by simp) (by simp)
    obtain ⟨a4, rfl, w4⟩ := h2 4 (by simp) (by simp)
    obtain ⟨a5, rfl, w5⟩ := h2 5 (by simp) (by simp)
    obtain ⟨a6, rfl, w6⟩ := h2 6 (by simp) (by simp)
    obtain ⟨a7, rfl, w7⟩ := h2 7 (by simp) (by simp)
    obtain ⟨a8, rfl, w8⟩ := h2 8 (by simp) (by simp)
    obtain ⟨a9, rfl, w9⟩ := h2 9 (by simp) (by simp)
    obtain ⟨a10, rfl, w10⟩ := h2 10 (by simp) (by simp)
    obtain ⟨a11, rfl, w11⟩ := h2 11 (by simp) (by simp)
    obtain ⟨a12, rfl, w12⟩ := h2 12 (by simp) (by simp)
    exact ⟨⟨a0, a1, a2, a3, a4, a5, a6, a7, a8, a9, a10, a11, a12⟩, rfl, wf_i64 w0, ⟨wf_u8 w1, wf_u8 w2, wf_u8 w3, wf_u8 w4⟩, wf_i64 w5, wf_u64 w6, wf_u64 w7, wf_u64 w8, wf_u64 w9, wf_u64 w10, wf_u64 w11, wf_u64 w12⟩
abbrev entSh : List CS := [.int .i64, .int .u8, .int .u8, .int .u8, .int .u8, .int .i64, .int .u64, .int .u64, .int .u64, .int .u64, .int .u64, .int .u64, .int .u64, .int .u64]
theorem rowEnt {cs : List Value} (h : RowIs enc Try.prog W entSh cs) : ∃ a : Ent, cs.map (absV W) = a.enc ∧ a.good := by
  obtain ⟨h1, h2⟩ := h
  match cs, h1 with
  | [x0, x1, x2, x3, x4, x5, x6, x7, x8, x9, x10, x11, x12, x13], _ =>
    obtain ⟨a0, rfl, w0⟩ := h2 0 (by simp) (by simp)
    obtain ⟨a1, rfl, w1⟩ := h2 1 (by simp) (by simp)
    obtain ⟨a2, rfl, w2⟩ := h2 2 (by simp) (by simp)
    obtain ⟨a3, rfl, w3⟩ := h2 3 (by simp) (by simp)
    obtain ⟨a4, rfl, w4⟩ := h2 4 (by simp) (by simp)
    obtain ⟨a5, rfl, w5⟩ := h2 5 (by simp) (by simp)
    obtain ⟨a6, rfl, w6⟩ := h2 6 (by simp) (by simp)
    obtain ⟨a7, rfl, w7⟩ := h2 7 (by simp) (by simp)
    obtain ⟨a8, rfl, w8⟩ := h2 8 (by simp) (by simp)
    obtain ⟨a9, rfl, w9⟩ := h2 9 (by simp) (by simp)
    obtain ⟨a10, rfl, w10⟩ := h2 10 (by simp) (by simp)
    obtain ⟨a11, rfl, w11⟩ := h2 11 (by simp) (by simp)
    obtain ⟨a12, rfl, w12⟩ := h2 12 (by simp) (by simp)
    obtain ⟨a13, rfl, w13⟩ := h2 13 (by simp) (by simp)
    exact ⟨⟨⟨a0, a1, a2, a3, a4, a5, a6, a7, a8, a9, a10, a11, a12⟩, a13⟩, rfl, ⟨wf_i64 w0, ⟨wf_u8 w1, wf_u8 w2, wf_u8 w3, wf_u8 w4⟩, wf_i64 w5, wf_u64 w6, wf_u64 w7, wf_u64 w8, wf_u64 w9, wf_u64 w10, wf_u64 w11, wf_u64 w12⟩, wf_u64 w13⟩
/-- A slice's cell, as a list. -/
theorem cellEnts {v : Value} (h : CellIs enc Try.prog W (.slice 46) v) : ∃ l : List Ent, lstV entE (absS W) (absV W v) = some l ∧ ∀ x ∈ l, x.good := by
  have s2 : shapes Try.prog 20 46 = some entSh := by kernel_rfl
  have c2 : Try.prog.cellsOf 46 = 14 := by kernel_rfl
  obtain ⟨l, hl, hf, _⟩ := lst_of (e := Ent.enc) (sz := 14) c2 (by omega) h (fun cs fuel x ht => let ⟨a, h1, h2⟩ := rowEnt (shapes_ok 20 fuel 46 cs x _ ht s2); ⟨a, h1, rfl⟩)
    (good := Ent.good) (fun cs fuel x a ht he => let ⟨a', h1, h2⟩ := rowEnt (shapes_ok 20 fuel 46 cs x _ ht s2); enc_inj (E := entE) (h1.symm.trans he) ▸ h2)
  exact ⟨l, lst_lstV (E := entE) hl, hf⟩
theorem cellPols {v : Value} (h : CellIs enc Try.prog W (.slice 44) v) : ∃ l : List Pol, lstV polE (absS W) (absV W v) = some l ∧ ∀ x ∈ l, x.good := by
  have s2 : shapes Try.prog 20 44 = some polSh := by kernel_rfl
  have c2 : Try.prog.cellsOf 44 = 13 := by kernel_rfl
  obtain ⟨l, hl, hf, _⟩ := lst_of (e := Pol.enc) (sz := 13) c2 (by omega) h (fun cs fuel x ht => let ⟨a, h1, h2⟩ := rowPol (shapes_ok 20 fuel 44 cs x _ ht s2); ⟨a, h1, rfl⟩)
    (good := Pol.good) (fun cs fuel x a ht he => let ⟨a', h1, h2⟩ := rowPol (shapes_ok 20 fuel 44 cs x _ ht s2); enc_inj (E := polE) (h1.symm.trans he) ▸ h2)
  exact ⟨l, lst_lstV (E := polE) hl, hf⟩
theorem cellInts {v : Value} (h : CellIs enc Try.prog W (.slice 3) v) : ∃ l : List Int, lstV (intE .i64) (absS W) (absV W v) = some l ∧ ∀ x ∈ l, i64 x := by
  have s2 : shapes Try.prog 20 3 = some [.int .i64] := by kernel_rfl
  have c2 : Try.prog.cellsOf 3 = 1 := by kernel_rfl
  have row : ∀ cs : List Value, RowIs enc Try.prog W [.int .i64] cs → ∃ a : Int, cs.map (absV W) = [AV.i .i64 a] ∧ i64 a := fun cs h => by
    obtain ⟨h1, h2⟩ := h
    match cs, h1 with
    | [x], _ =>
      obtain ⟨a, rfl, w⟩ := h2 0 (by simp) (by simp)
      exact ⟨a, rfl, wf_i64 w⟩
  obtain ⟨l, hl, hf, _⟩ := lst_of (e := fun n => [AV.i .i64 n]) (sz := 1) c2 (by omega) h (fun cs fuel x ht => let ⟨a, h1, h2⟩ := row _ (shapes_ok 20 fuel 3 cs x _ ht s2); ⟨a, h1, rfl⟩)
    (good := i64) (fun cs fuel x a ht he => let ⟨a', h1, h2⟩ := row _ (shapes_ok 20 fuel 3 cs x _ ht s2); enc_inj (E := intE .i64) (h1.symm.trans he) ▸ h2)
  exact ⟨l, lst_lstV (E := intE .i64) hl, hf⟩

theorem argBook {v : Value} {base : Nat} {d : DataW H} {ps : List MemPlace} (o : Value.okWide Try.prog W .any base 25 v) (h : DataW.Trod enc Try.prog W 0 (fun _ => true) true 25 v d ps) :
    ∃ p s l, absA W v = .ag [.i .u64 p, s] ∧ lstV entE (absS W) s = some l ∧ (∀ x ∈ l, x.good) ∧ u64 p := by
  have s0 : shapes Try.prog 20 25 = some [.int .u64, .slice 46] := by kernel_rfl
  obtain ⟨cs, rfl⟩ : ∃ cs, v = .agg cs := by
    unfold Value.okWide at o
    rw [Try.underlying25] at o
    obtain ⟨cs, h, _⟩ := o
    exact ⟨cs, h⟩
  obtain ⟨h1, h2⟩ := arg_row h s0
  have h1 : cs.toList.length = 2 := h1
  have h2 : ∀ (i : Nat) (h : i < 2) (h' : i < cs.toList.length), CellIs enc Try.prog W ([CS.int .u64, CS.slice 46][i]) cs.toList[i] := fun i h h' => h2 i h h'
  generalize hcs : cs.toList = cl at h1 h2
  match cl, h1 with
  | [x, y], _ =>
    obtain ⟨p, rfl, wp⟩ := h2 0 (by omega) (by simp)
    obtain ⟨l, hl, hf⟩ := cellEnts (h2 1 (by omega) (by simp))
    refine ⟨p, absV W y, l, ?_, hl, hf, wf_u64 wp⟩
    show AV.ag (cs.toList.map (absV W)) = _
    rw [hcs]; rfl
theorem argEvt {v : Value} {base : Nat} {d : DataW H} {ps : List MemPlace} (o : Value.okWide Try.prog W .any base 29 v) (h : DataW.Trod enc Try.prog W 0 (fun _ => true) true 29 v d ps) :
    ∃ cs e, absA W v = .ag cs ∧ evtOf (absS W) cs = some e ∧ i64 e.kind ∧ i64 e.sub ∧ (∀ x ∈ e.puts, x.good) ∧ (∀ x ∈ e.drops, i64 x) ∧ u64 e.granted ∧ u64 e.period := by
  have s0 : shapes Try.prog 20 29 = some [.int .i64, .int .i64, .slice 44, .slice 3, .int .u64, .int .u64] := by kernel_rfl
  obtain ⟨cs, rfl⟩ : ∃ cs, v = .agg cs := by
    unfold Value.okWide at o
    rw [Try.underlying29] at o
    obtain ⟨cs, h, _⟩ := o
    exact ⟨cs, h⟩
  obtain ⟨h1, h2⟩ := arg_row h s0
  have h1 : cs.toList.length = 6 := h1
  have h2 : ∀ (i : Nat) (h : i < 6) (h' : i < cs.toList.length), CellIs enc Try.prog W ([CS.int .i64, CS.int .i64, CS.slice 44, CS.slice 3, CS.int .u64, CS.int .u64][i]) cs.toList[i] := fun i h h' => h2 i h h'
  generalize hcs : cs.toList = cl at h1 h2
  match cl, h1 with
  | [x0, x1, x2, x3, x4, x5], _ =>
    obtain ⟨a0, rfl, w0⟩ := h2 0 (by omega) (by simp)
    obtain ⟨a1, rfl, w1⟩ := h2 1 (by omega) (by simp)
    obtain ⟨l2, hl2, hf2⟩ := cellPols (h2 2 (by omega) (by simp))
    obtain ⟨l3, hl3, hf3⟩ := cellInts (h2 3 (by omega) (by simp))
    obtain ⟨a4, rfl, w4⟩ := h2 4 (by omega) (by simp)
    obtain ⟨a5, rfl, w5⟩ := h2 5 (by omega) (by simp)
    refine ⟨[.i .i64 a0, .i .i64 a1, absV W x2, absV W x3, .i .u64 a4, .i .u64 a5], ⟨a0, a1, l2, l3, a4, a5⟩, ?_, evtOf_mk hl2 hl3, wf_i64 w0, wf_i64 w1, hf2, hf3, wf_u64 w4, wf_u64 w5⟩
    show AV.ag (cs.toList.map (absV W)) = _
    rw [hcs]; rfl
end
end Go.Proofs.Ytapgkaecamljbaa

namespace Go.Proofs.Ytapgkaecamljbaa
open Go.RowKit
set_option linter.unusedVariables false
set_option maxRecDepth 100000
section
variable {H : Type} {enc : TypeId × Value → H}
theorem walkBookBack (W : World) (v0 v1 : Value) {base : Nat} (o0 : Value.okWide Try.prog W .any base 25 v0) (o1 : Value.okWide Try.prog W .any base 48 v1) {d0 d1 : DataW H} {p0 p1 : List MemPlace}
    (h0 : DataW.Trod enc Try.prog W 0 (fun _ => true) true 25 v0 d0 p0) (h1 : DataW.Trod enc Try.prog W 0 (fun _ => true) true 48 v1 d1 p1) :
    Calls Try.prog 10 #[v0, v1] W fun e w' => e = .returned (.bool true) ∧ Below W.heap.size W w' := by
  obtain ⟨p, s, l, e0, hl, hf, hp⟩ := argBook o0 h0
  obtain ⟨d, hd, hu, ho⟩ := argBytes o1 h1
  refine calls_of_fnOK (S' := absS W) ?_
  show FnOK Try.prog _ [absA W v0, absA W v1] _ _ _
  rw [e0]
  exact back_ok _ p s _ l d hl hf hp hd hu ho
end
end Go.Proofs.Ytapgkaecamljbaa

