/- Proved here: whatever is done with a ledger, the law of its runs answers true. No condition. -/
import Derived.Test.YtbggleijjoleiaaSc
namespace Go.Proofs.Ytbggleijjoleiaa
open Go.RowKit
set_option linter.unusedSimpArgs false
set_option linter.unusedVariables false
set_option maxRecDepth 100000

theorem alive_run : isTrue ((evAll tab 100000 100).fn 7 [] []) = true := by kernel_rfl
def s7 : Spec := fun args S => match args with
  | [] => some (.b true, S)
  | _ => none
theorem s7_ok : SpecOK Try.prog 7 s7 := by
  intro args S x S' h
  unfold s7 at h
  split at h
  · cases h
    exact fnOK_of_below (by kernel_rfl) (fun w => calls_of_ev mixed tab_ok alive_run w) S
  · cases h

structure Act where
  kind : Int
  n : Int
  m : Int
def Act.enc (x : Act) : List AV := [.i .i64 x.kind, .i .u64 x.n, .i .u64 x.m]
def Act.fits (x : Act) : Prop := u64 x.n ∧ u64 x.m

abbrev tell (f : Led → AV) : Spec := nSpec f fun _ => none
def runsL : List (FuncId × Spec) := [(7, s7), (8, nwSpec), (16, rnSpec),
  (11, mSpec (fun L n => .i .i64 (L.grantE n)) Led.grant), (17, rSpec fun L n => duo (L.grant n) (.i .i64 (L.grantE n))),
  (13, mSpec (fun L n => .b (decide (L.covers n))) Led.spend), (18, rSpec fun L n => duo (L.spend n) (.b (decide (L.covers n)))),
  (19, nSpec (fun _ => .tu []) fun L => some L.roll), (15, chSpec), (20, r2Spec),
  (9, qSpec fun L n => .i .u64 (L.want n)), (21, rSpec fun L n => .i .u64 (L.want n)),
  (14, tell fun L => .i .u64 L.u), (12, tell fun L => .i .u64 L.g),
  (10, qSpec fun L n => .b (decide (L.covers n))), (22, rSpec fun L n => .b (decide (L.covers n))),
  (23, qSpec fun L n => .b (decide (L.may n))), (24, rSpec fun L n => .b (decide (L.may n)))]
def runsO : Orc := orcOf runsL
theorem runsO_fn {f : FuncId} : runsO.fn f = (orcOf runsL).fn f := rfl
theorem runsO_ok : OK Try.prog (lamOf Try.prog) runsO := orc_ok (by
  simp only [runsL, List.mem_cons, List.not_mem_nil, or_false, forall_eq_or_imp, forall_eq]
  exact ⟨s7_ok, s8_ok, s16_ok, s11_ok, s17_ok, s13_ok, s18_ok, s19_ok, s15_ok, s20_ok, s9_ok, s21_ok, s14_ok, s12_ok, s10_ok, s22_ok, s23_ok, s24_ok⟩)

def chL (o : Option Led) (i : Nat) (a b : Int) (S : Mem) : Option (AV × Mem) := match o with
  | some L => some (.i .i64 (changeE a b), S.set i (L.change a b).blk)
  | none => none
theorem chSpec_app {i : Nat} {a b : Int} {S : Mem} : chSpec [.p i 0 0, .i .u64 a, .i .u64 b] S = chL (ledB (S[i]?)) i a b S := rfl
theorem chL_some {L : Led} {i : Nat} {a b : Int} {S : Mem} : chL (some L) i a b S = some (.i .i64 (changeE a b), S.set i (L.change a b).blk) := rfl
theorem nL_tell {f : Led → AV} {L : Led} {i : Nat} {S : Mem} : nL f (fun _ => none) (some L) i S = some (f L, S) := rfl
theorem nL_do {f : Led → AV} {g : Led → Led} {L : Led} {i : Nat} {S : Mem} : nL f (fun L => some (g L)) (some L) i S = some (f L, S.set i (g L).blk) := rfl
theorem ledB_cells {q l g u : Int} : ledB (some (.cells [.i .u64 q, .i .u64 l, .i .u64 g, .i .u64 u] 0 none true)) = some ⟨q, l, g, u⟩ := rfl

theorem row_blk {L : Led} : rowB (some L.blk) 0 0 4 = some L.enc := rfl
theorem st_blk {S : Mem} {i : Nat} {L L' : Led} : stB S i (some L.blk) 0 0 4 (some L'.enc) = some (S.set i L'.blk) := rfl
theorem st_g {S : Mem} {i : Nat} {L : Led} {z : Int} : stB S i (some L.blk) 2 0 1 (some [.i .u64 z]) = some (S.set i ({ L with g := z } : Led).blk) := rfl
theorem st_u {S : Mem} {i : Nat} {L : Led} {z : Int} : stB S i (some L.blk) 3 0 1 (some [.i .u64 z]) = some (S.set i ({ L with u := z } : Led).blk) := rfl
theorem cell_g {L : Led} : cellB (some L.blk) 2 0 = some (.i .u64 L.g) := rfl
theorem cell_u {L : Led} : cellB (some L.blk) 3 0 = some (.i .u64 L.u) := rfl
theorem rSpec_enc {f : Led → Int → AV} {L : Led} {n : Int} {S : Mem} : rSpec f [.ag L.enc, .i .u64 n] S = if L.ok ∧ u64 n then some (f L n, S) else none := rfl
theorem r2Spec_enc {L : Led} {a b : Int} {S : Mem} : r2Spec [.ag L.enc, .i .u64 a, .i .u64 b] S = some (duo (L.change a b) (.i .i64 (changeE a b)), S) := rfl
theorem roll_eq {L : Led} : (⟨L.q, L.l, 0, 0⟩ : Led) = L.roll := rfl

set_option maxHeartbeats 4000000 in
/-- A round of the loop. -/
theorem round (S : Mem) (x : AV) (acts : List Act) (hl : Lst 3 Act.enc S x acts) (ha : ∀ a ∈ acts, a.fits) (B0 : Blk) (hB0 : ∀ g, renB S.length g 0 B0 = B0) (hB1 : B0.plain = true) (k : Nat) (hk : k < acts.length) (L : Led) (hL : L.ok) (e : Env)
    (h5 : e.get 5 = .p (S.length + 1) 0 0) (h7 : e.get 7 = .p (S.length + 2) 0 0) (h52 : e.get 52 = x) (h53 : e.get 53 = .i .i64 acts.length) (h54 : e.get 54 = .i .i64 k) (hlen : acts.length ≤ 100) (Q : Kont)
    (hQ : ∀ L' : Led, L'.ok → ∀ e', e'.get 5 = .p (S.length + 1) 0 0 → e'.get 7 = .p (S.length + 2) 0 0 → e'.get 52 = x → e'.get 53 = .i .i64 acts.length → e'.get 54 = .i .i64 ((k : Int) + 1) → ∀ L2 : Mem,
      Q .normal e' (S ++ (B0 :: L'.blk :: L'.blk :: L2)) []) :
    W Try.prog runsO S false c6l3 (keepE e [5, 7, 52, 53, 54]) (S ++ [B0, L.blk, L.blk]) [] Q := by
  rcases hl with ⟨rfl, rfl⟩ | ⟨rfl, rfl⟩ | ⟨i, o, v, len, cap, ex, rfl, rfl, hrow⟩
  · simp at hk
  · simp at hk
  · have hel := fun M => lst_row (f := Act.enc) (fun _ => rfl) hrow hk M
    obtain ⟨hn, hm⟩ := ha _ (List.getElem_mem hk)
    generalize acts[k] = a at hel hn hm
    have hkk : (k : Int) < acts.length := by omega
    have w1 : wrapV .i64 ((k : Int) + 1) = (k : Int) + 1 := wrap_i64 (by omega) (by omega)
    have i1 : iaddrV none 3 (.sl i o v acts.length cap ex) (.i .i64 (k : Int)) = some (.p i (o + k * 3) v) := iaddr_sl hk
    have g1 := fun n => Led.ok_grant hL n
    have g2 := Led.ok_spend hL hn
    have g3 := Led.ok_roll hL
    have g4 := Led.ok_change hL hn hm
    have g5 := Led.u64_want hL hn
    have g6 := Led.ok_spend (Led.ok_grant hL (L.want a.n)) hn
    simp (maxSteps := 1000000) (disch := omega) only [c6l3, h5, h7, h52, h53, h54, hkk, i1, hel, Act.enc, runsO_fn, runsL, orc_cons, ledB_blk, mSpec_app, mL_some, nSpec_app, tell, nL_tell, nL_do, chSpec_app, chL_some, qSpec_app, qL_some, rSpec_enc, r2Spec_enc, hL, hn, hm, and_self, row_blk, st_blk, st_g, st_u, cell_g, cell_u, duo, g1, g2, g3, g4, g5, g6, roll_eq, go_sem, ↓reduceIte, Nat.reduceBEq, Nat.reduceAdd, Nat.reduceSub, Nat.reduceEqDiff, Nat.reduceLeDiff, Nat.reduceMul, Nat.reduceLT, Int.reduceLT, Int.reduceLE, Int.reduceAdd, Int.reduceSub, Int.reduceMul, Int.reduceNeg, Int.reduceEq, Int.reduceNe, Int.reduceToNat, decide_true, decide_false, iaddr_i, iaddr_sl_i, not_true_eq_false, not_false_eq_true, reduceCtorEq, ne_eq, forall_const, false_imp_iff, true_imp_iff, implies_true, Int.cast_ofNat_Int, Int.natCast_zero, Int.natCast_one, Int.add_zero, Int.zero_add]
    refine ⟨fun _ => hQ _ (g1 _) _ rfl rfl rfl rfl rfl _, fun _ => ⟨fun _ => hQ _ g2 _ rfl rfl rfl rfl rfl _, fun _ => ⟨fun _ => hQ _ g3 _ rfl rfl rfl rfl rfl _, fun _ => ⟨fun _ => hQ _ g4 _ rfl rfl rfl rfl rfl _, fun _ => ⟨fun _ => hQ _ g6 _ rfl rfl rfl rfl rfl _, fun _ => hQ _ hL _ rfl rfl rfl rfl rfl _⟩⟩⟩⟩⟩

theorem newL_ok {a b c : Int} (ha : u64 a) (hb : u64 b) (hc : u64 c) (h : fine3 a b c) : (newL a b c).ok := by
  unfold newL; rw [if_pos h]; unfold fine3 at h; unfold u64 at *; unfold Led.ok; simp only; omega

theorem runs_ok (S : Mem) (a b c : Int) (ha : u64 a) (hb : u64 b) (hc : u64 c) (x : AV) (acts : List Act) (hl : Lst 3 Act.enc S x acts) (hf : ∀ a ∈ acts, a.fits) : FnOK Try.prog 6 [.ag [.i .u64 a, .i .u64 b, .i .u64 c], x] S (.b true) S := by
  refine fn_of_wp f6 rfl (W_sound runsO_ok mixed _ _ _ _ _ ?_)
  have hlen : lenQ .slice (S ++ [.cells [.i .u64 a, .i .u64 b, .i .u64 c] 0 none true]) x = some (.i .i64 acts.length) := by
    rcases hl with ⟨rfl, rfl⟩ | ⟨rfl, rfl⟩ | ⟨i, o, v, len, cap, ex, rfl, rfl, hrow⟩ <;> rfl
  have hlen2 : ∀ M, lenQ .slice M x = some (.i .i64 acts.length) := by
    intro M
    rcases hl with ⟨rfl, rfl⟩ | ⟨rfl, rfl⟩ | ⟨i, o, v, len, cap, ex, rfl, rfl, hrow⟩ <;> rfl
  have hx : ∀ g, ren S.length g x = x := by
    intro g
    rcases hl with ⟨rfl, rfl⟩ | ⟨rfl, rfl⟩ | ⟨i, o, v, len, cap, ex, rfl, rfl, hrow⟩
    · rfl
    · rfl
    · have hi : i < S.length := by
        unfold rowAt at hrow
        split at hrow
        · rename_i hB; exact (List.getElem?_eq_some_iff.1 hB).1
        · cases hrow
      rw [ren, if_pos hi]
  by_cases hg : fine3 a b c
  · simp (maxSteps := 1000000) (disch := omega) only [c6, runsO_fn, runsL, orc_cons, s7, hlen2, nwSpec, rnSpec, hg, newE, duo, Led.enc, go_sem, ↓reduceIte, Nat.reduceBEq, Nat.reduceAdd, Nat.reduceSub, Nat.reduceEqDiff, Nat.reduceLeDiff, Nat.reduceMul, Nat.reduceLT, Int.reduceLT, Int.reduceLE, Int.reduceAdd, Int.reduceSub, Int.reduceMul, Int.reduceNeg, Int.reduceEq, Int.reduceNe, Int.reduceToNat, decide_true, decide_false, iaddr_i, iaddr_sl_i, not_true_eq_false, not_false_eq_true, reduceCtorEq, ne_eq, forall_const, false_imp_iff, true_imp_iff, implies_true, Int.cast_ofNat_Int, Int.natCast_zero, Int.natCast_one, Int.add_zero, Int.zero_add]
    refine ⟨fun _ => wkv_drop rfl, fun hn => ?_⟩
    have hn' : acts.length ≤ 100 := by omega
    refine WP.wk ?_
    refine wp_loop (fun j e M d => d = [] ∧ ∃ (k : Nat) (L : Led), j = acts.length - k ∧ k ≤ acts.length ∧ L.ok ∧ M = S ++ [.cells [.i .u64 a, .i .u64 b, .i .u64 c] 0 none true, L.blk, L.blk] ∧
      e.get 5 = .p (S.length + 1) 0 0 ∧ e.get 7 = .p (S.length + 2) 0 0 ∧ e.get 52 = x ∧ e.get 53 = .i .i64 acts.length ∧ e.get 54 = .i .i64 k) (j := acts.length) ⟨rfl, 0, newL a b c, rfl, Nat.zero_le _, newL_ok ha hb hc hg, rfl, rfl, rfl, rfl, rfl, rfl⟩ ?_
    rintro j e M d ⟨rfl, k, L, rfl, hk, hL, rfl, h5, h7, h52, h53, h54⟩
    refine WP.wk (W_sound runsO_ok mixed _ _ _ _ _ ?_)
    by_cases hkk : k < acts.length
    · refine round S x acts hl hf _ (fun g => rfl) rfl k hkk L hL e h5 h7 h52 h53 h54 hn' _ fun L' hL' e' g5 g7 g52 g53 g54 L2 => ?_
      refine .inr ⟨rfl, keepE e' [5, 7, 52, 53, 54], S ++ [.cells [.i .u64 a, .i .u64 b, .i .u64 c] 0 none true, L'.blk, L'.blk], ?_, acts.length - (k + 1), by omega, rfl, k + 1, L', rfl, hkk, hL', rfl, ?_⟩
      · have := wk_keep (S0 := S) (L := .cells [.i .u64 a, .i .u64 b, .i .u64 c] 0 none true :: L'.blk :: L'.blk :: L2) (e := e') (e2 := keepE e' [5, 7, 52, 53, 54]) [0, 1, 2] (by rfl) (by simp) ?_
        · exact this
        · intro t
          rw [get_keepE]
          by_cases ht : t ∈ [5, 7, 52, 53, 54]
          · rw [if_pos ht]
            left
            simp only [List.mem_cons, List.not_mem_nil, or_false] at ht
            rcases ht with rfl | rfl | rfl | rfl | rfl
            · rw [g5]; simp (maxSteps := 1000000) (disch := omega) only [List.findIdx?_cons, go_sem, ↓reduceIte, Nat.reduceBEq, Nat.reduceAdd, Nat.reduceSub, Nat.reduceEqDiff, Nat.reduceLeDiff, Nat.reduceMul, Nat.reduceLT, Int.reduceLT, Int.reduceLE, Int.reduceAdd, Int.reduceSub, Int.reduceMul, Int.reduceNeg, Int.reduceEq, Int.reduceNe, Int.reduceToNat, decide_true, decide_false, iaddr_i, iaddr_sl_i, not_true_eq_false, not_false_eq_true, reduceCtorEq, ne_eq, forall_const, false_imp_iff, true_imp_iff, implies_true, Int.cast_ofNat_Int, Int.natCast_zero, Int.natCast_one, Int.add_zero, Int.zero_add]; rfl
            · rw [g7]; simp (maxSteps := 1000000) (disch := omega) only [List.findIdx?_cons, go_sem, ↓reduceIte, Nat.reduceBEq, Nat.reduceAdd, Nat.reduceSub, Nat.reduceEqDiff, Nat.reduceLeDiff, Nat.reduceMul, Nat.reduceLT, Int.reduceLT, Int.reduceLE, Int.reduceAdd, Int.reduceSub, Int.reduceMul, Int.reduceNeg, Int.reduceEq, Int.reduceNe, Int.reduceToNat, decide_true, decide_false, iaddr_i, iaddr_sl_i, not_true_eq_false, not_false_eq_true, reduceCtorEq, ne_eq, forall_const, false_imp_iff, true_imp_iff, implies_true, Int.cast_ofNat_Int, Int.natCast_zero, Int.natCast_one, Int.add_zero, Int.zero_add]; rfl
            · rw [g52, hx]
            · rw [g53]; rfl
            · rw [g54]; rfl
          · rw [if_neg ht]; exact .inr rfl
      · refine ⟨?_, ?_, ?_, ?_, ?_⟩ <;> rw [get_keepE, if_pos (by simp)]
        · exact g5
        · exact g7
        · exact g52
        · exact g53
        · rw [g54]; rfl
    · have hk2 : ¬ ((k : Int) < acts.length) := by omega
      simp (maxSteps := 1000000) (disch := omega) only [c6l3, h5, h7, h52, h53, h54, hk2, go_sem, ↓reduceIte, Nat.reduceBEq, Nat.reduceAdd, Nat.reduceSub, Nat.reduceEqDiff, Nat.reduceLeDiff, Nat.reduceMul, Nat.reduceLT, Int.reduceLT, Int.reduceLE, Int.reduceAdd, Int.reduceSub, Int.reduceMul, Int.reduceNeg, Int.reduceEq, Int.reduceNe, Int.reduceToNat, decide_true, decide_false, iaddr_i, iaddr_sl_i, not_true_eq_false, not_false_eq_true, reduceCtorEq, ne_eq, forall_const, false_imp_iff, true_imp_iff, implies_true, Int.cast_ofNat_Int, Int.natCast_zero, Int.natCast_one, Int.add_zero, Int.zero_add]
      refine .inl (.inl ?_)
      simp (maxSteps := 1000000) (disch := omega) only [go_sem, ↓reduceIte, Nat.reduceBEq, Nat.reduceAdd, Nat.reduceSub, Nat.reduceEqDiff, Nat.reduceLeDiff, Nat.reduceMul, Nat.reduceLT, Int.reduceLT, Int.reduceLE, Int.reduceAdd, Int.reduceSub, Int.reduceMul, Int.reduceNeg, Int.reduceEq, Int.reduceNe, Int.reduceToNat, decide_true, decide_false, iaddr_i, iaddr_sl_i, not_true_eq_false, not_false_eq_true, reduceCtorEq, ne_eq, forall_const, false_imp_iff, true_imp_iff, implies_true, Int.cast_ofNat_Int, Int.natCast_zero, Int.natCast_one, Int.add_zero, Int.zero_add]
      exact wkv_drop rfl
  · simp (maxSteps := 1000000) (disch := omega) only [c6, runsO_fn, runsL, orc_cons, s7, hlen2, nwSpec, rnSpec, hg, newE, duo, Led.enc, go_sem, ↓reduceIte, Nat.reduceBEq, Nat.reduceAdd, Nat.reduceSub, Nat.reduceEqDiff, Nat.reduceLeDiff, Nat.reduceMul, Nat.reduceLT, Int.reduceLT, Int.reduceLE, Int.reduceAdd, Int.reduceSub, Int.reduceMul, Int.reduceNeg, Int.reduceEq, Int.reduceNe, Int.reduceToNat, decide_true, decide_false, iaddr_i, iaddr_sl_i, not_true_eq_false, not_false_eq_true, reduceCtorEq, ne_eq, forall_const, false_imp_iff, true_imp_iff, implies_true, Int.cast_ofNat_Int, Int.natCast_zero, Int.natCast_one, Int.add_zero, Int.zero_add]
    exact ⟨fun _ => wkv_drop rfl, fun _ => wkv_drop rfl⟩
end Go.Proofs.Ytbggleijjoleiaa
