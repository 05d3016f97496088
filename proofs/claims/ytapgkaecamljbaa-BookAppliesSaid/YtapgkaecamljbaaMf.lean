/- Proved here: what the law of this claim leans on (an evaluator of the model's code, contracts of functions). No condition. -/
import Derived.Test.YtapgkaecamljbaaMe
import Derived.Test.YtapgkaecamljbaaMd
namespace Go.Proofs.Ytapgkaecamljbaa
open Go.RowKit
set_option linter.unusedSimpArgs false
set_option linter.unusedVariables false
set_option maxRecDepth 10000

theorem after_len {b : Bk} {e : Evt} (hb : b.fits) : (b.after e).entries.length ≤ 1000000 := by
  unfold Bk.after
  cases h : b.rapplied e with
  | none => exact hb.1
  | some b' =>
    show b'.entries.length ≤ 1000000
    unfold Bk.rapplied at h
    split at h
    · split at h
      · split at h
        · cases h
        · simp only [Bk.fin] at h
          split at h
          · cases h
            exact Nat.le_trans (refEnts_len _ _ _) (by omega)
          · cases h
      · split at h
        · cases hl : leased b.entries e.sub e.granted with
          | none => rw [hl] at h; cases h
          | some l' =>
            rw [hl] at h
            cases h
            show l'.length ≤ _
            rw [← leased_len hl]; exact hb.1
        · split at h
          · cases h
            show (b.entries.map _).length ≤ _
            rw [List.length_map]; exact hb.1
          · cases h
    · cases h
theorem oBap_ok : OK Try.prog (lamOf Try.prog) (orcOf [(11, aliveS), (12, greatS), (13, applyS), (14, rapplyS), (15, bsameS)]) := orc_ok (by simpa using ⟨alive_ok, great_ok, apply_ok, rapply_ok, rbsame_ok⟩)
theorem applies_ok (S : Mem) (p k sub g q : Int) (s xp xd : AV) (l : List Ent) (ps : List Pol) (ds : List Int) (hl : lstV entE S s = some l) (hgl : ∀ x ∈ l, x.good) (hp : lstV polE S xp = some ps) (hgp : ∀ x ∈ ps, x.good) (hd : lstV (intE .i64) S xd = some ds) (hop : openQ S 13 xp = true) :
    FnOK Try.prog 3 [.ag [.i .u64 p, s], .ag [.i .i64 k, .i .i64 sub, xp, xd, .i .u64 g, .i .u64 q]] S (.b true) S := by
  have g1 := fun L => great_eq (bookOf_mk (p := p) (lstV_grow hl L)) (evtOf_mk (k := k) (s := sub) (g := g) (p := q) (lstV_grow hp L) (lstV_grow hd L))
  refine fn_of_wp f3 rfl (W_sound oBap_ok mixed _ _ _ _ _ ?_)
  by_cases h30 : 30 < (Bk.mk p l).entries.length ∨ 30 < (Evt.mk k sub ps ds g q).puts.length ∨ 30 < (Evt.mk k sub ps ds g q).drops.length
  · rw [decide_eq_true h30] at g1
    simp (maxSteps := 1000000) (disch := omega) only [c3, orc_cons, lst_cells hl, lst_cells hp, lst_cells hd, aliveS, g1, go_sem, Option.map_none, Option.map_some, ↓reduceIte, Nat.reduceBEq, Nat.reduceAdd, Nat.reduceSub, Nat.reduceEqDiff, Nat.reduceLeDiff, Nat.reduceMul, Nat.reduceLT, Int.reduceLT, Int.reduceLE, Int.reduceAdd, Int.reduceSub, Int.reduceMul, Int.reduceNeg, Int.reduceEq, Int.reduceNe, Int.reduceToNat, decide_true, decide_false, iaddr_i, iaddr_sl_i, not_true_eq_false, not_false_eq_true, reduceCtorEq, ne_eq, forall_const, false_imp_iff, true_imp_iff, implies_true, Int.cast_ofNat_Int, Int.natCast_zero, Int.natCast_one, Int.add_zero, Int.zero_add]
    exact wkv_drop rfl
  · rw [decide_eq_false h30] at g1
    simp only [not_or] at h30
    obtain ⟨h31, h32, h33⟩ := h30
    have hbf : (Bk.mk p l).fits := ⟨by show l.length ≤ _; omega, fun x hx => (hgl x hx).1.fits⟩
    have hef : (Evt.mk k sub ps ds g q).fits := ⟨by show ps.length ≤ _; omega, by show ds.length ≤ _; omega, fun x hx => (hgp x hx).fits⟩
    obtain ⟨M0, hM0⟩ : ∃ M0, M0 = S ++ [Blk.cells [.i .u64 p, s] 0 none true, .cells [.i .i64 k, .i .i64 sub, xp, xd, .i .u64 g, .i .u64 q] 0 none true] := ⟨_, rfl⟩
    have hS0 : S <+: M0 := by rw [hM0]; exact ext_app _
    have z0 : M0[S.length]? = some (.cells [.i .u64 p, s] 0 none true) := by rw [hM0, at_app0]; rfl
    have z1 : M0[S.length + 1]? = some (.cells [.i .i64 k, .i .i64 sub, xp, xd, .i .u64 g, .i .u64 q] 0 none true) := by rw [hM0, at_app]; rfl
    have hM0l : M0.length = S.length + 2 := by rw [hM0]; simp
    obtain ⟨Y, M1, hap, hY⟩ := (acc_lit (E := entE) (S := M0) (M := M0) ext_refl).apps (bytes := 88) entE_one l (by simp only [List.length_nil]; omega) (by simp only [List.length_nil]; omega)
    rw [List.nil_append] at hY
    have hap : appV (S ++ [Blk.cells [.i .u64 p, s] 0 none true, .cells [.i .i64 k, .i .i64 sub, xp, xd, .i .u64 g, .i .u64 q] 0 none true, .cells [] 0 none true]) 14 88 (.sl (S.length + 2) 0 0 0 0 true) (l.flatMap entE.enc) l.length = some (Y, M1) := by
      have hap : appV (M0 ++ [.cells [] 0 none true]) 14 88 (.sl M0.length 0 0 0 0 true) (l.flatMap entE.enc) l.length = some (Y, M1) := hap
      rw [hM0l, hM0, List.append_assoc] at hap
      exact hap
    have hsrc : ∀ L, srcV (S ++ L) 14 s = some (l.flatMap entE.enc, l.length) := fun L => src_lst (lstV_grow hl L)
    have v0 := eqv_lst hl
    have v1 := eqv_lst hY.lst
    have m0 := at_pre hY.ext z0
    have m1 := at_pre hY.ext z1
    have m0o := fun L => at_old (L := L) m0
    have m1o := fun L => at_old (L := L) m1
    have hS1 := hS0.trans hY.ext
    have hS1' := hS1.trans (ext_app [Blk.cells [.i .u64 p, Y] 0 none true])
    obtain ⟨Y2, M2, hc2, hY2, hM2⟩ := apply_call (bookOf_mk (p := p) (lst_ext hl hS1')) (evtOf_mk (k := k) (s := sub) (g := g) (p := q) (lst_ext hp hS1') (lst_ext hd hS1')) hbf hef
    have hal := after_len (e := ⟨k, sub, ps, ds, g, q⟩) hbf
    generalize hbe : Bk.after ⟨p, l⟩ ⟨k, sub, ps, ds, g, q⟩ = ba at hc2 hY2 hal
    generalize hee : Bk.err ⟨p, l⟩ ⟨k, sub, ps, ds, g, q⟩ = er at hc2
    have hS2 := hS1'.trans hM2
    have n1 : M2[M1.length]? = some (.cells [.i .u64 p, Y] 0 none true) := at_pre hM2 (by rw [at_app0]; rfl)
    have n1o := fun L => at_old (L := L) n1
    have hYM2 := lst_ext hY.lst ((ext_app _).trans hM2)
    have hS2' := hS2.trans (ext_app [Blk.cells [.i .u64 ba.period, Y2] 0 none true])
    obtain ⟨Y3, M3, hc3, hY3, hM3⟩ := rapply_call (S := M2 ++ [Blk.cells [.i .u64 ba.period, Y2] 0 none true]) (k := k) (s := sub) (g := g) (q := q) (bookOf_mk (p := p) (lstV_grow hYM2 _)) (lst_ext hp hS2') (lst_ext hd hS2') hbf hef (openQ_ext hop hS2')
    rw [hbe] at hc3 hY3
    rw [hee] at hc3
    have hS3 := hS2'.trans hM3
    have q0 := at_pre (hM2.trans ((ext_app _).trans hM3)) (m0o [Blk.cells [.i .u64 p, Y] 0 none true])
    have q0o := fun L => at_old (L := L) q0
    have q1 := at_pre (hM2) (m1o [Blk.cells [.i .u64 p, Y] 0 none true])
    have q1o := fun L => at_old (L := L) q1
    have r1 : M3[M1.length]? = some (.cells [.i .u64 p, Y] 0 none true) := at_pre hM3 (n1o _)
    have r1o := fun L => at_old (L := L) r1
    have r2 : M3[M2.length]? = some (.cells [.i .u64 ba.period, Y2] 0 none true) := at_pre hM3 (by rw [at_app0]; rfl)
    have r2o := fun L => at_old (L := L) r2
    have hY2M3 := lst_ext hY2 ((ext_app _).trans hM3)
    have s1 : ∀ L, bsameS [.ag [.i .u64 ba.period, Y2], .ag [.i .u64 ba.period, Y3]] (M3 ++ L) = some (.b true, M3 ++ L) := fun L => by
      simp only [bsameS, bookOf_mk (p := ba.period) (lstV_grow hY2M3 L), bookOf_mk (p := ba.period) (lstV_grow hY3 L)]
      rw [if_pos hal]; simp
    have s2 : ∀ L, bsameS [.ag [.i .u64 p, s], .ag [.i .u64 p, Y]] (M3 ++ L) = some (.b true, M3 ++ L) := fun L => by
      simp only [bsameS, bookOf_mk (p := p) (lst_ext hl (ext_more hS3 L)), bookOf_mk (p := p) (lst_ext hYM2 ((ext_app _).trans (ext_more hM3 L)))]
      rw [if_pos hbf.1]; simp
    simp (maxSteps := 1000000) (disch := omega) only [c3, orc_cons, lst_cells hl, lst_cells hp, lst_cells hd, aliveS, g1, go_sem, Option.map_none, Option.map_some, ↓reduceIte, Nat.reduceBEq, Nat.reduceAdd, Nat.reduceSub, Nat.reduceEqDiff, Nat.reduceLeDiff, Nat.reduceMul, Nat.reduceLT, Int.reduceLT, Int.reduceLE, Int.reduceAdd, Int.reduceSub, Int.reduceMul, Int.reduceNeg, Int.reduceEq, Int.reduceNe, Int.reduceToNat, decide_true, decide_false, iaddr_i, iaddr_sl_i, not_true_eq_false, not_false_eq_true, reduceCtorEq, ne_eq, forall_const, false_imp_iff, true_imp_iff, implies_true, Int.cast_ofNat_Int, Int.natCast_zero, Int.natCast_one, Int.add_zero, Int.zero_add]
    refine draw_of ?_
    simp (maxSteps := 1000000) (disch := omega) only [c3d0, lst_cells hl, hsrc, hap, v0, v1, lst_one hY.lst, lst_cells hY.lst, m0, m0o, dNs_nil, dNs_cons, dnK_some, dnK_none, dOpt_none, dOpt_some, doK_some, doK_none, dStages_nil, dStages_cons, s1K_app, s2K_app, s3K_app, s4K_app, dEnd_app, evOne_op, evOne_gd, evG_tt, evG_tf, evG_ft, evG_ff, evG_ud, kSt_nil, kSt_cons, kNs_nil, kNs_cons, kN_zero, kN_succ, kA_some, eqK_some, eqK_none, kOpt_none, kOpt_some, kLike_nil, kLike_cons, ROp.use, IOp.use, IO'.use, X.use, dstL_none, dstL_some, List.flatMap_cons, List.flatMap_nil, eqv_m, eqv_p, eqv_i, eqv_b, eqv_sl, eqv_sn, eqv_pn, eqv_ud, eqv_u, eqv_mn, eqv_ag, eqvL_cons, eqvL_nil, eqv_tu, Bool.and_true, Bool.true_and, Bool.and_self, Nat.le_refl, Nat.reduceLeDiff, and_self, and_true, true_and, go_sem, Option.map_none, Option.map_some, ↓reduceIte, Nat.reduceBEq, Nat.reduceAdd, Nat.reduceSub, Nat.reduceEqDiff, Nat.reduceLeDiff, Nat.reduceMul, Nat.reduceLT, Int.reduceLT, Int.reduceLE, Int.reduceAdd, Int.reduceSub, Int.reduceMul, Int.reduceNeg, Int.reduceEq, Int.reduceNe, Int.reduceToNat, decide_true, decide_false, iaddr_i, iaddr_sl_i, not_true_eq_false, not_false_eq_true, reduceCtorEq, ne_eq, forall_const, false_imp_iff, true_imp_iff, implies_true, Int.cast_ofNat_Int, Int.natCast_zero, Int.natCast_one, Int.add_zero, Int.zero_add]
    simp (maxSteps := 1000000) (disch := omega) only [orc_cons, m0o, m1o, hc2, List.replicate, lst_cells hY2, lst_one hY2, n1o, q1o, hc3, lst_cells hY3, lst_one hY3, q0o, r1o, r2o, s1, s2, at_app0, List.getElem?_cons_zero, go_sem, Option.map_none, Option.map_some, ↓reduceIte, Nat.reduceBEq, Nat.reduceAdd, Nat.reduceSub, Nat.reduceEqDiff, Nat.reduceLeDiff, Nat.reduceMul, Nat.reduceLT, Int.reduceLT, Int.reduceLE, Int.reduceAdd, Int.reduceSub, Int.reduceMul, Int.reduceNeg, Int.reduceEq, Int.reduceNe, Int.reduceToNat, decide_true, decide_false, iaddr_i, iaddr_sl_i, not_true_eq_false, not_false_eq_true, reduceCtorEq, ne_eq, forall_const, false_imp_iff, true_imp_iff, implies_true, Int.cast_ofNat_Int, Int.natCast_zero, Int.natCast_one, Int.add_zero, Int.zero_add]
    exact wkv_dropP (hS3.trans (ext_app _)) rfl
end Go.Proofs.Ytapgkaecamljbaa

namespace Go.Proofs.Ytapgkaecamljbaa
open Go.RowKit
set_option linter.unusedVariables false
set_option maxRecDepth 100000

section
variable {H : Type} {enc : TypeId × Value → H} {W : World}

theorem wf_u8 {n : Int} (h : (Lit.int .u8 n).wf = true) : u8 n := by
  simp only [Lit.wf, IntKind.min, IntKind.max, IntKind.signed, IntKind.bits, Bool.and_eq_true] at h
  unfold u8
  simpa using h
theorem wf_u64 {n : Int} (h : (Lit.int .u64 n).wf = true) : u64 n := by
  simp only [Lit.wf, IntKind.min, IntKind.max, IntKind.signed, IntKind.bits, Bool.and_eq_true] at h
  unfold u64
  simpa using h
theorem wf_i64 {n : Int} (h : (Lit.int .i64 n).wf = true) : i64 n := by
  simp only [Lit.wf, IntKind.min, IntKind.max, IntKind.signed, IntKind.bits, Bool.and_eq_true] at h
  unfold i64
  simpa using h

theorem enc_inj {α : Type} {E : Enc α} {a b : α} (h : E.enc a = E.enc b) : a = b := by
  have h1 := E.de a
  rw [h, E.de] at h1
  injection h1 with h1; exact h1.symm

end
end Go.Proofs.Ytapgkaecamljbaa

namespace Go.Proofs.Ytapgkaecamljbaa
open Go.RowKit
set_option linter.unusedVariables false
set_option maxRecDepth 100000

section
variable {H : Type} {enc : TypeId × Value → H} {W : World}

abbrev polSh : List CS := [.int .i64, .int .u8, .int .u8, .int .u8, .int .u8, .int .i64, .int .u64, .int .u64, .int .u64, .int .u64, .int .u64, .int .u64, .int .u64]
theorem rowPol {cs : List Value} (h : RowIs enc Try.prog W polSh cs) : ∃ a : Pol, cs.map (absV W) = a.enc ∧ a.good := by
  obtain ⟨h1, h2⟩ := h
  match cs, h1 with
  | [x0, x1, x2, x3, x4, x5, x6, x7, x8, x9, x10, x11, x12], _ =>
    obtain ⟨a0, rfl, w0⟩ := h2 0 (by simp) (by simp)
    obtain ⟨a1, rfl, w1⟩ := h2 1 (by simp) (by simp)
    obtain ⟨a2, rfl, w2⟩ := h2 2 (by simp) (by simp)
    obtain ⟨a3, rfl, w3⟩ := h2 3 (by simp) (by simp)
    obtain ⟨a4, rfl, w4⟩ := h2 4 (by simp) (by simp)
    obtain ⟨a5, rfl, w5⟩ := h2 5 (by simp) (by simp)
    obtain ⟨a6, rfl, w6⟩ := h2 6 (by simp) (by simp)
    obtain ⟨a7, rfl, w7⟩ := h2 7 (by simp) (by simp)
    obtain ⟨a8, rfl, w8⟩ := h2 8 (by simp) (by simp)
    obtain ⟨a9, rfl, w9⟩ := h2 9 (by simp) (by simp)
    obtain ⟨a10, rfl, w10⟩ := h2 10 (by simp) (by simp)
    obtain ⟨a11, rfl, w11⟩ := h2 11 (by simp) (by simp)
    obtain ⟨a12, rfl, w12⟩ := h2 12 (by simp) (by simp)
    exact ⟨⟨a0, a1, a2, a3, a4, a5, a6, a7, a8, a9, a10, a11, a12⟩, rfl, wf_i64 w0, ⟨wf_u8 w1, wf_u8 w2, wf_u8 w3, wf_u8 w4⟩, wf_i64 w5, wf_u64 w6, wf_u64 w7, wf_u64 w8, wf_u64 w9, wf_u64 w10, wf_u64 w11, wf_u64 w12⟩
abbrev entSh : List CS := [.int .i64, .int .u8, .int .u8, .int .u8, .int .u8, .int .i64, .int .u64, .int .u64, .int .u64, .int .u64, .int .u64, .int .u64, .int .u64, .int .u64]
theorem rowEnt {cs : List Value} (h : RowIs enc Try.prog W entSh cs) : ∃ a : Ent, cs.map (absV W) = a.enc ∧ a.good := by
  obtain ⟨h1, h2⟩ := h
  match cs, h1 with
  | [x0, x1, x2, x3, x4, x5, x6, x7, x8, x9, x10, x11, x12, x13], _ =>
    obtain ⟨a0, rfl, w0⟩ := h2 0 (by simp) (by simp)
    obtain ⟨a1, rfl, w1⟩ := h2 1 (by simp) (by simp)
    obtain ⟨a2, rfl, w2⟩ := h2 2 (by simp) (by simp)
    obtain ⟨a3, rfl, w3⟩ := h2 3 (by simp) (by simp)
    obtain ⟨a4, rfl, w4⟩ := h2 4 (by simp) (by simp)
    obtain ⟨a5, rfl, w5⟩ := h2 5 (by simp) (by simp)
    obtain ⟨a6, rfl, w6⟩ := h2 6 (by simp) (by simp)
    obtain ⟨a7, rfl, w7⟩ := h2 7 (by simp) (by simp)
    obtain ⟨a8, rfl, w8⟩ := h2 8 (by simp) (by simp)
    obtain ⟨a9, rfl, w9⟩ := h2 9 (by simp) (by simp)
    obtain ⟨a10, rfl, w10⟩ := h2 10 (by simp) (by simp)
    obtain ⟨a11, rfl, w11⟩ := h2 11 (by simp) (by simp)
    obtain ⟨a12, rfl, w12⟩ := h2 12 (by simp) (by simp)
    obtain ⟨a13, rfl, w13⟩ := h2 13 (by simp) (by simp)
    exact ⟨⟨⟨a0, a1, a2, a3, a4, a5, a6, a7, a8, a9, a10, a11, a12⟩, a13⟩, rfl, ⟨wf_i64 w0, ⟨wf_u8 w1, wf_u8 w2, wf_u8 w3, wf_u8 w4⟩, wf_i64 w5, wf_u64 w6, wf_u64 w7, wf_u64 w8, wf_u64 w9, wf_u64 w10, wf_u64 w11, wf_u64 w12⟩, wf_u64 w13⟩
/-- A slice's cell, as a list. -/
theorem cellEnts {v : Value} (h : CellIs enc Try.prog W (.slice 46) v) : ∃ l : List Ent, lstV entE (absS W) (absV W v) = some l ∧ ∀ x ∈ l, x.good := by
  have s2 : shapes Try.prog 20 46 = some entSh := by kernel_rfl
  have c2 : Try.prog.cellsOf 46 = 14 := by kernel_rfl
  obtain ⟨l, hl, hf, _⟩ := lst_of (e := Ent.enc) (sz := 14) c2 (by omega) h (fun cs fuel x ht => let ⟨a, h1, h2⟩ := rowEnt (shapes_ok 20 fuel 46 cs x _ ht s2); ⟨a, h1, rfl⟩)
    (good := Ent.good) (fun cs fuel x a ht he => let ⟨a', h1, h2⟩ := rowEnt (shapes_ok 20 fuel 46 cs x _ ht s2); enc_inj (E := entE) (h1.symm.trans he) ▸ h2)
  exact ⟨l, lst_lstV (E := entE) hl, hf⟩
theorem cellPols {v : Value} (h : CellIs enc Try.prog W (.slice 44) v) : ∃ l : List Pol, lstV polE (absS W) (absV W v) = some l ∧ ∀ x ∈ l, x.good := by
  have s2 : shapes Try.prog 20 44 = some polSh := by kernel_rfl
  have c2 : Try.prog.cellsOf 44 = 13 := by kernel_rfl
  obtain ⟨l, hl, hf, _⟩ := lst_of (e := Pol.enc) (sz := 13) c2 (by omega) h (fun cs fuel x ht => let ⟨a, h1, h2⟩ := rowPol (shapes_ok 20 fuel 44 cs x _ ht s2); ⟨a, h1, rfl⟩)
    (good := Pol.good) (fun cs fuel x a ht he => let ⟨a', h1, h2⟩ := rowPol (shapes_ok 20 fuel 44 cs x _ ht s2); enc_inj (E := polE) (h1.symm.trans he) ▸ h2)
  exact ⟨l, lst_lstV (E := polE) hl, hf⟩
theorem cellInts {v : Value} (h : CellIs enc Try.prog W (.slice 3) v) : ∃ l : List Int, lstV (intE .i64) (absS W) (absV W v) = some l ∧ ∀ x ∈ l, i64 x := by
  have s2 : shapes Try.prog 20 3 = some [.int .i64] := by kernel_rfl
  have c2 : Try.prog.cellsOf 3 = 1 := by kernel_rfl
  have row : ∀ cs : List Value, RowIs enc Try.prog W [.int .i64] cs → ∃ a : Int, cs.map (absV W) = [AV.i .i64 a] ∧ i64 a := fun cs h => by
    obtain ⟨h1, h2⟩ := h
    match cs, h1 with
    | [x], _ =>
      obtain ⟨a, rfl, w⟩ := h2 0 (by simp) (by simp)
      exact ⟨a, rfl, wf_i64 w⟩
  obtain ⟨l, hl, hf, _⟩ := lst_of (e := fun n => [AV.i .i64 n]) (sz := 1) c2 (by omega) h (fun cs fuel x ht => let ⟨a, h1, h2⟩ := row _ (shapes_ok 20 fuel 3 cs x _ ht s2); ⟨a, h1, rfl⟩)
    (good := i64) (fun cs fuel x a ht he => let ⟨a', h1, h2⟩ := row _ (shapes_ok 20 fuel 3 cs x _ ht s2); enc_inj (E := intE .i64) (h1.symm.trans he) ▸ h2)
  exact ⟨l, lst_lstV (E := intE .i64) hl, hf⟩

theorem argBook {v : Value} {base : Nat} {d : DataW H} {ps : List MemPlace} (o : Value.okWide Try.prog W .any base 25 v) (h : DataW.Trod enc Try.prog W 0 (fun _ => true) true 25 v d ps) :
    ∃ p s l, absA W v = .ag [.i .u64 p, s] ∧ lstV entE (absS W) s = some l ∧ (∀ x ∈ l, x.good) ∧ u64 p := by
  have s0 : shapes Try.prog 20 25 = some [.int .u64, .slice 46] := by kernel_rfl
  obtain ⟨cs, rfl⟩ : ∃ cs, v = .agg cs := by
    unfold Value.okWide at o
    rw [Try.underlying25] at o
    obtain ⟨cs, h, _⟩ := o
    exact ⟨cs, h⟩
  obtain ⟨h1, h2⟩ := arg_row h s0
  have h1 : cs.toList.length = 2 := h1
  have h2 : ∀ (i : Nat) (h : i < 2) (h' : i < cs.toList.length), CellIs enc Try.prog W ([CS.int .u64, CS.slice 46][i]) cs.toList[i] := fun i h h' => h2 i h h'
  generalize hcs : cs.toList = cl at h1 h2
  match cl, h1 with
  | [x, y], _ =>
    obtain ⟨p, rfl, wp⟩ := h2 0 (by omega) (by simp)
    obtain ⟨l, hl, hf⟩ := cellEnts (h2 1 (by omega) (by simp))
    refine ⟨p, absV W y, l, ?_, hl, hf, wf_u64 wp⟩
    show AV.ag (cs.toList.map (absV W)) = _
    rw [hcs]; rfl
theorem argEvt {v : Value} {base : Nat} {d : DataW H} {ps : List MemPlace} (o : Value.okWide Try.prog W .any base 29 v) (h : DataW.Trod enc Try.prog W 0 (fun _ => true) true 29 v d ps) :
    ∃ cs e, absA W v = .ag cs ∧ evtOf (absS W) cs = some e ∧ i64 e.kind ∧ i64 e.sub ∧ (∀ x ∈ e.puts, x.good) ∧ (∀ x ∈ e.drops, i64 x) ∧ u64 e.granted ∧ u64 e.period := by
  have s0 : shapes Try.prog 20 29 = some [.int .i64, .int .i64, .slice 44, .slice 3, .int .u64, .int .u64] := by kernel_rfl
  obtain ⟨cs, rfl⟩ : ∃ cs, v = .agg cs := by
    unfold Value.okWide at o
    rw [Try.underlying29] at o
    obtain ⟨cs, h, _⟩ := o
    exact ⟨cs, h⟩
  obtain ⟨h1, h2⟩ := arg_row h s0
  have h1 : cs.toList.length = 6 := h1
  have h2 : ∀ (i : Nat) (h : i < 6) (h' : i < cs.toList.length), CellIs enc Try.prog W ([CS.int .i64, CS.int .i64, CS.slice 44, CS.slice 3, CS.int .u64, CS.int .u64][i]) cs.toList[i] := fun i h h' => h2 i h h'
  generalize hcs : cs.toList = cl at h1 h2
  match cl, h1 with
  | [x0, x1, x2, x3, x4, x5], _ =>
    obtain ⟨a0, rfl, w0⟩ := h2 0 (by omega) (by simp)
    obtain ⟨a1, rfl, w1⟩ := h2 1 (by omega) (by simp)
    obtain ⟨l2, hl2, hf2⟩ := cellPols (h2 2 (by omega) (by simp))
    obtain ⟨l3, hl3, hf3⟩ := cellInts (h2 3 (by omega) (by simp))
    obtain ⟨a4, rfl, w4⟩ := h2 4 (by omega) (by simp)
    obtain ⟨a5, rfl, w5⟩ := h2 5 (by omega) (by simp)
    refine ⟨[.i .i64 a0, .i .i64 a1, absV W x2, absV W x3, .i .u64 a4, .i .u64 a5], ⟨a0, a1, l2, l3, a4, a5⟩, ?_, evtOf_mk hl2 hl3, wf_i64 w0, wf_i64 w1, hf2, hf3, wf_u64 w4, wf_u64 w5⟩
    show AV.ag (cs.toList.map (absV W)) = _
    rw [hcs]; rfl
end
end Go.Proofs.Ytapgkaecamljbaa

namespace Go.Proofs.Ytapgkaecamljbaa
open Go.RowKit
set_option linter.unusedVariables false
set_option maxRecDepth 100000

section
variable {H : Type} {enc : TypeId × Value → H} {W : World}
theorem cellBytes {v : Value} (h : CellIs enc Try.prog W (.slice 5) v) : ∃ l : List Int, lstV byteE (absS W) (absV W v) = some l ∧ ∀ x ∈ l, u8 x := by
  have s2 : shapes Try.prog 20 5 = some [.int .u8] := by kernel_rfl
  have c2 : Try.prog.cellsOf 5 = 1 := by kernel_rfl
  have row : ∀ cs : List Value, RowIs enc Try.prog W [.int .u8] cs → ∃ a : Int, cs.map (absV W) = [AV.i .u8 a] ∧ u8 a := fun cs h => by
    obtain ⟨h1, h2⟩ := h
    match cs, h1 with
    | [x], _ =>
      obtain ⟨a, rfl, w⟩ := h2 0 (by simp) (by simp)
      exact ⟨a, rfl, wf_u8 w⟩
  obtain ⟨l, hl, hf, _⟩ := lst_of (e := fun n => [AV.i .u8 n]) (sz := 1) c2 (by omega) h (fun cs fuel x ht => let ⟨a, h1, h2⟩ := row _ (shapes_ok 20 fuel 5 cs x _ ht s2); ⟨a, h1, rfl⟩)
    (good := u8) (fun cs fuel x a ht he => let ⟨a', h1, h2⟩ := row _ (shapes_ok 20 fuel 5 cs x _ ht s2); enc_inj (E := intE .u8) (h1.symm.trans he) ▸ h2)
  exact ⟨l, lst_lstV (E := intE .u8) hl, hf⟩
theorem cellOpen {e : TypeId} {n : Nat} {v : Value} (h : CellIs enc Try.prog W (.slice e) v) : openQ (absS W) n (absV W v) = true := by
  rcases h with rfl | ⟨a, len, cap, rfl, hl, _, _⟩
  · rfl
  · obtain ⟨b, o, sp⟩ := a
    simp only [absV]
    split
    · rfl
    · cases numOf W b with
      | none => rfl
      | some i => cases sp with
        | none => simp [openQ, hl]
        | some q => rfl
theorem argBytes {v : Value} {base : Nat} {d : DataW H} {ps : List MemPlace} (o : Value.okWide Try.prog W .any base 48 v) (h : DataW.Trod enc Try.prog W 0 (fun _ => true) true 48 v d ps) :
    ∃ l, lstV byteE (absS W) (absA W v) = some l ∧ (∀ c ∈ l, u8 c) ∧ openQ (absS W) 1 (absA W v) = true := by
  have s0 : shapes Try.prog 20 48 = some [.slice 5] := by kernel_rfl
  have hv : v.cells.toList = [v] ∧ absA W v = absV W v := by
    cases v with
    | agg cs =>
      unfold Value.okWide at o
      rw [Try.underlying48] at o
      unfold Cell.okWide at o
      rw [Try.underlying48] at o
      unfold Cell.ok at o
      rw [Try.underlying48] at o
      simp at o
    | _ => exact ⟨rfl, rfl⟩
  obtain ⟨h1, h2⟩ := arg_row h s0
  rw [hv.1] at h1 h2
  have hc := h2 0 (by simp) (by simp)
  simp only [List.getElem_cons_zero] at hc
  rw [hv.2]
  obtain ⟨l, hl, hu⟩ := cellBytes hc
  exact ⟨l, hl, hu, cellOpen hc⟩
end
end Go.Proofs.Ytapgkaecamljbaa

namespace Go.Proofs.Ytapgkaecamljbaa
open Go.RowKit
set_option linter.unusedVariables false
set_option maxRecDepth 100000

section
variable {H : Type} {enc : TypeId × Value → H} {W : World}
theorem argEvtP {v : Value} {base : Nat} {d : DataW H} {ps : List MemPlace} (o : Value.okWide Try.prog W .any base 29 v) (h : DataW.Trod enc Try.prog W 0 (fun _ => true) true 29 v d ps) :
    ∃ k s xp xd g q l2 l3, absA W v = .ag [.i .i64 k, .i .i64 s, xp, xd, .i .u64 g, .i .u64 q] ∧ lstV polE (absS W) xp = some l2 ∧ lstV (intE .i64) (absS W) xd = some l3 ∧ (∀ x ∈ l2, x.good) ∧ (∀ x ∈ l3, i64 x) ∧ i64 k ∧ i64 s ∧ u64 g ∧ u64 q ∧ openQ (absS W) 13 xp = true := by
  have s0 : shapes Try.prog 20 29 = some [.int .i64, .int .i64, .slice 44, .slice 3, .int .u64, .int .u64] := by kernel_rfl
  obtain ⟨cs, rfl⟩ : ∃ cs, v = .agg cs := by
    unfold Value.okWide at o
    rw [Try.underlying29] at o
    obtain ⟨cs, h, _⟩ := o
    exact ⟨cs, h⟩
  obtain ⟨h1, h2⟩ := arg_row h s0
  have h1 : cs.toList.length = 6 := h1
  have h2 : ∀ (i : Nat) (h : i < 6) (h' : i < cs.toList.length), CellIs enc Try.prog W ([CS.int .i64, CS.int .i64, CS.slice 44, CS.slice 3, CS.int .u64, CS.int .u64][i]) cs.toList[i] := fun i h h' => h2 i h h'
  generalize hcs : cs.toList = cl at h1 h2
  match cl, h1 with
  | [x0, x1, x2, x3, x4, x5], _ =>
    obtain ⟨a0, rfl, w0⟩ := h2 0 (by omega) (by simp)
    obtain ⟨a1, rfl, w1⟩ := h2 1 (by omega) (by simp)
    have hc2 := h2 2 (by omega) (by simp)
    obtain ⟨l2, hl2, hf2⟩ := cellPols hc2
    obtain ⟨l3, hl3, hf3⟩ := cellInts (h2 3 (by omega) (by simp))
    obtain ⟨a4, rfl, w4⟩ := h2 4 (by omega) (by simp)
    obtain ⟨a5, rfl, w5⟩ := h2 5 (by omega) (by simp)
    refine ⟨a0, a1, absV W x2, absV W x3, a4, a5, l2, l3, ?_, hl2, hl3, hf2, hf3, wf_i64 w0, wf_i64 w1, wf_u64 w4, wf_u64 w5, cellOpen hc2⟩
    show AV.ag (cs.toList.map (absV W)) = _
    rw [hcs]; rfl
end
end Go.Proofs.Ytapgkaecamljbaa

namespace Go.Proofs.Ytapgkaecamljbaa
open Go.RowKit
set_option linter.unusedVariables false
set_option maxRecDepth 100000
section
variable {H : Type} {enc : TypeId × Value → H}
theorem walkBookApplies (W : World) (v0 v1 : Value) {base : Nat} (o0 : Value.okWide Try.prog W .any base 25 v0) (o1 : Value.okWide Try.prog W .any base 29 v1) {d0 d1 : DataW H} {p0 p1 : List MemPlace}
    (h0 : DataW.Trod enc Try.prog W 0 (fun _ => true) true 25 v0 d0 p0) (h1 : DataW.Trod enc Try.prog W 0 (fun _ => true) true 29 v1 d1 p1) :
    Calls Try.prog 3 #[v0, v1] W fun e w' => e = .returned (.bool true) ∧ Below W.heap.size W w' := by
  obtain ⟨p, s, l, e0, hl, hf, hp⟩ := argBook o0 h0
  obtain ⟨k, sub, xp, xd, g, q, ps, ds, e1, hps, hds, hgp, _, _, _, _, _, ho⟩ := argEvtP o1 h1
  refine calls_of_fnOK (S' := absS W) ?_
  show FnOK Try.prog _ [absA W v0, absA W v1] _ _ _
  rw [e0, e1]
  exact applies_ok _ p k sub g q s xp xd l ps ds hl hf hps hgp hds ho
end
end Go.Proofs.Ytapgkaecamljbaa

