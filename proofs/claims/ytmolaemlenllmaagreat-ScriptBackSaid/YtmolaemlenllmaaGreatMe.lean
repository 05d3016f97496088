/- Proved here: what the law of this claim leans on (an evaluator of the model's code, contracts of functions). No condition. -/
import Derived.Test.YtmolaemlenllmaaGreatMd
import Derived.WalkKit
import Derived.ProofKit
import Derived.OpenShut
import Derived.ShutString
import Derived.ChangeOld
import Derived.Below
namespace Go.Proofs.YtmolaemlenllmaaGreat
open Go.RowKit
set_option linter.unusedSimpArgs false
set_option linter.unusedVariables false
set_option maxRecDepth 10000

/-- A clone of bytes, as a call. -/
theorem clone_call {M : Mem} {t : AV} {l : List Int} (hl : lstV byteE M t = some l) (h9 : l.length ≤ 900000) : ∃ Xc U, cloneBS [t] M = some (Xc, M ++ U) ∧ ∀ A : Mem, A.length = M.length → lstV byteE (A ++ U) Xc = some l ∧ ∀ n, n ≤ A.length → Kd n (A ++ U) Xc := by
  by_cases ht : t = .sn
  · subst ht
    have : l = [] := by simp only [lstV] at hl; injection hl with hl; exact hl.symm
    subst this
    exact ⟨.sn, [], by simp only [cloneBS, List.append_nil], fun A _ => ⟨rfl, fun n _ => .inl rfl⟩⟩
  · have hc : cloneBS [t] M = some (retX true M l, retM true byteE M l) := by
      cases t <;> first | exact absurd rfl ht | (simp only [cloneBS, hl, if_pos h9])
    cases l with
    | nil =>
      refine ⟨.sl M.length 0 0 0 0 true, [.cells [] 0 none true], hc, fun A hA => ?_⟩
      rw [← hA]
      exact ⟨retX_lst (z := true) (E := byteE) (S := A) (l := []), fun n hn => .inr (.inr ⟨A.length, 0, 0, 0, 0, true, .cells [] 0 none true, rfl, hn, by rw [at_app0]; rfl, by simp [Blk.opn]⟩)⟩
    | cons a l =>
      refine ⟨.sl M.length 0 0 (a :: l).length (a :: l).length false, [.cells ((a :: l).flatMap byteE.enc) 0 (some 1) true], hc, fun A hA => ?_⟩
      rw [← hA]
      exact ⟨retX_lst (z := true) (E := byteE) (S := A) (l := a :: l), fun n hn => .inr (.inr ⟨A.length, 0, 0, _, _, false, .cells ((a :: l).flatMap byteE.enc) 0 (some 1) true, rfl, hn, by rw [at_app0]; rfl, by simp [Blk.opn]⟩)⟩
set_option maxHeartbeats 4000000 in
theorem op_fn (S : Mem) (i : Nat) (x : AV) (s : St) (h : Src S i x s) : ∃ y S', FnOK Tryz.prog 35 [.p i 0 0] S y S' ∧ RdO i S (opF s).1 (opF s).2 y S' := by
  have hi := h.lt
  obtain ⟨x1, c1, h1⟩ := rd2_call (m := 12) (val := fun m s => .i .i64 (manyF m s).1) (nx := fun m s => (manyF m s).2) (many_fn (by omega)) h [.cells (opC 0 0 0 0 .sn Pol.zero .sn) 0 none true]
  have c1 : manyPS [.p i 0 0, .i .i64 12] (S ++ [.cells (opC 0 0 0 0 .sn Pol.zero .sn) 0 none true]) = some (.i .i64 (manyF 12 s).1, S.set i (srcB x1 (manyF 12 s).2.2) ++ [.cells (opC 0 0 0 0 .sn Pol.zero .sn) 0 none true]) := c1
  unfold opF
  generalize hq1 : manyF 12 s = q1 at c1 h1 ⊢
  obtain ⟨k, s1⟩ := q1
  simp only at c1 h1 ⊢
  have hB1 : ∀ L, (S.set i (srcB x1 s1.2) ++ L)[i]? = some (.cells [x1, .b s1.2] 0 none true) := fun L => at_old h1.blk
  have l1 := lst_len h1.lst
  simp only [opC, Pol.zero] at c1
  by_cases e0 : k = 0
  · subst e0
    rw [if_pos rfl]
    have hm : (0 : Int) ≤ min (2000 : Int) (s1.1.length : Int) ∧ min (2000 : Int) (s1.1.length : Int) ≤ 9223372036854775807 := by omega
    obtain ⟨x2, c2, h2⟩ := many_step hm h1 [.cells (opC 0 0 0 0 .sn Pol.zero .sn) 0 none true, .cells (opC 0 0 0 0 .sn Pol.zero .sn) 0 none true]
    have hmo := manyF_ok hm.1 h1.ok
    generalize hq2 : manyF (min (2000 : Int) (s1.1.length : Int)) s1 = q2 at c2 h2 hmo ⊢
    obtain ⟨n, s2⟩ := q2
    simp only at c2 h2 hmo ⊢
    have l2 := lst_len h2.lst
    obtain ⟨nn, hnn⟩ : ∃ nn : Nat, nn = (min n (s2.1.length : Int)).toNat := ⟨_, rfl⟩
    have hmin : min n (s2.1.length : Int) = (nn : Int) := by omega
    rw [← hnn]
    have hnl : nn ≤ s2.1.length := by omega
    obtain ⟨t, ht, hlt, hot⟩ := take_lst h2.lst h2.opn (q := .i64) (b := nn) hnl
    obtain ⟨x3, hs3, hl3, ho3⟩ := drop_lst h2.lst h2.opn (q := .i64) hnl
    rw [take_set] at ht hlt hs3 hl3 ho3
    have hpre : ∀ L, S.take i <+: S.set i (srcB x2 s2.2) ++ L := fun L => by
      have : (S.set i (srcB x2 s2.2)).take i <+: S.set i (srcB x2 s2.2) ++ L := (List.take_prefix _ _).trans (List.prefix_append _ _)
      rwa [take_set] at this
    have htL : ∀ L, sliceV (S.set i (srcB x2 s2.2) ++ L) 1 x2 none (some (.i .i64 (nn : Int))) none = some t := fun L => by
      obtain ⟨T, hT⟩ := hpre L
      rw [← hT]; exact sliceV_grow T ht
    have hsL : ∀ L, sliceV (S.set i (srcB x2 s2.2) ++ L) 1 x2 (some (.i .i64 (nn : Int))) none none = some x3 := fun L => by
      obtain ⟨T, hT⟩ := hpre L
      rw [← hT]; exact sliceV_grow T hs3
    obtain ⟨Xc, U, hcl, hXU⟩ := clone_call (M := S.set i (srcB x2 s2.2) ++ [.cells (opC 0 0 0 0 .sn Pol.zero .sn) 0 none true, .cells (opC 0 0 0 0 .sn Pol.zero .sn) 0 none true]) (lst_ext hlt (hpre _)) (by rw [List.length_take]; omega)
    rw [List.append_assoc] at hcl
    have hX := (hXU _ rfl).1
    have hB2 : ∀ L, (S.set i (srcB x2 s2.2) ++ L)[i]? = some (.cells [x2, .b s2.2] 0 none true) := fun L => at_old h2.blk
    have hS2 : ∀ (L : Mem) (B' : Blk), (S.set i (srcB x2 s2.2) ++ L).set i B' = S.set i B' ++ L := fun L B' => by rw [List.set_append_left _ _ (by rw [List.length_set]; exact hi), List.set_set]
    have h3 : Src (S.set i (srcB x3 s2.2)) i x3 (s2.1.drop nn, s2.2) := Src.set (s' := (s2.1.drop nn, s2.2)) hi hl3 ho3 (h2.ok.drop nn)
    have v2 := eqv_lst h2.lst
    have vt := eqv_lst hlt
    have v3 := eqv_lst hl3
    have vX := eqv_lst hX
    have o3 := h3.one
    have k3 := h3.cells
    have oX := lst_one hX
    have kX := lst_cells hX
    have o2 := h2.one
    have k2 := h2.cells
    simp only [opC, Pol.zero, List.cons_append, List.nil_append] at c2 hcl
    apply Exists.intro; apply Exists.intro; refine ⟨?_, ?_⟩
    · apply fn_of_wp f35 rfl; apply W_sound oOp_ok mixed
      simp (maxSteps := 1000000) (disch := omega) only [c35, List.replicate, orc_cons, c1, List.length_set, sa_at0, sa_at, sa_set0, sa_set, hB1, l1, c2, hB2, l2, hmin, go_sem]
      refine draw_of ?_
      simp (maxSteps := 1000000) (disch := omega) only [c35d0, hB2, htL, hsL, orc_cons, hcl, sa_at0, sa_at, sa_set0, sa_set, hS2, v2, vt, v3, vX, o3, k3, oX, kX, o2, k2, dNs_nil, dNs_cons, dnK_some, dnK_none, dOpt_none, dOpt_some, doK_some, doK_none, dStages_nil, dStages_cons, s1K_app, s2K_app, s3K_app, s4K_app, dEnd_app, evOne_op, evOne_gd, evG_tt, evG_tf, evG_ft, evG_ff, evG_ud, kSt_nil, kSt_cons, kNs_nil, kNs_cons, kN_zero, kN_succ, kA_some, eqK_some, eqK_none, kOpt_none, kOpt_some, kLike_nil, kLike_cons, ROp.use, IOp.use, IO'.use, X.use, dstL_none, dstL_some, List.flatMap_cons, List.flatMap_nil, eqv_m, eqv_p, eqv_i, eqv_b, eqv_sl, eqv_sn, eqv_pn, eqv_ud, eqv_u, eqv_mn, eqv_ag, eqvL_cons, eqvL_nil, eqv_tu, Bool.and_true, Bool.true_and, Bool.and_self, Nat.le_refl, Nat.reduceLeDiff, and_self, and_true, true_and, go_sem]
      exact wkv_same
    · have hfin : ∀ Z O : Blk, lstV byteE (S.set i (srcB x3 s2.2) ++ (Z :: O :: U)) Xc = some (s2.1.take nn) ∧ Kd S.length (S.set i (srcB x3 s2.2) ++ (Z :: O :: U)) Xc := fun Z O => by
        obtain ⟨g1, g2⟩ := hXU (S.set i (srcB x3 s2.2) ++ [Z, O]) (by simp only [List.length_append, List.length_set, List.length_cons, List.length_nil])
        rw [List.append_assoc] at g1 g2
        exact ⟨g1, g2 S.length (by rw [List.length_append, List.length_set]; omega)⟩
      exact rdo_mk h3 (hfin _ _).1 rfl (hfin _ _).2 kd_sn
  by_cases e1 : k = 1
  · subst e1
    simp only [show ¬ (1 : Int) = 0 by omega, show ¬ (1 : Int) = 4 by omega, show ¬ (1 : Int) = 10 by omega, show ¬ (1 : Int) = 11 by omega, show ¬ ((1 : Int) = 5 ∨ (1 : Int) = 8) by omega, if_false, if_true]
    obtain ⟨x2, c2, h2⟩ := num_step h1 [.cells (opC 0 0 0 0 .sn Pol.zero .sn) 0 none true, .cells (opC 1 0 0 0 .sn Pol.zero .sn) 0 none true]
    simp only [opC, Pol.zero, Pol.enc] at c2
    apply Exists.intro; apply Exists.intro; refine ⟨?_, ?_⟩
    · apply fn_of_wp f35 rfl; apply W_sound oOp_ok mixed
      simp (maxSteps := 1000000) (disch := omega) only [c35, List.replicate, orc_cons, c1, List.length_set, sa_at0, sa_at, sa_set0, sa_set, hB1, l1, c2, go_sem]
      exact wkv_same
    · exact rdo_mk h2 rfl rfl kd_sn kd_sn
  by_cases e4 : k = 4
  · subst e4
    simp only [show ¬ (4 : Int) = 0 by omega, show ¬ (4 : Int) = 1 by omega, show ¬ (4 : Int) = 10 by omega, show ¬ (4 : Int) = 11 by omega, show ¬ ((4 : Int) = 5 ∨ (4 : Int) = 8) by omega, if_false, if_true]
    obtain ⟨x2, c2, h2⟩ := pol_step h1 [.cells (opC 0 0 0 0 .sn Pol.zero .sn) 0 none true, .cells (opC 4 0 0 0 .sn Pol.zero .sn) 0 none true]
    generalize polF s1 = pf at c2 h2 ⊢
    obtain ⟨p, s2⟩ := pf
    simp only at c2 h2 ⊢
    simp only [opC, Pol.zero, Pol.enc] at c2
    apply Exists.intro; apply Exists.intro; refine ⟨?_, ?_⟩
    · apply fn_of_wp f35 rfl; apply W_sound oOp_ok mixed
      simp (maxSteps := 1000000) (disch := omega) only [c35, List.replicate, orc_cons, c1, List.length_set, sa_at0, sa_at, sa_set0, sa_set, hB1, l1, c2, go_sem]
      exact wkv_same
    · exact rdo_mk h2 rfl rfl kd_sn kd_sn
  by_cases e5 : k = 5
  · subst e5
    simp only [show ¬ (5 : Int) = 0 by omega, show ¬ (5 : Int) = 1 by omega, show ¬ (5 : Int) = 4 by omega, show ¬ (5 : Int) = 10 by omega, show ¬ (5 : Int) = 11 by omega, show ((5 : Int) = 5 ∨ (5 : Int) = 8) by omega, if_false, if_true]
    obtain ⟨x2, c2, h2⟩ := zag_step h1 [.cells (opC 0 0 0 0 .sn Pol.zero .sn) 0 none true, .cells (opC 5 0 0 0 .sn Pol.zero .sn) 0 none true]
    simp only [opC, Pol.zero, Pol.enc] at c2
    apply Exists.intro; apply Exists.intro; refine ⟨?_, ?_⟩
    · apply fn_of_wp f35 rfl; apply W_sound oOp_ok mixed
      simp (maxSteps := 1000000) (disch := omega) only [c35, List.replicate, orc_cons, c1, List.length_set, sa_at0, sa_at, sa_set0, sa_set, hB1, l1, c2, go_sem]
      exact wkv_same
    · exact rdo_mk h2 rfl rfl kd_sn kd_sn
  by_cases e8 : k = 8
  · subst e8
    simp only [show ¬ (8 : Int) = 0 by omega, show ¬ (8 : Int) = 1 by omega, show ¬ (8 : Int) = 4 by omega, show ¬ (8 : Int) = 10 by omega, show ¬ (8 : Int) = 11 by omega, show ((8 : Int) = 5 ∨ (8 : Int) = 8) by omega, if_false, if_true]
    obtain ⟨x2, c2, h2⟩ := zag_step h1 [.cells (opC 0 0 0 0 .sn Pol.zero .sn) 0 none true, .cells (opC 8 0 0 0 .sn Pol.zero .sn) 0 none true]
    simp only [opC, Pol.zero, Pol.enc] at c2
    apply Exists.intro; apply Exists.intro; refine ⟨?_, ?_⟩
    · apply fn_of_wp f35 rfl; apply W_sound oOp_ok mixed
      simp (maxSteps := 1000000) (disch := omega) only [c35, List.replicate, orc_cons, c1, List.length_set, sa_at0, sa_at, sa_set0, sa_set, hB1, l1, c2, go_sem]
      exact wkv_same
    · exact rdo_mk h2 rfl rfl kd_sn kd_sn
  by_cases e10 : k = 10
  · subst e10
    simp only [show ¬ (10 : Int) = 0 by omega, show ¬ (10 : Int) = 1 by omega, show ¬ (10 : Int) = 4 by omega, show ¬ (10 : Int) = 11 by omega, show ¬ ((10 : Int) = 5 ∨ (10 : Int) = 8) by omega, if_false, if_true]
    obtain ⟨x2, c2, h2⟩ := zag_step h1 [.cells (opC 0 0 0 0 .sn Pol.zero .sn) 0 none true, .cells (opC 10 0 0 0 .sn Pol.zero .sn) 0 none true]
    simp only [opC, Pol.zero, Pol.enc] at c2
    apply Exists.intro; apply Exists.intro; refine ⟨?_, ?_⟩
    · apply fn_of_wp f35 rfl; apply W_sound oOp_ok mixed
      simp (maxSteps := 1000000) (disch := omega) only [c35, List.replicate, orc_cons, c1, List.length_set, sa_at0, sa_at, sa_set0, sa_set, hB1, l1, c2, go_sem]
      exact wkv_same
    · exact rdo_mk h2 rfl rfl kd_sn kd_sn
  by_cases e11 : k = 11
  · subst e11
    simp only [show ¬ (11 : Int) = 0 by omega, show ¬ (11 : Int) = 1 by omega, show ¬ (11 : Int) = 4 by omega, show ¬ (11 : Int) = 10 by omega, show ¬ ((11 : Int) = 5 ∨ (11 : Int) = 8) by omega, if_false, if_true]
    obtain ⟨x2, c2, h2⟩ := many_step (m := 64) (by omega) h1 [.cells (opC 0 0 0 0 .sn Pol.zero .sn) 0 none true, .cells (opC 11 0 0 0 .sn Pol.zero .sn) 0 none true]
    have hmo := manyF_ok (m := 64) (by omega) h1.ok
    generalize hq2 : manyF 64 s1 = q2 at c2 h2 hmo ⊢
    obtain ⟨n, s2⟩ := q2
    simp only at c2 h2 hmo ⊢
    obtain ⟨nn, rfl⟩ := Int.eq_ofNat_of_zero_le hmo.1
    rw [Int.toNat_natCast]
    obtain ⟨ix, e1, M1, ⟨rfl, g3, g2, x3, y, V, h3, rfl, hy⟩, hw⟩ := keep_trace oOp_ok hi nn s2 (by omega) nn [(0, .p i 0 0), (3, .p (S.length + 1) 0 0), (2, .p S.length 0 0), (68, .i .i64 (nn : Int)), (69, .i .i64 0)]
      (S.set i (srcB x2 s2.2) ++ [.cells (opC 0 0 0 0 .sn Pol.zero .sn) 0 none true, .cells (opC 11 0 0 0 .sn Pol.zero .sn) 0 none true]) ⟨[], s2, x2, .sn, [], rfl, rfl, h2, rfl, .inl ⟨rfl, rfl⟩, rfl, rfl, rfl, rfl, rfl⟩
    generalize repF keep1F nn s2 = w at h3 hy hw ⊢
    obtain ⟨ks, s3⟩ := w
    simp only at h3 hy hw ⊢
    have hyl : ∀ Z O : Blk, lstV boolE (S.set i (srcB x3 s3.2) ++ (Z :: O :: V)) y = some ks ∧ Kd S.length (S.set i (srcB x3 s3.2) ++ (Z :: O :: V)) y := fun Z O => by
      rcases hy with ⟨rfl, rfl⟩ | ⟨p, v, hne, rfl, hV⟩
      · exact ⟨rfl, .inl rfl⟩
      · have hat : (S.set i (srcB x3 s3.2) ++ (Z :: O :: V))[S.length + 2 + p]? = some (.cells (ks.flatMap boolE.enc) v (some 1) true) := by
          rw [Nat.add_assoc, sa_at, Nat.add_comm 2 p]
          exact hV
        refine ⟨lst_lstV (.inr (.inr ⟨_, _, _, _, _, _, rfl, rfl, ?_⟩)), .inr (.inr ⟨_, _, _, _, _, _, _, rfl, by omega, hat, by simp [Blk.opn]⟩)⟩
        rw [rowAt_B, hat, rowB_some, if_pos (by rw [enc_length]; omega), List.drop_zero, ← enc_length, List.take_length]
    have hone : y.one = true := by rcases hy with ⟨_, rfl⟩ | ⟨p, v, _, rfl, _⟩ <;> rfl
    have hcells : y.cells = some [y] := by rcases hy with ⟨_, rfl⟩ | ⟨p, v, _, rfl, _⟩ <;> rfl
    simp only [opC, Pol.zero, List.cons_append, List.nil_append] at c2 hw
    apply Exists.intro; apply Exists.intro; refine ⟨?_, ?_⟩
    · apply fn_of_wp f35 rfl; apply W_sound oOp_ok mixed
      simp (maxSteps := 1000000) (disch := omega) only [c35, List.replicate, orc_cons, c1, List.length_set, sa_at0, sa_at, sa_set0, sa_set, hB1, l1, c2, go_sem]
      refine hw.mono ?_
      rintro _ _ _ _ ⟨rfl, rfl, rfl, rfl⟩
      simp (maxSteps := 1000000) (disch := omega) only [g3, g2, sa_at0, sa_at, sa_set0, sa_set, hone, hcells, go_sem]
      exact wkv_same
    · exact rdo_mk h3 rfl (hyl _ _).1 kd_sn (hyl _ _).2
  apply Exists.intro; apply Exists.intro; refine ⟨?_, ?_⟩
  · apply fn_of_wp f35 rfl; apply W_sound oOp_ok mixed
    simp (maxSteps := 1000000) (disch := omega) only [c35, List.replicate, orc_cons, c1, List.length_set, sa_at0, sa_at, sa_set0, sa_set, hB1, l1, e0, e1, e4, e5, e8, e10, e11, go_sem]
    exact wkv_same
  · rw [if_neg e0, if_neg e1, if_neg e4, if_neg (by omega), if_neg e10, if_neg e11]
    exact rdo_mk h1 rfl rfl kd_sn kd_sn
end Go.Proofs.YtmolaemlenllmaaGreat

namespace Go.Proofs.YtmolaemlenllmaaGreat
open Go.RowKit
set_option linter.unusedSimpArgs false
set_option linter.unusedVariables false
set_option maxRecDepth 10000

/-- A list that is built behind A. -/
def LV {α : Type} (E : Enc α) (n : Nat) (V : Mem) (y : AV) (l : List α) : Prop := (l = [] ∧ y = .sn) ∨ ∃ p v, l ≠ [] ∧ y = .sl (n + p) 0 v l.length l.length false ∧ V[p]? = some (.cells (l.flatMap E.enc) v (some E.sz) true)
section
variable {α : Type} {E : Enc α} {A V : Mem} {y : AV} {l : List α}
theorem LV.one (h : LV E A.length V y l) : y.one = true := by rcases h with ⟨_, rfl⟩ | ⟨p, v, _, rfl, _⟩ <;> rfl
theorem LV.cells (h : LV E A.length V y l) : y.cells = some [y] := by rcases h with ⟨_, rfl⟩ | ⟨p, v, _, rfl, _⟩ <;> rfl
theorem LV.grow (h : LV E A.length V y l) (U : Mem) : LV E A.length (V ++ U) y l := by
  rcases h with h | ⟨p, v, h0, h1, h2⟩
  · exact .inl h
  · exact .inr ⟨p, v, h0, h1, at_old h2⟩
theorem LV.lst (h : LV E A.length V y l) : lstV E (A ++ V) y = some l := by
  rcases h with ⟨rfl, rfl⟩ | ⟨p, v, _, rfl, hV⟩
  · rfl
  · refine lst_lstV (.inr (.inr ⟨_, _, _, _, _, _, rfl, rfl, ?_⟩))
    rw [rowAt_B, at_app, hV, rowB_some, if_pos (by rw [enc_length]; omega), List.drop_zero, ← enc_length, List.take_length]
theorem LV.app {bytes : Nat} (hE : ∀ a, (E.enc a).all AV.one = true) (h : LV E A.length V y l) (a : α) (h1 : (l.length + 1) * bytes ≤ lim) (h2 : l.length + 1 ≤ lim) :
    ∃ y' V', appV (A ++ V) E.sz bytes y (E.enc a) 1 = some (y', A ++ V') ∧ LV E A.length V' y' (l ++ [a]) ∧ ∀ (p : Nat) (B : Blk), V[p]? = some B → B.opn ≠ some E.sz → V'[p]? = some B := by
  rcases h with ⟨rfl, rfl⟩ | ⟨p, v, hne, rfl, hV⟩
  · refine ⟨.sl (A.length + V.length) 0 0 1 1 false, V ++ [.cells (E.enc a) 0 (some E.sz) true], ?_, .inr ⟨V.length, 0, by simp, rfl, ?_⟩, fun p B hB _ => at_old hB⟩
    · simp only [appV]
      rw [if_neg (by omega), if_pos ⟨by simpa using h1, by unfold lim; omega⟩, List.length_append, List.append_assoc]
    · rw [at_app0]; simp
  · have hp : p < V.length := (List.getElem?_eq_some_iff.1 hV).1
    refine ⟨.sl (A.length + p) 0 (v + 1) (l.length + 1) (l.length + 1) false, V.set p (.cells ((l ++ [a]).flatMap E.enc) (v + 1) (some E.sz) true), ?_, .inr ⟨p, v + 1, by simp, by rw [List.length_append]; rfl, by rw [List.getElem?_set_self hp]⟩, fun q B hB hn => ?_⟩
    · simp only [appV]
      rw [if_neg (by omega), if_neg (by omega), if_pos ⟨h1, h2⟩, at_app, hV]
      simp only [Bool.false_eq_true, if_false]
      rw [if_pos ⟨trivial, trivial, trivial, by rw [enc_length]; exact Nat.le_refl _, hE a⟩, set_app]
      have he : (l.flatMap E.enc).take (l.length * E.sz) ++ E.enc a = (l ++ [a]).flatMap E.enc := by
        rw [List.flatMap_append, List.take_of_length_le (by rw [enc_length]; exact Nat.le_refl _)]; simp
      rw [he]
    · have hne' : p ≠ q := fun e => by
        subst e
        rw [hV] at hB
        injection hB with hB
        exact hn (by rw [← hB]; rfl)
      rw [List.getElem?_set_ne hne']; exact hB
end
theorem lst_at {α : Type} {E : Enc α} {M M' : Mem} {j o v len cap : Nat} {ex : Bool} (h : M'[j]? = M[j]?) : lstV E M' (.sl j o v len cap ex) = lstV E M (.sl j o v len cap ex) := by
  have hr : ∀ n, rowAt M' j o v n = rowAt M j o v n := fun n => by rw [rowAt_B, rowAt_B, h]
  cases hq : lstV E M (.sl j o v len cap ex) with
  | some l =>
    rcases lstV_lst hq with ⟨h1, _⟩ | ⟨h1, _⟩ | ⟨j', o', v', len', cap', ex', h1, h2, h3⟩
    · cases h1
    · cases h1
    · cases h1
      exact lst_lstV (.inr (.inr ⟨_, _, _, _, _, _, rfl, h2, by rw [hr]; exact h3⟩))
  | none =>
    cases hq' : lstV E M' (.sl j o v len cap ex) with
    | none => rfl
    | some l =>
      rcases lstV_lst hq' with ⟨h1, _⟩ | ⟨h1, _⟩ | ⟨j', o', v', len', cap', ex', h1, h2, h3⟩
      · cases h1
      · cases h1
      · cases h1
        rw [hr] at h3
        have : lstV E M (.sl j o v len cap ex) = some l := lst_lstV (.inr (.inr ⟨_, _, _, _, _, _, rfl, h2, h3⟩))
        rw [hq] at this; cases this
/-- Values that are left alone. -/
theorem Kd.keep {α : Type} {E : Enc α} {n : Nat} {M M' : Mem} {x : AV} {l : List α} (hk : Kd n M x) (hl : lstV E M x = some l) (h : ∀ (j : Nat) (B : Blk), n ≤ j → M[j]? = some B → B.opn ≠ some 19 → M'[j]? = some B) : lstV E M' x = some l ∧ Kd n M' x := by
  rcases hk with rfl | rfl | ⟨j, o, v, len, cap, ex, B, rfl, h2, h3, h4⟩
  · exact ⟨hl, .inl rfl⟩
  · exact ⟨hl, .inr (.inl rfl)⟩
  · have := h j B h2 h3 h4
    exact ⟨by rw [lst_at (this.trans h3.symm)]; exact hl, .inr (.inr ⟨j, o, v, len, cap, ex, B, rfl, h2, this, h4⟩)⟩
def Kq (n : Nat) (M : Mem) (q : Oq) : Prop := Kd n M q.x.v ∧ Kd n M q.y.v
theorem Kq.keep {n : Nat} {M M' : Mem} {q : Oq} {o : Opx} (hk : Kq n M q) (hv : q.val M = some o) (h : ∀ (j : Nat) (B : Blk), n ≤ j → M[j]? = some B → B.opn ≠ some 19 → M'[j]? = some B) : q.val M' = some o ∧ Kq n M' q := by
  obtain ⟨h1, h2, h3, h4, h5, h6, h7⟩ := Oq.val_ok hv
  obtain ⟨g1, g2⟩ := hk.1.keep h6 h
  obtain ⟨g3, g4⟩ := hk.2.keep h7 h
  refine ⟨?_, g2, g4⟩
  rw [Oq.val_mk g1 g3, ← h1, ← h2, ← h3, ← h4, ← h5]
theorem msnoc {S : Mem} {qs : List Oq} {q : Oq} {l : List Opx} {o : Opx} (h1 : qs.map (Oq.val S) = l.map some) (h2 : q.val S = some o) : (qs ++ [q]).map (Oq.val S) = (l ++ [o]).map some := by
  rw [List.map_append, List.map_append, h1]; simp [h2]
/-- The ops so far. -/
def QsV (n : Nat) (M : Mem) (qs : List Oq) (l : List Opx) : Prop := qs.map (Oq.val M) = l.map some ∧ ∀ q ∈ qs, Kq n M q
theorem QsV.keep {n : Nat} {M M' : Mem} {qs : List Oq} {l : List Opx} (hq : QsV n M qs l) (h : ∀ (j : Nat) (B : Blk), n ≤ j → M[j]? = some B → B.opn ≠ some 19 → M'[j]? = some B) : QsV n M' qs l := by
  obtain ⟨h1, h2⟩ := hq
  have key : ∀ q ∈ qs, ∃ o, q.val M = some o ∧ q.val M' = some o ∧ Kq n M' q := fun q hq => by
    have : q.val M ∈ l.map some := by rw [← h1]; exact List.mem_map_of_mem hq
    obtain ⟨o, _, ho⟩ := List.mem_map.1 this
    obtain ⟨g1, g2⟩ := (h2 q hq).keep ho.symm h
    exact ⟨o, ho.symm, g1, g2⟩
  refine ⟨?_, fun q hq => by obtain ⟨o, _, _, h⟩ := key q hq; exact h⟩
  rw [← h1]
  refine List.map_congr_left fun q hq => ?_
  obtain ⟨o, g1, g2, _⟩ := key q hq
  rw [g1, g2]
theorem QsV.snoc {n : Nat} {M : Mem} {qs : List Oq} {l : List Opx} {q : Oq} {o : Opx} (h : QsV n M qs l) (hv : q.val M = some o) (hk : Kq n M q) : QsV n M (qs ++ [q]) (l ++ [o]) := by
  refine ⟨msnoc h.1 hv, fun r hr => ?_⟩
  rcases List.mem_append.1 hr with hr | hr
  · exact h.2 r hr
  · rw [List.mem_singleton.1 hr]; exact hk
theorem QsV.len {n : Nat} {M : Mem} {qs : List Oq} {l : List Opx} (h : QsV n M qs l) : qs.length = l.length := by
  have := congrArg List.length h.1
  rwa [List.length_map, List.length_map] at this
theorem Kd.less {n m : Nat} {M : Mem} {x : AV} (h : Kd m M x) (hn : n ≤ m) : Kd n M x := by
  rcases h with h | h | ⟨j, o, v, len, cap, ex, B, h1, h2, h3, h4⟩
  · exact .inl h
  · exact .inr (.inl h)
  · exact .inr (.inr ⟨j, o, v, len, cap, ex, B, h1, by omega, h3, h4⟩)
end Go.Proofs.YtmolaemlenllmaaGreat

namespace Go.Proofs.YtmolaemlenllmaaGreat
open Go.RowKit
set_option linter.unusedSimpArgs false
set_option linter.unusedVariables false
set_option maxRecDepth 10000

theorem op_call {M : Mem} {i : Nat} {x : AV} {s : St} (h : Src M i x s) : ∃ y S', opPS [.p i 0 0] M = some (y, S') ∧ RdO i M (opF s).1 (opF s).2 y S' := by
  obtain ⟨y, S', h1, h2⟩ := op_fn M i x s h
  obtain ⟨y', S2, g1, g2⟩ := relS_eq (R := fun args S y S' => ∀ i x s, args = [.p i 0 0] → Src S i x s → RdO i S (opF s).1 (opF s).2 y S') h1 (fun i' x' s' e hs => by
    injection e with e _
    injection e with e
    subst e
    obtain ⟨rfl, rfl⟩ := h.inj hs
    exact h2)
  exact ⟨y', S2, g1, g2 i x s rfl h⟩
theorem oRead_ok : OK Tryz.prog (lamOf Tryz.prog) (orcOf [(33, numPS), (32, zagPS), (34, manyPS), (35, opPS), (7, sbytesS false), (26, eqlBS)]) := orc_ok (by simpa using ⟨numP_ok, zagP_ok, manyP_ok, opP_ok, sbytes_ok, eqlB_ok⟩)
/-- While ops are read. -/
structure Rj (S : Mem) (R0 C : Blk) (bx : AV) (n : Nat) (s0 : St) (m : Nat) (e : Env) (M : Mem) (pre : List Opx) (s : St) (x y : AV) (V : Mem) (qs : List Oq) : Prop where
  len : m + pre.length = n
  rep : repF opF n s0 = (pre ++ (repF opF m s).1, (repF opF m s).2)
  mem : M = S ++ ([R0, srcB x s.2, C] ++ V)
  src : Src M (S.length + 1) x s
  lv : LV oqE (S.length + 3) V y qs
  qv : QsV (S.length + 3) M qs pre
  e5 : e.get 5 = .p (S.length + 1) 0 0
  e2 : e.get 2 = .p S.length 0 0
  e6 : e.get 6 = .p (S.length + 2) 0 0
  e0 : e.get 0 = bx
  e21 : e.get 21 = .i .i64 (n : Int)
  e22 : e.get 22 = .i .i64 (pre.length : Int)
  e7 : e.get 7 = y
/-- Behind all ops. -/
structure Re (S : Mem) (R0 C : Blk) (bx : AV) (l : List Opx) (s : St) (ix : IX) (e : Env) (M : Mem) (x y : AV) (V : Mem) (qs : List Oq) : Prop where
  ix : ix = .exit 0
  mem : M = S ++ ([R0, srcB x s.2, C] ++ V)
  lv : LV oqE (S.length + 3) V y qs
  qv : QsV (S.length + 3) M qs l
  e5 : e.get 5 = .p (S.length + 1) 0 0
  e2 : e.get 2 = .p S.length 0 0
  e6 : e.get 6 = .p (S.length + 2) 0 0
  e0 : e.get 0 = bx
  e7 : e.get 7 = y
theorem read_trace {S : Mem} {R0 C : Blk} {bx : AV} (hbx : bx.one = true) (n : Nat) (hn : n ≤ 400) (s0 : St) :
    ∀ (m : Nat) (e : Env) (M : Mem), (∃ pre s x y V qs, Rj S R0 C bx n s0 m e M pre s x y V qs) →
    ∃ ix e1 M1, (∃ x y V qs, Re S R0 C bx (repF opF n s0).1 (repF opF n s0).2 ix e1 M1 x y V qs) ∧ WP Tryz.prog S false (.loop [5, 2, 6, 0, 21, 22, 7] c17l0) e M [] (onlyK ix e1 M1) := by
  refine wp_trace (J := fun m e M => ∃ pre s x y V qs, Rj S R0 C bx n s0 m e M pre s x y V qs) (fun ix e1 M1 => ∃ x y V qs, Re S R0 C bx (repF opF n s0).1 (repF opF n s0).2 ix e1 M1 x y V qs) (by rintro e S ⟨_, _, _, _, h⟩; have := h.ix; cases this) ?_
  rintro m e M ⟨pre, s, x, y, V, qs, hlen, hrep, hM, hsrc, hlv, hqv, e5, e2, e6, e0, e21, e22, e7⟩
  cases m with
  | zero =>
    right
    have hpre : pre.length = n := by omega
    simp only [repF, List.append_nil] at hrep
    have hI : ¬ (pre.length : Int) < n := by omega
    apply Exists.intro; apply Exists.intro; apply Exists.intro; refine ⟨?_, ?_⟩; rotate_left 1
    · refine W_sound oRead_ok mixed _ _ _ _ _ ?_
      simp (maxSteps := 1000000) (disch := omega) only [c17l0, e5, e2, e6, e0, e21, e22, e7, hI, go_sem]
      exact onlyK_mk
    · exact ⟨x, y, V, qs, ⟨rfl, by rw [hrep]; exact hM, hlv, by rw [hrep]; exact hqv, rfl, rfl, rfl, rfl, rfl⟩⟩
  | succ m =>
    left
    have hI : (pre.length : Int) < n := by omega
    have hk6 : pre.length < 1000000 := by omega
    rw [repF] at hrep
    obtain ⟨yy, S', hcall, q, x', U, rfl, hS', hsrc', hval, hkx, hky⟩ := op_call hsrc
    generalize hof : opF s = os at hrep hS' hsrc' hval
    obtain ⟨o, s'⟩ := os
    simp only at hrep hS' hsrc' hval
    -- the memory behind the call
    have hS2 : S' = S ++ ([R0, srcB x' s'.2, C] ++ (V ++ U)) := by
      rw [hS', hM, set_app, List.append_assoc]
      rfl
    have hML : M.length = S.length + 3 + V.length := by rw [hM, List.length_append, List.length_append]; simp only [List.length_cons, List.length_nil]; omega
    have hkeep : ∀ j B, S.length + 3 ≤ j → M[j]? = some B → B.opn ≠ some 19 → (S' ++ [Blk.cells q.enc 0 none true])[j]? = some B := fun j B hj hB _ => by
      obtain ⟨p, rfl⟩ : ∃ p, j = S.length + (3 + p) := ⟨j - (S.length + 3), by omega⟩
      rw [hM, at_app] at hB
      have hB : V[p]? = some B := by rw [List.getElem?_append_right (by simp)] at hB; simpa using hB
      refine at_old ?_
      rw [hS2, at_app, List.getElem?_append_right (by simp)]
      simpa using at_old (L := U) hB
    have hqv1 := hqv.keep hkeep
    have hqs : qs.length = pre.length := hqv.len
    obtain ⟨A, hAe⟩ : ∃ A : Mem, A = S ++ [R0, srcB x' s'.2, C] := ⟨_, rfl⟩
    have hAl : A.length = S.length + 3 := by rw [hAe, List.length_append]; rfl
    have hlv1 : LV oqE A.length (V ++ (U ++ [Blk.cells q.enc 0 none true])) y qs := by
      have : LV oqE (S.length + 3) V y qs := hlv
      rw [← hAl] at this
      exact this.grow _
    obtain ⟨y', V', hap, hlv', hV'⟩ := hlv1.app (bytes := 160) oqE_one q (by rw [hqs]; unfold lim; omega) (by rw [hqs]; unfold lim; omega)
    have hMA : S' ++ [Blk.cells q.enc 0 none true] = A ++ (V ++ (U ++ [Blk.cells q.enc 0 none true])) := by
      rw [hS2, hAe]; simp only [List.append_assoc]
    have hap : appV (S' ++ [.cells q.enc 0 none true]) 19 160 y q.enc 1 = some (y', A ++ V') := by rw [hMA]; exact hap
    have hkeep2 : ∀ j B, S.length + 3 ≤ j → (S' ++ [Blk.cells q.enc 0 none true])[j]? = some B → B.opn ≠ some 19 → (A ++ V')[j]? = some B := fun j B hj hB hnB => by
      obtain ⟨p, rfl⟩ : ∃ p, j = A.length + p := ⟨j - (S.length + 3), by omega⟩
      rw [hMA, at_app] at hB
      rw [at_app]
      exact hV' p B hB hnB
    have hkq : Kq (S.length + 3) (S' ++ [Blk.cells q.enc 0 none true]) q := ⟨(hkx.less (by omega)).grow _, (hky.less (by omega)).grow _⟩
    have hval1 := Oq.val_ext hval (ext_app [Blk.cells q.enc 0 none true])
    have hqv2 := (hqv1.snoc hval1 hkq).keep hkeep2
    have hsrc2 : Src (A ++ V') (S.length + 1) x' s' := by
      have hb := hsrc'.blk
      have ht : (A ++ V').take (S.length + 1) = S'.take (S.length + 1) := by
        rw [hS2, hAe, List.append_assoc, List.take_append, List.take_append (l₁ := S) (l₂ := [R0, srcB x' s'.2, C] ++ (V ++ U)), Nat.add_sub_cancel_left]
        rfl
      exact ⟨by rw [hAe, List.append_assoc, at_app]; rfl, by rw [ht]; exact hsrc'.lst, by rw [ht]; exact hsrc'.opn, hsrc'.ok⟩
    have ylen := hlv1.one
    have ycel := hlv1.cells
    have ylen' := hlv'.one
    have ycel' := hlv'.cells
    have q1 := q.x.h
    have q2 := q.y.h
    refine ⟨m, ?_⟩; apply Exists.intro; apply Exists.intro; refine ⟨Nat.lt_succ_self m, ?_, ?_⟩; rotate_left 1
    · refine W_sound oRead_ok mixed _ _ _ _ _ ?_
      simp only [Oq.enc] at hcall hap
      simp (maxSteps := 1000000) (disch := omega) only [c17l0, e5, e2, e6, e0, e21, e22, e7, hI, orc_cons, hcall, List.replicate, q1, q2, src_sl, srcN_some, hap, wrapS hk6, go_sem]
      exact onlyK_mk
    · exact ⟨pre ++ [o], s', x', y', V', qs ++ [q], ⟨by rw [List.length_append, List.length_singleton]; omega, by rw [hrep, List.append_assoc]; rfl, by rw [hAe, List.append_assoc], hsrc2, by rw [← hAl]; exact hlv', hqv2, rfl, rfl, rfl, rfl, rfl, by rw [List.length_append, List.length_singleton]; rfl, rfl⟩⟩
end Go.Proofs.YtmolaemlenllmaaGreat

namespace Go.Proofs.YtmolaemlenllmaaGreat
open Go.RowKit
set_option linter.unusedSimpArgs false
set_option linter.unusedVariables false
set_option maxRecDepth 10000

section
variable {S : Mem} {R0 B : Blk} {x : AV} {s : St}
theorem zag_read (h : Src (S ++ [R0, B]) (S.length + 1) x s) (L : Mem) : ∃ x', zagPS [.p (S.length + 1) 0 0] (S ++ (R0 :: B :: L)) = some (.i .i64 (zag (numF s).1), S ++ (R0 :: srcB x' (numF s).2.2 :: L)) ∧ Src (S ++ [R0, srcB x' (numF s).2.2]) (S.length + 1) x' (numF s).2 := by
  obtain ⟨x', h1, h2⟩ := rd1_call zag_fn h L
  have e : ∀ B', (S ++ [R0, B]).set (S.length + 1) B' = S ++ [R0, B'] := fun B' => by rw [set_app]; rfl
  rw [e] at h1 h2
  rw [List.append_assoc, List.append_assoc] at h1
  exact ⟨x', h1, h2⟩
theorem num_read (h : Src (S ++ [R0, B]) (S.length + 1) x s) (L : Mem) : ∃ x', numPS [.p (S.length + 1) 0 0] (S ++ (R0 :: B :: L)) = some (.i .u64 (numF s).1, S ++ (R0 :: srcB x' (numF s).2.2 :: L)) ∧ Src (S ++ [R0, srcB x' (numF s).2.2]) (S.length + 1) x' (numF s).2 := by
  obtain ⟨x', h1, h2⟩ := rd1_call num_fn h L
  have e : ∀ B', (S ++ [R0, B]).set (S.length + 1) B' = S ++ [R0, B'] := fun B' => by rw [set_app]; rfl
  rw [e] at h1 h2
  rw [List.append_assoc, List.append_assoc] at h1
  exact ⟨x', h1, h2⟩
theorem many_read {m : Int} (hm : 0 ≤ m ∧ m ≤ 9223372036854775807) (h : Src (S ++ [R0, B]) (S.length + 1) x s) (L : Mem) : ∃ x', manyPS [.p (S.length + 1) 0 0, .i .i64 m] (S ++ (R0 :: B :: L)) = some (.i .i64 (manyF m s).1, S ++ (R0 :: srcB x' (manyF m s).2.2 :: L)) ∧ Src (S ++ [R0, srcB x' (manyF m s).2.2]) (S.length + 1) x' (manyF m s).2 := by
  obtain ⟨x', h1, h2⟩ := rd2_call (val := fun m s => .i .i64 (manyF m s).1) (nx := fun m s => (manyF m s).2) (many_fn hm) h L
  have e : ∀ B', (S ++ [R0, B]).set (S.length + 1) B' = S ++ [R0, B'] := fun B' => by rw [set_app]; rfl
  rw [e] at h1 h2
  rw [List.append_assoc, List.append_assoc] at h1
  exact ⟨x', h1, h2⟩
end
/-- What reading a script answers. -/
def RdF (S : Mem) (b : List Int) (y : AV) (S' : Mem) : Prop := ∃ (a q p err : Int) (z : AV) (l : List Opx), y = .tu [.ag [.i .i64 a, .i .i64 q, .i .u64 p], z, .i .i64 err] ∧ S <+: S' ∧ opsOf S' z = some l ∧
  (match readF b with | some (c, l') => c = ⟨a, q, p⟩ ∧ l = l' ∧ err = 0 | none => a = 0 ∧ q = 0 ∧ p = 0 ∧ l = [] ∧ err = 221)
theorem rdf_bad {S S' : Mem} {b : List Int} (h : readF b = none) (hS : S <+: S') : RdF S b (.tu [.ag [.i .i64 0, .i .i64 0, .i .u64 0], .sn, .i .i64 221]) S' :=
  ⟨0, 0, 0, 221, .sn, [], rfl, hS, rfl, by rw [h]; exact ⟨rfl, rfl, rfl, rfl, rfl⟩⟩
set_option maxHeartbeats 2000000 in
theorem read_fn (S : Mem) (bx : AV) (b : List Int) (hl : lstV byteE S bx = some b) (ho : openQ S 1 bx = true) (hu : ∀ c ∈ b, u8 c) (hlen : b.length ≤ 900000) : ∃ y S', FnOK Tryz.prog 17 [bx] S y S' ∧ RdF S b y S' := by
  have hb1 := lst_one hl
  have hbc := lst_cells hl
  have hs0 : Src (S ++ [.cells [.i .i64 0, .i .i64 0, .i .u64 0] 0 none true, srcB bx false]) (S.length + 1) bx (b, false) := by
    have ht : (S ++ [Blk.cells [.i .i64 0, .i .i64 0, .i .u64 0] 0 none true, srcB bx false]).take (S.length + 1) = S ++ [.cells [.i .i64 0, .i .i64 0, .i .u64 0] 0 none true] := by
      rw [List.take_append, List.take_of_length_le (by omega), Nat.add_sub_cancel_left]; rfl
    exact ⟨by rw [at_app]; rfl, by rw [ht]; exact lstV_grow hl _, by rw [ht]; exact openQ_grow ho _, ⟨by show b.length ≤ _; omega, hu⟩⟩
  obtain ⟨x1, c1, h1⟩ := zag_read hs0 []
  have hpok := readP_ok hu (by omega)
  have hF : readF b = fin b (readP b) := rfl
  generalize hp : readP b = P at hF hpok
  unfold readP at hp
  generalize hq1 : numF (b, false) = q1 at hp c1 h1
  obtain ⟨a, s1⟩ := q1
  simp only at hp c1 h1
  obtain ⟨x2, c2, h2⟩ := zag_read h1 []
  generalize hq2 : numF s1 = q2 at hp c2 h2
  obtain ⟨q, s2⟩ := q2
  simp only at hp c2 h2
  obtain ⟨x3, c3, h3⟩ := num_read h2 []
  generalize hq3 : numF s2 = q3 at hp c3 h3
  obtain ⟨p, s3⟩ := q3
  simp only at hp c3 h3
  generalize zag a = za at *
  generalize zag q = zq at *
  obtain ⟨x4, c4, h4⟩ := many_read (m := 400) (by omega) h3 [.cells [.i .i64 za, .i .i64 zq, .i .u64 p] 0 none true]
  have hmo := manyF_ok (m := 400) (by omega) h3.ok
  generalize hq4 : manyF 400 s3 = q4 at hp c4 h4 hmo
  obtain ⟨n, s4⟩ := q4
  simp only at hp c4 h4 hmo
  obtain ⟨nn, rfl⟩ := Int.eq_ofNat_of_zero_le hmo.1
  rw [Int.toNat_natCast] at hp
  obtain ⟨ix, e1, M1, ⟨x5, y, V, qs, rfl, hM1, hlv, hqv, g5, g2, g6, g0, g7⟩, hw⟩ := read_trace (S := S) (R0 := .cells [.i .i64 0, .i .i64 0, .i .u64 0] 0 none true) (C := .cells [.i .i64 za, .i .i64 zq, .i .u64 p] 0 none true) hb1 nn (by omega) s4 nn
    [(5, .p (S.length + 1) 0 0), (2, .p S.length 0 0), (6, .p (S.length + 2) 0 0), (0, bx), (21, .i .i64 (nn : Int)), (22, .i .i64 0), (7, .sn)]
    (S ++ [.cells [.i .i64 0, .i .i64 0, .i .u64 0] 0 none true, srcB x4 s4.2, .cells [.i .i64 za, .i .i64 zq, .i .u64 p] 0 none true])
    ⟨[], s4, x4, .sn, [], [], ⟨rfl, rfl, rfl, by have := h4.grow [.cells [.i .i64 za, .i .i64 zq, .i .u64 p] 0 none true]; rw [List.append_assoc] at this; exact this, .inl ⟨rfl, rfl⟩, ⟨rfl, by simp⟩, rfl, rfl, rfl, rfl, rfl, rfl, rfl⟩⟩
  generalize repF opF nn s4 = w at hp hM1 hlv hqv hw
  obtain ⟨l, s5⟩ := w
  simp only at hp hM1 hlv hqv hw
  subst hp
  simp only at hpok
  obtain ⟨hcg, hfine, hl4⟩ := hpok
  have hA1 : (S ++ [Blk.cells [.i .i64 0, .i .i64 0, .i .u64 0] 0 none true, srcB x5 s5.2, .cells [.i .i64 za, .i .i64 zq, .i .u64 p] 0 none true]).length = S.length + 3 := by rw [List.length_append]; rfl
  have hlv1 : LV oqE (S ++ [Blk.cells [.i .i64 0, .i .i64 0, .i .u64 0] 0 none true, srcB x5 s5.2, .cells [.i .i64 za, .i .i64 zq, .i .u64 p] 0 none true]).length V y qs := by rw [hA1]; exact hlv
  have hops : opsOf M1 y = some l := opsOf_iff.2 ⟨qs, by have := hlv1.lst; rw [List.append_assoc] at this; rw [hM1]; exact this, hqv.1⟩
  have hlg : ∀ o ∈ l, o.good := fun o ho => (hfine o ho).1
  have hls : allSmall l = true := small_of fun o ho => by have := (hfine o ho).2; omega
  obtain ⟨X, M3, hby, hX, ⟨U, rfl⟩, _⟩ := sbytes_call (z := false) hops hcg hlg (by omega) hls
  have hM3 : M1 ++ U = S ++ ([.cells [.i .i64 0, .i .i64 0, .i .u64 0] 0 none true, srcB x5 s5.2, .cells [.i .i64 za, .i .i64 zq, .i .u64 p] 0 none true] ++ (V ++ U)) := by rw [hM1]; simp only [List.append_assoc]
  have hC1 : M1[S.length + 2]? = some (.cells [.i .i64 za, .i .i64 zq, .i .u64 p] 0 none true) := by rw [hM1, at_app]; rfl
  have hC3 : (M1 ++ U)[S.length + 2]? = some (.cells [.i .i64 za, .i .i64 zq, .i .u64 p] 0 none true) := at_old hC1
  have hS3 : (M1 ++ U)[S.length + 1]? = some (.cells [x5, .b s5.2] 0 none true) := by rw [hM3, at_app]; rfl
  have hR3 : (M1 ++ U)[S.length]? = some (.cells [.i .i64 0, .i .i64 0, .i .u64 0] 0 none true) := by rw [hM3, at_app0]; rfl
  have hset : ∀ B', ((M1 ++ U).set S.length B')[S.length]? = some B' := fun B' => at_set hR3
  have hSM : ∀ B', S <+: (M1 ++ U).set S.length B' := fun B' => by rw [hM3, set_app0]; exact ext_app _
  have hone := hlv1.one
  have hcel := hlv1.cells
  have hbxM : lstV byteE (M1 ++ U) bx = some b := lst_ext hl (by rw [hM3]; exact ext_app _)
  have hF2 : readF b = if s5.2 = false ∧ allR l ∧ scriptB ⟨za, zq, p⟩ l = b then some (⟨za, zq, p⟩, l) else none := hF
  simp only [srcB] at c1 c2 c3 c4 hw
  have bad : ∀ (hbad : ¬ (s5.2 = false ∧ allR l ∧ scriptB ⟨za, zq, p⟩ l = b)), readF b = none := fun h => by rw [hF2, if_neg h]
  cases hbad : s5.2 with
  | true =>
    rw [hbad] at hS3
    generalize (if allR l then (0 : Int) else 221) = er at hby
    apply Exists.intro; apply Exists.intro; refine ⟨?_, ?_⟩
    · apply fn_of_wp f17 rfl; apply W_sound oRead_ok mixed
      simp (maxSteps := 1000000) (disch := omega) only [c17, List.replicate, hbc, hb1, orc_cons, c1, c2, c3, c4, go_sem]
      refine hw.mono ?_
      rintro _ _ _ _ ⟨rfl, rfl, rfl, rfl⟩
      simp (maxSteps := 1000000) (disch := omega) only [g5, g2, g6, g0, g7, hC1, orc_cons, hby, hS3, hR3, hC3, hset, hone, hcel, hbad, go_sem]
      exact wkv_same
    · exact rdf_bad (bad fun h => by have := h.1; rw [hbad] at this; cases this) (hSM _)
  | false =>
    rw [hbad] at hS3
    by_cases hr : allR l
    · rw [if_pos hr] at hby hX
      have hsl := script_len (head_u64 (c := ⟨za, zq, p⟩) (n := (l.length : Int)) hcg ⟨by omega, by omega⟩) hr hlg
      have heq : eqlBS [X, bx] (M1 ++ U) = some (.b (decide (scriptB ⟨za, zq, p⟩ l = b)), M1 ++ U) := by simp only [eqlBS, hX, hbxM]; rw [if_pos (by omega)]
      by_cases he : scriptB ⟨za, zq, p⟩ l = b
      · rw [decide_eq_true he] at heq
        have hops2 : opsOf ((M1 ++ U).set S.length (.cells [.i .i64 za, .i .i64 zq, .i .u64 p] 0 none true)) y = some l := by
          have e : (M1 ++ U).set S.length (.cells [.i .i64 za, .i .i64 zq, .i .u64 p] 0 none true) = (S ++ [.cells [.i .i64 za, .i .i64 zq, .i .u64 p] 0 none true, srcB x5 s5.2, .cells [.i .i64 za, .i .i64 zq, .i .u64 p] 0 none true]) ++ (V ++ U) := by
            rw [hM3, set_app0, List.append_assoc]; rfl
          have hlv3 : LV oqE (S ++ [Blk.cells [.i .i64 za, .i .i64 zq, .i .u64 p] 0 none true, srcB x5 s5.2, .cells [.i .i64 za, .i .i64 zq, .i .u64 p] 0 none true]).length (V ++ U) y qs := by
            have := hlv1.grow U
            rw [List.length_append] at this ⊢
            exact this
          have hk := hqv.keep (M' := (M1 ++ U).set S.length (.cells [.i .i64 za, .i .i64 zq, .i .u64 p] 0 none true)) fun j B hj hB _ => by
            rw [List.getElem?_set_ne (by omega)]; exact at_old hB
          exact opsOf_iff.2 ⟨qs, by rw [e]; exact hlv3.lst, hk.1⟩
        apply Exists.intro; apply Exists.intro; refine ⟨?_, ?_⟩
        · apply fn_of_wp f17 rfl; apply W_sound oRead_ok mixed
          simp (maxSteps := 1000000) (disch := omega) only [c17, List.replicate, hbc, hb1, orc_cons, c1, c2, c3, c4, go_sem]
          refine hw.mono ?_
          rintro _ _ _ _ ⟨rfl, rfl, rfl, rfl⟩
          simp (maxSteps := 1000000) (disch := omega) only [g5, g2, g6, g0, g7, hC1, orc_cons, hby, hS3, hR3, hC3, hset, hone, hcel, heq, Bool.not_true, go_sem]
          exact wkv_same
        · exact ⟨za, zq, p, 0, y, l, rfl, hSM _, hops2, by rw [hF2, if_pos ⟨hbad, hr, he⟩]; exact ⟨rfl, rfl, rfl⟩⟩
      · rw [decide_eq_false he] at heq
        apply Exists.intro; apply Exists.intro; refine ⟨?_, ?_⟩
        · apply fn_of_wp f17 rfl; apply W_sound oRead_ok mixed
          simp (maxSteps := 1000000) (disch := omega) only [c17, List.replicate, hbc, hb1, orc_cons, c1, c2, c3, c4, go_sem]
          refine hw.mono ?_
          rintro _ _ _ _ ⟨rfl, rfl, rfl, rfl⟩
          simp (maxSteps := 1000000) (disch := omega) only [g5, g2, g6, g0, g7, hC1, orc_cons, hby, hS3, hR3, hC3, hset, hone, hcel, heq, Bool.not_false, go_sem]
          exact wkv_same
        · exact rdf_bad (bad fun h => he h.2.2) (hSM _)
    · rw [if_neg hr] at hby
      apply Exists.intro; apply Exists.intro; refine ⟨?_, ?_⟩
      · apply fn_of_wp f17 rfl; apply W_sound oRead_ok mixed
        simp (maxSteps := 1000000) (disch := omega) only [c17, List.replicate, hbc, hb1, orc_cons, c1, c2, c3, c4, go_sem]
        refine hw.mono ?_
        rintro _ _ _ _ ⟨rfl, rfl, rfl, rfl⟩
        simp (maxSteps := 1000000) (disch := omega) only [g5, g2, g6, g0, g7, hC1, orc_cons, hby, hS3, hR3, hC3, hset, hone, hcel, go_sem]
        exact wkv_same
      · exact rdf_bad (bad fun h => hr h.2.1) (hSM _)
end Go.Proofs.YtmolaemlenllmaaGreat

namespace Go.Proofs.YtmolaemlenllmaaGreat
open Go.RowKit
set_option linter.unusedSimpArgs false
set_option linter.unusedVariables false
set_option maxRecDepth 10000

noncomputable def readS : Spec := relS Tryz.prog 17 (fun args S y S' => ∀ bx b, args = [bx] → lstV byteE S bx = some b → openQ S 1 bx = true → (∀ c ∈ b, u8 c) → b.length ≤ 900000 → RdF S b y S')
theorem read_ok : SpecOK Tryz.prog 17 readS := by unfold readS; exact relS_ok
theorem read_call {S : Mem} {bx : AV} {b : List Int} (hl : lstV byteE S bx = some b) (ho : openQ S 1 bx = true) (hu : ∀ c ∈ b, u8 c) (hlen : b.length ≤ 900000) : ∃ y S', readS [bx] S = some (y, S') ∧ RdF S b y S' := by
  obtain ⟨y, S', h1, h2⟩ := read_fn S bx b hl ho hu hlen
  obtain ⟨y', S2, g1, g2⟩ := relS_eq (R := fun args S y S' => ∀ bx b, args = [bx] → lstV byteE S bx = some b → openQ S 1 bx = true → (∀ c ∈ b, u8 c) → b.length ≤ 900000 → RdF S b y S') h1 (fun bx' b' e hl' _ _ _ => by
    injection e with e _
    subst e
    rw [hl] at hl'
    injection hl' with hl'
    subst hl'
    exact h2)
  exact ⟨y', S2, g1, g2 bx b rfl hl ho hu hlen⟩
theorem code_u8 {o : Opx} (hg : o.good) (hr : o.right) : ∀ c ∈ o.code, u8 c := by
  intro c hc
  unfold Opx.code at hc
  rcases List.mem_append.1 hc with hc | hc
  · unfold lebs at hc
    obtain ⟨n, hn, hc⟩ := List.mem_flatMap.1 hc
    exact leb_u8 (ns_u64 hg hr n hn).1 c hc
  · exact hg.2.2.2.2.1 c hc
theorem script_u8 {c : Cfg} {l : List Opx} (hc : c.good) (hl : allR l) (hg : ∀ o ∈ l, o.good) : ∀ x ∈ scriptB c l, u8 x := by
  intro x hx
  have h4 := hl.1
  unfold scriptB at hx
  rcases List.mem_append.1 hx with hx | hx
  · unfold lebs at hx
    obtain ⟨n, hn, hx⟩ := List.mem_flatMap.1 hx
    exact leb_u8 (head_u64 hc ⟨by omega, by omega⟩ n hn).1 x hx
  · unfold codeL at hx
    obtain ⟨o, ho, hx⟩ := List.mem_flatMap.1 hx
    exact code_u8 (hg o ho) (hl.2 o ho) x hx
theorem eqcfg {ne : Bool} {a q p a' q' p' : Int} : eqAgV ne [.int, .int, .int] (.ag [.i .i64 a, .i .i64 q, .i .u64 p]) (.ag [.i .i64 a', .i .i64 q', .i .u64 p']) = some (.b (decide ((a = a' ∧ q = q' ∧ p = p')) != ne)) := by
  cases ne <;> simp [eqAgV, eqCells, eqCell, Bool.beq_eq_decide_eq, and_assoc]
theorem fine_small {l : List Opx} (h : ∀ o ∈ l, o.fine) : allSmall l = true := small_of fun o ho => by have := (h o ho).2; omega
theorem oBack_ok (hal : SpecOK Tryz.prog 10 aliveS) : OK Tryz.prog (lamOf Tryz.prog) (orcOf [(10, aliveS), (11, greatS), (7, sbytesS false), (17, readS), (19, sameLS)]) :=
  orc_ok (by simpa using ⟨hal, great_ok, sbytes_ok, read_ok, sameL_ok⟩)
/-- The second half: bytes, read and written. -/
theorem back2 {S M : Mem} {bx : AV} {b : List Int} (hSM : S <+: M) (hl : lstV byteE S bx = some b) (ho : openQ S 1 bx = true) (hu : ∀ c ∈ b, u8 c) (hlen : b.length ≤ 20000) :
    ∃ (a q p err : Int) (z : AV) (k : List Opx) (M2 : Mem), readS [bx] M = some (.tu [.ag [.i .i64 a, .i .i64 q, .i .u64 p], z, .i .i64 err], M2) ∧ M <+: M2 ∧ opsOf M2 z = some k ∧
      ((a = 0 ∧ q = 0 ∧ p = 0 ∧ k = [] ∧ err = 221) ∨ (err = 0 ∧ ∀ L, ∃ X M3, sbytesS false [.ag [.i .i64 a, .i .i64 q, .i .u64 p], z] (M2 ++ L) = some (.tu [X, .i .i64 0], M3) ∧ lstV byteE M3 X = some b ∧ M2 ++ L <+: M3)) := by
  obtain ⟨y, M2, hr, a, q, p, err, z, k, rfl, hM, hk, hcase⟩ := read_call (lst_ext hl hSM) (openQ_ext ho hSM) hu (by omega)
  refine ⟨a, q, p, err, z, k, M2, hr, hM, hk, ?_⟩
  cases hrf : readF b with
  | none =>
    rw [hrf] at hcase
    exact .inl hcase
  | some r =>
    obtain ⟨c, l⟩ := r
    rw [hrf] at hcase
    obtain ⟨rfl, rfl, rfl⟩ := hcase
    obtain ⟨g1, g2, g3, g4⟩ := readF_some hu (by omega) hrf
    refine .inr ⟨rfl, fun L => ?_⟩
    obtain ⟨X, M3, h1, h2, h3, _⟩ := sbytes_call (z := false) (opsOf_grow hk L) g1 (fun o ho => (g3 o ho).1) (by have := g2.1; omega) (fine_small g3)
    rw [if_pos g2] at h1 h2
    rw [g4] at h2
    exact ⟨X, M3, h1, h2, h3⟩
set_option maxHeartbeats 2000000 in
theorem back_ok (hal : SpecOK Tryz.prog 10 aliveS) (S : Mem) (a q p : Int) (s bx : AV) (l : List Opx) (b : List Int) (hc : (Cfg.mk a q p).good) (hl : opsOf S s = some l) (hg : ∀ o ∈ l, o.good) (hb : lstV byteE S bx = some b) (hu : ∀ c ∈ b, u8 c) (hob : openQ S 1 bx = true) :
    FnOK Tryz.prog 6 [.ag [.i .i64 a, .i .i64 q, .i .u64 p], s, bx] S (.b true) S := by
  have hO := oBack_ok hal
  have hgr := fun L => greatS_eq (opsOf_grow hl L)
  have lb := lst_len hb
  refine fn_of_wp f6 rfl (W_sound hO mixed _ _ _ _ _ ?_)
  cases hgl : greatL l with
  | true =>
    rw [hgl] at hgr
    simp (maxSteps := 1000000) (disch := omega) only [c6, orc_cons, aliveS, Bool.not_true, hgr, go_sem]
    exact wkv_drop rfl
  | false =>
    rw [hgl] at hgr
    by_cases h2 : b.length ≤ 20000
    rotate_left
    · have h2I : (20000 : Int) < b.length := by omega
      simp (maxSteps := 1000000) (disch := omega) only [c6, orc_cons, aliveS, Bool.not_true, hgr, lb, h2I, go_sem]
      exact wkv_drop rfl
    have h2I : ¬ (20000 : Int) < b.length := by omega
    obtain ⟨h450, hsm⟩ := great_no hgl
    have hls : allSmall l = true := small_of fun x hx => by have := hsm x hx; omega
    obtain ⟨S1, hS1⟩ : ∃ S1 : Mem, S1 = S ++ [.cells [.i .i64 a, .i .i64 q, .i .u64 p] 0 none true] := ⟨_, rfl⟩
    have hSS1 : S <+: S1 := by rw [hS1]; exact ext_app _
    obtain ⟨X1, M1, hc1, hX1, hM1, hoX1⟩ := sbytes_call (z := false) (opsOf_ext hl hSS1) hc hg (by omega) hls
    rw [hS1] at hc1
    have hb0 : ∀ M, S1 <+: M → M[S.length]? = some (.cells [.i .i64 a, .i .i64 q, .i .u64 p] 0 none true) := fun M h => at_pre h (by rw [hS1, at_app0]; rfl)
    by_cases hr : allR l
    · rw [if_pos hr] at hc1 hX1
      have hsl := script_len (head_u64 (c := ⟨a, q, p⟩) (n := (l.length : Int)) hc ⟨by omega, by omega⟩) hr hg
      obtain ⟨y2, M2, hr2, a2, q2, p2, err2, z2, k2, rfl, hM2, hk2, hcase2⟩ := read_call hX1 hoX1 (script_u8 hc hr hg) (by omega)
      rw [readF_code hc hr hg] at hcase2
      obtain ⟨e1, rfl, rfl⟩ := hcase2
      injection e1 with e1 e2 e3
      subst e1; subst e2; subst e3
      obtain ⟨B, hB⟩ : ∃ B : Blk, B = .cells [.i .i64 a, .i .i64 q, .i .u64 p] 0 none true := ⟨_, rfl⟩
      have hS2 : S1 <+: M2 ++ [B] := ext_more (hM1.trans hM2) _
      have m2 := hb0 _ hS2
      have hsame := sameLS_eq (opsOf_ext hl (hSS1.trans hS2)) (opsOf_grow hk2 [B]) (by omega) hls hg hg
      rw [decide_eq_true rfl] at hsame
      have hq1 := eqcfg (ne := true) (a := a) (q := q) (p := p) (a' := a) (q' := q) (p' := p)
      have hq2 : (decide (a = a ∧ q = q ∧ p = p) != true) = false := by simp
      rw [hq2] at hq1
      obtain ⟨a3, q3, p3, err3, z3, k3, M3, hr3, hM3, hk3, hcase3⟩ := back2 (hSS1.trans hS2) hb hob hu h2
      have hfin := (hSS1.trans hS2).trans hM3
      rw [hB] at m2 hsame hr3
      rcases hcase3 with ⟨rfl, rfl, rfl, rfl, rfl⟩ | ⟨rfl, hby3⟩
      · have hz := eqcfg (ne := false) (a := 0) (q := 0) (p := 0) (a' := 0) (q' := 0) (p' := 0)
        have hz2 : (decide ((0 : Int) = 0 ∧ (0 : Int) = 0 ∧ (0 : Int) = 0) != false) = true := by simp
        rw [hz2] at hz
        simp (maxSteps := 1000000) (disch := omega) only [c6, orc_cons, aliveS, Bool.not_true, hgr, lb, h2I, hc1, hr2, List.replicate, m2, hq1, hsame, hr3, hz, opsOf_len hk3, List.length_nil, go_sem]
        exact wkv_dropP (ext_more hfin _) rfl
      · obtain ⟨X4, M4, hc4, hX4, hM4⟩ := hby3 [.cells [.i .i64 a3, .i .i64 q3, .i .u64 p3] 0 none true]
        have t4 := toStr_B hX4
        have tb := toStr_B (lst_ext hb (hfin.trans ((ext_app _).trans hM4)))
        simp (maxSteps := 1000000) (disch := omega) only [c6, orc_cons, aliveS, Bool.not_true, hgr, lb, h2I, hc1, hr2, List.replicate, m2, hq1, hsame, hr3, hc4, t4, tb, go_sem]
        exact wkv_dropP (hfin.trans ((ext_app _).trans hM4)) rfl
    · rw [if_neg hr] at hc1
      obtain ⟨a3, q3, p3, err3, z3, k3, M3, hr3, hM3, hk3, hcase3⟩ := back2 (hSS1.trans hM1) hb hob hu h2
      have hfin := (hSS1.trans hM1).trans hM3
      rcases hcase3 with ⟨rfl, rfl, rfl, rfl, rfl⟩ | ⟨rfl, hby3⟩
      · have hz := eqcfg (ne := false) (a := 0) (q := 0) (p := 0) (a' := 0) (q' := 0) (p' := 0)
        have hz2 : (decide ((0 : Int) = 0 ∧ (0 : Int) = 0 ∧ (0 : Int) = 0) != false) = true := by simp
        rw [hz2] at hz
        simp (maxSteps := 1000000) (disch := omega) only [c6, orc_cons, aliveS, Bool.not_true, hgr, lb, h2I, hc1, List.replicate, hr3, hz, opsOf_len hk3, List.length_nil, go_sem]
        exact wkv_dropP (ext_more hfin _) rfl
      · obtain ⟨X4, M4, hc4, hX4, hM4⟩ := hby3 [.cells [.i .i64 a3, .i .i64 q3, .i .u64 p3] 0 none true]
        have t4 := toStr_B hX4
        have tb := toStr_B (lst_ext hb (hfin.trans ((ext_app _).trans hM4)))
        simp (maxSteps := 1000000) (disch := omega) only [c6, orc_cons, aliveS, Bool.not_true, hgr, lb, h2I, hc1, List.replicate, hr3, hc4, t4, tb, go_sem]
        exact wkv_dropP (hfin.trans ((ext_app _).trans hM4)) rfl
end Go.Proofs.YtmolaemlenllmaaGreat

namespace Go.Proofs.YtmolaemlenllmaaGreat
open Go.RowKit
set_option linter.unusedVariables false
set_option maxRecDepth 100000
section
variable {H : Type} {enc : TypeId × Value → H}
theorem walkScriptBack (W : World) (v0 v1 v2 : Value) {base : Nat} (o0 : Value.okWide Tryz.prog W .any base 28 v0) (o1 : Value.okWide Tryz.prog W .any base 38 v1) (o2 : Value.okWide Tryz.prog W .any base 22 v2) {d0 d1 d2 : DataW H} {p0 p1 p2 : List MemPlace}
    (h0 : DataW.Trod enc Tryz.prog W 0 (fun _ => true) true 28 v0 d0 p0) (h1 : DataW.Trod enc Tryz.prog W 0 (fun _ => true) true 38 v1 d1 p1) (h2 : DataW.Trod enc Tryz.prog W 0 (fun _ => true) true 22 v2 d2 p2) :
    Calls Tryz.prog 6 #[v0, v1, v2] W fun e w' => e = .returned (.bool true) ∧ Below W.heap.size W w' := by
  obtain ⟨a, q, p, e0, hc⟩ := argCfg o0 h0
  obtain ⟨l, hl, hg⟩ := argOps o1 h1
  obtain ⟨b, hb, hu, ho⟩ := argBytes o2 h2
  refine calls_of_fnOK (S' := absS W) ?_
  show FnOK Tryz.prog _ [absA W v0, absA W v1, absA W v2] _ _ _
  rw [e0]
  exact back_ok alive_ok _ a q p _ _ l b hc hl hg hb hu ho
end
end Go.Proofs.YtmolaemlenllmaaGreat


namespace Go.Proofs.YtmolaemlenllmaaGreat.scriptBack
open Go.ChangeShapes Go.WideShapes Go.ChangeAt Go.RowKit
open Go.ChangeMaps (open_string shut_string)
set_option linter.unusedVariables false

theorem own : ownKnob Tryz.prog.godebug = none := by kernel_rfl
theorem laidOut : laidOutB Tryz.prog = true := by kernel_rfl

/-! ### THE ROW's STEP: WRITTEN OUT: LEAVE IT -/
set_option maxRecDepth 100000 in
theorem lifted (os : Os) (started : os.Started) (H : Type) (enc : TypeId × Value → H) :
    ReturnsInHanded {} Tryz.checked os 6 .any (Rows.scriptBackSpec.pre6 enc Tryz.prog Tryz.f6 Rows.scriptBackRow.domain false) (Rows.scriptBackSpec.post enc Tryz.prog Tryz.f6 false true false false) := by
  refine returnsInHanded_of_change (C := Tryz.checked) own started (by kernel_rfl) Tryz.func6
    (ChangeSpec.witness6 (enc := enc) (C := Tryz.checked) false ⟨#[], #[.agg #[.int .i64 0, .int .i64 0, .int .u64 0], .slice none 0 0, .slice none 0 0], []⟩ 12 (by kernel_rfl) (by kernel_rfl) (by kernel_rfl) (by kernel_rfl)) ?_
  intro W base args ds gs before hval0 hW hcnd _
  have hval : ∀ (j : Nat) t v, Tryz.f6.params[j]? = some t → args[j]? = some v → Value.okWide Tryz.prog W .any base t v := hval0
  have hW' := hW
  obtain ⟨p, q, hA0, hV, rfl, hfz, hnd⟩ := hW
  have hA : DataW.TrodAll enc Tryz.prog W 0 (fun _ => true) true Tryz.f6.params.toList args.toList ds p := hA0
  rw [Tryz.params6] at hA hval
  obtain ⟨v0, vs0, d0, ds0, p0, q0, hargs, rfl, rfl, h0, r0⟩ := trodAll_cons hA
  obtain ⟨v1, vs1, d1, ds1, p1, q1, rfl, rfl, rfl, h1, r1⟩ := trodAll_cons r0
  obtain ⟨v2, vs2, d2, ds2, p2, q2, rfl, rfl, rfl, h2, r2⟩ := trodAll_cons r1
  obtain ⟨rfl, rfl, rfl⟩ := trodAll_nil r2
  obtain rfl : args = #[v0, v1, v2] := by cases args; simp_all
  obtain ⟨rfl, rfl⟩ := trodVars_none hV
  have k0 := h0
  have lt0 : ∀ x ∈ p0, x.block < W.heap.size := by obtain ⟨m, hm⟩ := k0; exact DataW.trod_lt m _ _ _ hm
  have k1 := h1
  have lt1 : ∀ x ∈ p1, x.block < W.heap.size := by obtain ⟨m, hm⟩ := k1; exact DataW.trod_lt m _ _ _ hm
  have k2 := h2
  have lt2 : ∀ x ∈ p2, x.block < W.heap.size := by obtain ⟨m, hm⟩ := k2; exact DataW.trod_lt m _ _ _ hm
  clear hA0 hval0
  refine (walkScriptBack W v0 v1 v2 (hval 0 28 v0 rfl rfl) (hval 1 38 v1 rfl rfl) (hval 2 22 v2 rfl rfl) h0 h1 h2).mono fun e W' ⟨he, bel⟩ => ?_
  subst he
  exact ⟨_, rfl, _, _, _, [], _, [], hW', trodAll_mk1 (shut_bool Tryz.underlying4 _), (trodAll_cons_mk (Below.trod laidOut (by kernel_rfl) (of_decide_eq_true (by kernel_rfl)) k0 bel lt0) (trodAll_cons_mk (Below.trod laidOut (by kernel_rfl) (of_decide_eq_true (by kernel_rfl)) k1 bel lt1) (trodAll_cons_mk (Below.trod laidOut (by kernel_rfl) (of_decide_eq_true (by kernel_rfl)) k2 bel lt2) trodAll_mk0))), rfl, bel.frame _, fun h => by cases h⟩
end Go.Proofs.YtmolaemlenllmaaGreat.scriptBack

