/- Proved here: what the law of this claim leans on (an evaluator of the model's code, contracts of functions). No condition. -/
import Derived.Test.YtmolaemlenllmaaGreatMd
import Derived.Test.YtmolaemlenllmaaGreatMc
import Derived.HandedShaped
import Derived.WalkKit
import Derived.ProofKit
import Derived.OpenShut
import Derived.ShutString
import Derived.ChangeOld
import Derived.Below
namespace Go.Proofs.YtmolaemlenllmaaGreat
open Go.RowKit
set_option linter.unusedSimpArgs false
set_option linter.unusedVariables false
set_option maxRecDepth 10000

def allGood (l : List Opx) : Bool := l.all fun o => decide o.good
theorem allGood_at {l : List Opx} (h : allGood l = true) : ∀ o ∈ l, o.good := fun o ho => of_decide_eq_true (List.all_eq_true.1 h o ho)
theorem allGood_mk {l : List Opx} (h : ∀ o ∈ l, o.good) : allGood l = true := List.all_eq_true.2 fun o ho => decide_eq_true (h o ho)
def sbytesS (z : Bool) : Spec := fun args S => match args with
  | [.ag [.i .i64 a, .i .i64 q, .i .u64 p], x] => match opsOf S x with
    | some l => if (Cfg.mk a q p).good ∧ allGood l = true ∧ l.length ≤ 900000 ∧ allSmall l = true then
        (if allR l then some (.tu [retX z S (scriptB ⟨a, q, p⟩ l), .i .i64 0], retM z byteE S (scriptB ⟨a, q, p⟩ l)) else some (.tu [.sn, .i .i64 221], S)) else none
    | none => none
  | _ => none
/-- What the bytes of a script are, as a call. -/
theorem sbytes_call {z : Bool} {S : Mem} {a q p : Int} {x : AV} {l : List Opx} (hl : opsOf S x = some l) (hc : (Cfg.mk a q p).good) (hg : ∀ o ∈ l, o.good) (hn : l.length ≤ 900000) (hs : allSmall l = true) :
    ∃ X M, sbytesS z [.ag [.i .i64 a, .i .i64 q, .i .u64 p], x] S = some (.tu [X, .i .i64 (if allR l then 0 else 221)], M) ∧ lstV byteE M X = some (if allR l then scriptB ⟨a, q, p⟩ l else []) ∧ S <+: M ∧ openQ M 1 X = true := by
  by_cases hr : allR l
  · refine ⟨retX z S (scriptB ⟨a, q, p⟩ l), retM z byteE S (scriptB ⟨a, q, p⟩ l), by simp only [sbytesS, hl]; rw [if_pos ⟨hc, allGood_mk hg, hn, hs⟩, if_pos hr, if_pos hr], by rw [if_pos hr]; exact retX_lst, retM_ext, ?_⟩
    have hne : scriptB ⟨a, q, p⟩ l ≠ [] := by unfold scriptB headN; intro h; exact lebs_nne (List.append_eq_nil_iff.1 h).1
    exact openS_Q ((retX_acc (z := z) (E := byteE) (S := S) (l := scriptB ⟨a, q, p⟩ l)).opens hne)
  · exact ⟨.sn, S, by simp only [sbytesS, hl]; rw [if_pos ⟨hc, allGood_mk hg, hn, hs⟩, if_neg hr, if_neg hr], by rw [if_neg hr]; rfl, ext_refl, rfl⟩
theorem codeL_take {l : List Opx} {k : Nat} (hk : k < l.length) : codeL (l.take k) ++ l[k].code = codeL (l.take (k + 1)) := by
  unfold codeL; rw [List.take_succ_eq_append_getElem hk, List.flatMap_append]; simp
theorem codeL_le {l : List Opx} (h : ∀ o ∈ l, o.good ∧ o.right) (k : Nat) : (codeL (l.take k)).length ≤ 2020 * l.length := by
  have := codeL_len (l := l.take k) fun o ho => h o (List.mem_of_mem_take ho)
  rw [List.length_take] at this
  have : 2020 * min k l.length ≤ 2020 * l.length := Nat.mul_le_mul_left _ (Nat.min_le_right _ _)
  omega
theorem oSb_ok : OK Tryz.prog (lamOf Tryz.prog) (orcOf [(20, allRS), (22, zigS), (21, lebsS false), (23, opBytesS)]) := orc_ok (by simpa using ⟨allR_ok, zig_ok, lebs_ok, opBytes_ok⟩)
theorem oRsb_ok : OK Tryz.prog (lamOf Tryz.prog) (orcOf [(28, allRS), (30, zigS), (29, lebsS true), (31, rOneS)]) := orc_ok (by simpa using ⟨rallR_ok, rzig_ok, rlebs_ok, rOne_ok⟩)
theorem sbytes_ok : SpecOK Tryz.prog 7 (sbytesS false) := by
  intro args S x S' h
  simp only [sbytesS] at h
  split at h
  · rename_i a q p s
    split at h
    · rename_i l hl
      split at h
      · rename_i hc
        obtain ⟨hcg, hgl, hlim, hsm⟩ := hc
        have hrc := fun L => allRS_eq (opsOf_grow hl L) hlim hsm
        refine fn_of_wp f7 rfl (W_sound oSb_ok mixed _ _ _ _ _ ?_)
        split at h
        rotate_left
        · rename_i hr
          cases h
          rw [decide_eq_false hr] at hrc
          simp (maxSteps := 1000000) (disch := omega) only [c7, orc_cons, hrc, Bool.not_false, go_sem]
          exact wkv_drop rfl
        rename_i hr
        cases h
        rw [decide_eq_true hr] at hrc
        have h400 := hr.1
        have hgr : ∀ o ∈ l, o.good ∧ o.right := fun o ho => ⟨allGood_at hgl o ho, hr.2 o ho⟩
        have z1 := zigS_eq hcg.1
        have z2 := zigS_eq hcg.2.1
        have wl : wrapV .u64 (l.length : Int) = l.length := wrap_u64 (by omega) (by omega)
        have hhu := head_u64 (c := ⟨a, q, p⟩) (n := (l.length : Int)) hcg ⟨by omega, by omega⟩
        have hhl : (lebs (headN ⟨a, q, p⟩ (l.length : Int))).length ≤ 40 := lebs_len hhu
        have hlit : lstV numE (S ++ [.cells [.i .i64 a, .i .i64 q, .i .u64 p] 0 none true, .cells [.i .u64 (zig a), .i .u64 (zig q), .i .u64 p, .i .u64 (l.length : Int)] 0 none true]) (.sl (S.length + 1) 0 0 4 4 true) = some (headN ⟨a, q, p⟩ (l.length : Int)) := lit_num rfl (by rw [at_app]; rfl)
        have hN := lebs_eq (z := false) hlit (by simp [headN]) hhu
        have hA0 : Acc false byteE S (retM false byteE (S ++ [.cells [.i .i64 a, .i .i64 q, .i .u64 p] 0 none true, .cells [.i .u64 (zig a), .i .u64 (zig q), .i .u64 p, .i .u64 (l.length : Int)] 0 none true]) (lebs (headN ⟨a, q, p⟩ (l.length : Int)))) (retX false (S ++ [.cells [.i .i64 a, .i .i64 q, .i .u64 p] 0 none true, .cells [.i .u64 (zig a), .i .u64 (zig q), .i .u64 p, .i .u64 (l.length : Int)] 0 none true]) (lebs (headN ⟨a, q, p⟩ (l.length : Int)))) (lebs (headN ⟨a, q, p⟩ (l.length : Int))) := (retX_acc (z := false) (E := byteE)).base (ext_app _)
        have hE0 : (S ++ [.cells [.i .i64 a, .i .i64 q, .i .u64 p] 0 none true, .cells [.i .u64 (zig a), .i .u64 (zig q), .i .u64 p, .i .u64 (l.length : Int)] 0 none true]) <+: retM false byteE (S ++ [.cells [.i .i64 a, .i .i64 q, .i .u64 p] 0 none true, .cells [.i .u64 (zig a), .i .u64 (zig q), .i .u64 p, .i .u64 (l.length : Int)] 0 none true]) (lebs (headN ⟨a, q, p⟩ (l.length : Int))) := retM_ext
        generalize retM false byteE (S ++ [.cells [.i .i64 a, .i .i64 q, .i .u64 p] 0 none true, .cells [.i .u64 (zig a), .i .u64 (zig q), .i .u64 p, .i .u64 (l.length : Int)] 0 none true]) (lebs (headN ⟨a, q, p⟩ (l.length : Int))) = M0 at hN hA0 hE0
        generalize retX false (S ++ [.cells [.i .i64 a, .i .i64 q, .i .u64 p] 0 none true, .cells [.i .u64 (zig a), .i .u64 (zig q), .i .u64 p, .i .u64 (l.length : Int)] 0 none true]) (lebs (headN ⟨a, q, p⟩ (l.length : Int))) = X0 at hN hA0
        simp (maxSteps := 1000000) (disch := omega) only [c7, orc_cons, hrc, Bool.not_true, z1, z2, opsOf_len hl, wl, List.replicate, hN, go_sem]
        refine wp_loop (fun j e M dl => dl = [] ∧ ∃ (k : Nat) (y : AV), j = l.length - k ∧ k ≤ l.length ∧ Acc false byteE S M y (lebs (headN ⟨a, q, p⟩ (l.length : Int)) ++ codeL (l.take k)) ∧
          e.get 25 = s ∧ e.get 26 = .i .i64 l.length ∧ e.get 27 = .i .i64 k ∧ e.get 6 = y) (j := l.length) ⟨rfl, 0, X0, rfl, Nat.zero_le _, by rw [List.take_zero]; show Acc _ _ _ _ _ (_ ++ []); rw [List.append_nil]; exact hA0, rfl, rfl, rfl, rfl⟩ ?_
        rintro j e M d' ⟨rfl, k, y, rfl, hk, hA, e25, e26, e27, e6⟩
        refine W_sound oSb_ok mixed _ _ _ _ _ ?_
        by_cases hkl : k < l.length
        · obtain ⟨bi, oo, v, cap, ex, qq, rfl, hrow, hq⟩ := opsOf_at (opsOf_ext hl hA.ext) hkl
          have hro := hrow []
          rw [List.append_nil] at hro
          have hkI : (k : Int) < l.length := by omega
          have hk6 : k < 1000000 := by omega
          have hg1 := hgr _ (List.getElem_mem hkl)
          have hcl := code_len hg1.1 hg1.2
          have hle := codeL_le hgr k
          obtain ⟨X2, M2, hcall, hX2, hM2⟩ := opBytes_call (opOf_grow (cells_of hq) [.cells qq.enc 0 none true]) hg1.1 hg1.2
          have hA2 := (hA.grow [.cells qq.enc 0 none true]).extM hM2
          obtain ⟨y2, M3, ha, hA3⟩ := hA2.apps (bytes := 1) byteE_one l[k].code (by rw [List.length_append]; omega) (by rw [List.length_append]; omega)
          rw [List.append_assoc, codeL_take hkl] at hA3
          have hs2 : srcV M2 1 X2 = some (l[k].code.flatMap byteE.enc, l[k].code.length) := src_lst hX2
          have h1 := qq.x.h
          have h2 := qq.y.h
          simp only [Oq.enc] at hro hcall hM2
          have ha : appV M2 1 1 y (l[k].code.flatMap byteE.enc) l[k].code.length = some (y2, M3) := ha
          simp (maxSteps := 1000000) (disch := omega) only [c7l1, e25, e26, e27, e6, hkI, Int.toNat_natCast, Nat.mul_one, hro, List.replicate, orc_cons, hcall, hs2, ha, wrapS hk6, h1, h2, go_sem]
          first
            | exact ⟨l.length - (k + 1), by omega, k + 1, y2, rfl, hkl, hA3, rfl, rfl⟩
            | exact ⟨hM2, l.length - (k + 1), by omega, k + 1, y2, rfl, hkl, hA3, rfl, rfl⟩
        · have hkI : ¬ (k : Int) < l.length := by omega
          rw [List.take_of_length_le (by omega)] at hA
          simp (maxSteps := 1000000) (disch := omega) only [c7l1, e25, e26, e27, e6, hkI, go_sem]
          exact hA.ret2 byteE_flat Flat_i
      · cases h
    · cases h
  · cases h
theorem rsbytes_ok : SpecOK Tryz.prog 14 (sbytesS true) := by
  intro args S x S' h
  simp only [sbytesS] at h
  split at h
  · rename_i a q p s
    split at h
    · rename_i l hl
      split at h
      · rename_i hc
        obtain ⟨hcg, hgl, hlim, hsm⟩ := hc
        have hrc := fun L => allRS_eq (opsOf_grow hl L) hlim hsm
        refine fn_of_wp f14 rfl (W_sound oRsb_ok mixed _ _ _ _ _ ?_)
        split at h
        rotate_left
        · rename_i hr
          cases h
          rw [decide_eq_false hr] at hrc
          simp (maxSteps := 1000000) (disch := omega) only [c14, orc_cons, hrc, Bool.not_false, go_sem]
          exact wkv_drop rfl
        rename_i hr
        cases h
        rw [decide_eq_true hr] at hrc
        have h400 := hr.1
        have hgr : ∀ o ∈ l, o.good ∧ o.right := fun o ho => ⟨allGood_at hgl o ho, hr.2 o ho⟩
        have z1 := zigS_eq hcg.1
        have z2 := zigS_eq hcg.2.1
        have wl : wrapV .u64 (l.length : Int) = l.length := wrap_u64 (by omega) (by omega)
        have hhu := head_u64 (c := ⟨a, q, p⟩) (n := (l.length : Int)) hcg ⟨by omega, by omega⟩
        have hhl : (lebs (headN ⟨a, q, p⟩ (l.length : Int))).length ≤ 40 := lebs_len hhu
        have hlit : lstV numE (S ++ [.cells [.i .i64 a, .i .i64 q, .i .u64 p] 0 none true, .cells [.i .u64 (zig a), .i .u64 (zig q), .i .u64 p, .i .u64 (l.length : Int)] 0 none true]) (.sl (S.length + 1) 0 0 4 4 true) = some (headN ⟨a, q, p⟩ (l.length : Int)) := lit_num rfl (by rw [at_app]; rfl)
        have hN := lebs_eq (z := true) hlit (by simp [headN]) hhu
        have hA0 : Acc true byteE S (retM true byteE (S ++ [.cells [.i .i64 a, .i .i64 q, .i .u64 p] 0 none true, .cells [.i .u64 (zig a), .i .u64 (zig q), .i .u64 p, .i .u64 (l.length : Int)] 0 none true]) (lebs (headN ⟨a, q, p⟩ (l.length : Int)))) (retX true (S ++ [.cells [.i .i64 a, .i .i64 q, .i .u64 p] 0 none true, .cells [.i .u64 (zig a), .i .u64 (zig q), .i .u64 p, .i .u64 (l.length : Int)] 0 none true]) (lebs (headN ⟨a, q, p⟩ (l.length : Int)))) (lebs (headN ⟨a, q, p⟩ (l.length : Int))) := (retX_acc (z := true) (E := byteE)).base (ext_app _)
        have hE0 : (S ++ [.cells [.i .i64 a, .i .i64 q, .i .u64 p] 0 none true, .cells [.i .u64 (zig a), .i .u64 (zig q), .i .u64 p, .i .u64 (l.length : Int)] 0 none true]) <+: retM true byteE (S ++ [.cells [.i .i64 a, .i .i64 q, .i .u64 p] 0 none true, .cells [.i .u64 (zig a), .i .u64 (zig q), .i .u64 p, .i .u64 (l.length : Int)] 0 none true]) (lebs (headN ⟨a, q, p⟩ (l.length : Int))) := retM_ext
        generalize retM true byteE (S ++ [.cells [.i .i64 a, .i .i64 q, .i .u64 p] 0 none true, .cells [.i .u64 (zig a), .i .u64 (zig q), .i .u64 p, .i .u64 (l.length : Int)] 0 none true]) (lebs (headN ⟨a, q, p⟩ (l.length : Int))) = M0 at hN hA0 hE0
        generalize retX true (S ++ [.cells [.i .i64 a, .i .i64 q, .i .u64 p] 0 none true, .cells [.i .u64 (zig a), .i .u64 (zig q), .i .u64 p, .i .u64 (l.length : Int)] 0 none true]) (lebs (headN ⟨a, q, p⟩ (l.length : Int))) = X0 at hN hA0
        simp (maxSteps := 1000000) (disch := omega) only [c14, orc_cons, hrc, Bool.not_true, z1, z2, opsOf_len hl, wl, List.replicate, hN, go_sem]
        refine wp_loop (fun j e M dl => dl = [] ∧ ∃ (k : Nat) (y : AV), j = l.length - k ∧ k ≤ l.length ∧ Acc true byteE S M y (lebs (headN ⟨a, q, p⟩ (l.length : Int)) ++ codeL (l.take k)) ∧
          e.get 25 = s ∧ e.get 26 = .i .i64 l.length ∧ e.get 27 = .i .i64 k ∧ e.get 6 = y) (j := l.length) ⟨rfl, 0, X0, rfl, Nat.zero_le _, by rw [List.take_zero]; show Acc _ _ _ _ _ (_ ++ []); rw [List.append_nil]; exact hA0, rfl, rfl, rfl, rfl⟩ ?_
        rintro j e M d' ⟨rfl, k, y, rfl, hk, hA, e25, e26, e27, e6⟩
        refine W_sound oRsb_ok mixed _ _ _ _ _ ?_
        by_cases hkl : k < l.length
        · obtain ⟨bi, oo, v, cap, ex, qq, rfl, hrow, hq⟩ := opsOf_at (opsOf_ext hl hA.ext) hkl
          have hro := hrow []
          rw [List.append_nil] at hro
          have hkI : (k : Int) < l.length := by omega
          have hk6 : k < 1000000 := by omega
          have hg1 := hgr _ (List.getElem_mem hkl)
          have hcl := code_len hg1.1 hg1.2
          have hle := codeL_le hgr k
          obtain ⟨X2, M2, hcall, hX2, hM2⟩ := rOne_call (opOf_grow (cells_of hq) [.cells qq.enc 0 none true]) hg1.1 hg1.2
          have hA2 := (hA.grow [.cells qq.enc 0 none true]).extM hM2
          obtain ⟨y2, M3, ha, hA3⟩ := hA2.apps (bytes := 1) byteE_one l[k].code (by rw [List.length_append]; omega) (by rw [List.length_append]; omega)
          rw [List.append_assoc, codeL_take hkl] at hA3
          have hs2 : srcV M2 1 X2 = some (l[k].code.flatMap byteE.enc, l[k].code.length) := src_lst hX2
          have h1 := qq.x.h
          have h2 := qq.y.h
          simp only [Oq.enc] at hro hcall hM2
          have ha : appV M2 1 1 y (l[k].code.flatMap byteE.enc) l[k].code.length = some (y2, M3) := ha
          simp (maxSteps := 1000000) (disch := omega) only [c14l1, e25, e26, e27, e6, hkI, Int.toNat_natCast, Nat.mul_one, hro, List.replicate, orc_cons, hcall, hs2, ha, wrapS hk6, h1, h2, go_sem]
          first
            | exact ⟨l.length - (k + 1), by omega, k + 1, y2, rfl, hkl, hA3, rfl, rfl⟩
            | exact ⟨hM2, l.length - (k + 1), by omega, k + 1, y2, rfl, hkl, hA3, rfl, rfl⟩
        · have hkI : ¬ (k : Int) < l.length := by omega
          rw [List.take_of_length_le (by omega)] at hA
          simp (maxSteps := 1000000) (disch := omega) only [c14l1, e25, e26, e27, e6, hkI, go_sem]
          exact hA.ret2 byteE_flat Flat_i
      · cases h
    · cases h
  · cases h

/-! ### Too great -/
theorem small_of {l : List Opx} (h : ∀ o ∈ l, o.bs.length ≤ 900000 ∧ o.ks.length ≤ 900000) : allSmall l = true := List.all_eq_true.2 fun o ho => decide_eq_true (h o ho)

/-! ### The same lists -/
def sameLS : Spec := fun args S => match args with
  | [x, y] => match opsOf S x, opsOf S y with
    | some l, some m => if l.length ≤ 900000 ∧ allSmall l = true ∧ allGood l = true ∧ allGood m = true then some (.b (decide (l = m)), S) else none
    | _, _ => none
  | _ => none
theorem sameLS_eq {S : Mem} {x y : AV} {l m : List Opx} (hl : opsOf S x = some l) (hm : opsOf S y = some m) (h1 : l.length ≤ 900000) (h2 : allSmall l = true) (h3 : ∀ o ∈ l, o.good) (h4 : ∀ o ∈ m, o.good) : sameLS [x, y] S = some (.b (decide (l = m)), S) := by
  simp only [sameLS, hl, hm]
  rw [if_pos ⟨h1, h2, allGood_mk h3, allGood_mk h4⟩]
theorem oSl_ok : OK Tryz.prog (lamOf Tryz.prog) (orcOf [(13, rsameS)]) := orc_ok (by simpa using rsame_ok)
theorem sameL_ok : SpecOK Tryz.prog 19 sameLS := by
  intro args S x S' h
  simp only [sameLS] at h
  split at h
  · rename_i s t
    split at h
    · rename_i l m hl hm
      split at h
      · rename_i hc
        obtain ⟨hlim, hsm, hgl, hgm⟩ := hc
        cases h
        refine fn_of_wp f19 rfl (W_sound oSl_ok mixed _ _ _ _ _ ?_)
        by_cases he : l.length = m.length
        rotate_left
        · have heI : ¬ (l.length : Int) = m.length := by omega
          simp (maxSteps := 1000000) (disch := omega) only [c19, opsOf_len hl, opsOf_len hm, heI, go_sem]
          exact wkv_fP ext_refl fun q => he (by rw [q])
        have heI : (l.length : Int) = m.length := by omega
        simp (maxSteps := 1000000) (disch := omega) only [c19, opsOf_len hl, opsOf_len hm, heI, go_sem]
        refine wp_loop (fun j e M dl => dl = [] ∧ ∃ k : Nat, j = l.length - k ∧ k ≤ l.length ∧ M = S ∧ (∀ i (hi : i < k) (h1 : i < l.length) (h2 : i < m.length), l[i] = m[i]) ∧
          e.get 0 = s ∧ e.get 1 = t ∧ e.get 12 = .i .i64 l.length ∧ e.get 13 = .i .i64 k) (j := l.length) ⟨rfl, 0, rfl, Nat.zero_le _, rfl, fun i hi => absurd hi (Nat.not_lt_zero _), rfl, rfl, by rw [heI]; rfl, rfl⟩ ?_
        rintro j e M d' ⟨rfl, k, rfl, hk, rfl, hn, h0, h1, h12, h13⟩
        refine W_sound oSl_ok mixed _ _ _ _ _ ?_
        by_cases hkl : k < l.length
        · have hkm : k < m.length := by omega
          obtain ⟨bi, o, v, cap, ex, q, rfl, hrow, hq⟩ := opsOf_at hl hkl
          obtain ⟨bj, o2, v2, cap2, ex2, q2, rfl, hrow2, hq2⟩ := opsOf_at hm hkm
          have hkI : (k : Int) < l.length := by omega
          have hkJ : (k : Int) < m.length := by omega
          have hk6 : k < 1000000 := by omega
          have ha := hrow []
          have hb := hrow2 []
          rw [List.append_nil] at ha hb
          have hcall := rsameS_eq (cells_of hq) (cells_of hq2) (allSmall_at hsm hkl).1 (allSmall_at hsm hkl).2 (allGood_at hgl _ (List.getElem_mem hkl)).2.2.2.2.1 (allGood_at hgm _ (List.getElem_mem hkm)).2.2.2.2.1
          by_cases hd : l[k] = m[k]
          · rw [decide_eq_true hd] at hcall
            simp (maxSteps := 1000000) (disch := omega) only [c19l1, h0, h1, h12, h13, hkI, hkJ, Int.toNat_natCast, ha, hb, orc_cons, hcall, Bool.not_true, wrapS hk6, go_sem]
            refine ⟨l.length - (k + 1), by omega, k + 1, rfl, hkl, fun i hi h1 h2 => ?_, rfl⟩
            by_cases hik : i = k
            · subst hik; exact hd
            · exact hn i (by omega) h1 h2
          · rw [decide_eq_false hd] at hcall
            simp (maxSteps := 1000000) (disch := omega) only [c19l1, h0, h1, h12, h13, hkI, hkJ, Int.toNat_natCast, ha, hb, orc_cons, hcall, Bool.not_false, go_sem]
            exact wkv_fP ext_refl fun q => hd (by subst q; rfl)
        · have hkI : ¬ (k : Int) < l.length := by omega
          simp (maxSteps := 1000000) (disch := omega) only [c19l1, h0, h1, h12, h13, hkI, go_sem]
          exact wkv_tP ext_refl (List.ext_getElem he fun i h1 h2 => hn i (by omega) h1 h2)
      · cases h
    · cases h
  · cases h
end Go.Proofs.YtmolaemlenllmaaGreat

namespace Go.Proofs.YtmolaemlenllmaaGreat
open Go.RowKit
set_option linter.unusedSimpArgs false
set_option linter.unusedVariables false
set_option maxRecDepth 10000

section
variable {α : Type} {E : Enc α} {S M : Mem} {z : Bool}
end

def aliveS : Spec := fun args S => match args with
  | [] => some (.b true, S)
  | _ => none
end Go.Proofs.YtmolaemlenllmaaGreat

namespace Go.Proofs.YtmolaemlenllmaaGreat
open Go.RowKit
set_option maxRecDepth 100000
theorem alive_ok : SpecOK Tryz.prog 10 aliveS := by
  intro args S x S' h
  unfold aliveS at h
  split at h
  · cases h
    exact fnOK_of_below (by kernel_rfl) alive S
  · cases h
end Go.Proofs.YtmolaemlenllmaaGreat

namespace Go.Proofs.YtmolaemlenllmaaGreat
open Go.RowKit
set_option linter.unusedVariables false
set_option maxRecDepth 100000

section
variable {H : Type} {enc : TypeId × Value → H} {W : World}

theorem wf_u8 {n : Int} (h : (Lit.int .u8 n).wf = true) : u8 n := by
  simp only [Lit.wf, IntKind.min, IntKind.max, IntKind.signed, IntKind.bits, Bool.and_eq_true] at h
  unfold u8
  simpa using h
theorem enc_inj {α : Type} {E : Enc α} {a b : α} (h : E.enc a = E.enc b) : a = b := by
  have h1 := E.de a
  rw [h, E.de] at h1
  injection h1 with h1; exact h1.symm

end
end Go.Proofs.YtmolaemlenllmaaGreat

namespace Go.Proofs.YtmolaemlenllmaaGreat
open Go.RowKit
set_option linter.unusedVariables false
set_option linter.unusedSimpArgs false
set_option maxRecDepth 100000

section
variable {H : Type} {enc : TypeId × Value → H} {P : Program} {w : World}
end
end Go.Proofs.YtmolaemlenllmaaGreat

namespace Go.Proofs.YtmolaemlenllmaaGreat
open Go.RowKit
set_option linter.unusedVariables false
set_option linter.unusedSimpArgs false
set_option maxRecDepth 100000

section
variable {H : Type} {enc : TypeId × Value → H} {W : World}
theorem cellBytes {v : Value} (h : CellIs enc Tryz.prog W (.slice 5) v) : ∃ l : List Int, lstV byteE (absS W) (absV W v) = some l ∧ ∀ x ∈ l, u8 x := by
  have s2 : shapes Tryz.prog 20 5 = some [.int .u8] := by kernel_rfl
  have c2 : Tryz.prog.cellsOf 5 = 1 := by kernel_rfl
  have row : ∀ cs : List Value, RowIs enc Tryz.prog W [.int .u8] cs → ∃ a : Int, cs.map (absV W) = [AV.i .u8 a] ∧ u8 a := fun cs h => by
    obtain ⟨h1, h2⟩ := h
    match cs, h1 with
    | [x], _ =>
      obtain ⟨a, rfl, w⟩ := h2 0 (by simp) (by simp)
      exact ⟨a, rfl, wf_u8 w⟩
  obtain ⟨l, hl, hf, _⟩ := lst_of (e := fun n => [AV.i .u8 n]) (sz := 1) c2 (by omega) h (fun cs fuel x ht => let ⟨a, h1, h2⟩ := row _ (shapes_ok 20 fuel 5 cs x _ ht s2); ⟨a, h1, rfl⟩)
    (good := u8) (fun cs fuel x a ht he => let ⟨a', h1, h2⟩ := row _ (shapes_ok 20 fuel 5 cs x _ ht s2); enc_inj (E := intE .u8) (h1.symm.trans he) ▸ h2)
  exact ⟨l, lst_lstV (E := intE .u8) hl, hf⟩
theorem cellOpen {e : TypeId} {n : Nat} {v : Value} (h : CellIs enc Tryz.prog W (.slice e) v) : openQ (absS W) n (absV W v) = true := by
  rcases h with rfl | ⟨a, len, cap, rfl, hl, _, _⟩
  · rfl
  · obtain ⟨b, o, sp⟩ := a
    simp only [absV]
    split
    · rfl
    · cases numOf W b with
      | none => rfl
      | some i => cases sp with
        | none => simp [openQ, hl]
        | some q => rfl
def Oq.ok (S : Mem) (a : Oq) : Prop := ∃ o, a.val S = some o ∧ o.good
theorem argBytes {v : Value} {base : Nat} {d : DataW H} {ps : List MemPlace} (o : Value.okWide Tryz.prog W .any base 22 v) (h : DataW.Trod enc Tryz.prog W 0 (fun _ => true) true 22 v d ps) :
    ∃ l, lstV byteE (absS W) (absA W v) = some l ∧ (∀ c ∈ l, u8 c) ∧ openQ (absS W) 1 (absA W v) = true := by
  have s0 : shapes Tryz.prog 20 22 = some [.slice 5] := by kernel_rfl
  have hv : v.cells.toList = [v] ∧ absA W v = absV W v := by
    cases v with
    | agg cs =>
      unfold Value.okWide at o
      rw [Tryz.underlying22] at o
      unfold Cell.okWide at o
      rw [Tryz.underlying22] at o
      unfold Cell.ok at o
      rw [Tryz.underlying22] at o
      simp at o
    | _ => exact ⟨rfl, rfl⟩
  obtain ⟨h1, h2⟩ := arg_row h s0
  rw [hv.1] at h1 h2
  have hc := h2 0 (by simp) (by simp)
  simp only [List.getElem_cons_zero] at hc
  rw [hv.2]
  obtain ⟨l, hl, hu⟩ := cellBytes hc
  exact ⟨l, hl, hu, cellOpen hc⟩
end
end Go.Proofs.YtmolaemlenllmaaGreat

namespace Go.Proofs.YtmolaemlenllmaaGreat
open Go.RowKit
set_option linter.unusedSimpArgs false
set_option linter.unusedVariables false
set_option maxRecDepth 10000

def srcB (x : AV) (bad : Bool) : Blk := .cells [x, .b bad] 0 none true
/-- A source lies at i: what is left is the slice x, laid before it. -/
structure Src (S : Mem) (i : Nat) (x : AV) (s : St) : Prop where
  blk : S[i]? = some (srcB x s.2)
  lst : lstV byteE (S.take i) x = some s.1
  opn : openQ (S.take i) 1 x = true
  ok : s.ok
section
variable {S : Mem} {i : Nat} {x : AV} {s : St}
theorem Src.lt (h : Src S i x s) : i < S.length := (List.getElem?_eq_some_iff.1 h.blk).1
theorem Src.pre (h : Src S i x s) : S.take i <+: S := List.take_prefix i S
theorem Src.lstS (h : Src S i x s) : lstV byteE S x = some s.1 := lst_ext h.lst h.pre
theorem Src.opnS (h : Src S i x s) : openQ S 1 x = true := openQ_ext h.opn h.pre
theorem Src.grow (h : Src S i x s) (L : Mem) : Src (S ++ L) i x s := by
  have := h.lt
  have e : (S ++ L).take i = S.take i := List.take_append_of_le_length (by omega)
  exact ⟨at_old h.blk, by rw [e]; exact h.lst, by rw [e]; exact h.opn, h.ok⟩
theorem take_set {B : Blk} : (S.set i B).take i = S.take i := by rw [List.take_set, List.set_eq_of_length_le (by rw [List.length_take]; omega)]
theorem Src.set (hi : i < S.length) {x' : AV} {s' : St} (h1 : lstV byteE (S.take i) x' = some s'.1) (h2 : openQ (S.take i) 1 x' = true) (h3 : s'.ok) : Src (S.set i (srcB x' s'.2)) i x' s' :=
  ⟨by rw [List.getElem?_set_self hi], by rw [take_set]; exact h1, by rw [take_set]; exact h2, h3⟩
theorem Src.one (h : Src S i x s) : x.one = true := lst_one h.lst
theorem Src.cells (h : Src S i x s) : x.cells = some [x] := lst_cells h.lst
theorem Src.inj {x2 : AV} {s2 : St} (h : Src S i x s) (h2 : Src S i x2 s2) : x = x2 ∧ s = s2 := by
  have e := h.blk.symm.trans h2.blk
  simp only [srcB, Option.some.injEq, Blk.cells.injEq, List.cons.injEq, AV.b.injEq] at e
  obtain ⟨⟨rfl, e2, _⟩, _⟩ := e
  have e1 := h.lst.symm.trans h2.lst
  injection e1 with e1
  exact ⟨rfl, Prod.ext e1 e2⟩
end
section
variable {S L : Mem} {i k : Nat} {B B' : Blk}
theorem sa_at : (S.set i B ++ L)[S.length + k]? = L[k]? := by rw [List.getElem?_append_right (by rw [List.length_set]; omega), List.length_set]; congr 1; omega
theorem sa_at0 : (S.set i B ++ L)[S.length]? = L[0]? := sa_at (k := 0)
theorem sa_set : (S.set i B ++ L).set (S.length + k) B' = S.set i B ++ L.set k B' := by
  rw [List.set_append_right _ _ (by rw [List.length_set]; omega), List.length_set]; congr 2; omega
theorem sa_set0 : (S.set i B ++ L).set S.length B' = S.set i B ++ L.set 0 B' := sa_set (k := 0)
end
/-- What reading answers, and the source behind it. -/
def RdR (i : Nat) (S : Mem) (v : AV) (s' : St) (y : AV) (S' : Mem) : Prop := y = v ∧ ∃ x', S' = S.set i (srcB x' s'.2) ∧ Src S' i x' s'
noncomputable def rd1S (f : FuncId) (val : St → AV) (nx : St → St) : Spec := relS Tryz.prog f (fun args S y S' => ∀ i x s, args = [.p i 0 0] → Src S i x s → RdR i S (val s) (nx s) y S')
noncomputable def rd2S (f : FuncId) (val : Int → St → AV) (nx : Int → St → St) : Spec := relS Tryz.prog f (fun args S y S' => ∀ i x s m, args = [.p i 0 0, .i .i64 m] → Src S i x s → RdR i S (val m s) (nx m s) y S')
theorem rd1_call {f : FuncId} {val : St → AV} {nx : St → St} (hf : ∀ S i x s, Src S i x s → ∃ x', FnOK Tryz.prog f [.p i 0 0] S (val s) (S.set i (srcB x' (nx s).2)) ∧ Src (S.set i (srcB x' (nx s).2)) i x' (nx s)) {S : Mem} {i : Nat} {x : AV} {s : St} (h : Src S i x s) (L : Mem) :
    ∃ x', rd1S f val nx [.p i 0 0] (S ++ L) = some (val s, S.set i (srcB x' (nx s).2) ++ L) ∧ Src (S.set i (srcB x' (nx s).2)) i x' (nx s) := by
  have hL := h.grow L
  obtain ⟨x1, h1, h2⟩ := hf (S ++ L) i x s hL
  obtain ⟨y, S2, g1, g2⟩ := relS_eq (R := fun args S y S' => ∀ i x s, args = [.p i 0 0] → Src S i x s → RdR i S (val s) (nx s) y S') h1 (fun i' x' s' e hs => by
    injection e with e _
    injection e with e
    subst e
    obtain ⟨rfl, rfl⟩ := hL.inj hs
    exact ⟨rfl, x1, rfl, h2⟩)
  obtain ⟨rfl, x', rfl, g3⟩ := g2 i x s rfl hL
  have hi := h.lt
  have e : (S ++ L).set i (srcB x' (nx s).2) = S.set i (srcB x' (nx s).2) ++ L := List.set_append_left _ _ hi
  rw [e] at g1 g3
  refine ⟨x', g1, ⟨?_, ?_, ?_, g3.ok⟩⟩
  · rw [List.getElem?_set_self hi]
  · have := g3.lst
    rwa [List.take_append_of_le_length (by rw [List.length_set]; omega)] at this
  · have := g3.opn
    rwa [List.take_append_of_le_length (by rw [List.length_set]; omega)] at this
theorem rd2_call {f : FuncId} {val : Int → St → AV} {nx : Int → St → St} {m : Int} (hf : ∀ S i x s, Src S i x s → ∃ x', FnOK Tryz.prog f [.p i 0 0, .i .i64 m] S (val m s) (S.set i (srcB x' (nx m s).2)) ∧ Src (S.set i (srcB x' (nx m s).2)) i x' (nx m s)) {S : Mem} {i : Nat} {x : AV} {s : St} (h : Src S i x s) (L : Mem) :
    ∃ x', rd2S f val nx [.p i 0 0, .i .i64 m] (S ++ L) = some (val m s, S.set i (srcB x' (nx m s).2) ++ L) ∧ Src (S.set i (srcB x' (nx m s).2)) i x' (nx m s) := by
  have hL := h.grow L
  obtain ⟨x1, h1, h2⟩ := hf (S ++ L) i x s hL
  obtain ⟨y, S2, g1, g2⟩ := relS_eq (R := fun args S y S' => ∀ i x s m, args = [.p i 0 0, .i .i64 m] → Src S i x s → RdR i S (val m s) (nx m s) y S') h1 (fun i' x' s' m' e hs => by
    simp only [List.cons.injEq, AV.p.injEq, AV.i.injEq, and_true, true_and] at e
    obtain ⟨rfl, rfl⟩ := e
    obtain ⟨rfl, rfl⟩ := hL.inj hs
    exact ⟨rfl, x1, rfl, h2⟩)
  obtain ⟨rfl, x', rfl, g3⟩ := g2 i x s m rfl hL
  have hi := h.lt
  have e : (S ++ L).set i (srcB x' (nx m s).2) = S.set i (srcB x' (nx m s).2) ++ L := List.set_append_left _ _ hi
  rw [e] at g1 g3
  refine ⟨x', g1, ⟨?_, ?_, ?_, g3.ok⟩⟩
  · rw [List.getElem?_set_self hi]
  · have := g3.lst
    rwa [List.take_append_of_le_length (by rw [List.length_set]; omega)] at this
  · have := g3.opn
    rwa [List.take_append_of_le_length (by rw [List.length_set]; omega)] at this
theorem oNum_ok : OK Tryz.prog (lamOf Tryz.prog) (orcOf [(59, getS)]) := orc_ok (by simpa using get_ok)
theorem num_fn (S : Mem) (i : Nat) (x : AV) (s : St) (h : Src S i x s) : ∃ x', FnOK Tryz.prog 33 [.p i 0 0] S (.i .u64 (numF s).1) (S.set i (srcB x' (numF s).2.2)) ∧ Src (S.set i (srcB x' (numF s).2.2)) i x' (numF s).2 := by
  have hget := getS_eq h.lstS h.opnS h.ok.2 h.ok.1
  have hi := h.lt
  have hB := h.blk
  have hc := h.cells
  have ho := h.one
  obtain ⟨b1, b2, b3, b4, b5, b6⟩ := old_at hB
  unfold srcB at hB
  cases hg : getL s.1 with
  | none =>
    rw [hg] at hget
    simp only [got] at hget
    have hn : numF s = (0, ([], true)) := by simp only [numF, hg]
    rw [hn]
    refine ⟨.sn, ?_, Src.set hi rfl rfl St.ok.nil⟩
    refine fn_of_wp f33 rfl (W_sound oNum_ok mixed _ _ _ _ _ ?_)
    simp only [srcB] at b1 ⊢
    simp (maxSteps := 1000000) (disch := omega) only [c33, hB, orc_cons, hget, b3, b6, hc, ho, go_sem]
    exact wkv_same
  | some q =>
    obtain ⟨n, k⟩ := q
    rw [hg] at hget
    simp only [got] at hget
    have hn : numF s = (n, (s.1.drop k, s.2)) := by simp only [numF, hg]
    rw [hn]
    obtain ⟨_, _, _, hk0, hk1⟩ := getL_some h.ok.2 hg
    obtain ⟨x', hs, hl', ho'⟩ := drop_lst h.lst h.opn (q := .i64) hk1
    have hs' : sliceV S 1 x (some (.i .i64 (k : Int))) none none = some x' := by
      obtain ⟨T, hT⟩ := h.pre
      rw [← hT]; exact sliceV_grow T hs
    have ho1 := lst_one hl'
    have hc1 := lst_cells hl'
    refine ⟨x', ?_, Src.set hi hl' ho' (h.ok.drop k)⟩
    refine fn_of_wp f33 rfl (W_sound oNum_ok mixed _ _ _ _ _ ?_)
    simp only [srcB] at b1 ⊢
    simp (maxSteps := 1000000) (disch := omega) only [c33, hB, orc_cons, hget, b3, b6, hc, ho, hs', ho1, hc1, go_sem]
    exact wkv_same
noncomputable def numPS : Spec := rd1S 33 (fun s => .i .u64 (numF s).1) (fun s => (numF s).2)
theorem numP_ok : SpecOK Tryz.prog 33 numPS := by unfold numPS rd1S; exact relS_ok
/-! ### The next int -/
theorem and1 {cst : Bool} {a : Int} (h : u64 a) : binV .int cst .and (.i .u64 a) (.i .u64 1) = some (.i .u64 (a % 2)) := by
  unfold u64 at h
  obtain ⟨n, rfl⟩ := Int.eq_ofNat_of_zero_le h.1
  rw [bin_i rfl]
  have e1 : (BitVec.ofInt IntKind.u64.bits (n : Int)).toNat = n := by show (BitVec.ofInt 64 (n : Int)).toNat = n; simp [BitVec.toNat_ofInt]; omega
  have e2 : (BitVec.ofInt IntKind.u64.bits 1).toNat = 1 := rfl
  have e3 : Nat.land n 1 = n % 2 := Nat.and_one_is_mod n
  simp only [intV, bitsV, e1, e2, e3, Option.map_some]
  have : ((n % 2 : Nat) : Int) = (n : Int) % 2 := by omega
  rw [this, wrap_u64 (by omega) (by omega)]
theorem xori {cst : Bool} {a b : Int} : binV .int cst .xor (.i .i64 a) (.i .i64 b) = some (.i .i64 (wrapV .i64 ((Nat.xor (BitVec.ofInt 64 a).toNat (BitVec.ofInt 64 b).toNat : Nat) : Int))) := by
  rw [bin_i rfl]; rfl
theorem xori_0 {cst : Bool} {a : Int} (h0 : 0 ≤ a) (h1 : a ≤ 9223372036854775807) : binV .int cst .xor (.i .i64 a) (.i .i64 0) = some (.i .i64 a) := by
  obtain ⟨n, rfl⟩ := Int.eq_ofNat_of_zero_le h0
  have e1 : (BitVec.ofInt 64 (n : Int)).toNat = n := by simp [BitVec.toNat_ofInt]; omega
  have e2 : (BitVec.ofInt 64 0).toNat = 0 := rfl
  have e3 : Nat.xor n 0 = n := Nat.xor_zero n
  rw [xori, e1, e2, e3, wrap_i64 (by omega) (by omega)]
theorem xori_1 {cst : Bool} {a : Int} (h0 : 0 ≤ a) (h1 : a ≤ 9223372036854775807) : binV .int cst .xor (.i .i64 a) (.i .i64 (-1)) = some (.i .i64 (-1 - a)) := by
  obtain ⟨n, rfl⟩ := Int.eq_ofNat_of_zero_le h0
  have e1 : (BitVec.ofInt 64 (n : Int)).toNat = n := by simp [BitVec.toNat_ofInt]; omega
  have e2 : (BitVec.ofInt 64 (-1)).toNat = 18446744073709551615 := rfl
  have e3 : Nat.xor n 18446744073709551615 = 18446744073709551615 - n := by
    have h1 : (BitVec.ofNat 64 n ^^^ BitVec.allOnes 64).toNat = (~~~ (BitVec.ofNat 64 n)).toNat := by rw [BitVec.xor_allOnes]
    rw [BitVec.toNat_xor, BitVec.toNat_not, BitVec.toNat_ofNat, BitVec.toNat_allOnes] at h1
    rw [show n % 2 ^ 64 = n from Nat.mod_eq_of_lt (by omega)] at h1
    exact h1
  rw [xori, e1, e2, e3]
  have hc : ((18446744073709551615 - n : Nat) : Int) = 18446744073709551615 - (n : Int) := by omega
  rw [hc]
  have : wrapV .i64 (18446744073709551615 - (n : Int)) = -1 - n := by
    show (18446744073709551615 - (n : Int) + 9223372036854775808) % 18446744073709551616 - 9223372036854775808 = _
    omega
  rw [this]
def zagS : Spec := fun args S => match args with
  | [.i .u64 n] => if u64 n then some (.i .i64 (zag n), S) else none
  | _ => none
theorem zagS_eq {n : Int} (h : u64 n) (S : Mem) : zagS [.i .u64 n] S = some (.i .i64 (zag n), S) := by simp only [zagS, if_pos h]
theorem shr_u1 {n : Int} : shiftV .shr .u64 n 1 = some (.i .u64 (n / 2)) := by
  simp only [shiftV, IntKind.bits]
  rw [if_neg (by omega), Int.fdiv_eq_ediv_of_nonneg _ (Int.natCast_nonneg _)]; rfl
theorem zag_ok : SpecOK Tryz.prog 58 zagS := by
  intro args S x S' h
  simp only [zagS] at h
  split at h
  · rename_i n
    split at h
    · rename_i hn
      cases h
      have ha := fun cst => and1 (cst := cst) hn
      have hx0 := fun cst => xori_0 (cst := cst) (a := n / 2) (by unfold u64 at hn; omega) (by unfold u64 at hn; omega)
      have hx1 := fun cst => xori_1 (cst := cst) (a := n / 2) (by unfold u64 at hn; omega) (by unfold u64 at hn; omega)
      unfold u64 at hn
      have w1 : wrapV .i64 (n / 2) = n / 2 := wrap_i64 (by omega) (by omega)
      refine fn_of_wp f58 rfl (W_sound none_ok mixed _ _ _ _ _ ?_)
      unfold zag
      by_cases h1 : n % 2 = 1
      · rw [if_pos h1]
        rw [h1] at ha
        have w2 : wrapV .i64 (1 : Int) = 1 := rfl
        have w3 : wrapV .i64 (-1 : Int) = -1 := rfl
        simp (maxSteps := 1000000) (disch := omega) only [c58, shr_u1, w1, ha, w2, w3, hx1, go_sem]
        exact wkv_same
      · rw [if_neg h1]
        have h0 : n % 2 = 0 := by omega
        rw [h0] at ha
        have w2 : wrapV .i64 (0 : Int) = 0 := rfl
        simp (maxSteps := 1000000) (disch := omega) only [c58, shr_u1, w1, ha, w2, hx0, Int.neg_zero, go_sem]
        exact wkv_same
    · cases h
  · cases h
theorem rzag_ok : SpecOK Tryz.prog 36 zagS := by
  intro args S x S' h
  simp only [zagS] at h
  split at h
  · rename_i n
    split at h
    · rename_i hn
      cases h
      unfold u64 at hn
      have w1 : wrapV .i64 (n / 2) = n / 2 := wrap_i64 (by omega) (by omega)
      have w2 : wrapV .i64 (-1 - n / 2) = -1 - n / 2 := wrap_i64 (by omega) (by omega)
      have hr : ∀ cst, binV .int cst .rem (.i .u64 n) (.i .u64 2) = some (.i .u64 (n % 2)) := fun cst => bin_rem_pos hn.1 (by omega)
      refine fn_of_wp f36 rfl (W_sound none_ok mixed _ _ _ _ _ ?_)
      unfold zag
      by_cases h1 : n % 2 = 1
      · rw [if_pos h1]
        simp (maxSteps := 1000000) (disch := omega) only [c36, hr, h1, w1, w2, go_sem]
        exact wkv_same
      · rw [if_neg h1]
        simp (maxSteps := 1000000) (disch := omega) only [c36, hr, h1, w1, w2, go_sem]
        exact wkv_same
    · cases h
  · cases h
noncomputable def zagPS : Spec := rd1S 32 (fun s => .i .i64 (zag (numF s).1)) (fun s => (numF s).2)
theorem zagP_ok : SpecOK Tryz.prog 32 zagPS := by unfold zagPS rd1S; exact relS_ok
theorem oZag_ok : OK Tryz.prog (lamOf Tryz.prog) (orcOf [(33, numPS), (58, zagS)]) := orc_ok (by simpa using ⟨numP_ok, zag_ok⟩)
theorem app_nil (S : Mem) : S ++ ([] : Mem) = S := List.append_nil S
theorem zag_fn (S : Mem) (i : Nat) (x : AV) (s : St) (h : Src S i x s) : ∃ x', FnOK Tryz.prog 32 [.p i 0 0] S (.i .i64 (zag (numF s).1)) (S.set i (srcB x' (numF s).2.2)) ∧ Src (S.set i (srcB x' (numF s).2.2)) i x' (numF s).2 := by
  obtain ⟨x', h1, h2⟩ := rd1_call num_fn h []
  have hz := zagS_eq (numF_ok h.ok).1
  rw [app_nil, app_nil] at h1
  have h1 : numPS [.p i 0 0] S = some (.i .u64 (numF s).1, S.set i (srcB x' (numF s).2.2)) := h1
  refine ⟨x', ?_, h2⟩
  refine fn_of_wp f32 rfl (W_sound oZag_ok mixed _ _ _ _ _ ?_)
  simp (maxSteps := 1000000) (disch := omega) only [c32, orc_cons, h1, hz, go_sem]
  exact wkv_same

/-! ### How many come -/
def satS : Spec := fun args S => match args with
  | [.i .u64 n] => if u64 n then (if n ≤ 9223372036854775807 then some (.tu [.i .i64 n, .b true], S) else some (.tu [.i .i64 0, .b false], S)) else none
  | _ => none
theorem sat_ok : SpecOK Tryz.prog 60 satS := by
  intro args S x S' h
  simp only [satS] at h
  split at h
  · rename_i n
    split at h
    · rename_i hn
      obtain ⟨h0, h1⟩ := hn
      refine fn_of_wp f60 rfl (W_sound none_ok mixed _ _ _ _ _ ?_)
      split at h
      · rename_i hc
        cases h
        have hc' : ¬ (9223372036854775807 : Int) < n := by omega
        simp (maxSteps := 1000000) (disch := omega) only [c60, hc', wrap_i64, go_sem]
        exact wkv_same
      · rename_i hc
        cases h
        have hc' : (9223372036854775807 : Int) < n := by omega
        simp (maxSteps := 1000000) (disch := omega) only [c60, hc', go_sem]
        exact wkv_same
    · cases h
  · cases h

noncomputable def manyPS : Spec := rd2S 34 (fun m s => .i .i64 (manyF m s).1) (fun m s => (manyF m s).2)
theorem manyP_ok : SpecOK Tryz.prog 34 manyPS := by unfold manyPS rd2S; exact relS_ok
theorem oMany_ok : OK Tryz.prog (lamOf Tryz.prog) (orcOf [(33, numPS), (60, satS)]) := orc_ok (by simpa using ⟨numP_ok, sat_ok⟩)
theorem many_fn {m : Int} (hm : 0 ≤ m ∧ m ≤ 9223372036854775807) (S : Mem) (i : Nat) (x : AV) (s : St) (h : Src S i x s) : ∃ x', FnOK Tryz.prog 34 [.p i 0 0, .i .i64 m] S (.i .i64 (manyF m s).1) (S.set i (srcB x' (manyF m s).2.2)) ∧ Src (S.set i (srcB x' (manyF m s).2.2)) i x' (manyF m s).2 := by
  obtain ⟨x', h1, h2⟩ := rd1_call num_fn h []
  have hu := (numF_ok h.ok).1
  rw [app_nil, app_nil] at h1
  have h1 : numPS [.p i 0 0] S = some (.i .u64 (numF s).1, S.set i (srcB x' (numF s).2.2)) := h1
  have hi := h.lt
  by_cases hc : (numF s).1 ≤ m
  · have hmf : manyF m s = numF s := by unfold manyF; rw [if_pos hc]
    have hsat : ∀ M, satS [.i .u64 (numF s).1] M = some (.tu [.i .i64 (numF s).1, .b true], M) := fun M => by simp only [satS]; rw [if_pos hu, if_pos (by omega)]
    have hng : ¬ m < (numF s).1 := by omega
    rw [hmf]
    refine ⟨x', ?_, h2⟩
    refine fn_of_wp f34 rfl (W_sound oMany_ok mixed _ _ _ _ _ ?_)
    simp (maxSteps := 1000000) (disch := omega) only [c34, orc_cons, h1, hsat, Bool.not_true, hng, go_sem]
    exact wkv_same
  · have hmf : manyF m s = (0, ((numF s).2.1, true)) := by unfold manyF; rw [if_neg hc]
    rw [hmf]
    have hsrc : Src (S.set i (srcB x' true)) i x' ((numF s).2.1, true) := by
      have := h2.lst
      have h3 := h2.opn
      rw [take_set] at this h3
      exact Src.set (s' := ((numF s).2.1, true)) hi this h3 h2.ok
    refine ⟨x', ?_, hsrc⟩
    have hB2 := h2.blk
    have hB3 := hsrc.blk
    have hss : ∀ B', (S.set i (srcB x' (numF s).2.2)).set i B' = S.set i B' := fun B' => List.set_set ..
    have ho := h2.one
    have hcc := h2.cells
    unfold srcB at h1 hB2 hB3 hss
    unfold srcB
    refine fn_of_wp f34 rfl (W_sound oMany_ok mixed _ _ _ _ _ ?_)
    by_cases hbig : (numF s).1 ≤ 9223372036854775807
    · have hsat : ∀ M, satS [.i .u64 (numF s).1] M = some (.tu [.i .i64 (numF s).1, .b true], M) := fun M => by simp only [satS]; rw [if_pos hu, if_pos hbig]
      have hng : m < (numF s).1 := by omega
      simp (maxSteps := 1000000) (disch := omega) only [c34, orc_cons, h1, hsat, Bool.not_true, hng, hB2, hss, ho, hcc, go_sem]
      exact wkv_same
    · have hsat : ∀ M, satS [.i .u64 (numF s).1] M = some (.tu [.i .i64 0, .b false], M) := fun M => by simp only [satS]; rw [if_pos hu, if_neg hbig]
      simp (maxSteps := 1000000) (disch := omega) only [c34, orc_cons, h1, hsat, Bool.not_false, hB2, hss, ho, hcc, go_sem]
      exact wkv_same
end Go.Proofs.YtmolaemlenllmaaGreat

namespace Go.Proofs.YtmolaemlenllmaaGreat
open Go.RowKit
set_option linter.unusedSimpArgs false
set_option linter.unusedVariables false
set_option maxRecDepth 10000

noncomputable def polPS : Spec := rd1S 62 (fun s => .ag (polF s).1.enc) (fun s => (polF s).2)
theorem polP_ok : SpecOK Tryz.prog 62 polPS := by unfold polPS rd1S; exact relS_ok
theorem ofS_mod (n : Int) (M : Mem) : ofS [.i .u32 (n % 4294967296)] M = some (adr (n % 4294967296), M) := ofS_eq ⟨by omega, by omega⟩ M
theorem oPol_ok : OK Tryz.prog (lamOf Tryz.prog) (orcOf [(33, numPS), (32, zagPS), (105, ofS)]) := orc_ok (by simpa using ⟨numP_ok, zagP_ok, of_ok⟩)
theorem src_flat {S : Mem} {i : Nat} {x : AV} {s : St} (h : Src S i x s) {n : Nat} (hn : i ≤ n) : AV.Flat n x := by
  rcases lstV_lst h.lst with ⟨rfl, _⟩ | ⟨rfl, _⟩ | ⟨j, o, v, len, cap, ex, rfl, _, hr⟩
  · exact Flat_sn
  · intro g; rfl
  · have hj : j < i := by
      rw [rowAt_B] at hr
      rcases Nat.lt_or_ge j (S.take i).length with hl | hl
      · rw [List.length_take] at hl; omega
      · rw [List.getElem?_eq_none hl] at hr; simp [rowB] at hr
    intro g
    rw [ren, if_pos (by omega)]
/-- Two numbers on: as numF, in one step for the walk. -/
theorem num_step {S : Mem} {i : Nat} {B : Blk} {x : AV} {s : St} (h : Src (S.set i B) i x s) (L : Mem) : ∃ x', numPS [.p i 0 0] (S.set i B ++ L) = some (.i .u64 (numF s).1, S.set i (srcB x' (numF s).2.2) ++ L) ∧ Src (S.set i (srcB x' (numF s).2.2)) i x' (numF s).2 := by
  obtain ⟨x', h1, h2⟩ := rd1_call num_fn h L
  rw [List.set_set] at h1 h2
  exact ⟨x', h1, h2⟩
theorem zag_step {S : Mem} {i : Nat} {B : Blk} {x : AV} {s : St} (h : Src (S.set i B) i x s) (L : Mem) : ∃ x', zagPS [.p i 0 0] (S.set i B ++ L) = some (.i .i64 (zag (numF s).1), S.set i (srcB x' (numF s).2.2) ++ L) ∧ Src (S.set i (srcB x' (numF s).2.2)) i x' (numF s).2 := by
  obtain ⟨x', h1, h2⟩ := rd1_call zag_fn h L
  rw [List.set_set] at h1 h2
  exact ⟨x', h1, h2⟩
set_option maxHeartbeats 2000000 in
theorem pol_fn (S : Mem) (i : Nat) (x : AV) (s : St) (h : Src S i x s) : ∃ x', FnOK Tryz.prog 62 [.p i 0 0] S (.ag (polF s).1.enc) (S.set i (srcB x' (polF s).2.2)) ∧ Src (S.set i (srcB x' (polF s).2.2)) i x' (polF s).2 := by
  have hi := h.lt
  obtain ⟨B0, hB0⟩ : ∃ B0 : Blk, B0 = .cells Pol.zero.enc 0 none true := ⟨_, rfl⟩
  obtain ⟨x1, c1, h1⟩ := rd1_call zag_fn h [B0]
  have c1 : zagPS [.p i 0 0] (S ++ [B0]) = some (.i .i64 (zag (numF s).1), S.set i (srcB x1 (numF s).2.2) ++ [B0]) := c1
  generalize hp : polF s = pf
  unfold polF at hp
  generalize hq1 : numF s = q1 at hp c1 h1
  obtain ⟨a, s1⟩ := q1
  simp only at hp c1 h1
  obtain ⟨x2, c2, h2⟩ := num_step h1 [B0, .cells [.i .i64 (zag a), .i .u8 0, .i .u8 0, .i .u8 0, .i .u8 0, .i .i64 0, .i .u64 0, .i .u64 0, .i .u64 0, .i .u64 0, .i .u64 0, .i .u64 0, .i .u64 0] 0 none true]
  generalize hq2 : numF s1 = q2 at hp c2 h2
  obtain ⟨n, s2⟩ := q2
  simp only at hp c2 h2
  have h2' : Src (S.set i (srcB x2 (s2.2 || decide (4294967295 < n)))) i x2 (s2.1, s2.2 || decide (4294967295 < n)) := by
    have g1 := h2.lst
    have g2 := h2.opn
    rw [take_set] at g1 g2
    exact Src.set (s' := (s2.1, s2.2 || decide (4294967295 < n))) hi g1 g2 h2.ok
  obtain ⟨x3, c3, h3⟩ := zag_step h2' [B0, .cells [.i .i64 (zag a), .i .u8 0, .i .u8 0, .i .u8 0, .i .u8 0, .i .i64 0, .i .u64 0, .i .u64 0, .i .u64 0, .i .u64 0, .i .u64 0, .i .u64 0, .i .u64 0] 0 none true]
  generalize hq3 : numF (s2.1, s2.2 || decide (4294967295 < n)) = q3 at hp c3 h3
  obtain ⟨c, s3⟩ := q3
  simp only at hp c3 h3
  have ho2 := h2.one
  have hc2 := h2.cells
  have hb2 := h2.blk
  have hadr := fun M => ofS_mod n M
  have hw32 : wrapV .u32 n = n % 4294967296 := rfl
  simp only [adr] at hadr
  generalize b3 (n % 4294967296) = k3 at hp hadr
  generalize b2 (n % 4294967296) = k2 at hp hadr
  generalize b1 (n % 4294967296) = k1 at hp hadr
  generalize b0 (n % 4294967296) = k0 at hp hadr
  generalize zag a = za at *
  generalize zag c = zc at *
  obtain ⟨Q, hQ⟩ : ∃ Q : Blk, Q = .cells [.p (S.length + 1) 6 0, .p (S.length + 1) 7 0, .p (S.length + 1) 8 0, .p (S.length + 1) 9 0, .p (S.length + 1) 10 0, .p (S.length + 1) 11 0, .p (S.length + 1) 12 0] 0 none true := ⟨_, rfl⟩
  obtain ⟨x4, c4, h4⟩ := num_step h3 [B0, .cells [.i .i64 za, .i .u8 k3, .i .u8 k2, .i .u8 k1, .i .u8 k0, .i .i64 zc, .i .u64 0, .i .u64 0, .i .u64 0, .i .u64 0, .i .u64 0, .i .u64 0, .i .u64 0] 0 none true, Q]
  generalize hq4 : numF s3 = q4 at hp c4 h4
  obtain ⟨n1, s4⟩ := q4
  simp only at hp c4 h4
  obtain ⟨x5, c5, h5⟩ := num_step h4 [B0, .cells [.i .i64 za, .i .u8 k3, .i .u8 k2, .i .u8 k1, .i .u8 k0, .i .i64 zc, .i .u64 n1, .i .u64 0, .i .u64 0, .i .u64 0, .i .u64 0, .i .u64 0, .i .u64 0] 0 none true, Q]
  generalize hq5 : numF s4 = q5 at hp c5 h5
  obtain ⟨n2, s5⟩ := q5
  simp only at hp c5 h5
  obtain ⟨x6, c6, h6⟩ := num_step h5 [B0, .cells [.i .i64 za, .i .u8 k3, .i .u8 k2, .i .u8 k1, .i .u8 k0, .i .i64 zc, .i .u64 n1, .i .u64 n2, .i .u64 0, .i .u64 0, .i .u64 0, .i .u64 0, .i .u64 0] 0 none true, Q]
  generalize hq6 : numF s5 = q6 at hp c6 h6
  obtain ⟨n3, s6⟩ := q6
  simp only at hp c6 h6
  obtain ⟨x7, c7, h7⟩ := num_step h6 [B0, .cells [.i .i64 za, .i .u8 k3, .i .u8 k2, .i .u8 k1, .i .u8 k0, .i .i64 zc, .i .u64 n1, .i .u64 n2, .i .u64 n3, .i .u64 0, .i .u64 0, .i .u64 0, .i .u64 0] 0 none true, Q]
  generalize hq7 : numF s6 = q7 at hp c7 h7
  obtain ⟨n4, s7⟩ := q7
  simp only at hp c7 h7
  obtain ⟨x8, c8, h8⟩ := num_step h7 [B0, .cells [.i .i64 za, .i .u8 k3, .i .u8 k2, .i .u8 k1, .i .u8 k0, .i .i64 zc, .i .u64 n1, .i .u64 n2, .i .u64 n3, .i .u64 n4, .i .u64 0, .i .u64 0, .i .u64 0] 0 none true, Q]
  generalize hq8 : numF s7 = q8 at hp c8 h8
  obtain ⟨n5, s8⟩ := q8
  simp only at hp c8 h8
  obtain ⟨x9, c9, h9⟩ := num_step h8 [B0, .cells [.i .i64 za, .i .u8 k3, .i .u8 k2, .i .u8 k1, .i .u8 k0, .i .i64 zc, .i .u64 n1, .i .u64 n2, .i .u64 n3, .i .u64 n4, .i .u64 n5, .i .u64 0, .i .u64 0] 0 none true, Q]
  generalize hq9 : numF s8 = q9 at hp c9 h9
  obtain ⟨n6, s9⟩ := q9
  simp only at hp c9 h9
  obtain ⟨x10, c10, h10⟩ := num_step h9 [B0, .cells [.i .i64 za, .i .u8 k3, .i .u8 k2, .i .u8 k1, .i .u8 k0, .i .i64 zc, .i .u64 n1, .i .u64 n2, .i .u64 n3, .i .u64 n4, .i .u64 n5, .i .u64 n6, .i .u64 0] 0 none true, Q]
  generalize hq10 : numF s9 = q10 at hp c10 h10
  obtain ⟨n7, s10⟩ := q10
  simp only at hp c10 h10
  subst hp
  refine ⟨x10, ?_, h10⟩
  have hB2 : ∀ L, ((S.set i (srcB x2 s2.2)) ++ L)[i]? = some (srcB x2 s2.2) := fun L => at_old hb2
  have hS2 : ∀ (L : Mem) (B' : Blk), ((S.set i (srcB x2 s2.2)) ++ L).set i B' = S.set i B' ++ L := fun L B' => by rw [List.set_append_left _ _ (by rw [List.length_set]; exact hi), List.set_set]
  have hbf : BFlat S.length (srcB x10 s10.2) := bflat_cells (cs := [x10, .b s10.2]) (by
    intro c hc
    rcases List.mem_cons.1 hc with rfl | hc
    · exact src_flat h10 (Nat.le_of_lt hi)
    · rw [List.mem_singleton.1 hc]; exact Flat_b)
  rw [hB0] at c1 c2 c3 c4 c5 c6 c7 c8 c9 c10
  rw [hQ] at c4 c5 c6 c7 c8 c9 c10
  simp only [Pol.zero, Pol.enc] at c1 c2 c3 c4 c5 c6 c7 c8 c9 c10
  refine fn_of_wp f62 rfl (W_sound oPol_ok mixed _ _ _ _ _ ?_)
  by_cases hbig : 4294967295 < n
  · rw [decide_eq_true hbig, Bool.or_true] at c3
    simp only [srcB] at hB2 hS2 c3 c1 c2 c4 c5 c6 c7 c8 c9 c10
    simp (maxSteps := 1000000) (disch := omega) only [c62, sa_at0, sa_at, sa_set0, sa_set, List.replicate, orc_cons, c1, List.length_set, c2, hbig, hB2, hS2, ho2, hc2, hw32, hadr, c3, go_sem]
    refine wp_unroll oPol_ok mixed 8 ?_
    simp (maxSteps := 1000000) (disch := omega) only [c62l0, sa_at0, sa_at, sa_set0, sa_set, orc_cons, c4, c5, c6, c7, c8, c9, c10, go_sem]
    exact wkv_drop' (List.length_set ..) (fun j B hB => set_closed hbf j B hB) (fun g => by simp only [Pol.enc, ren_ag, renL_cons, renL_nil, ren_i])
  · rw [decide_eq_false hbig, Bool.or_false] at c3
    simp (maxSteps := 1000000) (disch := omega) only [c62, sa_at0, sa_at, sa_set0, sa_set, List.replicate, orc_cons, c1, List.length_set, c2, hbig, hw32, hadr, c3, go_sem]
    refine wp_unroll oPol_ok mixed 8 ?_
    simp (maxSteps := 1000000) (disch := omega) only [c62l0, sa_at0, sa_at, sa_set0, sa_set, orc_cons, c4, c5, c6, c7, c8, c9, c10, go_sem]
    exact wkv_drop' (List.length_set ..) (fun j B hB => set_closed hbf j B hB) (fun g => by simp only [Pol.enc, ren_ag, renL_cons, renL_nil, ren_i])
end Go.Proofs.YtmolaemlenllmaaGreat

namespace Go.Proofs.YtmolaemlenllmaaGreat
open Go.RowKit
set_option linter.unusedSimpArgs false
set_option linter.unusedVariables false
set_option maxRecDepth 10000

theorem many_step {m : Int} (hm : 0 ≤ m ∧ m ≤ 9223372036854775807) {S : Mem} {i : Nat} {B : Blk} {x : AV} {s : St} (h : Src (S.set i B) i x s) (L : Mem) : ∃ x', manyPS [.p i 0 0, .i .i64 m] (S.set i B ++ L) = some (.i .i64 (manyF m s).1, S.set i (srcB x' (manyF m s).2.2) ++ L) ∧ Src (S.set i (srcB x' (manyF m s).2.2)) i x' (manyF m s).2 := by
  obtain ⟨x', h1, h2⟩ := rd2_call (val := fun m s => .i .i64 (manyF m s).1) (nx := fun m s => (manyF m s).2) (many_fn hm) h L
  rw [List.set_set] at h1 h2
  exact ⟨x', h1, h2⟩
theorem pol_step {S : Mem} {i : Nat} {B : Blk} {x : AV} {s : St} (h : Src (S.set i B) i x s) (L : Mem) : ∃ x', polPS [.p i 0 0] (S.set i B ++ L) = some (.ag (polF s).1.enc, S.set i (srcB x' (polF s).2.2) ++ L) ∧ Src (S.set i (srcB x' (polF s).2.2)) i x' (polF s).2 := by
  obtain ⟨x', h1, h2⟩ := rd1_call pol_fn h L
  rw [List.set_set] at h1 h2
  exact ⟨x', h1, h2⟩
/-- A value that the list of ops, as it grows, leaves alone. -/
def Kd (n : Nat) (M : Mem) (x : AV) : Prop := x = .sn ∨ x = .se ∨ ∃ j o v len cap ex B, x = .sl j o v len cap ex ∧ n ≤ j ∧ M[j]? = some B ∧ B.opn ≠ some 19
theorem Kd.grow {n : Nat} {M : Mem} {x : AV} (h : Kd n M x) (L : Mem) : Kd n (M ++ L) x := by
  rcases h with h | h | ⟨j, o, v, len, cap, ex, B, h1, h2, h3, h4⟩
  · exact .inl h
  · exact .inr (.inl h)
  · exact .inr (.inr ⟨j, o, v, len, cap, ex, B, h1, h2, at_old h3, h4⟩)
/-- What reading an op answers. -/
def RdO (i : Nat) (S : Mem) (o : Opx) (s' : St) (y : AV) (S' : Mem) : Prop := ∃ (q : Oq) (x' : AV) (U : Mem), y = .ag q.enc ∧ S' = S.set i (srcB x' s'.2) ++ U ∧ Src S' i x' s' ∧ q.val S' = some o ∧ Kd S.length S' q.x.v ∧ Kd S.length S' q.y.v
noncomputable def opPS : Spec := relS Tryz.prog 35 (fun args S y S' => ∀ i x s, args = [.p i 0 0] → Src S i x s → RdO i S (opF s).1 (opF s).2 y S')
theorem opP_ok : SpecOK Tryz.prog 35 opPS := by unfold opPS; exact relS_ok
theorem oOp_ok : OK Tryz.prog (lamOf Tryz.prog) (orcOf [(33, numPS), (32, zagPS), (34, manyPS), (62, polPS), (61, cloneBS)]) := orc_ok (by simpa using ⟨numP_ok, zagP_ok, manyP_ok, polP_ok, cloneB_ok⟩)
/-- The cells of an op. -/
def opC (k s m n : Int) (x : AV) (p : Pol) (y : AV) : List AV := [.i .i64 k, .i .i64 s, .i .i64 m, .i .u64 n, x, .i .i64 p.sub, .i .u8 p.a, .i .u8 p.b, .i .u8 p.c, .i .u8 p.d, .i .i64 p.bits, .i .u64 p.rate, .i .u64 p.burst, .i .u64 p.srate, .i .u64 p.sburst, .i .u64 p.quota, .i .u64 p.lease, .i .u64 p.quantum, y]
/-- The end: what the function leaves. -/
theorem rdo_mk {S U : Mem} {i : Nat} {k sb m n : Int} {x y x' : AV} {p : Pol} {s' : St} {bs : List Int} {ks : List Bool} (h : Src (S.set i (srcB x' s'.2)) i x' s') (hx : lstV byteE (S.set i (srcB x' s'.2) ++ U) x = some bs) (hy : lstV boolE (S.set i (srcB x' s'.2) ++ U) y = some ks) (kx : Kd S.length (S.set i (srcB x' s'.2) ++ U) x) (ky : Kd S.length (S.set i (srcB x' s'.2) ++ U) y) :
    RdO i S ⟨k, sb, m, n, bs, p, ks⟩ s' (.ag (opC k sb m n x p y)) (S.set i (srcB x' s'.2) ++ U) :=
  ⟨⟨k, sb, m, n, ⟨x, lst_one hx⟩, p, ⟨y, lst_one hy⟩⟩, x', U, rfl, rfl, h.grow U, Oq.val_mk hx hy, kx, ky⟩
theorem kd_sn {n : Nat} {M : Mem} : Kd n M .sn := .inl rfl
section
variable {S : Mem} {i : Nat}
theorem wp_drawK {P : Program} {O : Orc} (hO : OK P (lamOf P) O) (hmix : P.follows .mixedOrders = true) {S0 S : Mem} {rd : Bool} {e : Env} {d : List Nat} {Q : Kont} {st : List Stage} {late : List Nat} (h : drawK (evDraw O st late e S) (normK Q d)) : WP P S0 rd (.draw st late) e S d Q := by
  cases hv : evDraw O st late e S with
  | none => rw [hv] at h; exact h.elim
  | some p =>
    obtain ⟨e', S'⟩ := p
    rw [hv, drawK_some] at h
    exact wp_draw hO hmix hv h
/-- The rounds of 'keep'. -/
theorem keep_trace (hO : OK Tryz.prog (lamOf Tryz.prog) (orcOf [(33, numPS), (32, zagPS), (34, manyPS), (62, polPS), (61, cloneBS)])) (hi : i < S.length) (n : Nat) (s0 : St) (hn : n ≤ 64) :
    ∀ (m : Nat) (e : Env) (M : Mem), (∃ (pre : List Bool) (s : St) (x y : AV) (V : Mem), m + pre.length = n ∧ repF keep1F n s0 = (pre ++ (repF keep1F m s).1, (repF keep1F m s).2) ∧ Src (S.set i (srcB x s.2)) i x s ∧
      M = S.set i (srcB x s.2) ++ ([.cells (opC 0 0 0 0 .sn Pol.zero .sn) 0 none true, .cells (opC 11 0 0 0 .sn Pol.zero y) 0 none true] ++ V) ∧ ((pre = [] ∧ y = .sn) ∨ ∃ p v, pre ≠ [] ∧ y = .sl (S.length + 2 + p) 0 v pre.length pre.length false ∧ V[p]? = some (.cells (pre.flatMap boolE.enc) v (some 1) true)) ∧
      e.get 0 = .p i 0 0 ∧ e.get 3 = .p (S.length + 1) 0 0 ∧ e.get 2 = .p S.length 0 0 ∧ e.get 68 = .i .i64 (n : Int) ∧ e.get 69 = .i .i64 (pre.length : Int)) →
    ∃ x1 e1 M1, (x1 = .exit 1 ∧ e1.get 3 = .p (S.length + 1) 0 0 ∧ e1.get 2 = .p S.length 0 0 ∧ ∃ (x y : AV) (V : Mem), Src (S.set i (srcB x (repF keep1F n s0).2.2)) i x (repF keep1F n s0).2 ∧
      M1 = S.set i (srcB x (repF keep1F n s0).2.2) ++ ([.cells (opC 0 0 0 0 .sn Pol.zero .sn) 0 none true, .cells (opC 11 0 0 0 .sn Pol.zero y) 0 none true] ++ V) ∧ ((repF keep1F n s0).1 = [] ∧ y = .sn ∨ ∃ p v, (repF keep1F n s0).1 ≠ [] ∧ y = .sl (S.length + 2 + p) 0 v (repF keep1F n s0).1.length (repF keep1F n s0).1.length false ∧ V[p]? = some (.cells ((repF keep1F n s0).1.flatMap boolE.enc) v (some 1) true))) ∧
      WP Tryz.prog S false (.loop [0, 3, 2, 68, 69] c35l2) e M [] (onlyK x1 e1 M1) := by
  refine wp_trace (J := fun m e M => ∃ (pre : List Bool) (s : St) (x y : AV) (V : Mem), m + pre.length = n ∧ repF keep1F n s0 = (pre ++ (repF keep1F m s).1, (repF keep1F m s).2) ∧ Src (S.set i (srcB x s.2)) i x s ∧
      M = S.set i (srcB x s.2) ++ ([.cells (opC 0 0 0 0 .sn Pol.zero .sn) 0 none true, .cells (opC 11 0 0 0 .sn Pol.zero y) 0 none true] ++ V) ∧ ((pre = [] ∧ y = .sn) ∨ ∃ p v, pre ≠ [] ∧ y = .sl (S.length + 2 + p) 0 v pre.length pre.length false ∧ V[p]? = some (.cells (pre.flatMap boolE.enc) v (some 1) true)) ∧
      e.get 0 = .p i 0 0 ∧ e.get 3 = .p (S.length + 1) 0 0 ∧ e.get 2 = .p S.length 0 0 ∧ e.get 68 = .i .i64 (n : Int) ∧ e.get 69 = .i .i64 (pre.length : Int)) (fun x1 e1 M1 => x1 = .exit 1 ∧ e1.get 3 = .p (S.length + 1) 0 0 ∧ e1.get 2 = .p S.length 0 0 ∧ ∃ (x y : AV) (V : Mem), Src (S.set i (srcB x (repF keep1F n s0).2.2)) i x (repF keep1F n s0).2 ∧
      M1 = S.set i (srcB x (repF keep1F n s0).2.2) ++ ([.cells (opC 0 0 0 0 .sn Pol.zero .sn) 0 none true, .cells (opC 11 0 0 0 .sn Pol.zero y) 0 none true] ++ V) ∧ ((repF keep1F n s0).1 = [] ∧ y = .sn ∨ ∃ p v, (repF keep1F n s0).1 ≠ [] ∧ y = .sl (S.length + 2 + p) 0 v (repF keep1F n s0).1.length (repF keep1F n s0).1.length false ∧ V[p]? = some (.cells ((repF keep1F n s0).1.flatMap boolE.enc) v (some 1) true))) (by rintro e S ⟨h, _⟩; cases h) ?_
  rintro m e M ⟨pre, s, x, y, V, hmn, hrep, hs, rfl, hy, e0, e3, e2, e68, e69⟩
  cases m with
  | zero =>
    right
    have hpre : pre.length = n := by omega
    simp only [repF, List.append_nil] at hrep
    have hI : ¬ (pre.length : Int) < n := by omega
    apply Exists.intro; apply Exists.intro; apply Exists.intro; refine ⟨?_, ?_⟩; rotate_left 1
    · refine W_sound hO mixed _ _ _ _ _ ?_
      simp (maxSteps := 1000000) (disch := omega) only [c35l2, e0, e3, e2, e68, e69, hI, go_sem]
      exact onlyK_mk
    · exact ⟨rfl, rfl, rfl, x, y, V, by rw [hrep]; exact hs, by rw [hrep]; rfl, by rw [hrep]; exact hy⟩
  | succ m =>
    left
    have hI : (pre.length : Int) < n := by omega
    have hk6 : pre.length < 1000000 := by omega
    rw [repF] at hrep
    obtain ⟨x2, c2, h2⟩ := many_step (m := 1) (by omega) hs ([.cells (opC 0 0 0 0 .sn Pol.zero .sn) 0 none true, .cells (opC 11 0 0 0 .sn Pol.zero y) 0 none true] ++ V)
    have hk1 : keep1F s = (decide ((manyF 1 s).1 = 1), (manyF 1 s).2) := rfl
    generalize hq : manyF 1 s = q at c2 h2 hk1
    obtain ⟨b, s2⟩ := q
    simp only at c2 h2 hk1
    rw [hk1] at hrep
    simp only at hrep
    generalize hd : decide (b = 1) = d at hrep
    have hone : y.one = true := by
      rcases hy with ⟨_, rfl⟩ | ⟨p, v, _, rfl, _⟩ <;> rfl
    have hcells : y.cells = some [y] := by
      rcases hy with ⟨_, rfl⟩ | ⟨p, v, _, rfl, _⟩ <;> rfl
    -- the append
    obtain ⟨y', V', hap, hy'⟩ : ∃ (y' : AV) (V' : Mem), appV (S.set i (srcB x2 s2.2) ++ ([.cells (opC 0 0 0 0 .sn Pol.zero .sn) 0 none true, .cells (opC 11 0 0 0 .sn Pol.zero y) 0 none true] ++ (V ++ [.cells [.b d] 0 none true]))) 1 1 y [.b d] 1 =
        some (y', S.set i (srcB x2 s2.2) ++ ([.cells (opC 0 0 0 0 .sn Pol.zero .sn) 0 none true, .cells (opC 11 0 0 0 .sn Pol.zero y) 0 none true] ++ V')) ∧
        ∃ p v, y' = .sl (S.length + 2 + p) 0 v (pre ++ [d]).length (pre ++ [d]).length false ∧ V'[p]? = some (.cells ((pre ++ [d]).flatMap boolE.enc) v (some 1) true) := by
      have hlen : (S.set i (srcB x2 s2.2) ++ ([Blk.cells (opC 0 0 0 0 .sn Pol.zero .sn) 0 none true, .cells (opC 11 0 0 0 .sn Pol.zero y) 0 none true] ++ (V ++ [Blk.cells [.b d] 0 none true]))).length = S.length + 2 + (V.length + 1) := by
        rw [List.length_append, List.length_set, List.length_append, List.length_append]; simp only [List.length_cons, List.length_nil]; omega
      rcases hy with ⟨rfl, rfl⟩ | ⟨p, v, hne, rfl, hV⟩
      · refine ⟨.sl (S.length + 2 + (V.length + 1)) 0 0 1 1 false, V ++ [Blk.cells [.b d] 0 none true] ++ [Blk.cells [.b d] 0 (some 1) true], ?_, V.length + 1, 0, rfl, ?_⟩
        · simp only [appV]
          rw [if_neg (by omega), if_pos ⟨by unfold lim; omega, by unfold lim; omega⟩, hlen]
          simp only [List.append_assoc]
        · rw [List.append_assoc, List.getElem?_append_right (by omega), Nat.add_sub_cancel_left]; rfl
      · have hp : p < V.length := (List.getElem?_eq_some_iff.1 hV).1
        refine ⟨.sl (S.length + 2 + p) 0 (v + 1) (pre.length + 1) (pre.length + 1) false, (V ++ [Blk.cells [.b d] 0 none true]).set p (Blk.cells ((pre ++ [d]).flatMap boolE.enc) (v + 1) (some 1) true), ?_, p, v + 1, by rw [List.length_append]; rfl, by rw [List.getElem?_set_self (by rw [List.length_append]; omega)]⟩
        have hB : (S.set i (srcB x2 s2.2) ++ ([Blk.cells (opC 0 0 0 0 .sn Pol.zero .sn) 0 none true, .cells (opC 11 0 0 0 .sn Pol.zero (.sl (S.length + 2 + p) 0 v pre.length pre.length false)) 0 none true] ++ (V ++ [Blk.cells [.b d] 0 none true])))[S.length + 2 + p]? = some (.cells (pre.flatMap boolE.enc) v (some 1) true) := by
          rw [Nat.add_assoc, sa_at, Nat.add_comm 2 p]
          show ((V ++ [Blk.cells [.b d] 0 none true]))[p]? = _
          rw [List.getElem?_append_left hp]; exact hV
        simp only [appV]
        rw [if_neg (by omega), if_neg (by omega), if_pos ⟨by unfold lim; omega, by unfold lim; omega⟩, hB]
        simp only [Bool.false_eq_true, if_false]
        rw [if_pos ⟨trivial, trivial, trivial, by rw [enc_length]; exact Nat.le_refl _, rfl⟩]
        congr 2
        rw [Nat.add_assoc, sa_set, Nat.add_comm 2 p]
        congr 1
        show Blk.cells _ 0 none true :: Blk.cells _ 0 none true :: (V ++ [Blk.cells [.b d] 0 none true]).set p _ = _
        have he : (pre.flatMap boolE.enc).take (pre.length * 1) ++ [AV.b d] = (pre ++ [d]).flatMap boolE.enc := by
          rw [List.flatMap_append, List.take_of_length_le (by rw [enc_length]; exact Nat.le_refl _)]; rfl
        rw [he]; rfl
    obtain ⟨p', v', hy1, hy2⟩ := hy'
    have hone' : y'.one = true := by rw [hy1]; rfl
    have hcells' : y'.cells = some [y'] := by rw [hy1]; rfl
    refine ⟨m, ?_⟩; apply Exists.intro; apply Exists.intro; refine ⟨Nat.lt_succ_self m, ?_, ?_⟩; rotate_left 1
    · simp only [opC] at c2 hap
      simp only [List.append_assoc, List.cons_append, List.nil_append] at c2 hap ⊢
      have hbd : decide (b = 1) = d := hd
      have vy : avEqv y y = true := by rcases hy with ⟨_, rfl⟩ | ⟨p, v, _, rfl, _⟩ <;> simp [avEqv]
      have vy' : avEqv y' y' = true := by rw [hy1]; simp [avEqv]
      rw [c35l2]
      refine wp_seq (W_sound hO mixed _ _ _ _ _ ?_)
      simp (maxSteps := 1000000) (disch := omega) only [e0, e3, e2, e68, e69, hI, go_sem]
      refine wp_live (wp_seq (W_sound hO mixed _ _ _ _ _ ?_))
      simp (maxSteps := 1000000) (disch := omega) only [e0, e3, e2, e68, e69, hI, go_sem]
      refine wp_live (wp_seq (wp_block (wp_drawK hO mixed ?_)))
      refine draw_of ?_
      simp (maxSteps := 1000000) (disch := omega) only [c35d1, opC, sa_at0, sa_at, sa_set0, sa_set, orc_cons, c2, hbd, List.replicate, src_sl, srcN_some, hap, hone, hcells, hone', hcells', vy, vy', dNs_nil, dNs_cons, dnK_some, dnK_none, dOpt_none, dOpt_some, doK_some, doK_none, dStages_nil, dStages_cons, s1K_app, s2K_app, s3K_app, s4K_app, dEnd_app, evOne_op, evOne_gd, evG_tt, evG_tf, evG_ft, evG_ff, evG_ud, kSt_nil, kSt_cons, kNs_nil, kNs_cons, kN_zero, kN_succ, kA_some, eqK_some, eqK_none, kOpt_none, kOpt_some, kLike_nil, kLike_cons, ROp.use, IOp.use, IO'.use, X.use, dstL_none, dstL_some, List.flatMap_cons, List.flatMap_nil, eqv_m, eqv_p, eqv_i, eqv_b, eqv_sl, eqv_sn, eqv_pn, eqv_ud, eqv_u, eqv_mn, eqv_ag, eqvL_cons, eqvL_nil, eqv_tu, Bool.and_true, Bool.true_and, Bool.and_self, Nat.le_refl, Nat.reduceLeDiff, and_self, and_true, true_and, go_sem]
      refine wp_live (W_sound hO mixed _ _ _ _ _ ?_)
      simp (maxSteps := 1000000) (disch := omega) only [wrapS hk6, go_sem]
      exact onlyK_mk
    · exact ⟨pre ++ [d], s2, x2, y', V', by rw [List.length_append, List.length_singleton]; omega, by rw [hrep, List.append_assoc]; rfl, h2, rfl, .inr ⟨p', v', by simp, hy1, hy2⟩, rfl, rfl, rfl, rfl, by rw [List.length_append, List.length_singleton]; rfl⟩
end
end Go.Proofs.YtmolaemlenllmaaGreat

namespace Go.Proofs.YtmolaemlenllmaaGreat
open Go.RowKit
set_option linter.unusedSimpArgs false
set_option linter.unusedVariables false
set_option maxRecDepth 10000

/-- A clone of bytes, as a call. -/
theorem clone_call {M : Mem} {t : AV} {l : List Int} (hl : lstV byteE M t = some l) (h9 : l.length ≤ 900000) : ∃ Xc U, cloneBS [t] M = some (Xc, M ++ U) ∧ ∀ A : Mem, A.length = M.length → lstV byteE (A ++ U) Xc = some l ∧ ∀ n, n ≤ A.length → Kd n (A ++ U) Xc := by
  by_cases ht : t = .sn
  · subst ht
    have : l = [] := by simp only [lstV] at hl; injection hl with hl; exact hl.symm
    subst this
    exact ⟨.sn, [], by simp only [cloneBS, List.append_nil], fun A _ => ⟨rfl, fun n _ => .inl rfl⟩⟩
  · have hc : cloneBS [t] M = some (retX true M l, retM true byteE M l) := by
      cases t <;> first | exact absurd rfl ht | (simp only [cloneBS, hl, if_pos h9])
    cases l with
    | nil =>
      refine ⟨.sl M.length 0 0 0 0 true, [.cells [] 0 none true], hc, fun A hA => ?_⟩
      rw [← hA]
      exact ⟨retX_lst (z := true) (E := byteE) (S := A) (l := []), fun n hn => .inr (.inr ⟨A.length, 0, 0, 0, 0, true, .cells [] 0 none true, rfl, hn, by rw [at_app0]; rfl, by simp [Blk.opn]⟩)⟩
    | cons a l =>
      refine ⟨.sl M.length 0 0 (a :: l).length (a :: l).length false, [.cells ((a :: l).flatMap byteE.enc) 0 (some 1) true], hc, fun A hA => ?_⟩
      rw [← hA]
      exact ⟨retX_lst (z := true) (E := byteE) (S := A) (l := a :: l), fun n hn => .inr (.inr ⟨A.length, 0, 0, _, _, false, .cells ((a :: l).flatMap byteE.enc) 0 (some 1) true, rfl, hn, by rw [at_app0]; rfl, by simp [Blk.opn]⟩)⟩
set_option maxHeartbeats 4000000 in
theorem op_fn (S : Mem) (i : Nat) (x : AV) (s : St) (h : Src S i x s) : ∃ y S', FnOK Tryz.prog 35 [.p i 0 0] S y S' ∧ RdO i S (opF s).1 (opF s).2 y S' := by
  have hi := h.lt
  obtain ⟨x1, c1, h1⟩ := rd2_call (m := 12) (val := fun m s => .i .i64 (manyF m s).1) (nx := fun m s => (manyF m s).2) (many_fn (by omega)) h [.cells (opC 0 0 0 0 .sn Pol.zero .sn) 0 none true]
  have c1 : manyPS [.p i 0 0, .i .i64 12] (S ++ [.cells (opC 0 0 0 0 .sn Pol.zero .sn) 0 none true]) = some (.i .i64 (manyF 12 s).1, S.set i (srcB x1 (manyF 12 s).2.2) ++ [.cells (opC 0 0 0 0 .sn Pol.zero .sn) 0 none true]) := c1
  unfold opF
  generalize hq1 : manyF 12 s = q1 at c1 h1 ⊢
  obtain ⟨k, s1⟩ := q1
  simp only at c1 h1 ⊢
  have hB1 : ∀ L, (S.set i (srcB x1 s1.2) ++ L)[i]? = some (.cells [x1, .b s1.2] 0 none true) := fun L => at_old h1.blk
  have l1 := lst_len h1.lst
  simp only [opC, Pol.zero] at c1
  by_cases e0 : k = 0
  · subst e0
    rw [if_pos rfl]
    have hm : (0 : Int) ≤ min (2000 : Int) (s1.1.length : Int) ∧ min (2000 : Int) (s1.1.length : Int) ≤ 9223372036854775807 := by omega
    obtain ⟨x2, c2, h2⟩ := many_step hm h1 [.cells (opC 0 0 0 0 .sn Pol.zero .sn) 0 none true, .cells (opC 0 0 0 0 .sn Pol.zero .sn) 0 none true]
    have hmo := manyF_ok hm.1 h1.ok
    generalize hq2 : manyF (min (2000 : Int) (s1.1.length : Int)) s1 = q2 at c2 h2 hmo ⊢
    obtain ⟨n, s2⟩ := q2
    simp only at c2 h2 hmo ⊢
    have l2 := lst_len h2.lst
    obtain ⟨nn, hnn⟩ : ∃ nn : Nat, nn = (min n (s2.1.length : Int)).toNat := ⟨_, rfl⟩
    have hmin : min n (s2.1.length : Int) = (nn : Int) := by omega
    rw [← hnn]
    have hnl : nn ≤ s2.1.length := by omega
    obtain ⟨t, ht, hlt, hot⟩ := take_lst h2.lst h2.opn (q := .i64) (b := nn) hnl
    obtain ⟨x3, hs3, hl3, ho3⟩ := drop_lst h2.lst h2.opn (q := .i64) hnl
    rw [take_set] at ht hlt hs3 hl3 ho3
    have hpre : ∀ L, S.take i <+: S.set i (srcB x2 s2.2) ++ L := fun L => by
      have : (S.set i (srcB x2 s2.2)).take i <+: S.set i (srcB x2 s2.2) ++ L := (List.take_prefix _ _).trans (List.prefix_append _ _)
      rwa [take_set] at this
    have htL : ∀ L, sliceV (S.set i (srcB x2 s2.2) ++ L) 1 x2 none (some (.i .i64 (nn : Int))) none = some t := fun L => by
      obtain ⟨T, hT⟩ := hpre L
      rw [← hT]; exact sliceV_grow T ht
    have hsL : ∀ L, sliceV (S.set i (srcB x2 s2.2) ++ L) 1 x2 (some (.i .i64 (nn : Int))) none none = some x3 := fun L => by
      obtain ⟨T, hT⟩ := hpre L
      rw [← hT]; exact sliceV_grow T hs3
    obtain ⟨Xc, U, hcl, hXU⟩ := clone_call (M := S.set i (srcB x2 s2.2) ++ [.cells (opC 0 0 0 0 .sn Pol.zero .sn) 0 none true, .cells (opC 0 0 0 0 .sn Pol.zero .sn) 0 none true]) (lst_ext hlt (hpre _)) (by rw [List.length_take]; omega)
    rw [List.append_assoc] at hcl
    have hX := (hXU _ rfl).1
    have hB2 : ∀ L, (S.set i (srcB x2 s2.2) ++ L)[i]? = some (.cells [x2, .b s2.2] 0 none true) := fun L => at_old h2.blk
    have hS2 : ∀ (L : Mem) (B' : Blk), (S.set i (srcB x2 s2.2) ++ L).set i B' = S.set i B' ++ L := fun L B' => by rw [List.set_append_left _ _ (by rw [List.length_set]; exact hi), List.set_set]
    have h3 : Src (S.set i (srcB x3 s2.2)) i x3 (s2.1.drop nn, s2.2) := Src.set (s' := (s2.1.drop nn, s2.2)) hi hl3 ho3 (h2.ok.drop nn)
    have v2 := eqv_lst h2.lst
    have vt := eqv_lst hlt
    have v3 := eqv_lst hl3
    have vX := eqv_lst hX
    have o3 := h3.one
    have k3 := h3.cells
    have oX := lst_one hX
    have kX := lst_cells hX
    have o2 := h2.one
    have k2 := h2.cells
    simp only [opC, Pol.zero, List.cons_append, List.nil_append] at c2 hcl
    apply Exists.intro; apply Exists.intro; refine ⟨?_, ?_⟩
    · apply fn_of_wp f35 rfl; apply W_sound oOp_ok mixed
      simp (maxSteps := 1000000) (disch := omega) only [c35, List.replicate, orc_cons, c1, List.length_set, sa_at0, sa_at, sa_set0, sa_set, hB1, l1, c2, hB2, l2, hmin, go_sem]
      refine draw_of ?_
      simp (maxSteps := 1000000) (disch := omega) only [c35d0, hB2, htL, hsL, orc_cons, hcl, sa_at0, sa_at, sa_set0, sa_set, hS2, v2, vt, v3, vX, o3, k3, oX, kX, o2, k2, dNs_nil, dNs_cons, dnK_some, dnK_none, dOpt_none, dOpt_some, doK_some, doK_none, dStages_nil, dStages_cons, s1K_app, s2K_app, s3K_app, s4K_app, dEnd_app, evOne_op, evOne_gd, evG_tt, evG_tf, evG_ft, evG_ff, evG_ud, kSt_nil, kSt_cons, kNs_nil, kNs_cons, kN_zero, kN_succ, kA_some, eqK_some, eqK_none, kOpt_none, kOpt_some, kLike_nil, kLike_cons, ROp.use, IOp.use, IO'.use, X.use, dstL_none, dstL_some, List.flatMap_cons, List.flatMap_nil, eqv_m, eqv_p, eqv_i, eqv_b, eqv_sl, eqv_sn, eqv_pn, eqv_ud, eqv_u, eqv_mn, eqv_ag, eqvL_cons, eqvL_nil, eqv_tu, Bool.and_true, Bool.true_and, Bool.and_self, Nat.le_refl, Nat.reduceLeDiff, and_self, and_true, true_and, go_sem]
      exact wkv_same
    · have hfin : ∀ Z O : Blk, lstV byteE (S.set i (srcB x3 s2.2) ++ (Z :: O :: U)) Xc = some (s2.1.take nn) ∧ Kd S.length (S.set i (srcB x3 s2.2) ++ (Z :: O :: U)) Xc := fun Z O => by
        obtain ⟨g1, g2⟩ := hXU (S.set i (srcB x3 s2.2) ++ [Z, O]) (by simp only [List.length_append, List.length_set, List.length_cons, List.length_nil])
        rw [List.append_assoc] at g1 g2
        exact ⟨g1, g2 S.length (by rw [List.length_append, List.length_set]; omega)⟩
      exact rdo_mk h3 (hfin _ _).1 rfl (hfin _ _).2 kd_sn
  by_cases e1 : k = 1
  · subst e1
    simp only [show ¬ (1 : Int) = 0 by omega, show ¬ (1 : Int) = 4 by omega, show ¬ (1 : Int) = 10 by omega, show ¬ (1 : Int) = 11 by omega, show ¬ ((1 : Int) = 5 ∨ (1 : Int) = 8) by omega, if_false, if_true]
    obtain ⟨x2, c2, h2⟩ := num_step h1 [.cells (opC 0 0 0 0 .sn Pol.zero .sn) 0 none true, .cells (opC 1 0 0 0 .sn Pol.zero .sn) 0 none true]
    simp only [opC, Pol.zero, Pol.enc] at c2
    apply Exists.intro; apply Exists.intro; refine ⟨?_, ?_⟩
    · apply fn_of_wp f35 rfl; apply W_sound oOp_ok mixed
      simp (maxSteps := 1000000) (disch := omega) only [c35, List.replicate, orc_cons, c1, List.length_set, sa_at0, sa_at, sa_set0, sa_set, hB1, l1, c2, go_sem]
      exact wkv_same
    · exact rdo_mk h2 rfl rfl kd_sn kd_sn
  by_cases e4 : k = 4
  · subst e4
    simp only [show ¬ (4 : Int) = 0 by omega, show ¬ (4 : Int) = 1 by omega, show ¬ (4 : Int) = 10 by omega, show ¬ (4 : Int) = 11 by omega, show ¬ ((4 : Int) = 5 ∨ (4 : Int) = 8) by omega, if_false, if_true]
    obtain ⟨x2, c2, h2⟩ := pol_step h1 [.cells (opC 0 0 0 0 .sn Pol.zero .sn) 0 none true, .cells (opC 4 0 0 0 .sn Pol.zero .sn) 0 none true]
    generalize polF s1 = pf at c2 h2 ⊢
    obtain ⟨p, s2⟩ := pf
    simp only at c2 h2 ⊢
    simp only [opC, Pol.zero, Pol.enc] at c2
    apply Exists.intro; apply Exists.intro; refine ⟨?_, ?_⟩
    · apply fn_of_wp f35 rfl; apply W_sound oOp_ok mixed
      simp (maxSteps := 1000000) (disch := omega) only [c35, List.replicate, orc_cons, c1, List.length_set, sa_at0, sa_at, sa_set0, sa_set, hB1, l1, c2, go_sem]
      exact wkv_same
    · exact rdo_mk h2 rfl rfl kd_sn kd_sn
  by_cases e5 : k = 5
  · subst e5
    simp only [show ¬ (5 : Int) = 0 by omega, show ¬ (5 : Int) = 1 by omega, show ¬ (5 : Int) = 4 by omega, show ¬ (5 : Int) = 10 by omega, show ¬ (5 : Int) = 11 by omega, show ((5 : Int) = 5 ∨ (5 : Int) = 8) by omega, if_false, if_true]
    obtain ⟨x2, c2, h2⟩ := zag_step h1 [.cells (opC 0 0 0 0 .sn Pol.zero .sn) 0 none true, .cells (opC 5 0 0 0 .sn Pol.zero .sn) 0 none true]
    simp only [opC, Pol.zero, Pol.enc] at c2
    apply Exists.intro; apply Exists.intro; refine ⟨?_, ?_⟩
    · apply fn_of_wp f35 rfl; apply W_sound oOp_ok mixed
      simp (maxSteps := 1000000) (disch := omega) only [c35, List.replicate, orc_cons, c1, List.length_set, sa_at0, sa_at, sa_set0, sa_set, hB1, l1, c2, go_sem]
      exact wkv_same
    · exact rdo_mk h2 rfl rfl kd_sn kd_sn
  by_cases e8 : k = 8
  · subst e8
    simp only [show ¬ (8 : Int) = 0 by omega, show ¬ (8 : Int) = 1 by omega, show ¬ (8 : Int) = 4 by omega, show ¬ (8 : Int) = 10 by omega, show ¬ (8 : Int) = 11 by omega, show ((8 : Int) = 5 ∨ (8 : Int) = 8) by omega, if_false, if_true]
    obtain ⟨x2, c2, h2⟩ := zag_step h1 [.cells (opC 0 0 0 0 .sn Pol.zero .sn) 0 none true, .cells (opC 8 0 0 0 .sn Pol.zero .sn) 0 none true]
    simp only [opC, Pol.zero, Pol.enc] at c2
    apply Exists.intro; apply Exists.intro; refine ⟨?_, ?_⟩
    · apply fn_of_wp f35 rfl; apply W_sound oOp_ok mixed
      simp (maxSteps := 1000000) (disch := omega) only [c35, List.replicate, orc_cons, c1, List.length_set, sa_at0, sa_at, sa_set0, sa_set, hB1, l1, c2, go_sem]
      exact wkv_same
    · exact rdo_mk h2 rfl rfl kd_sn kd_sn
  by_cases e10 : k = 10
  · subst e10
    simp only [show ¬ (10 : Int) = 0 by omega, show ¬ (10 : Int) = 1 by omega, show ¬ (10 : Int) = 4 by omega, show ¬ (10 : Int) = 11 by omega, show ¬ ((10 : Int) = 5 ∨ (10 : Int) = 8) by omega, if_false, if_true]
    obtain ⟨x2, c2, h2⟩ := zag_step h1 [.cells (opC 0 0 0 0 .sn Pol.zero .sn) 0 none true, .cells (opC 10 0 0 0 .sn Pol.zero .sn) 0 none true]
    simp only [opC, Pol.zero, Pol.enc] at c2
    apply Exists.intro; apply Exists.intro; refine ⟨?_, ?_⟩
    · apply fn_of_wp f35 rfl; apply W_sound oOp_ok mixed
      simp (maxSteps := 1000000) (disch := omega) only [c35, List.replicate, orc_cons, c1, List.length_set, sa_at0, sa_at, sa_set0, sa_set, hB1, l1, c2, go_sem]
      exact wkv_same
    · exact rdo_mk h2 rfl rfl kd_sn kd_sn
  by_cases e11 : k = 11
  · subst e11
    simp only [show ¬ (11 : Int) = 0 by omega, show ¬ (11 : Int) = 1 by omega, show ¬ (11 : Int) = 4 by omega, show ¬ (11 : Int) = 10 by omega, show ¬ ((11 : Int) = 5 ∨ (11 : Int) = 8) by omega, if_false, if_true]
    obtain ⟨x2, c2, h2⟩ := many_step (m := 64) (by omega) h1 [.cells (opC 0 0 0 0 .sn Pol.zero .sn) 0 none true, .cells (opC 11 0 0 0 .sn Pol.zero .sn) 0 none true]
    have hmo := manyF_ok (m := 64) (by omega) h1.ok
    generalize hq2 : manyF 64 s1 = q2 at c2 h2 hmo ⊢
    obtain ⟨n, s2⟩ := q2
    simp only at c2 h2 hmo ⊢
    obtain ⟨nn, rfl⟩ := Int.eq_ofNat_of_zero_le hmo.1
    rw [Int.toNat_natCast]
    obtain ⟨ix, e1, M1, ⟨rfl, g3, g2, x3, y, V, h3, rfl, hy⟩, hw⟩ := keep_trace oOp_ok hi nn s2 (by omega) nn [(0, .p i 0 0), (3, .p (S.length + 1) 0 0), (2, .p S.length 0 0), (68, .i .i64 (nn : Int)), (69, .i .i64 0)]
      (S.set i (srcB x2 s2.2) ++ [.cells (opC 0 0 0 0 .sn Pol.zero .sn) 0 none true, .cells (opC 11 0 0 0 .sn Pol.zero .sn) 0 none true]) ⟨[], s2, x2, .sn, [], rfl, rfl, h2, rfl, .inl ⟨rfl, rfl⟩, rfl, rfl, rfl, rfl, rfl⟩
    generalize repF keep1F nn s2 = w at h3 hy hw ⊢
    obtain ⟨ks, s3⟩ := w
    simp only at h3 hy hw ⊢
    have hyl : ∀ Z O : Blk, lstV boolE (S.set i (srcB x3 s3.2) ++ (Z :: O :: V)) y = some ks ∧ Kd S.length (S.set i (srcB x3 s3.2) ++ (Z :: O :: V)) y := fun Z O => by
      rcases hy with ⟨rfl, rfl⟩ | ⟨p, v, hne, rfl, hV⟩
      · exact ⟨rfl, .inl rfl⟩
      · have hat : (S.set i (srcB x3 s3.2) ++ (Z :: O :: V))[S.length + 2 + p]? = some (.cells (ks.flatMap boolE.enc) v (some 1) true) := by
          rw [Nat.add_assoc, sa_at, Nat.add_comm 2 p]
          exact hV
        refine ⟨lst_lstV (.inr (.inr ⟨_, _, _, _, _, _, rfl, rfl, ?_⟩)), .inr (.inr ⟨_, _, _, _, _, _, _, rfl, by omega, hat, by simp [Blk.opn]⟩)⟩
        rw [rowAt_B, hat, rowB_some, if_pos (by rw [enc_length]; omega), List.drop_zero, ← enc_length, List.take_length]
    have hone : y.one = true := by rcases hy with ⟨_, rfl⟩ | ⟨p, v, _, rfl, _⟩ <;> rfl
    have hcells : y.cells = some [y] := by rcases hy with ⟨_, rfl⟩ | ⟨p, v, _, rfl, _⟩ <;> rfl
    simp only [opC, Pol.zero, List.cons_append, List.nil_append] at c2 hw
    apply Exists.intro; apply Exists.intro; refine ⟨?_, ?_⟩
    · apply fn_of_wp f35 rfl; apply W_sound oOp_ok mixed
      simp (maxSteps := 1000000) (disch := omega) only [c35, List.replicate, orc_cons, c1, List.length_set, sa_at0, sa_at, sa_set0, sa_set, hB1, l1, c2, go_sem]
      refine hw.mono ?_
      rintro _ _ _ _ ⟨rfl, rfl, rfl, rfl⟩
      simp (maxSteps := 1000000) (disch := omega) only [g3, g2, sa_at0, sa_at, sa_set0, sa_set, hone, hcells, go_sem]
      exact wkv_same
    · exact rdo_mk h3 rfl (hyl _ _).1 kd_sn (hyl _ _).2
  apply Exists.intro; apply Exists.intro; refine ⟨?_, ?_⟩
  · apply fn_of_wp f35 rfl; apply W_sound oOp_ok mixed
    simp (maxSteps := 1000000) (disch := omega) only [c35, List.replicate, orc_cons, c1, List.length_set, sa_at0, sa_at, sa_set0, sa_set, hB1, l1, e0, e1, e4, e5, e8, e10, e11, go_sem]
    exact wkv_same
  · rw [if_neg e0, if_neg e1, if_neg e4, if_neg (by omega), if_neg e10, if_neg e11]
    exact rdo_mk h1 rfl rfl kd_sn kd_sn
end Go.Proofs.YtmolaemlenllmaaGreat

namespace Go.Proofs.YtmolaemlenllmaaGreat
open Go.RowKit
set_option linter.unusedSimpArgs false
set_option linter.unusedVariables false
set_option maxRecDepth 10000

/-- A list that is built behind A. -/
def LV {α : Type} (E : Enc α) (n : Nat) (V : Mem) (y : AV) (l : List α) : Prop := (l = [] ∧ y = .sn) ∨ ∃ p v, l ≠ [] ∧ y = .sl (n + p) 0 v l.length l.length false ∧ V[p]? = some (.cells (l.flatMap E.enc) v (some E.sz) true)
section
variable {α : Type} {E : Enc α} {A V : Mem} {y : AV} {l : List α}
theorem LV.one (h : LV E A.length V y l) : y.one = true := by rcases h with ⟨_, rfl⟩ | ⟨p, v, _, rfl, _⟩ <;> rfl
theorem LV.cells (h : LV E A.length V y l) : y.cells = some [y] := by rcases h with ⟨_, rfl⟩ | ⟨p, v, _, rfl, _⟩ <;> rfl
theorem LV.grow (h : LV E A.length V y l) (U : Mem) : LV E A.length (V ++ U) y l := by
  rcases h with h | ⟨p, v, h0, h1, h2⟩
  · exact .inl h
  · exact .inr ⟨p, v, h0, h1, at_old h2⟩
theorem LV.lst (h : LV E A.length V y l) : lstV E (A ++ V) y = some l := by
  rcases h with ⟨rfl, rfl⟩ | ⟨p, v, _, rfl, hV⟩
  · rfl
  · refine lst_lstV (.inr (.inr ⟨_, _, _, _, _, _, rfl, rfl, ?_⟩))
    rw [rowAt_B, at_app, hV, rowB_some, if_pos (by rw [enc_length]; omega), List.drop_zero, ← enc_length, List.take_length]
theorem LV.app {bytes : Nat} (hE : ∀ a, (E.enc a).all AV.one = true) (h : LV E A.length V y l) (a : α) (h1 : (l.length + 1) * bytes ≤ lim) (h2 : l.length + 1 ≤ lim) :
    ∃ y' V', appV (A ++ V) E.sz bytes y (E.enc a) 1 = some (y', A ++ V') ∧ LV E A.length V' y' (l ++ [a]) ∧ ∀ (p : Nat) (B : Blk), V[p]? = some B → B.opn ≠ some E.sz → V'[p]? = some B := by
  rcases h with ⟨rfl, rfl⟩ | ⟨p, v, hne, rfl, hV⟩
  · refine ⟨.sl (A.length + V.length) 0 0 1 1 false, V ++ [.cells (E.enc a) 0 (some E.sz) true], ?_, .inr ⟨V.length, 0, by simp, rfl, ?_⟩, fun p B hB _ => at_old hB⟩
    · simp only [appV]
      rw [if_neg (by omega), if_pos ⟨by simpa using h1, by unfold lim; omega⟩, List.length_append, List.append_assoc]
    · rw [at_app0]; simp
  · have hp : p < V.length := (List.getElem?_eq_some_iff.1 hV).1
    refine ⟨.sl (A.length + p) 0 (v + 1) (l.length + 1) (l.length + 1) false, V.set p (.cells ((l ++ [a]).flatMap E.enc) (v + 1) (some E.sz) true), ?_, .inr ⟨p, v + 1, by simp, by rw [List.length_append]; rfl, by rw [List.getElem?_set_self hp]⟩, fun q B hB hn => ?_⟩
    · simp only [appV]
      rw [if_neg (by omega), if_neg (by omega), if_pos ⟨h1, h2⟩, at_app, hV]
      simp only [Bool.false_eq_true, if_false]
      rw [if_pos ⟨trivial, trivial, trivial, by rw [enc_length]; exact Nat.le_refl _, hE a⟩, set_app]
      have he : (l.flatMap E.enc).take (l.length * E.sz) ++ E.enc a = (l ++ [a]).flatMap E.enc := by
        rw [List.flatMap_append, List.take_of_length_le (by rw [enc_length]; exact Nat.le_refl _)]; simp
      rw [he]
    · have hne' : p ≠ q := fun e => by
        subst e
        rw [hV] at hB
        injection hB with hB
        exact hn (by rw [← hB]; rfl)
      rw [List.getElem?_set_ne hne']; exact hB
end
theorem lst_at {α : Type} {E : Enc α} {M M' : Mem} {j o v len cap : Nat} {ex : Bool} (h : M'[j]? = M[j]?) : lstV E M' (.sl j o v len cap ex) = lstV E M (.sl j o v len cap ex) := by
  have hr : ∀ n, rowAt M' j o v n = rowAt M j o v n := fun n => by rw [rowAt_B, rowAt_B, h]
  cases hq : lstV E M (.sl j o v len cap ex) with
  | some l =>
    rcases lstV_lst hq with ⟨h1, _⟩ | ⟨h1, _⟩ | ⟨j', o', v', len', cap', ex', h1, h2, h3⟩
    · cases h1
    · cases h1
    · cases h1
      exact lst_lstV (.inr (.inr ⟨_, _, _, _, _, _, rfl, h2, by rw [hr]; exact h3⟩))
  | none =>
    cases hq' : lstV E M' (.sl j o v len cap ex) with
    | none => rfl
    | some l =>
      rcases lstV_lst hq' with ⟨h1, _⟩ | ⟨h1, _⟩ | ⟨j', o', v', len', cap', ex', h1, h2, h3⟩
      · cases h1
      · cases h1
      · cases h1
        rw [hr] at h3
        have : lstV E M (.sl j o v len cap ex) = some l := lst_lstV (.inr (.inr ⟨_, _, _, _, _, _, rfl, h2, h3⟩))
        rw [hq] at this; cases this
/-- Values that are left alone. -/
theorem Kd.keep {α : Type} {E : Enc α} {n : Nat} {M M' : Mem} {x : AV} {l : List α} (hk : Kd n M x) (hl : lstV E M x = some l) (h : ∀ (j : Nat) (B : Blk), n ≤ j → M[j]? = some B → B.opn ≠ some 19 → M'[j]? = some B) : lstV E M' x = some l ∧ Kd n M' x := by
  rcases hk with rfl | rfl | ⟨j, o, v, len, cap, ex, B, rfl, h2, h3, h4⟩
  · exact ⟨hl, .inl rfl⟩
  · exact ⟨hl, .inr (.inl rfl)⟩
  · have := h j B h2 h3 h4
    exact ⟨by rw [lst_at (this.trans h3.symm)]; exact hl, .inr (.inr ⟨j, o, v, len, cap, ex, B, rfl, h2, this, h4⟩)⟩
def Kq (n : Nat) (M : Mem) (q : Oq) : Prop := Kd n M q.x.v ∧ Kd n M q.y.v
theorem Kq.keep {n : Nat} {M M' : Mem} {q : Oq} {o : Opx} (hk : Kq n M q) (hv : q.val M = some o) (h : ∀ (j : Nat) (B : Blk), n ≤ j → M[j]? = some B → B.opn ≠ some 19 → M'[j]? = some B) : q.val M' = some o ∧ Kq n M' q := by
  obtain ⟨h1, h2, h3, h4, h5, h6, h7⟩ := Oq.val_ok hv
  obtain ⟨g1, g2⟩ := hk.1.keep h6 h
  obtain ⟨g3, g4⟩ := hk.2.keep h7 h
  refine ⟨?_, g2, g4⟩
  rw [Oq.val_mk g1 g3, ← h1, ← h2, ← h3, ← h4, ← h5]
theorem msnoc {S : Mem} {qs : List Oq} {q : Oq} {l : List Opx} {o : Opx} (h1 : qs.map (Oq.val S) = l.map some) (h2 : q.val S = some o) : (qs ++ [q]).map (Oq.val S) = (l ++ [o]).map some := by
  rw [List.map_append, List.map_append, h1]; simp [h2]
/-- The ops so far. -/
def QsV (n : Nat) (M : Mem) (qs : List Oq) (l : List Opx) : Prop := qs.map (Oq.val M) = l.map some ∧ ∀ q ∈ qs, Kq n M q
theorem QsV.keep {n : Nat} {M M' : Mem} {qs : List Oq} {l : List Opx} (hq : QsV n M qs l) (h : ∀ (j : Nat) (B : Blk), n ≤ j → M[j]? = some B → B.opn ≠ some 19 → M'[j]? = some B) : QsV n M' qs l := by
  obtain ⟨h1, h2⟩ := hq
  have key : ∀ q ∈ qs, ∃ o, q.val M = some o ∧ q.val M' = some o ∧ Kq n M' q := fun q hq => by
    have : q.val M ∈ l.map some := by rw [← h1]; exact List.mem_map_of_mem hq
    obtain ⟨o, _, ho⟩ := List.mem_map.1 this
    obtain ⟨g1, g2⟩ := (h2 q hq).keep ho.symm h
    exact ⟨o, ho.symm, g1, g2⟩
  refine ⟨?_, fun q hq => by obtain ⟨o, _, _, h⟩ := key q hq; exact h⟩
  rw [← h1]
  refine List.map_congr_left fun q hq => ?_
  obtain ⟨o, g1, g2, _⟩ := key q hq
  rw [g1, g2]
theorem QsV.snoc {n : Nat} {M : Mem} {qs : List Oq} {l : List Opx} {q : Oq} {o : Opx} (h : QsV n M qs l) (hv : q.val M = some o) (hk : Kq n M q) : QsV n M (qs ++ [q]) (l ++ [o]) := by
  refine ⟨msnoc h.1 hv, fun r hr => ?_⟩
  rcases List.mem_append.1 hr with hr | hr
  · exact h.2 r hr
  · rw [List.mem_singleton.1 hr]; exact hk
theorem QsV.len {n : Nat} {M : Mem} {qs : List Oq} {l : List Opx} (h : QsV n M qs l) : qs.length = l.length := by
  have := congrArg List.length h.1
  rwa [List.length_map, List.length_map] at this
theorem Kd.less {n m : Nat} {M : Mem} {x : AV} (h : Kd m M x) (hn : n ≤ m) : Kd n M x := by
  rcases h with h | h | ⟨j, o, v, len, cap, ex, B, h1, h2, h3, h4⟩
  · exact .inl h
  · exact .inr (.inl h)
  · exact .inr (.inr ⟨j, o, v, len, cap, ex, B, h1, by omega, h3, h4⟩)
end Go.Proofs.YtmolaemlenllmaaGreat

namespace Go.Proofs.YtmolaemlenllmaaGreat
open Go.RowKit
set_option linter.unusedSimpArgs false
set_option linter.unusedVariables false
set_option maxRecDepth 10000

theorem op_call {M : Mem} {i : Nat} {x : AV} {s : St} (h : Src M i x s) : ∃ y S', opPS [.p i 0 0] M = some (y, S') ∧ RdO i M (opF s).1 (opF s).2 y S' := by
  obtain ⟨y, S', h1, h2⟩ := op_fn M i x s h
  obtain ⟨y', S2, g1, g2⟩ := relS_eq (R := fun args S y S' => ∀ i x s, args = [.p i 0 0] → Src S i x s → RdO i S (opF s).1 (opF s).2 y S') h1 (fun i' x' s' e hs => by
    injection e with e _
    injection e with e
    subst e
    obtain ⟨rfl, rfl⟩ := h.inj hs
    exact h2)
  exact ⟨y', S2, g1, g2 i x s rfl h⟩
theorem oRead_ok : OK Tryz.prog (lamOf Tryz.prog) (orcOf [(33, numPS), (32, zagPS), (34, manyPS), (35, opPS), (7, sbytesS false), (26, eqlBS)]) := orc_ok (by simpa using ⟨numP_ok, zagP_ok, manyP_ok, opP_ok, sbytes_ok, eqlB_ok⟩)
/-- While ops are read. -/
structure Rj (S : Mem) (R0 C : Blk) (bx : AV) (n : Nat) (s0 : St) (m : Nat) (e : Env) (M : Mem) (pre : List Opx) (s : St) (x y : AV) (V : Mem) (qs : List Oq) : Prop where
  len : m + pre.length = n
  rep : repF opF n s0 = (pre ++ (repF opF m s).1, (repF opF m s).2)
  mem : M = S ++ ([R0, srcB x s.2, C] ++ V)
  src : Src M (S.length + 1) x s
  lv : LV oqE (S.length + 3) V y qs
  qv : QsV (S.length + 3) M qs pre
  e5 : e.get 5 = .p (S.length + 1) 0 0
  e2 : e.get 2 = .p S.length 0 0
  e6 : e.get 6 = .p (S.length + 2) 0 0
  e0 : e.get 0 = bx
  e21 : e.get 21 = .i .i64 (n : Int)
  e22 : e.get 22 = .i .i64 (pre.length : Int)
  e7 : e.get 7 = y
/-- Behind all ops. -/
structure Re (S : Mem) (R0 C : Blk) (bx : AV) (l : List Opx) (s : St) (ix : IX) (e : Env) (M : Mem) (x y : AV) (V : Mem) (qs : List Oq) : Prop where
  ix : ix = .exit 0
  mem : M = S ++ ([R0, srcB x s.2, C] ++ V)
  lv : LV oqE (S.length + 3) V y qs
  qv : QsV (S.length + 3) M qs l
  e5 : e.get 5 = .p (S.length + 1) 0 0
  e2 : e.get 2 = .p S.length 0 0
  e6 : e.get 6 = .p (S.length + 2) 0 0
  e0 : e.get 0 = bx
  e7 : e.get 7 = y
theorem read_trace {S : Mem} {R0 C : Blk} {bx : AV} (hbx : bx.one = true) (n : Nat) (hn : n ≤ 400) (s0 : St) :
    ∀ (m : Nat) (e : Env) (M : Mem), (∃ pre s x y V qs, Rj S R0 C bx n s0 m e M pre s x y V qs) →
    ∃ ix e1 M1, (∃ x y V qs, Re S R0 C bx (repF opF n s0).1 (repF opF n s0).2 ix e1 M1 x y V qs) ∧ WP Tryz.prog S false (.loop [5, 2, 6, 0, 21, 22, 7] c17l0) e M [] (onlyK ix e1 M1) := by
  refine wp_trace (J := fun m e M => ∃ pre s x y V qs, Rj S R0 C bx n s0 m e M pre s x y V qs) (fun ix e1 M1 => ∃ x y V qs, Re S R0 C bx (repF opF n s0).1 (repF opF n s0).2 ix e1 M1 x y V qs) (by rintro e S ⟨_, _, _, _, h⟩; have := h.ix; cases this) ?_
  rintro m e M ⟨pre, s, x, y, V, qs, hlen, hrep, hM, hsrc, hlv, hqv, e5, e2, e6, e0, e21, e22, e7⟩
  cases m with
  | zero =>
    right
    have hpre : pre.length = n := by omega
    simp only [repF, List.append_nil] at hrep
    have hI : ¬ (pre.length : Int) < n := by omega
    apply Exists.intro; apply Exists.intro; apply Exists.intro; refine ⟨?_, ?_⟩; rotate_left 1
    · refine W_sound oRead_ok mixed _ _ _ _ _ ?_
      simp (maxSteps := 1000000) (disch := omega) only [c17l0, e5, e2, e6, e0, e21, e22, e7, hI, go_sem]
      exact onlyK_mk
    · exact ⟨x, y, V, qs, ⟨rfl, by rw [hrep]; exact hM, hlv, by rw [hrep]; exact hqv, rfl, rfl, rfl, rfl, rfl⟩⟩
  | succ m =>
    left
    have hI : (pre.length : Int) < n := by omega
    have hk6 : pre.length < 1000000 := by omega
    rw [repF] at hrep
    obtain ⟨yy, S', hcall, q, x', U, rfl, hS', hsrc', hval, hkx, hky⟩ := op_call hsrc
    generalize hof : opF s = os at hrep hS' hsrc' hval
    obtain ⟨o, s'⟩ := os
    simp only at hrep hS' hsrc' hval
    -- the memory behind the call
    have hS2 : S' = S ++ ([R0, srcB x' s'.2, C] ++ (V ++ U)) := by
      rw [hS', hM, set_app, List.append_assoc]
      rfl
    have hML : M.length = S.length + 3 + V.length := by rw [hM, List.length_append, List.length_append]; simp only [List.length_cons, List.length_nil]; omega
    have hkeep : ∀ j B, S.length + 3 ≤ j → M[j]? = some B → B.opn ≠ some 19 → (S' ++ [Blk.cells q.enc 0 none true])[j]? = some B := fun j B hj hB _ => by
      obtain ⟨p, rfl⟩ : ∃ p, j = S.length + (3 + p) := ⟨j - (S.length + 3), by omega⟩
      rw [hM, at_app] at hB
      have hB : V[p]? = some B := by rw [List.getElem?_append_right (by simp)] at hB; simpa using hB
      refine at_old ?_
      rw [hS2, at_app, List.getElem?_append_right (by simp)]
      simpa using at_old (L := U) hB
    have hqv1 := hqv.keep hkeep
    have hqs : qs.length = pre.length := hqv.len
    obtain ⟨A, hAe⟩ : ∃ A : Mem, A = S ++ [R0, srcB x' s'.2, C] := ⟨_, rfl⟩
    have hAl : A.length = S.length + 3 := by rw [hAe, List.length_append]; rfl
    have hlv1 : LV oqE A.length (V ++ (U ++ [Blk.cells q.enc 0 none true])) y qs := by
      have : LV oqE (S.length + 3) V y qs := hlv
      rw [← hAl] at this
      exact this.grow _
    obtain ⟨y', V', hap, hlv', hV'⟩ := hlv1.app (bytes := 160) oqE_one q (by rw [hqs]; unfold lim; omega) (by rw [hqs]; unfold lim; omega)
    have hMA : S' ++ [Blk.cells q.enc 0 none true] = A ++ (V ++ (U ++ [Blk.cells q.enc 0 none true])) := by
      rw [hS2, hAe]; simp only [List.append_assoc]
    have hap : appV (S' ++ [.cells q.enc 0 none true]) 19 160 y q.enc 1 = some (y', A ++ V') := by rw [hMA]; exact hap
    have hkeep2 : ∀ j B, S.length + 3 ≤ j → (S' ++ [Blk.cells q.enc 0 none true])[j]? = some B → B.opn ≠ some 19 → (A ++ V')[j]? = some B := fun j B hj hB hnB => by
      obtain ⟨p, rfl⟩ : ∃ p, j = A.length + p := ⟨j - (S.length + 3), by omega⟩
      rw [hMA, at_app] at hB
      rw [at_app]
      exact hV' p B hB hnB
    have hkq : Kq (S.length + 3) (S' ++ [Blk.cells q.enc 0 none true]) q := ⟨(hkx.less (by omega)).grow _, (hky.less (by omega)).grow _⟩
    have hval1 := Oq.val_ext hval (ext_app [Blk.cells q.enc 0 none true])
    have hqv2 := (hqv1.snoc hval1 hkq).keep hkeep2
    have hsrc2 : Src (A ++ V') (S.length + 1) x' s' := by
      have hb := hsrc'.blk
      have ht : (A ++ V').take (S.length + 1) = S'.take (S.length + 1) := by
        rw [hS2, hAe, List.append_assoc, List.take_append, List.take_append (l₁ := S) (l₂ := [R0, srcB x' s'.2, C] ++ (V ++ U)), Nat.add_sub_cancel_left]
        rfl
      exact ⟨by rw [hAe, List.append_assoc, at_app]; rfl, by rw [ht]; exact hsrc'.lst, by rw [ht]; exact hsrc'.opn, hsrc'.ok⟩
    have ylen := hlv1.one
    have ycel := hlv1.cells
    have ylen' := hlv'.one
    have ycel' := hlv'.cells
    have q1 := q.x.h
    have q2 := q.y.h
    refine ⟨m, ?_⟩; apply Exists.intro; apply Exists.intro; refine ⟨Nat.lt_succ_self m, ?_, ?_⟩; rotate_left 1
    · refine W_sound oRead_ok mixed _ _ _ _ _ ?_
      simp only [Oq.enc] at hcall hap
      simp (maxSteps := 1000000) (disch := omega) only [c17l0, e5, e2, e6, e0, e21, e22, e7, hI, orc_cons, hcall, List.replicate, q1, q2, src_sl, srcN_some, hap, wrapS hk6, go_sem]
      exact onlyK_mk
    · exact ⟨pre ++ [o], s', x', y', V', qs ++ [q], ⟨by rw [List.length_append, List.length_singleton]; omega, by rw [hrep, List.append_assoc]; rfl, by rw [hAe, List.append_assoc], hsrc2, by rw [← hAl]; exact hlv', hqv2, rfl, rfl, rfl, rfl, rfl, by rw [List.length_append, List.length_singleton]; rfl, rfl⟩⟩
end Go.Proofs.YtmolaemlenllmaaGreat

namespace Go.Proofs.YtmolaemlenllmaaGreat
open Go.RowKit
set_option linter.unusedSimpArgs false
set_option linter.unusedVariables false
set_option maxRecDepth 10000

section
variable {S : Mem} {R0 B : Blk} {x : AV} {s : St}
theorem zag_read (h : Src (S ++ [R0, B]) (S.length + 1) x s) (L : Mem) : ∃ x', zagPS [.p (S.length + 1) 0 0] (S ++ (R0 :: B :: L)) = some (.i .i64 (zag (numF s).1), S ++ (R0 :: srcB x' (numF s).2.2 :: L)) ∧ Src (S ++ [R0, srcB x' (numF s).2.2]) (S.length + 1) x' (numF s).2 := by
  obtain ⟨x', h1, h2⟩ := rd1_call zag_fn h L
  have e : ∀ B', (S ++ [R0, B]).set (S.length + 1) B' = S ++ [R0, B'] := fun B' => by rw [set_app]; rfl
  rw [e] at h1 h2
  rw [List.append_assoc, List.append_assoc] at h1
  exact ⟨x', h1, h2⟩
theorem num_read (h : Src (S ++ [R0, B]) (S.length + 1) x s) (L : Mem) : ∃ x', numPS [.p (S.length + 1) 0 0] (S ++ (R0 :: B :: L)) = some (.i .u64 (numF s).1, S ++ (R0 :: srcB x' (numF s).2.2 :: L)) ∧ Src (S ++ [R0, srcB x' (numF s).2.2]) (S.length + 1) x' (numF s).2 := by
  obtain ⟨x', h1, h2⟩ := rd1_call num_fn h L
  have e : ∀ B', (S ++ [R0, B]).set (S.length + 1) B' = S ++ [R0, B'] := fun B' => by rw [set_app]; rfl
  rw [e] at h1 h2
  rw [List.append_assoc, List.append_assoc] at h1
  exact ⟨x', h1, h2⟩
theorem many_read {m : Int} (hm : 0 ≤ m ∧ m ≤ 9223372036854775807) (h : Src (S ++ [R0, B]) (S.length + 1) x s) (L : Mem) : ∃ x', manyPS [.p (S.length + 1) 0 0, .i .i64 m] (S ++ (R0 :: B :: L)) = some (.i .i64 (manyF m s).1, S ++ (R0 :: srcB x' (manyF m s).2.2 :: L)) ∧ Src (S ++ [R0, srcB x' (manyF m s).2.2]) (S.length + 1) x' (manyF m s).2 := by
  obtain ⟨x', h1, h2⟩ := rd2_call (val := fun m s => .i .i64 (manyF m s).1) (nx := fun m s => (manyF m s).2) (many_fn hm) h L
  have e : ∀ B', (S ++ [R0, B]).set (S.length + 1) B' = S ++ [R0, B'] := fun B' => by rw [set_app]; rfl
  rw [e] at h1 h2
  rw [List.append_assoc, List.append_assoc] at h1
  exact ⟨x', h1, h2⟩
end
/-- What reading a script answers. -/
def RdF (S : Mem) (b : List Int) (y : AV) (S' : Mem) : Prop := ∃ (a q p err : Int) (z : AV) (l : List Opx), y = .tu [.ag [.i .i64 a, .i .i64 q, .i .u64 p], z, .i .i64 err] ∧ S <+: S' ∧ opsOf S' z = some l ∧
  (match readF b with | some (c, l') => c = ⟨a, q, p⟩ ∧ l = l' ∧ err = 0 | none => a = 0 ∧ q = 0 ∧ p = 0 ∧ l = [] ∧ err = 221)
theorem rdf_bad {S S' : Mem} {b : List Int} (h : readF b = none) (hS : S <+: S') : RdF S b (.tu [.ag [.i .i64 0, .i .i64 0, .i .u64 0], .sn, .i .i64 221]) S' :=
  ⟨0, 0, 0, 221, .sn, [], rfl, hS, rfl, by rw [h]; exact ⟨rfl, rfl, rfl, rfl, rfl⟩⟩
set_option maxHeartbeats 2000000 in
theorem read_fn (S : Mem) (bx : AV) (b : List Int) (hl : lstV byteE S bx = some b) (ho : openQ S 1 bx = true) (hu : ∀ c ∈ b, u8 c) (hlen : b.length ≤ 900000) : ∃ y S', FnOK Tryz.prog 17 [bx] S y S' ∧ RdF S b y S' := by
  have hb1 := lst_one hl
  have hbc := lst_cells hl
  have hs0 : Src (S ++ [.cells [.i .i64 0, .i .i64 0, .i .u64 0] 0 none true, srcB bx false]) (S.length + 1) bx (b, false) := by
    have ht : (S ++ [Blk.cells [.i .i64 0, .i .i64 0, .i .u64 0] 0 none true, srcB bx false]).take (S.length + 1) = S ++ [.cells [.i .i64 0, .i .i64 0, .i .u64 0] 0 none true] := by
      rw [List.take_append, List.take_of_length_le (by omega), Nat.add_sub_cancel_left]; rfl
    exact ⟨by rw [at_app]; rfl, by rw [ht]; exact lstV_grow hl _, by rw [ht]; exact openQ_grow ho _, ⟨by show b.length ≤ _; omega, hu⟩⟩
  obtain ⟨x1, c1, h1⟩ := zag_read hs0 []
  have hpok := readP_ok hu (by omega)
  have hF : readF b = fin b (readP b) := rfl
  generalize hp : readP b = P at hF hpok
  unfold readP at hp
  generalize hq1 : numF (b, false) = q1 at hp c1 h1
  obtain ⟨a, s1⟩ := q1
  simp only at hp c1 h1
  obtain ⟨x2, c2, h2⟩ := zag_read h1 []
  generalize hq2 : numF s1 = q2 at hp c2 h2
  obtain ⟨q, s2⟩ := q2
  simp only at hp c2 h2
  obtain ⟨x3, c3, h3⟩ := num_read h2 []
  generalize hq3 : numF s2 = q3 at hp c3 h3
  obtain ⟨p, s3⟩ := q3
  simp only at hp c3 h3
  generalize zag a = za at *
  generalize zag q = zq at *
  obtain ⟨x4, c4, h4⟩ := many_read (m := 400) (by omega) h3 [.cells [.i .i64 za, .i .i64 zq, .i .u64 p] 0 none true]
  have hmo := manyF_ok (m := 400) (by omega) h3.ok
  generalize hq4 : manyF 400 s3 = q4 at hp c4 h4 hmo
  obtain ⟨n, s4⟩ := q4
  simp only at hp c4 h4 hmo
  obtain ⟨nn, rfl⟩ := Int.eq_ofNat_of_zero_le hmo.1
  rw [Int.toNat_natCast] at hp
  obtain ⟨ix, e1, M1, ⟨x5, y, V, qs, rfl, hM1, hlv, hqv, g5, g2, g6, g0, g7⟩, hw⟩ := read_trace (S := S) (R0 := .cells [.i .i64 0, .i .i64 0, .i .u64 0] 0 none true) (C := .cells [.i .i64 za, .i .i64 zq, .i .u64 p] 0 none true) hb1 nn (by omega) s4 nn
    [(5, .p (S.length + 1) 0 0), (2, .p S.length 0 0), (6, .p (S.length + 2) 0 0), (0, bx), (21, .i .i64 (nn : Int)), (22, .i .i64 0), (7, .sn)]
    (S ++ [.cells [.i .i64 0, .i .i64 0, .i .u64 0] 0 none true, srcB x4 s4.2, .cells [.i .i64 za, .i .i64 zq, .i .u64 p] 0 none true])
    ⟨[], s4, x4, .sn, [], [], ⟨rfl, rfl, rfl, by have := h4.grow [.cells [.i .i64 za, .i .i64 zq, .i .u64 p] 0 none true]; rw [List.append_assoc] at this; exact this, .inl ⟨rfl, rfl⟩, ⟨rfl, by simp⟩, rfl, rfl, rfl, rfl, rfl, rfl, rfl⟩⟩
  generalize repF opF nn s4 = w at hp hM1 hlv hqv hw
  obtain ⟨l, s5⟩ := w
  simp only at hp hM1 hlv hqv hw
  subst hp
  simp only at hpok
  obtain ⟨hcg, hfine, hl4⟩ := hpok
  have hA1 : (S ++ [Blk.cells [.i .i64 0, .i .i64 0, .i .u64 0] 0 none true, srcB x5 s5.2, .cells [.i .i64 za, .i .i64 zq, .i .u64 p] 0 none true]).length = S.length + 3 := by rw [List.length_append]; rfl
  have hlv1 : LV oqE (S ++ [Blk.cells [.i .i64 0, .i .i64 0, .i .u64 0] 0 none true, srcB x5 s5.2, .cells [.i .i64 za, .i .i64 zq, .i .u64 p] 0 none true]).length V y qs := by rw [hA1]; exact hlv
  have hops : opsOf M1 y = some l := opsOf_iff.2 ⟨qs, by have := hlv1.lst; rw [List.append_assoc] at this; rw [hM1]; exact this, hqv.1⟩
  have hlg : ∀ o ∈ l, o.good := fun o ho => (hfine o ho).1
  have hls : allSmall l = true := small_of fun o ho => by have := (hfine o ho).2; omega
  obtain ⟨X, M3, hby, hX, ⟨U, rfl⟩, _⟩ := sbytes_call (z := false) hops hcg hlg (by omega) hls
  have hM3 : M1 ++ U = S ++ ([.cells [.i .i64 0, .i .i64 0, .i .u64 0] 0 none true, srcB x5 s5.2, .cells [.i .i64 za, .i .i64 zq, .i .u64 p] 0 none true] ++ (V ++ U)) := by rw [hM1]; simp only [List.append_assoc]
  have hC1 : M1[S.length + 2]? = some (.cells [.i .i64 za, .i .i64 zq, .i .u64 p] 0 none true) := by rw [hM1, at_app]; rfl
  have hC3 : (M1 ++ U)[S.length + 2]? = some (.cells [.i .i64 za, .i .i64 zq, .i .u64 p] 0 none true) := at_old hC1
  have hS3 : (M1 ++ U)[S.length + 1]? = some (.cells [x5, .b s5.2] 0 none true) := by rw [hM3, at_app]; rfl
  have hR3 : (M1 ++ U)[S.length]? = some (.cells [.i .i64 0, .i .i64 0, .i .u64 0] 0 none true) := by rw [hM3, at_app0]; rfl
  have hset : ∀ B', ((M1 ++ U).set S.length B')[S.length]? = some B' := fun B' => at_set hR3
  have hSM : ∀ B', S <+: (M1 ++ U).set S.length B' := fun B' => by rw [hM3, set_app0]; exact ext_app _
  have hone := hlv1.one
  have hcel := hlv1.cells
  have hbxM : lstV byteE (M1 ++ U) bx = some b := lst_ext hl (by rw [hM3]; exact ext_app _)
  have hF2 : readF b = if s5.2 = false ∧ allR l ∧ scriptB ⟨za, zq, p⟩ l = b then some (⟨za, zq, p⟩, l) else none := hF
  simp only [srcB] at c1 c2 c3 c4 hw
  have bad : ∀ (hbad : ¬ (s5.2 = false ∧ allR l ∧ scriptB ⟨za, zq, p⟩ l = b)), readF b = none := fun h => by rw [hF2, if_neg h]
  cases hbad : s5.2 with
  | true =>
    rw [hbad] at hS3
    generalize (if allR l then (0 : Int) else 221) = er at hby
    apply Exists.intro; apply Exists.intro; refine ⟨?_, ?_⟩
    · apply fn_of_wp f17 rfl; apply W_sound oRead_ok mixed
      simp (maxSteps := 1000000) (disch := omega) only [c17, List.replicate, hbc, hb1, orc_cons, c1, c2, c3, c4, go_sem]
      refine hw.mono ?_
      rintro _ _ _ _ ⟨rfl, rfl, rfl, rfl⟩
      simp (maxSteps := 1000000) (disch := omega) only [g5, g2, g6, g0, g7, hC1, orc_cons, hby, hS3, hR3, hC3, hset, hone, hcel, hbad, go_sem]
      exact wkv_same
    · exact rdf_bad (bad fun h => by have := h.1; rw [hbad] at this; cases this) (hSM _)
  | false =>
    rw [hbad] at hS3
    by_cases hr : allR l
    · rw [if_pos hr] at hby hX
      have hsl := script_len (head_u64 (c := ⟨za, zq, p⟩) (n := (l.length : Int)) hcg ⟨by omega, by omega⟩) hr hlg
      have heq : eqlBS [X, bx] (M1 ++ U) = some (.b (decide (scriptB ⟨za, zq, p⟩ l = b)), M1 ++ U) := by simp only [eqlBS, hX, hbxM]; rw [if_pos (by omega)]
      by_cases he : scriptB ⟨za, zq, p⟩ l = b
      · rw [decide_eq_true he] at heq
        have hops2 : opsOf ((M1 ++ U).set S.length (.cells [.i .i64 za, .i .i64 zq, .i .u64 p] 0 none true)) y = some l := by
          have e : (M1 ++ U).set S.length (.cells [.i .i64 za, .i .i64 zq, .i .u64 p] 0 none true) = (S ++ [.cells [.i .i64 za, .i .i64 zq, .i .u64 p] 0 none true, srcB x5 s5.2, .cells [.i .i64 za, .i .i64 zq, .i .u64 p] 0 none true]) ++ (V ++ U) := by
            rw [hM3, set_app0, List.append_assoc]; rfl
          have hlv3 : LV oqE (S ++ [Blk.cells [.i .i64 za, .i .i64 zq, .i .u64 p] 0 none true, srcB x5 s5.2, .cells [.i .i64 za, .i .i64 zq, .i .u64 p] 0 none true]).length (V ++ U) y qs := by
            have := hlv1.grow U
            rw [List.length_append] at this ⊢
            exact this
          have hk := hqv.keep (M' := (M1 ++ U).set S.length (.cells [.i .i64 za, .i .i64 zq, .i .u64 p] 0 none true)) fun j B hj hB _ => by
            rw [List.getElem?_set_ne (by omega)]; exact at_old hB
          exact opsOf_iff.2 ⟨qs, by rw [e]; exact hlv3.lst, hk.1⟩
        apply Exists.intro; apply Exists.intro; refine ⟨?_, ?_⟩
        · apply fn_of_wp f17 rfl; apply W_sound oRead_ok mixed
          simp (maxSteps := 1000000) (disch := omega) only [c17, List.replicate, hbc, hb1, orc_cons, c1, c2, c3, c4, go_sem]
          refine hw.mono ?_
          rintro _ _ _ _ ⟨rfl, rfl, rfl, rfl⟩
          simp (maxSteps := 1000000) (disch := omega) only [g5, g2, g6, g0, g7, hC1, orc_cons, hby, hS3, hR3, hC3, hset, hone, hcel, heq, Bool.not_true, go_sem]
          exact wkv_same
        · exact ⟨za, zq, p, 0, y, l, rfl, hSM _, hops2, by rw [hF2, if_pos ⟨hbad, hr, he⟩]; exact ⟨rfl, rfl, rfl⟩⟩
      · rw [decide_eq_false he] at heq
        apply Exists.intro; apply Exists.intro; refine ⟨?_, ?_⟩
        · apply fn_of_wp f17 rfl; apply W_sound oRead_ok mixed
          simp (maxSteps := 1000000) (disch := omega) only [c17, List.replicate, hbc, hb1, orc_cons, c1, c2, c3, c4, go_sem]
          refine hw.mono ?_
          rintro _ _ _ _ ⟨rfl, rfl, rfl, rfl⟩
          simp (maxSteps := 1000000) (disch := omega) only [g5, g2, g6, g0, g7, hC1, orc_cons, hby, hS3, hR3, hC3, hset, hone, hcel, heq, Bool.not_false, go_sem]
          exact wkv_same
        · exact rdf_bad (bad fun h => he h.2.2) (hSM _)
    · rw [if_neg hr] at hby
      apply Exists.intro; apply Exists.intro; refine ⟨?_, ?_⟩
      · apply fn_of_wp f17 rfl; apply W_sound oRead_ok mixed
        simp (maxSteps := 1000000) (disch := omega) only [c17, List.replicate, hbc, hb1, orc_cons, c1, c2, c3, c4, go_sem]
        refine hw.mono ?_
        rintro _ _ _ _ ⟨rfl, rfl, rfl, rfl⟩
        simp (maxSteps := 1000000) (disch := omega) only [g5, g2, g6, g0, g7, hC1, orc_cons, hby, hS3, hR3, hC3, hset, hone, hcel, go_sem]
        exact wkv_same
      · exact rdf_bad (bad fun h => hr h.2.1) (hSM _)
end Go.Proofs.YtmolaemlenllmaaGreat

namespace Go.Proofs.YtmolaemlenllmaaGreat
open Go.RowKit
set_option linter.unusedSimpArgs false
set_option linter.unusedVariables false
set_option maxRecDepth 10000

noncomputable def readS : Spec := relS Tryz.prog 17 (fun args S y S' => ∀ bx b, args = [bx] → lstV byteE S bx = some b → openQ S 1 bx = true → (∀ c ∈ b, u8 c) → b.length ≤ 900000 → RdF S b y S')
theorem read_ok : SpecOK Tryz.prog 17 readS := by unfold readS; exact relS_ok
theorem read_call {S : Mem} {bx : AV} {b : List Int} (hl : lstV byteE S bx = some b) (ho : openQ S 1 bx = true) (hu : ∀ c ∈ b, u8 c) (hlen : b.length ≤ 900000) : ∃ y S', readS [bx] S = some (y, S') ∧ RdF S b y S' := by
  obtain ⟨y, S', h1, h2⟩ := read_fn S bx b hl ho hu hlen
  obtain ⟨y', S2, g1, g2⟩ := relS_eq (R := fun args S y S' => ∀ bx b, args = [bx] → lstV byteE S bx = some b → openQ S 1 bx = true → (∀ c ∈ b, u8 c) → b.length ≤ 900000 → RdF S b y S') h1 (fun bx' b' e hl' _ _ _ => by
    injection e with e _
    subst e
    rw [hl] at hl'
    injection hl' with hl'
    subst hl'
    exact h2)
  exact ⟨y', S2, g1, g2 bx b rfl hl ho hu hlen⟩
theorem eqcfg {ne : Bool} {a q p a' q' p' : Int} : eqAgV ne [.int, .int, .int] (.ag [.i .i64 a, .i .i64 q, .i .u64 p]) (.ag [.i .i64 a', .i .i64 q', .i .u64 p']) = some (.b (decide ((a = a' ∧ q = q' ∧ p = p')) != ne)) := by
  cases ne <;> simp [eqAgV, eqCells, eqCell, Bool.beq_eq_decide_eq, and_assoc]
theorem fine_small {l : List Opx} (h : ∀ o ∈ l, o.fine) : allSmall l = true := small_of fun o ho => by have := (h o ho).2; omega
end Go.Proofs.YtmolaemlenllmaaGreat

namespace Go.Proofs.YtmolaemlenllmaaGreat
open Go.RowKit
set_option linter.unusedSimpArgs false
set_option linter.unusedVariables false
set_option maxRecDepth 10000

def numR (s : St) : Int × St := if s.2 = true then (0, s) else match getL s.1 with
  | some (n, k) => (n, (s.1.drop k, false))
  | none => (0, (s.1, true))
def polR (s : St) : Pol × St :=
  match numR s with
  | (a, s) => match numR s with
  | (n, s) => match numR (s.1, s.2 || decide (4294967295 < n)) with
  | (c, s) => match numR s with
  | (n1, s) => match numR s with
  | (n2, s) => match numR s with
  | (n3, s) => match numR s with
  | (n4, s) => match numR s with
  | (n5, s) => match numR s with
  | (n6, s) => match numR s with
  | (n7, s) => (⟨zag a, b3 (n % 4294967296), b2 (n % 4294967296), b1 (n % 4294967296), b0 (n % 4294967296), zag c, n1, n2, n3, n4, n5, n6, n7⟩, s)
def keepR (s : St) : Bool × St := (decide ((numR s).1 = 1), ((numR s).2.1, (numR s).2.2 || decide (1 < (numR s).1)))
def opR (s : St) : Opx × St :=
  match numR s with
  | (k, s) => if 12 < k then (opz 0, (s.1, true))
    else if k = 0 then (match numR s with
      | (n, s) => if 2000 < n ∨ (s.1.length : Int) < n then (opz 0, (s.1, true)) else ({ opz 0 with bs := s.1.take n.toNat }, (s.1.drop n.toNat, s.2)))
    else if k = 1 then ({ opz k with n := (numR s).1 }, (numR s).2)
    else if k = 4 then ({ opz k with pol := (polR s).1 }, (polR s).2)
    else if k = 5 ∨ k = 8 then ({ opz k with sub := zag (numR s).1 }, (numR s).2)
    else if k = 10 then ({ opz k with brk := zag (numR s).1 }, (numR s).2)
    else if k = 11 then (match numR s with
      | (n, s) => ({ opz k with ks := (whF keepR (min n 65).toNat s).1 }, (whF keepR (min n 65).toNat s).2))
    else (opz k, s)
def readR (b : List Int) : Cfg × List Opx × Bool :=
  match numR (b, false) with
  | (a, s) => match numR s with
  | (q, s) => match numR s with
  | (p, s) => match numR s with
  | (n, s) => (⟨zag a, zag q, p⟩, (whF opR (min n 401).toNat s).1, (whF opR (min n 401).toNat s).2.2)
theorem numR_leb {n : Int} (h : u64 n) (r : List Int) : numR (leb n ++ r, false) = (n, (r, false)) := by
  simp only [numR, Bool.false_eq_true, if_false, getL_leb h, List.drop_left]
theorem numR_ok {s : St} (h : s.ok) : u64 (numR s).1 ∧ (numR s).2.ok := by
  unfold numR
  split
  · exact ⟨by unfold u64; simp, h⟩
  · split
    · rename_i n k hg
      exact ⟨(getL_some h.2 hg).1, h.drop k⟩
    · exact ⟨by unfold u64; simp, h⟩
theorem polR_ok {s : St} (h : s.ok) : (polR s).1.good ∧ (polR s).2.ok := by
  unfold polR
  have h1 := numR_ok h
  generalize numR s = qq at h1 ⊢
  obtain ⟨a, s1⟩ := qq
  have h2 := numR_ok h1.2
  simp only at h1 h2 ⊢
  generalize numR s1 = qq at h2 ⊢
  obtain ⟨n, s2⟩ := qq
  simp only at h2 ⊢
  have h3 := numR_ok (s := (s2.1, s2.2 || decide (4294967295 < n))) h2.2
  generalize numR (s2.1, s2.2 || decide (4294967295 < n)) = qq at h3 ⊢
  obtain ⟨c, s3⟩ := qq
  have h4 := numR_ok h3.2
  simp only at h3 h4 ⊢
  generalize numR s3 = qq at h4 ⊢
  obtain ⟨n1, s4⟩ := qq
  have h5 := numR_ok h4.2
  simp only at h4 h5 ⊢
  generalize numR s4 = qq at h5 ⊢
  obtain ⟨n2, s5⟩ := qq
  have h6 := numR_ok h5.2
  simp only at h5 h6 ⊢
  generalize numR s5 = qq at h6 ⊢
  obtain ⟨n3, s6⟩ := qq
  have h7 := numR_ok h6.2
  simp only at h6 h7 ⊢
  generalize numR s6 = qq at h7 ⊢
  obtain ⟨n4, s7⟩ := qq
  have h8 := numR_ok h7.2
  simp only at h7 h8 ⊢
  generalize numR s7 = qq at h8 ⊢
  obtain ⟨n5, s8⟩ := qq
  have h9 := numR_ok h8.2
  simp only at h8 h9 ⊢
  generalize numR s8 = qq at h9 ⊢
  obtain ⟨n6, s9⟩ := qq
  have h10 := numR_ok h9.2
  simp only at h9 h10 ⊢
  exact ⟨⟨zag_i64 h1.1, u84_mod n, zag_i64 h3.1, h4.1, h5.1, h6.1, h7.1, h8.1, h9.1, h10.1⟩, h10.2⟩
theorem polR_code {p : Pol} (h : p.good) (r : List Int) : polR (lebs p.zs ++ r, false) = (p, (r, false)) := by
  have hu := zs_u64 h
  have hn := u84_num h.2.1
  have e : lebs p.zs ++ r = leb (zig p.sub) ++ (leb (num p.a p.b p.c p.d) ++ (leb (zig p.bits) ++ (leb p.rate ++ (leb p.burst ++ (leb p.srate ++ (leb p.sburst ++ (leb p.quota ++ (leb p.lease ++ (leb p.quantum ++ r))))))))) := by
    unfold lebs Pol.zs
    simp only [List.flatMap_cons, List.flatMap_nil, List.append_assoc, List.nil_append]
  have hd : (false || decide (4294967295 < num p.a p.b p.c p.d)) = false := by unfold u32 at hn; rw [decide_eq_false (by omega)]; rfl
  rw [e, polR, numR_leb (hu _ (by simp [Pol.zs]))]
  simp only
  rw [numR_leb (hu _ (by simp [Pol.zs]))]
  simp only [hd]
  rw [numR_leb (hu _ (by simp [Pol.zs]))]
  simp only
  rw [numR_leb (hu _ (by simp [Pol.zs]))]
  simp only
  rw [numR_leb (hu _ (by simp [Pol.zs]))]
  simp only
  rw [numR_leb (hu _ (by simp [Pol.zs]))]
  simp only
  rw [numR_leb (hu _ (by simp [Pol.zs]))]
  simp only
  rw [numR_leb (hu _ (by simp [Pol.zs]))]
  simp only
  rw [numR_leb (hu _ (by simp [Pol.zs]))]
  simp only
  rw [numR_leb (hu _ (by simp [Pol.zs]))]
  simp only [pol_eta h]
theorem keepR_code (b : Bool) (r : List Int) : keepR (leb (flagN b) ++ r, false) = (b, (r, false)) := by
  rw [keepR, numR_leb (flag_u64 b)]
  cases b <;> simp [flagN]
theorem opR_code {o : Opx} (hg : o.good) (hr : o.right) (r : List Int) : opR (o.code ++ r, false) = (o, (r, false)) := by
  have hk := kind_u64 hr
  have h12 := hr.2.1
  have hbl := hr.2.2.1
  have hkl := hr.2.2.2.1
  rw [code_form hr, opR, numR_leb hk]
  obtain ⟨g1, g2, g3, g4, g5, g6⟩ := hg
  simp only
  rw [if_neg (by omega)]
  rcases op_cases hr with ⟨e, ho⟩ | ⟨e, ho⟩ | ⟨e, ho⟩ | ⟨e, ho⟩ | ⟨e, ho⟩ | ⟨e, ho⟩ | ⟨⟨e0, e1, e4, e5, e10, e11⟩, ho⟩
  · rw [if_pos e, if_pos e, List.append_assoc, numR_leb ⟨by omega, by omega⟩]
    simp only
    rw [if_neg (by rw [List.length_append]; omega)]
    simp only [Int.toNat_natCast, List.take_left, List.drop_left]
    rw [← ho]
  · simp only [e]
    simp only [show ¬ (1 : Int) = 0 by omega, if_false, if_true]
    rw [numR_leb g4]
    simp only
    rw [← ho]
  · simp only [e]
    simp only [show ¬ (4 : Int) = 0 by omega, show ¬ (4 : Int) = 1 by omega, if_false, if_true]
    rw [polR_code g6]
    simp only
    rw [← ho]
  · have n0 : ¬ o.kind = 0 := by omega
    have n1 : ¬ o.kind = 1 := by omega
    have n4 : ¬ o.kind = 4 := by omega
    simp only [if_neg n0, if_neg n1, if_neg n4, if_pos e]
    rw [numR_leb (zig_u64 g2)]
    simp only
    rw [zag_zig g2, ← ho]
  · simp only [e]
    simp only [show ¬ (10 : Int) = 0 by omega, show ¬ (10 : Int) = 1 by omega, show ¬ (10 : Int) = 4 by omega, show ¬ ((10 : Int) = 5 ∨ (10 : Int) = 8) by omega, if_false, if_true]
    rw [numR_leb (zig_u64 g3)]
    simp only
    rw [zag_zig g3, ← ho]
  · simp only [e]
    simp only [show ¬ (11 : Int) = 0 by omega, show ¬ (11 : Int) = 1 by omega, show ¬ (11 : Int) = 4 by omega, show ¬ ((11 : Int) = 5 ∨ (11 : Int) = 8) by omega, show ¬ (11 : Int) = 10 by omega, if_false, if_true]
    rw [List.append_assoc, numR_leb ⟨by omega, by omega⟩]
    have hmin : (min (o.ks.length : Int) 65).toNat = o.ks.length := by omega
    simp only [hmin]
    rw [whF_code _ _ fun b _ r => keepR_code b r]
    simp only
    rw [← ho]
  · simp only [if_neg e0, if_neg e1, if_neg e4, if_neg e5, if_neg e10, if_neg e11, List.nil_append]
    rw [← ho]
theorem readR_code {c : Cfg} {l : List Opx} (hc : c.good) (hl : allR l) (hg : ∀ o ∈ l, o.good) : readR (scriptB c l) = (c, l, false) := by
  obtain ⟨h1, h2, h3⟩ := hc
  have h400 := hl.1
  have e : scriptB c l = leb (zig c.sectors) ++ (leb (zig c.queue) ++ (leb c.period ++ (leb (l.length : Int) ++ (codeL l ++ [])))) := by
    unfold scriptB headN
    simp only [lebs_cons, lebs_nil, List.append_nil, List.append_assoc]
  rw [e, readR, numR_leb (zig_u64 h1)]
  simp only
  rw [numR_leb (zig_u64 h2)]
  simp only
  rw [numR_leb h3]
  simp only
  rw [numR_leb ⟨by omega, by omega⟩]
  have hmin : (min (l.length : Int) 401).toNat = l.length := by omega
  simp only [hmin]
  unfold codeL
  rw [whF_code _ _ fun o ho r => opR_code (hg o ho) (hl.2 o ho) r, zag_zig h1, zag_zig h2]
theorem keepR_ok {s : St} (h : s.ok) : True ∧ (keepR s).2.ok := ⟨trivial, (numR_ok h).2⟩
theorem opR_ok {s : St} (h : s.ok) : (opR s).1.fine ∧ (opR s).2.ok := by
  unfold opR Opx.fine
  have hm := numR_ok h
  generalize numR s = qq at hm ⊢
  obtain ⟨k, s1⟩ := qq
  simp only at hm ⊢
  obtain ⟨hk0, hs1⟩ := hm
  have hz0 := opz_good (k := 0) ⟨by omega, by omega⟩
  split
  · exact ⟨⟨hz0, by simp [opz], by simp [opz]⟩, hs1⟩
  rename_i h12
  have hk : i64 k := ⟨by have := hk0.1; omega, by omega⟩
  have hz := opz_good hk
  have hn := numR_ok hs1
  have hp := polR_ok hs1
  split
  · generalize numR s1 = qq at hn ⊢
    obtain ⟨n, s2⟩ := qq
    simp only at hn ⊢
    split
    · exact ⟨⟨hz0, by simp [opz], by simp [opz]⟩, hn.2⟩
    · rename_i hneg
      refine ⟨⟨⟨hz0.1, hz0.2.1, hz0.2.2.1, hz0.2.2.2.1, take_u8 hn.2.2 _, hz0.2.2.2.2.2⟩, ?_, by simp [opz]⟩, hn.2.drop _⟩
      simp only [List.length_take]; have h5 := hn.1.1; omega
  · split
    · generalize numR s1 = qn at hn ⊢
      exact ⟨⟨⟨hz.1, hz.2.1, hz.2.2.1, hn.1, hz.2.2.2.2.1, hz.2.2.2.2.2⟩, by simp [opz], by simp [opz]⟩, hn.2⟩
    · split
      · generalize polR s1 = qp at hp ⊢
        exact ⟨⟨⟨hz.1, hz.2.1, hz.2.2.1, hz.2.2.2.1, hz.2.2.2.2.1, hp.1⟩, by simp [opz], by simp [opz]⟩, hp.2⟩
      · split
        · have hzg := zag_i64 hn.1
          generalize zag (numR s1).1 = zz at hzg ⊢
          exact ⟨⟨⟨hz.1, hzg, hz.2.2.1, hz.2.2.2.1, hz.2.2.2.2.1, hz.2.2.2.2.2⟩, by simp [opz], by simp [opz]⟩, hn.2⟩
        · split
          · have hzg := zag_i64 hn.1
            generalize zag (numR s1).1 = zz at hzg ⊢
            exact ⟨⟨⟨hz.1, hz.2.1, hzg, hz.2.2.2.1, hz.2.2.2.2.1, hz.2.2.2.2.2⟩, by simp [opz], by simp [opz]⟩, hn.2⟩
          · split
            · generalize numR s1 = qq at hn ⊢
              obtain ⟨n, s2⟩ := qq
              simp only at hn ⊢
              have hr := whF_ok (f := keepR) (p := fun _ => True) (fun s h => keepR_ok h) (min n 65).toNat s2 hn.2
              have hl := whF_len (f := keepR) (min n 65).toNat s2
              generalize whF keepR (min n 65).toNat s2 = w at hr hl ⊢
              refine ⟨⟨⟨hz.1, hz.2.1, hz.2.2.1, hz.2.2.2.1, hz.2.2.2.2.1, hz.2.2.2.2.2⟩, by simp [opz], ?_⟩, hr.2⟩
              show w.1.length ≤ 65
              omega
            · exact ⟨⟨hz, by simp [opz], by simp [opz]⟩, hs1⟩
theorem readR_ok {b : List Int} (hb : ∀ c ∈ b, u8 c) (hl : b.length ≤ 1000000) : (readR b).1.good ∧ (∀ o ∈ (readR b).2.1, o.fine) ∧ (readR b).2.1.length ≤ 401 := by
  unfold readR
  have h1 := numR_ok (s := (b, false)) ⟨hl, hb⟩
  generalize numR (b, false) = qq at h1 ⊢
  obtain ⟨a, s1⟩ := qq
  have h2 := numR_ok h1.2
  simp only at h1 h2 ⊢
  generalize numR s1 = qq at h2 ⊢
  obtain ⟨q, s2⟩ := qq
  have h3 := numR_ok h2.2
  simp only at h2 h3 ⊢
  generalize numR s2 = qq at h3 ⊢
  obtain ⟨p, s3⟩ := qq
  have h4 := numR_ok h3.2
  simp only at h3 h4 ⊢
  generalize numR s3 = qq at h4 ⊢
  obtain ⟨n, s4⟩ := qq
  simp only at h4 ⊢
  have h5 := whF_ok (f := opR) (p := Opx.fine) (fun s h => opR_ok h) (min n 401).toNat s4 h4.2
  have h6 := whF_len (f := opR) (min n 401).toNat s4
  exact ⟨⟨zag_i64 h1.1, zag_i64 h2.1, h3.1⟩, h5.1, by omega⟩
theorem readR_eq {b : List Int} (hb : ∀ c ∈ b, u8 c) (hl : b.length ≤ 1000000) : fin b (readR b) = readF b :=
  fin_eq hb hl ⟨(readR_ok hb hl).1, fun o ho => ((readR_ok hb hl).2.1 o ho).1⟩ fun c l hc ha hg he => by rw [← he]; exact readR_code hc ha hg
end Go.Proofs.YtmolaemlenllmaaGreat

namespace Go.Proofs.YtmolaemlenllmaaGreat
open Go.RowKit
set_option linter.unusedSimpArgs false
set_option linter.unusedVariables false
set_option maxRecDepth 10000

def rsrB (x : AV × Nat) (bad : Bool) : Blk := .cells [x.1, .i .i64 (x.2 : Int), .b bad] 0 none true
/-- A source lies at i: what is left is the slice x, laid before it. -/
structure Rsr (S : Mem) (i : Nat) (x : AV × Nat) (s : St) : Prop where
  blk : S[i]? = some (rsrB x s.2)
  lst : ∃ b, lstV byteE (S.take i) x.1 = some b ∧ (∀ c ∈ b, u8 c) ∧ b.length ≤ 1000000 ∧ x.2 ≤ b.length ∧ s.1 = b.drop x.2
  opn : openQ (S.take i) 1 x.1 = true
  ok : s.ok
section
variable {S : Mem} {i : Nat} {x : AV × Nat} {s : St}
theorem Rsr.lt (h : Rsr S i x s) : i < S.length := (List.getElem?_eq_some_iff.1 h.blk).1
theorem Rsr.pre (h : Rsr S i x s) : S.take i <+: S := List.take_prefix i S
theorem Rsr.opnS (h : Rsr S i x s) : openQ S 1 x.1 = true := openQ_ext h.opn h.pre
theorem Rsr.grow (h : Rsr S i x s) (L : Mem) : Rsr (S ++ L) i x s := by
  have := h.lt
  have e : (S ++ L).take i = S.take i := List.take_append_of_le_length (by omega)
  exact ⟨at_old h.blk, by rw [e]; exact h.lst, by rw [e]; exact h.opn, h.ok⟩
theorem Rsr.set (hi : i < S.length) {x' : AV × Nat} {s' : St} (h1 : ∃ b, lstV byteE (S.take i) x'.1 = some b ∧ (∀ c ∈ b, u8 c) ∧ b.length ≤ 1000000 ∧ x'.2 ≤ b.length ∧ s'.1 = b.drop x'.2) (h2 : openQ (S.take i) 1 x'.1 = true) (h3 : s'.ok) : Rsr (S.set i (rsrB x' s'.2)) i x' s' :=
  ⟨by rw [List.getElem?_set_self hi], by rw [take_set]; exact h1, by rw [take_set]; exact h2, h3⟩
theorem Rsr.one (h : Rsr S i x s) : x.1.one = true := by obtain ⟨b, h1, _⟩ := h.lst; exact lst_one h1
theorem Rsr.cells (h : Rsr S i x s) : x.1.cells = some [x.1] := by obtain ⟨b, h1, _⟩ := h.lst; exact lst_cells h1
theorem Rsr.inj {x2 : AV × Nat} {s2 : St} (h : Rsr S i x s) (h2 : Rsr S i x2 s2) : x = x2 ∧ s = s2 := by
  have e := h.blk.symm.trans h2.blk
  simp only [rsrB, Option.some.injEq, Blk.cells.injEq, List.cons.injEq, AV.b.injEq, AV.i.injEq] at e
  obtain ⟨⟨e1, ⟨_, e2⟩, e3, _⟩, _⟩ := e
  have ex : x = x2 := Prod.ext e1 (by omega)
  subst ex
  obtain ⟨b, g1, _, _, _, g2⟩ := h.lst
  obtain ⟨b', g1', _, _, _, g2'⟩ := h2.lst
  rw [g1] at g1'
  injection g1' with g1'
  subst g1'
  exact ⟨rfl, Prod.ext (g2.trans g2'.symm) e3⟩
end
/-- What reading answers, and the source behind it. -/
def RrR (i : Nat) (S : Mem) (v : AV) (s' : St) (y : AV) (S' : Mem) : Prop := y = v ∧ ∃ x', S' = S.set i (rsrB x' s'.2) ∧ Rsr S' i x' s'
noncomputable def rrd1S (f : FuncId) (val : St → AV) (nx : St → St) : Spec := relS Tryz.prog f (fun args S y S' => ∀ i x s, args = [.p i 0 0] → Rsr S i x s → RrR i S (val s) (nx s) y S')
theorem rrd1_call {f : FuncId} {val : St → AV} {nx : St → St} (hf : ∀ S i x s, Rsr S i x s → ∃ x', FnOK Tryz.prog f [.p i 0 0] S (val s) (S.set i (rsrB x' (nx s).2)) ∧ Rsr (S.set i (rsrB x' (nx s).2)) i x' (nx s)) {S : Mem} {i : Nat} {x : AV × Nat} {s : St} (h : Rsr S i x s) (L : Mem) :
    ∃ x', rrd1S f val nx [.p i 0 0] (S ++ L) = some (val s, S.set i (rsrB x' (nx s).2) ++ L) ∧ Rsr (S.set i (rsrB x' (nx s).2)) i x' (nx s) := by
  have hL := h.grow L
  obtain ⟨x1, h1, h2⟩ := hf (S ++ L) i x s hL
  obtain ⟨y, S2, g1, g2⟩ := relS_eq (R := fun args S y S' => ∀ i x s, args = [.p i 0 0] → Rsr S i x s → RrR i S (val s) (nx s) y S') h1 (fun i' x' s' e hs => by
    injection e with e _
    injection e with e
    subst e
    obtain ⟨rfl, rfl⟩ := hL.inj hs
    exact ⟨rfl, x1, rfl, h2⟩)
  obtain ⟨rfl, x', rfl, g3⟩ := g2 i x s rfl hL
  have hi := h.lt
  have e : (S ++ L).set i (rsrB x' (nx s).2) = S.set i (rsrB x' (nx s).2) ++ L := List.set_append_left _ _ hi
  rw [e] at g1 g3
  refine ⟨x', g1, ⟨?_, ?_, ?_, g3.ok⟩⟩
  · rw [List.getElem?_set_self hi]
  · have := g3.lst
    rwa [List.take_append_of_le_length (by rw [List.length_set]; omega)] at this
  · have := g3.opn
    rwa [List.take_append_of_le_length (by rw [List.length_set]; omega)] at this
theorem oRNum_ok : OK Tryz.prog (lamOf Tryz.prog) (orcOf [(63, getS)]) := orc_ok (by simpa using rget_ok)
theorem rnum_fn (S : Mem) (i : Nat) (x : AV × Nat) (s : St) (h : Rsr S i x s) : ∃ x', FnOK Tryz.prog 37 [.p i 0 0] S (.i .u64 (numR s).1) (S.set i (rsrB x' (numR s).2.2)) ∧ Rsr (S.set i (rsrB x' (numR s).2.2)) i x' (numR s).2 := by
  have hi := h.lt
  have hB := h.blk
  have hc := h.cells
  have ho := h.one
  obtain ⟨b1, b2, b3, b4, b5, b6⟩ := old_at hB
  obtain ⟨b, hl, hu, h6, hat, hs⟩ := h.lst
  obtain ⟨v, at_⟩ := x
  simp only at hl hat hs hc ho
  cases hbad : s.2 with
  | true =>
    have hn : numR s = (0, s) := by unfold numR; rw [if_pos hbad]
    rw [hn]
    refine ⟨(v, at_), ?_, ?_⟩
    · rw [set_self hB]
      refine fn_of_wp f37 rfl (W_sound oRNum_ok mixed _ _ _ _ _ ?_)
      simp only [rsrB, hbad] at hB
      simp (maxSteps := 1000000) (disch := omega) only [c37, hB, go_sem]
      exact wkv_same
    · rw [set_self hB]; exact h
  | false =>
    have hlM : lstV byteE S v = some b := lst_ext hl h.pre
    obtain ⟨t, ht, hlt, hot⟩ := drop_lst hlM h.opnS (q := .i64) hat
    have ht : sliceV S 1 v (some (.i .i64 (at_ : Int))) none none = some t := ht
    have hget := getS_eq hlt hot (fun c hc => hu c (List.mem_of_mem_drop hc)) (by rw [List.length_drop]; omega)
    rw [← hs] at hget
    have vt := eqv_lst hlt
    have vv := eqv_lst hlM
    have o3 := lst_one hlt
    cases hg : getL s.1 with
    | none =>
      rw [hg] at hget
      simp only [got] at hget
      have hn : numR s = (0, (s.1, true)) := by simp only [numR, hbad, hg]; rfl
      rw [hn]
      have hw : wrapV .i64 ((at_ : Int) + 0) = at_ := by rw [wrap_i64 (by omega) (by omega)]; omega
      have hw2 : wrapV .i64 (at_ : Int) = at_ := wrap_i64 (by omega) (by omega)
      refine ⟨(v, at_), ?_, Rsr.set hi ⟨b, hl, hu, h6, hat, hs⟩ h.opn h.ok⟩
      refine fn_of_wp f37 rfl (W_sound oRNum_ok mixed _ _ _ _ _ ?_)
      simp only [rsrB, hbad] at hB b1 ⊢
      simp (maxSteps := 1000000) (disch := omega) only [c37, hB, ht, orc_cons, hget, b3, b6, hc, ho, hw, hw2, vt, vv, go_sem]
      exact wkv_same
    | some q =>
      obtain ⟨n, k⟩ := q
      rw [hg] at hget
      simp only [got] at hget
      have hn : numR s = (n, (s.1.drop k, false)) := by simp only [numR, hbad, hg]; rfl
      rw [hn]
      obtain ⟨_, _, _, hk0, hk1⟩ := getL_some h.ok.2 hg
      have hle : at_ + k ≤ b.length := by rw [hs, List.length_drop] at hk1; omega
      have hw : wrapV .i64 ((at_ : Int) + (k : Int)) = ((at_ + k : Nat) : Int) := by rw [wrap_i64 (by omega) (by omega)]; omega
      refine ⟨(v, at_ + k), ?_, Rsr.set hi ⟨b, hl, hu, h6, hle, by rw [hs, List.drop_drop]⟩ h.opn (h.ok.drop k)⟩
      refine fn_of_wp f37 rfl (W_sound oRNum_ok mixed _ _ _ _ _ ?_)
      simp only [rsrB, hbad] at hB b1 ⊢
      simp (maxSteps := 1000000) (disch := omega) only [c37, hB, ht, orc_cons, hget, b3, b6, hc, ho, hw, vt, vv, go_sem]
      exact wkv_same
noncomputable def rnumPS : Spec := rrd1S 37 (fun s => .i .u64 (numR s).1) (fun s => (numR s).2)
theorem rnumP_ok : SpecOK Tryz.prog 37 rnumPS := by unfold rnumPS rrd1S; exact relS_ok
theorem rnum_step {S : Mem} {i : Nat} {B : Blk} {x : AV × Nat} {s : St} (h : Rsr (S.set i B) i x s) (L : Mem) : ∃ x', rnumPS [.p i 0 0] (S.set i B ++ L) = some (.i .u64 (numR s).1, S.set i (rsrB x' (numR s).2.2) ++ L) ∧ Rsr (S.set i (rsrB x' (numR s).2.2)) i x' (numR s).2 := by
  obtain ⟨x', h1, h2⟩ := rrd1_call rnum_fn h L
  rw [List.set_set] at h1 h2
  exact ⟨x', h1, h2⟩
end Go.Proofs.YtmolaemlenllmaaGreat

namespace Go.Proofs.YtmolaemlenllmaaGreat
open Go.RowKit
set_option linter.unusedSimpArgs false
set_option linter.unusedVariables false
set_option maxRecDepth 10000

/-- What reading an op answers. -/
def RrO (i : Nat) (S : Mem) (o : Opx) (s' : St) (y : AV) (S' : Mem) : Prop := ∃ (q : Oq) (x' : AV × Nat) (U : Mem), y = .ag q.enc ∧ S' = S.set i (rsrB x' s'.2) ++ U ∧ Rsr S' i x' s' ∧ q.val S' = some o ∧ Kd S.length S' q.x.v ∧ Kd S.length S' q.y.v
noncomputable def ropPS : Spec := relS Tryz.prog 38 (fun args S y S' => ∀ i x s, args = [.p i 0 0] → Rsr S i x s → RrO i S (opR s).1 (opR s).2 y S')
theorem ropP_ok : SpecOK Tryz.prog 38 ropPS := by unfold ropPS; exact relS_ok
theorem oRop_ok : OK Tryz.prog (lamOf Tryz.prog) (orcOf [(37, rnumPS), (36, zagS), (64, ofS)]) := orc_ok (by simpa using ⟨rnumP_ok, rzag_ok, rof_ok⟩)
theorem rro_mk {S U : Mem} {i : Nat} {k sb m n : Int} {x y : AV} {x' : AV × Nat} {p : Pol} {s' : St} {bs : List Int} {ks : List Bool} (h : Rsr (S.set i (rsrB x' s'.2)) i x' s') (hx : lstV byteE (S.set i (rsrB x' s'.2) ++ U) x = some bs) (hy : lstV boolE (S.set i (rsrB x' s'.2) ++ U) y = some ks) (kx : Kd S.length (S.set i (rsrB x' s'.2) ++ U) x) (ky : Kd S.length (S.set i (rsrB x' s'.2) ++ U) y) :
    RrO i S ⟨k, sb, m, n, bs, p, ks⟩ s' (.ag (opC k sb m n x p y)) (S.set i (rsrB x' s'.2) ++ U) :=
  ⟨⟨k, sb, m, n, ⟨x, lst_one hx⟩, p, ⟨y, lst_one hy⟩⟩, x', U, rfl, rfl, h.grow U, Oq.val_mk hx hy, kx, ky⟩
/-- The same source, bad. -/
theorem Rsr.bad {S : Mem} {i : Nat} {B : Blk} {x : AV × Nat} {s : St} (hi : i < S.length) (h : Rsr (S.set i B) i x s) (c : Bool) : Rsr (S.set i (rsrB x c)) i x (s.1, c) := by
  have h1 := h.lst
  have h2 := h.opn
  rw [take_set] at h1 h2
  exact Rsr.set (s' := (s.1, c)) hi h1 h2 h.ok
section
variable {S : Mem} {i : Nat}
/-- The rounds of 'keep'. -/
theorem rkeep_trace (hi : i < S.length) (n : Int) (hn0 : u64 n) (s0 : St) :
    ∀ (m : Nat) (e : Env) (M : Mem), (∃ (pre : List Bool) (s : St) (x : AV × Nat) (y : AV) (V : Mem), m + pre.length = (min n 65).toNat ∧ whF keepR (min n 65).toNat s0 = (pre ++ (whF keepR m s).1, (whF keepR m s).2) ∧ Rsr (S.set i (rsrB x s.2)) i x s ∧
      M = S.set i (rsrB x s.2) ++ ([.cells (opC 0 0 0 0 .sn Pol.zero .sn) 0 none true, .cells (opC 11 0 0 0 .sn Pol.zero y) 0 none true] ++ V) ∧ LV boolE (S.length + 2) V y pre ∧
      e.get 0 = .p i 0 0 ∧ e.get 3 = .p (S.length + 1) 0 0 ∧ e.get 2 = .p S.length 0 0 ∧ e.get 7 = .i .u64 n ∧ e.get 8 = .i .u64 (pre.length : Int)) →
    ∃ x1 e1 M1, (x1 = .exit 1 ∧ e1.get 3 = .p (S.length + 1) 0 0 ∧ e1.get 2 = .p S.length 0 0 ∧ ∃ (x : AV × Nat) (y : AV) (V : Mem), Rsr (S.set i (rsrB x (whF keepR (min n 65).toNat s0).2.2)) i x (whF keepR (min n 65).toNat s0).2 ∧
      M1 = S.set i (rsrB x (whF keepR (min n 65).toNat s0).2.2) ++ ([.cells (opC 0 0 0 0 .sn Pol.zero .sn) 0 none true, .cells (opC 11 0 0 0 .sn Pol.zero y) 0 none true] ++ V) ∧ LV boolE (S.length + 2) V y (whF keepR (min n 65).toNat s0).1) ∧
      WP Tryz.prog S false (.loop [3, 0, 2, 7, 8] c38l2) e M [] (onlyK x1 e1 M1) := by
  refine wp_trace (J := fun m e M => ∃ (pre : List Bool) (s : St) (x : AV × Nat) (y : AV) (V : Mem), m + pre.length = (min n 65).toNat ∧ whF keepR (min n 65).toNat s0 = (pre ++ (whF keepR m s).1, (whF keepR m s).2) ∧ Rsr (S.set i (rsrB x s.2)) i x s ∧
      M = S.set i (rsrB x s.2) ++ ([.cells (opC 0 0 0 0 .sn Pol.zero .sn) 0 none true, .cells (opC 11 0 0 0 .sn Pol.zero y) 0 none true] ++ V) ∧ LV boolE (S.length + 2) V y pre ∧
      e.get 0 = .p i 0 0 ∧ e.get 3 = .p (S.length + 1) 0 0 ∧ e.get 2 = .p S.length 0 0 ∧ e.get 7 = .i .u64 n ∧ e.get 8 = .i .u64 (pre.length : Int))
    (fun x1 e1 M1 => x1 = .exit 1 ∧ e1.get 3 = .p (S.length + 1) 0 0 ∧ e1.get 2 = .p S.length 0 0 ∧ ∃ (x : AV × Nat) (y : AV) (V : Mem), Rsr (S.set i (rsrB x (whF keepR (min n 65).toNat s0).2.2)) i x (whF keepR (min n 65).toNat s0).2 ∧
      M1 = S.set i (rsrB x (whF keepR (min n 65).toNat s0).2.2) ++ ([.cells (opC 0 0 0 0 .sn Pol.zero .sn) 0 none true, .cells (opC 11 0 0 0 .sn Pol.zero y) 0 none true] ++ V) ∧ LV boolE (S.length + 2) V y (whF keepR (min n 65).toNat s0).1) (by rintro e S ⟨h, _⟩; cases h) ?_
  rintro m e M ⟨pre, s, x, y, V, hmn, hrep, hs, rfl, hy, e0, e3, e2, e7, e8⟩
  have hn0' := hn0.1
  have hB : ∀ L, (S.set i (rsrB x s.2) ++ L)[i]? = some (.cells [x.1, .i .i64 (x.2 : Int), .b s.2] 0 none true) := fun L => at_old hs.blk
  obtain ⟨A, hAe⟩ : ∃ A : Mem, A = S.set i (rsrB x s.2) ++ [.cells (opC 0 0 0 0 .sn Pol.zero .sn) 0 none true, .cells (opC 11 0 0 0 .sn Pol.zero y) 0 none true] := ⟨_, rfl⟩
  cases m with
  | zero =>
    right
    have hpre : pre.length = (min n 65).toNat := by omega
    simp only [whF, List.append_nil] at hrep
    apply Exists.intro; apply Exists.intro; apply Exists.intro; refine ⟨?_, ?_⟩; rotate_left 1
    · refine W_sound oRop_ok mixed _ _ _ _ _ ?_
      by_cases h65 : n ≤ 65
      · have hI : ¬ (pre.length : Int) < n := by omega
        simp (maxSteps := 1000000) (disch := omega) only [c38l2, e0, e3, e2, e7, e8, hI, go_sem]
        exact onlyK_mk
      · have hI : (pre.length : Int) < n := by omega
        have hI2 : ¬ (pre.length : Int) < 65 := by omega
        simp (maxSteps := 1000000) (disch := omega) only [c38l2, e0, e3, e2, e7, e8, hI, hI2, go_sem]
        exact onlyK_mk
    · exact ⟨rfl, rfl, rfl, x, y, V, by rw [hrep]; exact hs, by rw [hrep]; rfl, by rw [hrep]; exact hy⟩
  | succ m =>
    have hI : (pre.length : Int) < n := by omega
    have hI2 : (pre.length : Int) < 65 := by omega
    rw [whF] at hrep
    cases hbad : s.2 with
    | true =>
      right
      rw [if_pos hbad] at hrep
      simp only [List.append_nil] at hrep
      rw [hbad] at hB
      apply Exists.intro; apply Exists.intro; apply Exists.intro; refine ⟨?_, ?_⟩; rotate_left 1
      · refine W_sound oRop_ok mixed _ _ _ _ _ ?_
        simp (maxSteps := 1000000) (disch := omega) only [c38l2, e0, e3, e2, e7, e8, hI, hI2, hB, go_sem]
        exact onlyK_mk
      · exact ⟨rfl, rfl, rfl, x, y, V, by rw [hrep]; exact hs, by rw [hrep, hbad]; rfl, by rw [hrep]; exact hy⟩
    | false =>
      left
      rw [if_neg (by rw [hbad]; simp)] at hrep
      obtain ⟨x2, c2, h2⟩ := rnum_step hs ([.cells (opC 0 0 0 0 .sn Pol.zero .sn) 0 none true, .cells (opC 11 0 0 0 .sn Pol.zero y) 0 none true] ++ V)
      rw [hbad] at c2
      have hk1 : keepR s = (decide ((numR s).1 = 1), ((numR s).2.1, (numR s).2.2 || decide (1 < (numR s).1))) := rfl
      generalize hq : numR s = q at c2 h2 hk1
      obtain ⟨b, s2⟩ := q
      simp only at c2 h2 hk1
      rw [hk1] at hrep
      simp only at hrep
      generalize hd : decide (b = 1) = d at hrep
      obtain ⟨bb, hbb⟩ : ∃ bb : Bool, bb = (s2.2 || decide (1 < b)) := ⟨_, rfl⟩
      rw [← hbb] at hrep
      have h3 := h2.bad hi bb
      obtain ⟨A, hAe⟩ : ∃ A : Mem, A = S.set i (rsrB x2 bb) ++ [.cells (opC 0 0 0 0 .sn Pol.zero .sn) 0 none true, .cells (opC 11 0 0 0 .sn Pol.zero y) 0 none true] := ⟨_, rfl⟩
      have hAl : A.length = S.length + 2 := by rw [hAe, List.length_append, List.length_set]; rfl
      have hyA : LV boolE A.length V y pre := by rw [hAl]; exact hy
      have hone := hyA.one
      have hcells := hyA.cells
      obtain ⟨y', V', hap, hy', _⟩ := (hyA.grow [.cells [.b d] 0 none true]).app (bytes := 1) boolE_one d (by unfold lim; omega) (by unfold lim; omega)
      have hone' := hy'.one
      have hcells' := hy'.cells
      have hap : appV (A ++ (V ++ [.cells [.b d] 0 none true])) 1 1 y [.b d] 1 = some (y', A ++ V') := hap
      rw [hAe, List.append_assoc, List.append_assoc] at hap
      have hb2 : ∀ L, (S.set i (rsrB x2 s2.2) ++ L)[i]? = some (.cells [x2.1, .i .i64 (x2.2 : Int), .b s2.2] 0 none true) := fun L => at_old h2.blk
      have hS2 : ∀ (L : Mem) (B' : Blk), (S.set i (rsrB x2 s2.2) ++ L).set i B' = S.set i B' ++ L := fun L B' => by rw [List.set_append_left _ _ (by rw [List.length_set]; exact hi), List.set_set]
      rw [hbad] at hB
      have hx2 := h2.cells
      have ho2 := h2.one
      have hw : wrapV .u64 ((pre.length : Int) + 1) = ((pre ++ [d]).length : Nat) := by rw [wrap_u64 (by omega) (by omega), List.length_append, List.length_singleton]; omega
      have hrs : ∀ c, Blk.cells [x2.1, .i .i64 (x2.2 : Int), .b c] 0 none true = rsrB x2 c := fun c => rfl
      have hbd : decide (b = 1) = d := hd
      cases hs2 : s2.2 with
      | true =>
        rw [hs2, Bool.true_or] at hbb
        rw [hs2] at c2 hb2 hS2
        subst hbb
        refine ⟨m, ?_⟩; apply Exists.intro; apply Exists.intro; refine ⟨Nat.lt_succ_self m, ?_, ?_⟩; rotate_left 1
        · refine W_sound oRop_ok mixed _ _ _ _ _ ?_
          simp only [opC, rsrB, List.cons_append, List.nil_append] at c2 hap hB hb2 hS2 ⊢
          simp (maxSteps := 1000000) (disch := omega) only [c38l2, e0, e3, e2, e7, e8, hI, hI2, hB, opC, sa_at0, sa_at, sa_set0, sa_set, orc_cons, c2, hb2, hS2, hx2, ho2, hbd, List.replicate, src_sl, srcN_some, hap, hone, hcells, hone', hcells', hw, go_sem]
          exact onlyK_mk
        · exact ⟨pre ++ [d], (s2.1, true), x2, y', V', by rw [List.length_append, List.length_singleton]; omega, by rw [hrep, List.append_assoc]; rfl, h3, rfl, by rw [← hAl]; exact hy', rfl, rfl, rfl, rfl, by rw [List.length_append, List.length_singleton]; rfl⟩
      | false =>
        rw [hs2, Bool.false_or] at hbb
        rw [hs2] at c2 hb2 hS2
        by_cases hb1 : 1 < b
        · rw [decide_eq_true hb1] at hbb
          subst hbb
          refine ⟨m, ?_⟩; apply Exists.intro; apply Exists.intro; refine ⟨Nat.lt_succ_self m, ?_, ?_⟩; rotate_left 1
          · refine W_sound oRop_ok mixed _ _ _ _ _ ?_
            simp only [opC, rsrB, List.cons_append, List.nil_append] at c2 hap hB hb2 hS2 ⊢
            simp (maxSteps := 1000000) (disch := omega) only [c38l2, e0, e3, e2, e7, e8, hI, hI2, hB, opC, sa_at0, sa_at, sa_set0, sa_set, orc_cons, c2, hb2, hS2, hx2, ho2, hb1, hbd, List.replicate, src_sl, srcN_some, hap, hone, hcells, hone', hcells', hw, go_sem]
            exact onlyK_mk
          · exact ⟨pre ++ [d], (s2.1, true), x2, y', V', by rw [List.length_append, List.length_singleton]; omega, by rw [hrep, List.append_assoc]; rfl, h3, rfl, by rw [← hAl]; exact hy', rfl, rfl, rfl, rfl, by rw [List.length_append, List.length_singleton]; rfl⟩
        · rw [decide_eq_false hb1] at hbb
          subst hbb
          refine ⟨m, ?_⟩; apply Exists.intro; apply Exists.intro; refine ⟨Nat.lt_succ_self m, ?_, ?_⟩; rotate_left 1
          · refine W_sound oRop_ok mixed _ _ _ _ _ ?_
            simp only [opC, rsrB, List.cons_append, List.nil_append] at c2 hap hB hb2 hS2 ⊢
            simp (maxSteps := 1000000) (disch := omega) only [c38l2, e0, e3, e2, e7, e8, hI, hI2, hB, opC, sa_at0, sa_at, sa_set0, sa_set, orc_cons, c2, hb2, hS2, hx2, ho2, hb1, hbd, List.replicate, src_sl, srcN_some, hap, hone, hcells, hone', hcells', hw, go_sem]
            exact onlyK_mk
          · exact ⟨pre ++ [d], (s2.1, false), x2, y', V', by rw [List.length_append, List.length_singleton]; omega, by rw [hrep, List.append_assoc]; rfl, h3, rfl, by rw [← hAl]; exact hy', rfl, rfl, rfl, rfl, by rw [List.length_append, List.length_singleton]; rfl⟩
end
end Go.Proofs.YtmolaemlenllmaaGreat

namespace Go.Proofs.YtmolaemlenllmaaGreat
open Go.RowKit
set_option linter.unusedSimpArgs false
set_option linter.unusedVariables false
set_option maxRecDepth 10000

/-- Bytes appended to none, as a call. -/
theorem app_call {M : Mem} {l : List Int} (h9 : l.length ≤ 900000) : ∃ Xc U, appV (M ++ [.cells [] 0 none true]) 1 1 (.sl M.length 0 0 0 0 true) (l.flatMap byteE.enc) l.length = some (Xc, M ++ (.cells [] 0 none true :: U)) ∧ Xc.one = true ∧ Xc.cells = some [Xc] ∧ ∀ A : Mem, A.length = M.length → lstV byteE (A ++ (.cells [] 0 none true :: U)) Xc = some l ∧ ∀ n, n ≤ A.length → Kd n (A ++ (.cells [] 0 none true :: U)) Xc := by
  cases l with
  | nil =>
    refine ⟨.sl M.length 0 0 0 0 true, [], by simp [appV], rfl, rfl, fun A hA => ?_⟩
    rw [← hA]
    exact ⟨retX_lst (z := true) (E := byteE) (S := A) (l := []), fun n hn => .inr (.inr ⟨A.length, 0, 0, 0, 0, true, .cells [] 0 none true, rfl, hn, by rw [at_app0]; rfl, by simp [Blk.opn]⟩)⟩
  | cons a l =>
    refine ⟨.sl (M.length + 1) 0 0 (a :: l).length (a :: l).length false, [.cells ((a :: l).flatMap byteE.enc) 0 (some 1) true], ?_, rfl, rfl, fun A hA => ?_⟩
    · have hrow : rowAt (M ++ [Blk.cells [] 0 none true]) M.length 0 0 (0 * 1) = some [] := by rw [rowAt_B, at_app0]; simp [rowB]
      simp only [appV, hrow]
      rw [if_neg (by simp), if_neg (by simp), if_pos ⟨by unfold lim; omega, by unfold lim; omega⟩]
      simp only [if_true, List.length_append, List.length_singleton, List.append_assoc, Nat.zero_add, List.nil_append]
      rfl
    · rw [← hA]
      have hat : (A ++ [Blk.cells [] 0 none true, .cells ((a :: l).flatMap byteE.enc) 0 (some 1) true])[A.length + 1]? = some (.cells ((a :: l).flatMap byteE.enc) 0 (some 1) true) := by rw [at_app]; rfl
      refine ⟨lst_lstV (.inr (.inr ⟨_, _, _, _, _, _, rfl, rfl, ?_⟩)), fun n hn => .inr (.inr ⟨_, _, _, _, _, _, _, rfl, by omega, hat, by simp [Blk.opn]⟩)⟩
      rw [rowAt_B, hat, rowB_some, if_pos (by rw [enc_length]; omega), List.drop_zero, ← enc_length, List.take_length]
set_option maxHeartbeats 4000000 in
theorem rop_fn (S : Mem) (i : Nat) (x : AV × Nat) (s : St) (h : Rsr S i x s) : ∃ y S', FnOK Tryz.prog 38 [.p i 0 0] S y S' ∧ RrO i S (opR s).1 (opR s).2 y S' := by
  have hi := h.lt
  obtain ⟨x1, c1, h1⟩ := rrd1_call rnum_fn h [.cells (opC 0 0 0 0 .sn Pol.zero .sn) 0 none true, .cells (opC 0 0 0 0 .sn Pol.zero .sn) 0 none true]
  have c1 : rnumPS [.p i 0 0] (S ++ [.cells (opC 0 0 0 0 .sn Pol.zero .sn) 0 none true, .cells (opC 0 0 0 0 .sn Pol.zero .sn) 0 none true]) = some (.i .u64 (numR s).1, S.set i (rsrB x1 (numR s).2.2) ++ [.cells (opC 0 0 0 0 .sn Pol.zero .sn) 0 none true, .cells (opC 0 0 0 0 .sn Pol.zero .sn) 0 none true]) := c1
  have hku := numR_ok h.ok
  unfold opR
  generalize hq1 : numR s = q1 at c1 h1 hku ⊢
  obtain ⟨k, s1⟩ := q1
  simp only at c1 h1 hku ⊢
  obtain ⟨⟨hk0, hk1⟩, hs1⟩ := hku
  have hB1 : ∀ L, (S.set i (rsrB x1 s1.2) ++ L)[i]? = some (.cells [x1.1, .i .i64 (x1.2 : Int), .b s1.2] 0 none true) := fun L => at_old h1.blk
  have hS1 : ∀ (L : Mem) (B' : Blk), (S.set i (rsrB x1 s1.2) ++ L).set i B' = S.set i B' ++ L := fun L B' => by rw [List.set_append_left _ _ (by rw [List.length_set]; exact hi), List.set_set]
  have hrs : ∀ (z : AV × Nat) c, Blk.cells [z.1, .i .i64 (z.2 : Int), .b c] 0 none true = rsrB z c := fun z c => rfl
  have k1c := h1.cells
  have k1o := h1.one
  simp only [opC, Pol.zero, rsrB] at c1 hB1 hS1
  by_cases h12 : 12 < k
  · rw [if_pos h12]
    have hb1 := h1.bad hi true
    apply Exists.intro; apply Exists.intro; refine ⟨?_, ?_⟩
    · apply fn_of_wp f38 rfl; apply W_sound oRop_ok mixed
      simp (maxSteps := 1000000) (disch := omega) only [c38, List.replicate, orc_cons, c1, List.length_set, sa_at0, sa_at, sa_set0, sa_set, h12, hB1, hS1, k1c, k1o, go_sem]
      exact wkv_same
    · exact rro_mk hb1 rfl rfl kd_sn kd_sn
  rw [if_neg h12]
  have hg12 : ¬ 12 < k := h12
  have wk : wrapV .i64 k = k := wrap_i64 (by omega) (by omega)
  by_cases e0 : k = 0
  · subst e0
    rw [if_pos rfl]
    obtain ⟨x2, c2, h2⟩ := rnum_step h1 [.cells (opC 0 0 0 0 .sn Pol.zero .sn) 0 none true, .cells (opC 0 0 0 0 .sn Pol.zero .sn) 0 none true]
    have hno := numR_ok h1.ok
    generalize hq2 : numR s1 = q2 at c2 h2 hno ⊢
    obtain ⟨n, s2⟩ := q2
    simp only at c2 h2 hno ⊢
    obtain ⟨⟨hn0, hn1⟩, hs2⟩ := hno
    have hB2 : ∀ L, (S.set i (rsrB x2 s2.2) ++ L)[i]? = some (.cells [x2.1, .i .i64 (x2.2 : Int), .b s2.2] 0 none true) := fun L => at_old h2.blk
    have hS2 : ∀ (L : Mem) (B' : Blk), (S.set i (rsrB x2 s2.2) ++ L).set i B' = S.set i B' ++ L := fun L B' => by rw [List.set_append_left _ _ (by rw [List.length_set]; exact hi), List.set_set]
    obtain ⟨b, hbl, hbu, hb6, hat, hsb⟩ := h2.lst
    have hop := h2.opn
    rw [take_set] at hbl hop
    have lb := lst_len hbl
    have k2c := h2.cells
    have k2o := h2.one
    have hlen : s2.1.length = b.length - x2.2 := by rw [hsb, List.length_drop]
    have hws : wrapV .i64 ((b.length : Int) - (x2.2 : Int)) = (s2.1.length : Int) := by rw [wrap_i64 (by omega) (by omega)]; omega
    have hpre : ∀ L, S.take i <+: S.set i (rsrB x2 s2.2) ++ L := fun L => by
      have : (S.set i (rsrB x2 s2.2)).take i <+: S.set i (rsrB x2 s2.2) ++ L := (List.take_prefix _ _).trans (List.prefix_append _ _)
      rwa [take_set] at this
    have hbad2 := h2.bad hi true
    simp only [opC, Pol.zero, rsrB] at c2 hB2 hS2
    by_cases hbig : 2000 < n
    · rw [if_pos (.inl hbig)]
      apply Exists.intro; apply Exists.intro; refine ⟨?_, ?_⟩
      · apply fn_of_wp f38 rfl; apply W_sound oRop_ok mixed
        simp (maxSteps := 1000000) (disch := omega) only [c38, List.replicate, orc_cons, c1, List.length_set, sa_at0, sa_at, sa_set0, sa_set, hg12, wk, c2, hbig, hB2, hS2, k2c, k2o, go_sem]
        exact wkv_same
      · exact rro_mk hbad2 rfl rfl kd_sn kd_sn
    have wn : wrapV .i64 n = n := wrap_i64 (by omega) (by omega)
    by_cases hlong : (s2.1.length : Int) < n
    · rw [if_pos (.inr hlong)]
      apply Exists.intro; apply Exists.intro; refine ⟨?_, ?_⟩
      · apply fn_of_wp f38 rfl; apply W_sound oRop_ok mixed
        simp (maxSteps := 1000000) (disch := omega) only [c38, List.replicate, orc_cons, c1, List.length_set, sa_at0, sa_at, sa_set0, sa_set, hg12, wk, c2, hbig, hB2, hS2, k2c, k2o, lb, hws, wn, hlong, go_sem]
        exact wkv_same
      · exact rro_mk hbad2 rfl rfl kd_sn kd_sn
    · rw [if_neg (by omega)]
      obtain ⟨nn, rfl⟩ := Int.eq_ofNat_of_zero_le hn0
      rw [Int.toNat_natCast]
      have hle : x2.2 + nn ≤ b.length := by omega
      obtain ⟨t, ht, hlt, _⟩ := part_lst hbl hop (q := .i64) (q' := .i64) (a := x2.2) (b := x2.2 + nn) (by omega) hle
      have htl : (b.drop x2.2).take (x2.2 + nn - x2.2) = s2.1.take nn := by rw [hsb, Nat.add_sub_cancel_left]
      rw [htl] at hlt
      have wa : wrapV .i64 ((x2.2 : Int) + (nn : Int)) = ((x2.2 + nn : Nat) : Int) := by rw [wrap_i64 (by omega) (by omega)]; omega
      have htL : ∀ L, sliceV (S.set i (rsrB x2 s2.2) ++ L) 1 x2.1 (some (.i .i64 (x2.2 : Int))) (some (.i .i64 ((x2.2 + nn : Nat) : Int))) none = some t := fun L => by
        obtain ⟨T, hT⟩ := hpre L
        rw [← hT]; exact sliceV_grow T ht
      have hsr : ∀ L, srcV (S.set i (rsrB x2 s2.2) ++ L) 1 t = some ((s2.1.take nn).flatMap byteE.enc, (s2.1.take nn).length) := fun L => src_lst (lst_ext hlt (hpre L))
      obtain ⟨Xc, U, hap, hXo, hXk, hXU⟩ := app_call (M := S.set i (rsrB x2 s2.2) ++ [.cells (opC 0 0 0 0 .sn Pol.zero .sn) 0 none true, .cells (opC 0 0 0 0 .sn Pol.zero .sn) 0 none true]) (l := s2.1.take nn) (by rw [List.length_take]; omega)
      have hML : (S.set i (rsrB x2 s2.2) ++ [Blk.cells (opC 0 0 0 0 .sn Pol.zero .sn) 0 none true, .cells (opC 0 0 0 0 .sn Pol.zero .sn) 0 none true]).length = S.length + 2 := by rw [List.length_append, List.length_set]; rfl
      rw [hML, List.append_assoc, List.append_assoc] at hap
      have h3 : Rsr (S.set i (rsrB (x2.1, x2.2 + nn) s2.2)) i (x2.1, x2.2 + nn) (s2.1.drop nn, s2.2) := Rsr.set (s' := (s2.1.drop nn, s2.2)) hi ⟨b, hbl, hbu, hb6, hle, by rw [hsb, List.drop_drop]⟩ hop (h2.ok.drop nn)
      have hrs3 : Blk.cells [x2.1, .i .i64 ((x2.2 + nn : Nat) : Int), .b s2.2] 0 none true = rsrB (x2.1, x2.2 + nn) s2.2 := rfl
      simp only [opC, Pol.zero, rsrB, List.cons_append, List.nil_append] at hap htL hsr
      apply Exists.intro; apply Exists.intro; refine ⟨?_, ?_⟩
      · apply fn_of_wp f38 rfl; apply W_sound oRop_ok mixed
        simp (maxSteps := 1000000) (disch := omega) only [c38, List.replicate, orc_cons, c1, List.length_set, sa_at0, sa_at, sa_set0, sa_set, hg12, wk, c2, hbig, hB2, hS2, k2c, k2o, lb, hws, wn, hlong, wa, htL, hsr, hap, hXo, hXk, go_sem]
        exact wkv_same
      · have hfin : ∀ Z O : Blk, lstV byteE (S.set i (rsrB (x2.1, x2.2 + nn) s2.2) ++ (Z :: O :: .cells [] 0 none true :: U)) Xc = some (s2.1.take nn) ∧ Kd S.length (S.set i (rsrB (x2.1, x2.2 + nn) s2.2) ++ (Z :: O :: .cells [] 0 none true :: U)) Xc := fun Z O => by
          obtain ⟨g1, g2⟩ := hXU (S.set i (rsrB (x2.1, x2.2 + nn) s2.2) ++ [Z, O]) (by simp only [List.length_append, List.length_set, List.length_cons, List.length_nil])
          rw [List.append_assoc] at g1 g2
          exact ⟨g1, g2 S.length (by rw [List.length_append, List.length_set]; omega)⟩
        exact rro_mk (s' := (s2.1.drop nn, s2.2)) h3 (hfin _ _).1 rfl (hfin _ _).2 kd_sn
  by_cases e1 : k = 1
  · subst e1
    simp only [show ¬ (1 : Int) = 0 by omega, show ¬ (1 : Int) = 4 by omega, show ¬ (1 : Int) = 10 by omega, show ¬ (1 : Int) = 11 by omega, show ¬ ((1 : Int) = 5 ∨ (1 : Int) = 8) by omega, if_false, if_true]
    obtain ⟨x2, c2, h2⟩ := rnum_step h1 [.cells (opC 0 0 0 0 .sn Pol.zero .sn) 0 none true, .cells (opC 1 0 0 0 .sn Pol.zero .sn) 0 none true]
    have hno := numR_ok h1.ok
    generalize hq2 : numR s1 = q2 at c2 h2 hno ⊢
    obtain ⟨n, s2⟩ := q2
    simp only at c2 h2 hno ⊢
    simp only [opC, Pol.zero, rsrB] at c2
    apply Exists.intro; apply Exists.intro; refine ⟨?_, ?_⟩
    · apply fn_of_wp f38 rfl; apply W_sound oRop_ok mixed
      simp (maxSteps := 1000000) (disch := omega) only [c38, List.replicate, orc_cons, c1, List.length_set, sa_at0, sa_at, sa_set0, sa_set, hg12, wk, c2, go_sem]
      exact wkv_same
    · exact rro_mk h2 rfl rfl kd_sn kd_sn
  by_cases e4 : k = 4
  · subst e4
    simp only [show ¬ (4 : Int) = 0 by omega, show ¬ (4 : Int) = 1 by omega, show ¬ (4 : Int) = 10 by omega, show ¬ (4 : Int) = 11 by omega, show ¬ ((4 : Int) = 5 ∨ (4 : Int) = 8) by omega, if_false, if_true]
    generalize hp : polR s1 = pf
    unfold polR at hp
    obtain ⟨x2, c2, h2⟩ := rnum_step h1 [.cells (opC 0 0 0 0 .sn Pol.zero .sn) 0 none true, .cells (opC 4 0 0 0 .sn Pol.zero .sn) 0 none true]
    have hno2 := numR_ok h1.ok
    generalize hq2 : numR s1 = q2 at hp c2 h2 hno2
    obtain ⟨a, s2⟩ := q2
    simp only at hp c2 h2 hno2
    have hz2 := zagS_eq hno2.1
    generalize zag a = za at *
    obtain ⟨x3, c3, h3⟩ := rnum_step h2 [.cells (opC 0 0 0 0 .sn Pol.zero .sn) 0 none true, .cells (opC 4 0 0 0 .sn ⟨za, 0, 0, 0, 0, 0, 0, 0, 0, 0, 0, 0, 0⟩ .sn) 0 none true]
    have hno3 := numR_ok h2.ok
    generalize hq3 : numR s2 = q3 at hp c3 h3 hno3
    obtain ⟨n, s3⟩ := q3
    simp only at hp c3 h3 hno3
    have h3' := h3.bad hi (s3.2 || decide (4294967295 < n))
    have hadr := fun M => ofS_mod n M
    have hw32 : wrapV .u32 n = n % 4294967296 := rfl
    simp only [adr] at hadr
    generalize b3 (n % 4294967296) = k3 at hp hadr
    generalize b2 (n % 4294967296) = k2 at hp hadr
    generalize b1 (n % 4294967296) = k1 at hp hadr
    generalize b0 (n % 4294967296) = k0 at hp hadr
    have hB3 : ∀ L, (S.set i (rsrB x3 s3.2) ++ L)[i]? = some (.cells [x3.1, .i .i64 (x3.2 : Int), .b s3.2] 0 none true) := fun L => at_old h3.blk
    have hS3 : ∀ (L : Mem) (B' : Blk), (S.set i (rsrB x3 s3.2) ++ L).set i B' = S.set i B' ++ L := fun L B' => by rw [List.set_append_left _ _ (by rw [List.length_set]; exact hi), List.set_set]
    have k3c := h3.cells
    have k3o := h3.one
    obtain ⟨x4, c4, h4⟩ := rnum_step h3' [.cells (opC 0 0 0 0 .sn Pol.zero .sn) 0 none true, .cells (opC 4 0 0 0 .sn ⟨za, k3, k2, k1, k0, 0, 0, 0, 0, 0, 0, 0, 0⟩ .sn) 0 none true]
    have hno4 := numR_ok h3'.ok
    generalize hq4 : numR (s3.1, s3.2 || decide (4294967295 < n)) = q4 at hp c4 h4 hno4
    obtain ⟨c, s4⟩ := q4
    simp only at hp c4 h4 hno4
    have hz4 := zagS_eq hno4.1
    generalize zag c = zc at *
    obtain ⟨x5, c5, h5⟩ := rnum_step h4 [.cells (opC 0 0 0 0 .sn Pol.zero .sn) 0 none true, .cells (opC 4 0 0 0 .sn ⟨za, k3, k2, k1, k0, zc, 0, 0, 0, 0, 0, 0, 0⟩ .sn) 0 none true]
    have hno5 := numR_ok h4.ok
    generalize hq5 : numR s4 = q5 at hp c5 h5 hno5
    obtain ⟨n1, s5⟩ := q5
    simp only at hp c5 h5 hno5
    obtain ⟨x6, c6, h6⟩ := rnum_step h5 [.cells (opC 0 0 0 0 .sn Pol.zero .sn) 0 none true, .cells (opC 4 0 0 0 .sn ⟨za, k3, k2, k1, k0, zc, n1, 0, 0, 0, 0, 0, 0⟩ .sn) 0 none true]
    have hno6 := numR_ok h5.ok
    generalize hq6 : numR s5 = q6 at hp c6 h6 hno6
    obtain ⟨n2, s6⟩ := q6
    simp only at hp c6 h6 hno6
    obtain ⟨x7, c7, h7⟩ := rnum_step h6 [.cells (opC 0 0 0 0 .sn Pol.zero .sn) 0 none true, .cells (opC 4 0 0 0 .sn ⟨za, k3, k2, k1, k0, zc, n1, n2, 0, 0, 0, 0, 0⟩ .sn) 0 none true]
    have hno7 := numR_ok h6.ok
    generalize hq7 : numR s6 = q7 at hp c7 h7 hno7
    obtain ⟨n3, s7⟩ := q7
    simp only at hp c7 h7 hno7
    obtain ⟨x8, c8, h8⟩ := rnum_step h7 [.cells (opC 0 0 0 0 .sn Pol.zero .sn) 0 none true, .cells (opC 4 0 0 0 .sn ⟨za, k3, k2, k1, k0, zc, n1, n2, n3, 0, 0, 0, 0⟩ .sn) 0 none true]
    have hno8 := numR_ok h7.ok
    generalize hq8 : numR s7 = q8 at hp c8 h8 hno8
    obtain ⟨n4, s8⟩ := q8
    simp only at hp c8 h8 hno8
    obtain ⟨x9, c9, h9⟩ := rnum_step h8 [.cells (opC 0 0 0 0 .sn Pol.zero .sn) 0 none true, .cells (opC 4 0 0 0 .sn ⟨za, k3, k2, k1, k0, zc, n1, n2, n3, n4, 0, 0, 0⟩ .sn) 0 none true]
    have hno9 := numR_ok h8.ok
    generalize hq9 : numR s8 = q9 at hp c9 h9 hno9
    obtain ⟨n5, s9⟩ := q9
    simp only at hp c9 h9 hno9
    obtain ⟨x10, c10, h10⟩ := rnum_step h9 [.cells (opC 0 0 0 0 .sn Pol.zero .sn) 0 none true, .cells (opC 4 0 0 0 .sn ⟨za, k3, k2, k1, k0, zc, n1, n2, n3, n4, n5, 0, 0⟩ .sn) 0 none true]
    have hno10 := numR_ok h9.ok
    generalize hq10 : numR s9 = q10 at hp c10 h10 hno10
    obtain ⟨n6, s10⟩ := q10
    simp only at hp c10 h10 hno10
    obtain ⟨x11, c11, h11⟩ := rnum_step h10 [.cells (opC 0 0 0 0 .sn Pol.zero .sn) 0 none true, .cells (opC 4 0 0 0 .sn ⟨za, k3, k2, k1, k0, zc, n1, n2, n3, n4, n5, n6, 0⟩ .sn) 0 none true]
    have hno11 := numR_ok h10.ok
    generalize hq11 : numR s10 = q11 at hp c11 h11 hno11
    obtain ⟨n7, s11⟩ := q11
    simp only at hp c11 h11 hno11
    subst hp
    simp only [opC, Pol.zero, rsrB] at hB3 hS3 c2 c3 c4 c5 c6 c7 c8 c9 c10 c11
    by_cases hbig : 4294967295 < n
    · rw [decide_eq_true hbig, Bool.or_true] at c4
      apply Exists.intro; apply Exists.intro; refine ⟨?_, ?_⟩
      · apply fn_of_wp f38 rfl; apply W_sound oRop_ok mixed
        simp (maxSteps := 1000000) (disch := omega) only [c38, List.replicate, orc_cons, c1, List.length_set, sa_at0, sa_at, sa_set0, sa_set, hg12, wk, c2, c3, c4, c5, c6, c7, c8, c9, c10, c11, hz2, hz4, hbig, hB3, hS3, k3c, k3o, hw32, hadr, go_sem]
        exact wkv_same
      · exact rro_mk h11 rfl rfl kd_sn kd_sn
    · rw [decide_eq_false hbig, Bool.or_false] at c4
      apply Exists.intro; apply Exists.intro; refine ⟨?_, ?_⟩
      · apply fn_of_wp f38 rfl; apply W_sound oRop_ok mixed
        simp (maxSteps := 1000000) (disch := omega) only [c38, List.replicate, orc_cons, c1, List.length_set, sa_at0, sa_at, sa_set0, sa_set, hg12, wk, c2, c3, c4, c5, c6, c7, c8, c9, c10, c11, hz2, hz4, hbig, hw32, hadr, go_sem]
        exact wkv_same
      · exact rro_mk h11 rfl rfl kd_sn kd_sn
  by_cases e5 : k = 5
  · subst e5
    simp only [show ¬ (5 : Int) = 0 by omega, show ¬ (5 : Int) = 1 by omega, show ¬ (5 : Int) = 4 by omega, show ¬ (5 : Int) = 10 by omega, show ¬ (5 : Int) = 11 by omega, show ((5 : Int) = 5 ∨ (5 : Int) = 8) by omega, if_false, if_true]
    obtain ⟨x2, c2, h2⟩ := rnum_step h1 [.cells (opC 0 0 0 0 .sn Pol.zero .sn) 0 none true, .cells (opC 5 0 0 0 .sn Pol.zero .sn) 0 none true]
    have hno := numR_ok h1.ok
    generalize hq2 : numR s1 = q2 at c2 h2 hno ⊢
    obtain ⟨n, s2⟩ := q2
    simp only at c2 h2 hno ⊢
    have hz := zagS_eq hno.1
    simp only [opC, Pol.zero, rsrB] at c2
    apply Exists.intro; apply Exists.intro; refine ⟨?_, ?_⟩
    · apply fn_of_wp f38 rfl; apply W_sound oRop_ok mixed
      simp (maxSteps := 1000000) (disch := omega) only [c38, List.replicate, orc_cons, c1, List.length_set, sa_at0, sa_at, sa_set0, sa_set, hg12, wk, c2, hz, go_sem]
      exact wkv_same
    · exact rro_mk h2 rfl rfl kd_sn kd_sn
  by_cases e8 : k = 8
  · subst e8
    simp only [show ¬ (8 : Int) = 0 by omega, show ¬ (8 : Int) = 1 by omega, show ¬ (8 : Int) = 4 by omega, show ¬ (8 : Int) = 10 by omega, show ¬ (8 : Int) = 11 by omega, show ((8 : Int) = 5 ∨ (8 : Int) = 8) by omega, if_false, if_true]
    obtain ⟨x2, c2, h2⟩ := rnum_step h1 [.cells (opC 0 0 0 0 .sn Pol.zero .sn) 0 none true, .cells (opC 8 0 0 0 .sn Pol.zero .sn) 0 none true]
    have hno := numR_ok h1.ok
    generalize hq2 : numR s1 = q2 at c2 h2 hno ⊢
    obtain ⟨n, s2⟩ := q2
    simp only at c2 h2 hno ⊢
    have hz := zagS_eq hno.1
    simp only [opC, Pol.zero, rsrB] at c2
    apply Exists.intro; apply Exists.intro; refine ⟨?_, ?_⟩
    · apply fn_of_wp f38 rfl; apply W_sound oRop_ok mixed
      simp (maxSteps := 1000000) (disch := omega) only [c38, List.replicate, orc_cons, c1, List.length_set, sa_at0, sa_at, sa_set0, sa_set, hg12, wk, c2, hz, go_sem]
      exact wkv_same
    · exact rro_mk h2 rfl rfl kd_sn kd_sn
  by_cases e10 : k = 10
  · subst e10
    simp only [show ¬ (10 : Int) = 0 by omega, show ¬ (10 : Int) = 1 by omega, show ¬ (10 : Int) = 4 by omega, show ¬ (10 : Int) = 11 by omega, show ¬ ((10 : Int) = 5 ∨ (10 : Int) = 8) by omega, if_false, if_true]
    obtain ⟨x2, c2, h2⟩ := rnum_step h1 [.cells (opC 0 0 0 0 .sn Pol.zero .sn) 0 none true, .cells (opC 10 0 0 0 .sn Pol.zero .sn) 0 none true]
    have hno := numR_ok h1.ok
    generalize hq2 : numR s1 = q2 at c2 h2 hno ⊢
    obtain ⟨n, s2⟩ := q2
    simp only at c2 h2 hno ⊢
    have hz := zagS_eq hno.1
    simp only [opC, Pol.zero, rsrB] at c2
    apply Exists.intro; apply Exists.intro; refine ⟨?_, ?_⟩
    · apply fn_of_wp f38 rfl; apply W_sound oRop_ok mixed
      simp (maxSteps := 1000000) (disch := omega) only [c38, List.replicate, orc_cons, c1, List.length_set, sa_at0, sa_at, sa_set0, sa_set, hg12, wk, c2, hz, go_sem]
      exact wkv_same
    · exact rro_mk h2 rfl rfl kd_sn kd_sn
  by_cases e11 : k = 11
  · subst e11
    simp only [show ¬ (11 : Int) = 0 by omega, show ¬ (11 : Int) = 1 by omega, show ¬ (11 : Int) = 4 by omega, show ¬ (11 : Int) = 10 by omega, show ¬ ((11 : Int) = 5 ∨ (11 : Int) = 8) by omega, if_false, if_true]
    obtain ⟨x2, c2, h2⟩ := rnum_step h1 [.cells (opC 0 0 0 0 .sn Pol.zero .sn) 0 none true, .cells (opC 11 0 0 0 .sn Pol.zero .sn) 0 none true]
    have hno := numR_ok h1.ok
    generalize hq2 : numR s1 = q2 at c2 h2 hno ⊢
    obtain ⟨n, s2⟩ := q2
    simp only at c2 h2 hno ⊢
    obtain ⟨ix, e1', M1, ⟨rfl, g3, g2, x3, y, V, h3, rfl, hy⟩, hw⟩ := rkeep_trace hi n hno.1 s2 (min n 65).toNat [(3, .p (S.length + 1) 0 0), (0, .p i 0 0), (2, .p S.length 0 0), (7, .i .u64 n), (8, .i .u64 0)]
      (S.set i (rsrB x2 s2.2) ++ [.cells (opC 0 0 0 0 .sn Pol.zero .sn) 0 none true, .cells (opC 11 0 0 0 .sn Pol.zero .sn) 0 none true]) ⟨[], s2, x2, .sn, [], rfl, rfl, h2, rfl, .inl ⟨rfl, rfl⟩, rfl, rfl, rfl, rfl, rfl⟩
    generalize whF keepR (min n 65).toNat s2 = w at h3 hy hw ⊢
    obtain ⟨ks, s3⟩ := w
    simp only at h3 hy hw ⊢
    have hyl : ∀ Z O : Blk, lstV boolE (S.set i (rsrB x3 s3.2) ++ (Z :: O :: V)) y = some ks ∧ Kd S.length (S.set i (rsrB x3 s3.2) ++ (Z :: O :: V)) y := fun Z O => by
      rcases hy with ⟨rfl, rfl⟩ | ⟨p, v, hne, rfl, hV⟩
      · exact ⟨rfl, .inl rfl⟩
      · have hat : (S.set i (rsrB x3 s3.2) ++ (Z :: O :: V))[S.length + 2 + p]? = some (.cells (ks.flatMap boolE.enc) v (some 1) true) := by
          rw [Nat.add_assoc, sa_at, Nat.add_comm 2 p]
          exact hV
        refine ⟨lst_lstV (.inr (.inr ⟨_, _, _, _, _, _, rfl, rfl, ?_⟩)), .inr (.inr ⟨_, _, _, _, _, _, _, rfl, by omega, hat, by simp [Blk.opn]⟩)⟩
        rw [rowAt_B, hat, rowB_some, if_pos (by rw [enc_length]; omega), List.drop_zero, ← enc_length, List.take_length]
    have hone : y.one = true := by rcases hy with ⟨_, rfl⟩ | ⟨p, v, _, rfl, _⟩ <;> rfl
    have hcells : y.cells = some [y] := by rcases hy with ⟨_, rfl⟩ | ⟨p, v, _, rfl, _⟩ <;> rfl
    simp only [opC, Pol.zero, rsrB, List.cons_append, List.nil_append] at c2 hw
    apply Exists.intro; apply Exists.intro; refine ⟨?_, ?_⟩
    · apply fn_of_wp f38 rfl; apply W_sound oRop_ok mixed
      simp (maxSteps := 1000000) (disch := omega) only [c38, List.replicate, orc_cons, c1, List.length_set, sa_at0, sa_at, sa_set0, sa_set, hg12, wk, c2, go_sem]
      refine hw.mono ?_
      rintro _ _ _ _ ⟨rfl, rfl, rfl, rfl⟩
      simp (maxSteps := 1000000) (disch := omega) only [g3, g2, sa_at0, sa_at, sa_set0, sa_set, hone, hcells, go_sem]
      exact wkv_same
    · exact rro_mk h3 rfl (hyl _ _).1 kd_sn (hyl _ _).2
  apply Exists.intro; apply Exists.intro; refine ⟨?_, ?_⟩
  · apply fn_of_wp f38 rfl; apply W_sound oRop_ok mixed
    simp (maxSteps := 1000000) (disch := omega) only [c38, List.replicate, orc_cons, c1, List.length_set, sa_at0, sa_at, sa_set0, sa_set, hg12, wk, e0, e1, e4, e5, e8, e10, e11, go_sem]
    exact wkv_same
  · rw [if_neg e0, if_neg e1, if_neg e4, if_neg (by omega), if_neg e10, if_neg e11]
    exact rro_mk h1 rfl rfl kd_sn kd_sn
end Go.Proofs.YtmolaemlenllmaaGreat

namespace Go.Proofs.YtmolaemlenllmaaGreat
open Go.RowKit
set_option linter.unusedSimpArgs false
set_option linter.unusedVariables false
set_option maxRecDepth 10000

/-- A list that is built behind A. -/
def LZ {α : Type} (E : Enc α) (n : Nat) (V : Mem) (y : AV) (l : List α) : Prop := (l = [] ∧ ∃ p, y = .sl (n + p) 0 0 0 0 true ∧ V[p]? = some (.cells [] 0 none true)) ∨ ∃ p v, l ≠ [] ∧ y = .sl (n + p) 0 v l.length l.length false ∧ V[p]? = some (.cells (l.flatMap E.enc) v (some E.sz) true)
section
variable {α : Type} {E : Enc α} {A V : Mem} {y : AV} {l : List α}
theorem LZ.one (h : LZ E A.length V y l) : y.one = true := by rcases h with ⟨_, p, rfl, _⟩ | ⟨p, v, _, rfl, _⟩ <;> rfl
theorem LZ.cells (h : LZ E A.length V y l) : y.cells = some [y] := by rcases h with ⟨_, p, rfl, _⟩ | ⟨p, v, _, rfl, _⟩ <;> rfl
theorem LZ.grow (h : LZ E A.length V y l) (U : Mem) : LZ E A.length (V ++ U) y l := by
  rcases h with ⟨h0, p, h1, h2⟩ | ⟨p, v, h0, h1, h2⟩
  · exact .inl ⟨h0, p, h1, at_old h2⟩
  · exact .inr ⟨p, v, h0, h1, at_old h2⟩
theorem LZ.lst (h : LZ E A.length V y l) : lstV E (A ++ V) y = some l := by
  rcases h with ⟨rfl, p, rfl, hV⟩ | ⟨p, v, _, rfl, hV⟩
  · refine lst_lstV (.inr (.inr ⟨_, _, _, _, _, _, rfl, rfl, ?_⟩))
    rw [rowAt_B, at_app, hV]; simp [rowB]
  · refine lst_lstV (.inr (.inr ⟨_, _, _, _, _, _, rfl, rfl, ?_⟩))
    rw [rowAt_B, at_app, hV, rowB_some, if_pos (by rw [enc_length]; omega), List.drop_zero, ← enc_length, List.take_length]
theorem LZ.app {bytes : Nat} (hE : ∀ a, (E.enc a).all AV.one = true) (h : LZ E A.length V y l) (a : α) (h1 : (l.length + 1) * bytes ≤ lim) (h2 : l.length + 1 ≤ lim) :
    ∃ y' V', appV (A ++ V) E.sz bytes y (E.enc a) 1 = some (y', A ++ V') ∧ LZ E A.length V' y' (l ++ [a]) ∧ ∀ (p : Nat) (B : Blk), V[p]? = some B → B.opn ≠ some E.sz → V'[p]? = some B := by
  rcases h with ⟨rfl, p, rfl, hV⟩ | ⟨p, v, hne, rfl, hV⟩
  · refine ⟨.sl (A.length + V.length) 0 0 1 1 false, V ++ [.cells (E.enc a) 0 (some E.sz) true], ?_, .inr ⟨V.length, 0, by simp, rfl, ?_⟩, fun p B hB _ => at_old hB⟩
    · have hrow : rowAt (A ++ V) (A.length + p) 0 0 (0 * E.sz) = some [] := by rw [rowAt_B, at_app, hV]; simp [rowB]
      simp only [appV, hrow]
      rw [if_neg (by omega), if_neg (by omega), if_pos ⟨by simpa using h1, by unfold lim; omega⟩]
      simp only [if_true, List.length_append, List.append_assoc, Nat.zero_add, List.nil_append]
    · rw [at_app0]; simp
  · have hp : p < V.length := (List.getElem?_eq_some_iff.1 hV).1
    refine ⟨.sl (A.length + p) 0 (v + 1) (l.length + 1) (l.length + 1) false, V.set p (.cells ((l ++ [a]).flatMap E.enc) (v + 1) (some E.sz) true), ?_, .inr ⟨p, v + 1, by simp, by rw [List.length_append]; rfl, by rw [List.getElem?_set_self hp]⟩, fun q B hB hn => ?_⟩
    · simp only [appV]
      rw [if_neg (by omega), if_neg (by omega), if_pos ⟨h1, h2⟩, at_app, hV]
      simp only [Bool.false_eq_true, if_false]
      rw [if_pos ⟨trivial, trivial, trivial, by rw [enc_length]; exact Nat.le_refl _, hE a⟩, set_app]
      have he : (l.flatMap E.enc).take (l.length * E.sz) ++ E.enc a = (l ++ [a]).flatMap E.enc := by
        rw [List.flatMap_append, List.take_of_length_le (by rw [enc_length]; exact Nat.le_refl _)]; simp
      rw [he]
    · have hne' : p ≠ q := fun e => by
        subst e
        rw [hV] at hB
        injection hB with hB
        exact hn (by rw [← hB]; rfl)
      rw [List.getElem?_set_ne hne']; exact hB
end
theorem rop_call {M : Mem} {i : Nat} {x : AV × Nat} {s : St} (h : Rsr M i x s) : ∃ y S', ropPS [.p i 0 0] M = some (y, S') ∧ RrO i M (opR s).1 (opR s).2 y S' := by
  obtain ⟨y, S', h1, h2⟩ := rop_fn M i x s h
  obtain ⟨y', S2, g1, g2⟩ := relS_eq (R := fun args S y S' => ∀ i x s, args = [.p i 0 0] → Rsr S i x s → RrO i S (opR s).1 (opR s).2 y S') h1 (fun i' x' s' e hs => by
    injection e with e _
    injection e with e
    subst e
    obtain ⟨rfl, rfl⟩ := h.inj hs
    exact h2)
  exact ⟨y', S2, g1, g2 i x s rfl h⟩
theorem oRread_ok : OK Tryz.prog (lamOf Tryz.prog) (orcOf [(37, rnumPS), (36, zagS), (38, ropPS), (14, sbytesS true)]) := orc_ok (by simpa using ⟨rnumP_ok, rzag_ok, ropP_ok, rsbytes_ok⟩)
/-- While ops are read. -/
structure Rrj (S : Mem) (R0 C : Blk) (bx : AV) (n : Int) (s0 : St) (m : Nat) (e : Env) (M : Mem) (pre : List Opx) (s : St) (x : AV × Nat) (y : AV) (V : Mem) (qs : List Oq) : Prop where
  len : m + pre.length = (min n 401).toNat
  rep : whF opR (min n 401).toNat s0 = (pre ++ (whF opR m s).1, (whF opR m s).2)
  mem : M = S ++ ([R0, rsrB x s.2, C] ++ V)
  src : Rsr M (S.length + 1) x s
  lv : LZ oqE (S.length + 3) V y qs
  qv : QsV (S.length + 3) M qs pre
  e5 : e.get 5 = .p (S.length + 1) 0 0
  e2 : e.get 2 = .p S.length 0 0
  e6 : e.get 6 = .p (S.length + 2) 0 0
  e0 : e.get 0 = bx
  e7 : e.get 7 = .i .u64 n
  e9 : e.get 9 = .i .u64 (pre.length : Int)
  e8 : e.get 8 = y
/-- Behind all ops. -/
structure Rre (S : Mem) (R0 C : Blk) (bx : AV) (l : List Opx) (s : St) (ix : IX) (e : Env) (M : Mem) (x : AV × Nat) (y : AV) (V : Mem) (qs : List Oq) : Prop where
  ix : ix = .exit 0
  mem : M = S ++ ([R0, rsrB x s.2, C] ++ V)
  lv : LZ oqE (S.length + 3) V y qs
  qv : QsV (S.length + 3) M qs l
  e5 : e.get 5 = .p (S.length + 1) 0 0
  e2 : e.get 2 = .p S.length 0 0
  e6 : e.get 6 = .p (S.length + 2) 0 0
  e0 : e.get 0 = bx
  e8 : e.get 8 = y
theorem rread_trace {S : Mem} {R0 C : Blk} {bx : AV} (n : Int) (hn : u64 n) (s0 : St) :
    ∀ (m : Nat) (e : Env) (M : Mem), (∃ pre s x y V qs, Rrj S R0 C bx n s0 m e M pre s x y V qs) →
    ∃ ix e1 M1, (∃ x y V qs, Rre S R0 C bx (whF opR (min n 401).toNat s0).1 (whF opR (min n 401).toNat s0).2 ix e1 M1 x y V qs) ∧ WP Tryz.prog S false (.loop [5, 2, 6, 0, 7, 9, 8] c18l0) e M [] (onlyK ix e1 M1) := by
  refine wp_trace (J := fun m e M => ∃ pre s x y V qs, Rrj S R0 C bx n s0 m e M pre s x y V qs) (fun ix e1 M1 => ∃ x y V qs, Rre S R0 C bx (whF opR (min n 401).toNat s0).1 (whF opR (min n 401).toNat s0).2 ix e1 M1 x y V qs) (by rintro e S ⟨_, _, _, _, h⟩; have := h.ix; cases this) ?_
  rintro m e M ⟨pre, s, x, y, V, qs, hlen, hrep, hM, hsrc, hlv, hqv, e5, e2, e6, e0, e7, e9, e8⟩
  have hn0 := hn.1
  have hBM : M[S.length + 1]? = some (.cells [x.1, .i .i64 (x.2 : Int), .b s.2] 0 none true) := hsrc.blk
  cases m with
  | zero =>
    right
    have hpre : pre.length = (min n 401).toNat := by omega
    simp only [whF, List.append_nil] at hrep
    apply Exists.intro; apply Exists.intro; apply Exists.intro; refine ⟨?_, ?_⟩; rotate_left 1
    · refine W_sound oRread_ok mixed _ _ _ _ _ ?_
      by_cases h401 : n ≤ 401
      · have hI : ¬ (pre.length : Int) < n := by omega
        simp (maxSteps := 1000000) (disch := omega) only [c18l0, e5, e2, e6, e0, e7, e9, e8, hI, go_sem]
        exact onlyK_mk
      · have hI : (pre.length : Int) < n := by omega
        have hI2 : ¬ (pre.length : Int) < 401 := by omega
        simp (maxSteps := 1000000) (disch := omega) only [c18l0, e5, e2, e6, e0, e7, e9, e8, hI, hI2, go_sem]
        exact onlyK_mk
    · exact ⟨x, y, V, qs, ⟨rfl, by rw [hrep]; exact hM, hlv, by rw [hrep]; exact hqv, rfl, rfl, rfl, rfl, rfl⟩⟩
  | succ m =>
    have hI : (pre.length : Int) < n := by omega
    have hI2 : (pre.length : Int) < 401 := by omega
    have hk6 : pre.length < 1000000 := by omega
    rw [whF] at hrep
    cases hbad : s.2 with
    | true =>
      right
      rw [if_pos hbad] at hrep
      simp only [List.append_nil] at hrep
      rw [hbad] at hBM
      apply Exists.intro; apply Exists.intro; apply Exists.intro; refine ⟨?_, ?_⟩; rotate_left 1
      · refine W_sound oRread_ok mixed _ _ _ _ _ ?_
        simp (maxSteps := 1000000) (disch := omega) only [c18l0, e5, e2, e6, e0, e7, e9, e8, hI, hI2, hBM, go_sem]
        exact onlyK_mk
      · exact ⟨x, y, V, qs, ⟨rfl, by rw [hrep]; exact hM, hlv, by rw [hrep]; exact hqv, rfl, rfl, rfl, rfl, rfl⟩⟩
    | false =>
    left
    rw [if_neg (by rw [hbad]; simp)] at hrep
    rw [hbad] at hBM
    obtain ⟨yy, S', hcall, q, x', U, rfl, hS', hsrc', hval, hkx, hky⟩ := rop_call hsrc
    generalize hof : opR s = os at hrep hS' hsrc' hval
    obtain ⟨o, s'⟩ := os
    simp only at hrep hS' hsrc' hval
    -- the memory behind the call
    have hS2 : S' = S ++ ([R0, rsrB x' s'.2, C] ++ (V ++ U)) := by
      rw [hS', hM, set_app, List.append_assoc]
      rfl
    have hML : M.length = S.length + 3 + V.length := by rw [hM, List.length_append, List.length_append]; simp only [List.length_cons, List.length_nil]; omega
    have hkeep : ∀ j B, S.length + 3 ≤ j → M[j]? = some B → B.opn ≠ some 19 → (S' ++ [Blk.cells q.enc 0 none true])[j]? = some B := fun j B hj hB _ => by
      obtain ⟨p, rfl⟩ : ∃ p, j = S.length + (3 + p) := ⟨j - (S.length + 3), by omega⟩
      rw [hM, at_app] at hB
      have hB : V[p]? = some B := by rw [List.getElem?_append_right (by simp)] at hB; simpa using hB
      refine at_old ?_
      rw [hS2, at_app, List.getElem?_append_right (by simp)]
      simpa using at_old (L := U) hB
    have hqv1 := hqv.keep hkeep
    have hqs : qs.length = pre.length := hqv.len
    obtain ⟨A, hAe⟩ : ∃ A : Mem, A = S ++ [R0, rsrB x' s'.2, C] := ⟨_, rfl⟩
    have hAl : A.length = S.length + 3 := by rw [hAe, List.length_append]; rfl
    have hlv1 : LZ oqE A.length (V ++ (U ++ [Blk.cells q.enc 0 none true])) y qs := by
      have : LZ oqE (S.length + 3) V y qs := hlv
      rw [← hAl] at this
      exact this.grow _
    obtain ⟨y', V', hap, hlv', hV'⟩ := hlv1.app (bytes := 160) oqE_one q (by rw [hqs]; unfold lim; omega) (by rw [hqs]; unfold lim; omega)
    have hMA : S' ++ [Blk.cells q.enc 0 none true] = A ++ (V ++ (U ++ [Blk.cells q.enc 0 none true])) := by
      rw [hS2, hAe]; simp only [List.append_assoc]
    have hap : appV (S' ++ [.cells q.enc 0 none true]) 19 160 y q.enc 1 = some (y', A ++ V') := by rw [hMA]; exact hap
    have hkeep2 : ∀ j B, S.length + 3 ≤ j → (S' ++ [Blk.cells q.enc 0 none true])[j]? = some B → B.opn ≠ some 19 → (A ++ V')[j]? = some B := fun j B hj hB hnB => by
      obtain ⟨p, rfl⟩ : ∃ p, j = A.length + p := ⟨j - (S.length + 3), by omega⟩
      rw [hMA, at_app] at hB
      rw [at_app]
      exact hV' p B hB hnB
    have hkq : Kq (S.length + 3) (S' ++ [Blk.cells q.enc 0 none true]) q := ⟨(hkx.less (by omega)).grow _, (hky.less (by omega)).grow _⟩
    have hval1 := Oq.val_ext hval (ext_app [Blk.cells q.enc 0 none true])
    have hqv2 := (hqv1.snoc hval1 hkq).keep hkeep2
    have hsrc2 : Rsr (A ++ V') (S.length + 1) x' s' := by
      have hb := hsrc'.blk
      have ht : (A ++ V').take (S.length + 1) = S'.take (S.length + 1) := by
        rw [hS2, hAe, List.append_assoc, List.take_append, List.take_append (l₁ := S) (l₂ := [R0, rsrB x' s'.2, C] ++ (V ++ U)), Nat.add_sub_cancel_left]
        rfl
      exact ⟨by rw [hAe, List.append_assoc, at_app]; rfl, by rw [ht]; exact hsrc'.lst, by rw [ht]; exact hsrc'.opn, hsrc'.ok⟩
    have ylen := hlv1.one
    have ycel := hlv1.cells
    have ylen' := hlv'.one
    have ycel' := hlv'.cells
    have hw : wrapV .u64 ((pre.length : Int) + 1) = ((pre ++ [o]).length : Nat) := by rw [wrap_u64 (by omega) (by omega), List.length_append, List.length_singleton]; omega
    have q1 := q.x.h
    have q2 := q.y.h
    refine ⟨m, ?_⟩; apply Exists.intro; apply Exists.intro; refine ⟨Nat.lt_succ_self m, ?_, ?_⟩; rotate_left 1
    · refine W_sound oRread_ok mixed _ _ _ _ _ ?_
      simp only [Oq.enc] at hcall hap
      simp (maxSteps := 1000000) (disch := omega) only [c18l0, e5, e2, e6, e0, e7, e9, e8, hI, orc_cons, hcall, List.replicate, q1, q2, src_sl, srcN_some, hap, hBM, hI2, hw, go_sem]
      exact onlyK_mk
    · exact ⟨pre ++ [o], s', x', y', V', qs ++ [q], ⟨by rw [List.length_append, List.length_singleton]; omega, by rw [hrep, List.append_assoc]; rfl, by rw [hAe, List.append_assoc], hsrc2, by rw [← hAl]; exact hlv', hqv2, rfl, rfl, rfl, rfl, rfl, by rw [List.length_append, List.length_singleton]; rfl, rfl⟩⟩
theorem code_u8r {o : Opx} (hg : o.good) (hr : o.right) : ∀ c ∈ o.code, u8 c := by
  intro c hc
  unfold Opx.code at hc
  rcases List.mem_append.1 hc with hc | hc
  · unfold lebs at hc
    obtain ⟨n, hn, hc⟩ := List.mem_flatMap.1 hc
    exact leb_u8 (ns_u64 hg hr n hn).1 c hc
  · exact hg.2.2.2.2.1 c hc
theorem script_u8r {c : Cfg} {l : List Opx} (hc : c.good) (hl : allR l) (hg : ∀ o ∈ l, o.good) : ∀ x ∈ scriptB c l, u8 x := by
  intro x hx
  have h4 := hl.1
  unfold scriptB at hx
  rcases List.mem_append.1 hx with hx | hx
  · unfold lebs at hx
    obtain ⟨n, hn, hx⟩ := List.mem_flatMap.1 hx
    exact leb_u8 (head_u64 hc ⟨by omega, by omega⟩ n hn).1 x hx
  · unfold codeL at hx
    obtain ⟨o, ho, hx⟩ := List.mem_flatMap.1 hx
    exact code_u8r (hg o ho) (hl.2 o ho) x hx
section
variable {S : Mem} {R0 B : Blk} {x : AV × Nat} {s : St}
theorem rnum_read (h : Rsr (S ++ [R0, B]) (S.length + 1) x s) (L : Mem) : ∃ x', rnumPS [.p (S.length + 1) 0 0] (S ++ (R0 :: B :: L)) = some (.i .u64 (numR s).1, S ++ (R0 :: rsrB x' (numR s).2.2 :: L)) ∧ Rsr (S ++ [R0, rsrB x' (numR s).2.2]) (S.length + 1) x' (numR s).2 := by
  obtain ⟨x', h1, h2⟩ := rrd1_call rnum_fn h L
  have e : ∀ B', (S ++ [R0, B]).set (S.length + 1) B' = S ++ [R0, B'] := fun B' => by rw [set_app]; rfl
  rw [e] at h1 h2
  rw [List.append_assoc, List.append_assoc] at h1
  exact ⟨x', h1, h2⟩
end
set_option maxHeartbeats 2000000 in
theorem rread_fn (S : Mem) (bx : AV) (b : List Int) (hl : lstV byteE S bx = some b) (ho : openQ S 1 bx = true) (hu : ∀ c ∈ b, u8 c) (hlen : b.length ≤ 900000) : ∃ y S', FnOK Tryz.prog 18 [bx] S y S' ∧ RdF S b y S' := by
  have hb1 := lst_one hl
  have hbc := lst_cells hl
  have hs0 : Rsr (S ++ [.cells [.i .i64 0, .i .i64 0, .i .u64 0] 0 none true, rsrB (bx, 0) false]) (S.length + 1) (bx, 0) (b, false) := by
    have ht : (S ++ [Blk.cells [.i .i64 0, .i .i64 0, .i .u64 0] 0 none true, rsrB (bx, 0) false]).take (S.length + 1) = S ++ [.cells [.i .i64 0, .i .i64 0, .i .u64 0] 0 none true] := by
      rw [List.take_append, List.take_of_length_le (by omega), Nat.add_sub_cancel_left]; rfl
    exact ⟨by rw [at_app]; rfl, ⟨b, by rw [ht]; exact lstV_grow hl _, hu, by omega, Nat.zero_le _, rfl⟩, by rw [ht]; exact openQ_grow ho _, ⟨by show b.length ≤ _; omega, hu⟩⟩
  obtain ⟨x1, c1, h1⟩ := rnum_read hs0 [.cells [.i .i64 0, .i .i64 0, .i .u64 0] 0 none true]
  have hpok := readR_ok hu (by omega)
  have hF : readF b = fin b (readR b) := (readR_eq hu (by omega)).symm
  generalize hp : readR b = P at hF hpok
  unfold readR at hp
  have hno1 := numR_ok hs0.ok
  generalize hq1 : numR (b, false) = q1 at hp c1 h1 hno1
  obtain ⟨a, s1⟩ := q1
  simp only at hp c1 h1 hno1
  have hz1 := zagS_eq hno1.1
  generalize zag a = za at hp hz1
  obtain ⟨x2, c2, h2⟩ := rnum_read h1 [.cells [.i .i64 za, .i .i64 0, .i .u64 0] 0 none true]
  have hno2 := numR_ok h1.ok
  generalize hq2 : numR s1 = q2 at hp c2 h2 hno2
  obtain ⟨q, s2⟩ := q2
  simp only at hp c2 h2 hno2
  have hz2 := zagS_eq hno2.1
  generalize zag q = zq at hp hz2
  obtain ⟨x3, c3, h3⟩ := rnum_read h2 [.cells [.i .i64 za, .i .i64 zq, .i .u64 0] 0 none true]
  generalize hq3 : numR s2 = q3 at hp c3 h3
  obtain ⟨p, s3⟩ := q3
  simp only at hp c3 h3
  obtain ⟨x4, c4, h4⟩ := rnum_read h3 [.cells [.i .i64 za, .i .i64 zq, .i .u64 p] 0 none true]
  have hno4 := numR_ok h3.ok
  generalize hq4 : numR s3 = q4 at hp c4 h4 hno4
  obtain ⟨n, s4⟩ := q4
  simp only at hp c4 h4 hno4
  obtain ⟨ix, e1, M1, ⟨x5, y, V, qs, rfl, hM1, hlv, hqv, g5, g2, g6, g0, g8⟩, hw⟩ := rread_trace (S := S) (R0 := .cells [.i .i64 0, .i .i64 0, .i .u64 0] 0 none true) (C := .cells [.i .i64 za, .i .i64 zq, .i .u64 p] 0 none true) (bx := bx) n hno4.1 s4 (min n 401).toNat
    [(5, .p (S.length + 1) 0 0), (2, .p S.length 0 0), (6, .p (S.length + 2) 0 0), (0, bx), (7, .i .u64 n), (9, .i .u64 0), (8, .sl (S.length + 3) 0 0 0 0 true)]
    (S ++ [.cells [.i .i64 0, .i .i64 0, .i .u64 0] 0 none true, rsrB x4 s4.2, .cells [.i .i64 za, .i .i64 zq, .i .u64 p] 0 none true, .cells [] 0 none true])
    ⟨[], s4, x4, .sl (S.length + 3) 0 0 0 0 true, [.cells [] 0 none true], [], ⟨rfl, rfl, rfl, by have := h4.grow [.cells [.i .i64 za, .i .i64 zq, .i .u64 p] 0 none true, .cells [] 0 none true]; rw [List.append_assoc] at this; exact this, .inl ⟨rfl, 0, rfl, rfl⟩, ⟨rfl, by simp⟩, rfl, rfl, rfl, rfl, rfl, rfl, rfl⟩⟩
  generalize whF opR (min n 401).toNat s4 = w at hp hM1 hlv hqv hw
  obtain ⟨l, s5⟩ := w
  simp only at hp hM1 hlv hqv hw
  subst hp
  simp only at hpok
  obtain ⟨hcg, hfine, hl4⟩ := hpok
  have hA1 : (S ++ [Blk.cells [.i .i64 0, .i .i64 0, .i .u64 0] 0 none true, rsrB x5 s5.2, .cells [.i .i64 za, .i .i64 zq, .i .u64 p] 0 none true]).length = S.length + 3 := by rw [List.length_append]; rfl
  have hlv1 : LZ oqE (S ++ [Blk.cells [.i .i64 0, .i .i64 0, .i .u64 0] 0 none true, rsrB x5 s5.2, .cells [.i .i64 za, .i .i64 zq, .i .u64 p] 0 none true]).length V y qs := by rw [hA1]; exact hlv
  have hops : opsOf M1 y = some l := opsOf_iff.2 ⟨qs, by have := hlv1.lst; rw [List.append_assoc] at this; rw [hM1]; exact this, hqv.1⟩
  have hlg : ∀ o ∈ l, o.good := fun o ho => (hfine o ho).1
  have hls : allSmall l = true := small_of fun o ho => by have := (hfine o ho).2; omega
  obtain ⟨X, M3, hby, hX, ⟨U, rfl⟩, _⟩ := sbytes_call (z := true) hops hcg hlg (by omega) hls
  have hM3 : M1 ++ U = S ++ ([.cells [.i .i64 0, .i .i64 0, .i .u64 0] 0 none true, rsrB x5 s5.2, .cells [.i .i64 za, .i .i64 zq, .i .u64 p] 0 none true] ++ (V ++ U)) := by rw [hM1]; simp only [List.append_assoc]
  have hC1 : M1[S.length + 2]? = some (.cells [.i .i64 za, .i .i64 zq, .i .u64 p] 0 none true) := by rw [hM1, at_app]; rfl
  have hC3 : (M1 ++ U)[S.length + 2]? = some (.cells [.i .i64 za, .i .i64 zq, .i .u64 p] 0 none true) := at_old hC1
  have hS3 : (M1 ++ U)[S.length + 1]? = some (.cells [x5.1, .i .i64 (x5.2 : Int), .b s5.2] 0 none true) := by rw [hM3, at_app]; rfl
  have hR3 : (M1 ++ U)[S.length]? = some (.cells [.i .i64 0, .i .i64 0, .i .u64 0] 0 none true) := by rw [hM3, at_app0]; rfl
  have hset : ∀ B', ((M1 ++ U).set S.length B')[S.length]? = some B' := fun B' => at_set hR3
  have hSM : ∀ B', S <+: (M1 ++ U).set S.length B' := fun B' => by rw [hM3, set_app0]; exact ext_app _
  have hone := hlv1.one
  have hcel := hlv1.cells
  have hbxM : lstV byteE (M1 ++ U) bx = some b := lst_ext hl (by rw [hM3]; exact ext_app _)
  have tb := toStr_B hbxM
  have tX := toStr_B hX
  have hF2 : readF b = if s5.2 = false ∧ allR l ∧ scriptB ⟨za, zq, p⟩ l = b then some (⟨za, zq, p⟩, l) else none := hF
  have hx0 : rsrB (bx, 0) false = .cells [bx, .i .i64 0, .b false] 0 none true := rfl
  rw [hx0] at c1
  have bad : ∀ (hbad : ¬ (s5.2 = false ∧ allR l ∧ scriptB ⟨za, zq, p⟩ l = b)), readF b = none := fun h => by rw [hF2, if_neg h]
  cases hbad : s5.2 with
  | true =>
    rw [hbad] at hS3
    generalize (if allR l then (0 : Int) else 221) = er at hby
    apply Exists.intro; apply Exists.intro; refine ⟨?_, ?_⟩
    · apply fn_of_wp f18 rfl; apply W_sound oRread_ok mixed
      simp (maxSteps := 1000000) (disch := omega) only [c18, List.replicate, hbc, hb1, orc_cons, c1, hz1, c2, hz2, c3, c4, go_sem]
      refine hw.mono ?_
      rintro _ _ _ _ ⟨rfl, rfl, rfl, rfl⟩
      simp (maxSteps := 1000000) (disch := omega) only [g5, g2, g6, g0, g8, hC1, orc_cons, hby, hS3, hR3, hC3, hset, hone, hcel, go_sem]
      exact wkv_same
    · exact rdf_bad (bad fun h => by have := h.1; rw [hbad] at this; cases this) (hSM _)
  | false =>
    rw [hbad] at hS3
    by_cases hr : allR l
    · rw [if_pos hr] at hby hX tX
      by_cases he : scriptB ⟨za, zq, p⟩ l = b
      · rw [he] at tX
        have hops2 : opsOf ((M1 ++ U).set S.length (.cells [.i .i64 za, .i .i64 zq, .i .u64 p] 0 none true)) y = some l := by
          have e : (M1 ++ U).set S.length (.cells [.i .i64 za, .i .i64 zq, .i .u64 p] 0 none true) = (S ++ [.cells [.i .i64 za, .i .i64 zq, .i .u64 p] 0 none true, rsrB x5 s5.2, .cells [.i .i64 za, .i .i64 zq, .i .u64 p] 0 none true]) ++ (V ++ U) := by
            rw [hM3, set_app0, List.append_assoc]; rfl
          have hlv3 : LZ oqE (S ++ [Blk.cells [.i .i64 za, .i .i64 zq, .i .u64 p] 0 none true, rsrB x5 s5.2, .cells [.i .i64 za, .i .i64 zq, .i .u64 p] 0 none true]).length (V ++ U) y qs := by
            have := hlv1.grow U
            rw [List.length_append] at this ⊢
            exact this
          have hk := hqv.keep (M' := (M1 ++ U).set S.length (.cells [.i .i64 za, .i .i64 zq, .i .u64 p] 0 none true)) fun j B hj hB _ => by
            rw [List.getElem?_set_ne (by omega)]; exact at_old hB
          exact opsOf_iff.2 ⟨qs, by rw [e]; exact hlv3.lst, hk.1⟩
        apply Exists.intro; apply Exists.intro; refine ⟨?_, ?_⟩
        · apply fn_of_wp f18 rfl; apply W_sound oRread_ok mixed
          simp (maxSteps := 1000000) (disch := omega) only [c18, List.replicate, hbc, hb1, orc_cons, c1, hz1, c2, hz2, c3, c4, go_sem]
          refine hw.mono ?_
          rintro _ _ _ _ ⟨rfl, rfl, rfl, rfl⟩
          simp (maxSteps := 1000000) (disch := omega) only [g5, g2, g6, g0, g8, hC1, orc_cons, hby, hS3, hR3, hC3, hset, hone, hcel, tX, tb, go_sem]
          exact wkv_same
        · exact ⟨za, zq, p, 0, y, l, rfl, hSM _, hops2, by rw [hF2, if_pos ⟨hbad, hr, he⟩]; exact ⟨rfl, rfl, rfl⟩⟩
      · have hne : strB (scriptB ⟨za, zq, p⟩ l) ≠ strB b := fun h => he (strB_inj (script_u8r hcg hr hlg) hu h)
        have hne' : ¬ strB (scriptB ⟨za, zq, p⟩ l) = strB b := hne
        apply Exists.intro; apply Exists.intro; refine ⟨?_, ?_⟩
        · apply fn_of_wp f18 rfl; apply W_sound oRread_ok mixed
          simp (maxSteps := 1000000) (disch := omega) only [c18, List.replicate, hbc, hb1, orc_cons, c1, hz1, c2, hz2, c3, c4, go_sem]
          refine hw.mono ?_
          rintro _ _ _ _ ⟨rfl, rfl, rfl, rfl⟩
          simp (maxSteps := 1000000) (disch := omega) only [g5, g2, g6, g0, g8, hC1, orc_cons, hby, hS3, hR3, hC3, hset, hone, hcel, tX, tb, hne', go_sem]
          exact wkv_same
        · exact rdf_bad (bad fun h => he h.2.2) (hSM _)
    · rw [if_neg hr] at hby
      apply Exists.intro; apply Exists.intro; refine ⟨?_, ?_⟩
      · apply fn_of_wp f18 rfl; apply W_sound oRread_ok mixed
        simp (maxSteps := 1000000) (disch := omega) only [c18, List.replicate, hbc, hb1, orc_cons, c1, hz1, c2, hz2, c3, c4, go_sem]
        refine hw.mono ?_
        rintro _ _ _ _ ⟨rfl, rfl, rfl, rfl⟩
        simp (maxSteps := 1000000) (disch := omega) only [g5, g2, g6, g0, g8, hC1, orc_cons, hby, hS3, hR3, hC3, hset, hone, hcel, go_sem]
        exact wkv_same
      · exact rdf_bad (bad fun h => hr h.2.1) (hSM _)
end Go.Proofs.YtmolaemlenllmaaGreat

namespace Go.Proofs.YtmolaemlenllmaaGreat
open Go.RowKit
set_option linter.unusedSimpArgs false
set_option linter.unusedVariables false
set_option maxRecDepth 10000

noncomputable def rreadS : Spec := relS Tryz.prog 18 (fun args S y S' => ∀ bx b, args = [bx] → lstV byteE S bx = some b → openQ S 1 bx = true → (∀ c ∈ b, u8 c) → b.length ≤ 900000 → RdF S b y S')
theorem rread_ok : SpecOK Tryz.prog 18 rreadS := by unfold rreadS; exact relS_ok
theorem rread_call {S : Mem} {bx : AV} {b : List Int} (hl : lstV byteE S bx = some b) (ho : openQ S 1 bx = true) (hu : ∀ c ∈ b, u8 c) (hlen : b.length ≤ 900000) : ∃ y S', rreadS [bx] S = some (y, S') ∧ RdF S b y S' := by
  obtain ⟨y, S', h1, h2⟩ := rread_fn S bx b hl ho hu hlen
  obtain ⟨y', S2, g1, g2⟩ := relS_eq (R := fun args S y S' => ∀ bx b, args = [bx] → lstV byteE S bx = some b → openQ S 1 bx = true → (∀ c ∈ b, u8 c) → b.length ≤ 900000 → RdF S b y S') h1 (fun bx' b' e hl' _ _ _ => by
    injection e with e _
    subst e
    rw [hl] at hl'
    injection hl' with hl'
    subst hl'
    exact h2)
  exact ⟨y', S2, g1, g2 bx b rfl hl ho hu hlen⟩
theorem Acc.openQ {α : Type} {z : Bool} {E : Enc α} {S M : Mem} {x : AV} {l : List α} (h : Acc z E S M x l) : openQ M E.sz x = true := by
  by_cases hl : l = []
  · obtain ⟨T, rfl, ⟨_, _, rfl⟩ | ⟨_, _, p, rfl, _⟩ | ⟨h0, _⟩⟩ := h
    · rfl
    · rfl
    · exact absurd hl h0
  · exact openS_Q (h.opens hl)
theorem oReads_ok (hal : SpecOK Tryz.prog 10 aliveS) : OK Tryz.prog (lamOf Tryz.prog) (orcOf [(10, aliveS), (17, readS), (18, rreadS), (19, sameLS)]) :=
  orc_ok (by simpa using ⟨hal, read_ok, rread_ok, sameL_ok⟩)
theorem rdf_fine {b : List Int} (hu : ∀ c ∈ b, u8 c) (hlen : b.length ≤ 900000) {a q p err : Int} {l : List Opx} (h : match readF b with | some (c, l') => c = (⟨a, q, p⟩ : Cfg) ∧ l = l' ∧ err = 0 | none => a = 0 ∧ q = 0 ∧ p = 0 ∧ l = [] ∧ err = 221) : l.length ≤ 400 ∧ ∀ o ∈ l, o.fine := by
  cases hr : readF b with
  | none => rw [hr] at h; obtain ⟨_, _, _, rfl, _⟩ := h; exact ⟨by simp, by simp⟩
  | some r =>
    obtain ⟨c, l'⟩ := r
    rw [hr] at h
    obtain ⟨_, rfl, _⟩ := h
    obtain ⟨_, g2, g3, _⟩ := readF_some hu (by omega) hr
    exact ⟨g2.1, g3⟩
theorem rdf_same {b : List Int} {a q p err a' q' p' err' : Int} {l l' : List Opx} (h : match readF b with | some (c, l') => c = (⟨a, q, p⟩ : Cfg) ∧ l = l' ∧ err = 0 | none => a = 0 ∧ q = 0 ∧ p = 0 ∧ l = [] ∧ err = 221)
    (h' : match readF b with | some (c, l1) => c = (⟨a', q', p'⟩ : Cfg) ∧ l' = l1 ∧ err' = 0 | none => a' = 0 ∧ q' = 0 ∧ p' = 0 ∧ l' = [] ∧ err' = 221) : a = a' ∧ q = q' ∧ p = p' ∧ l = l' ∧ err = err' := by
  cases hr : readF b with
  | none =>
    rw [hr] at h h'
    obtain ⟨rfl, rfl, rfl, rfl, rfl⟩ := h
    obtain ⟨rfl, rfl, rfl, rfl, rfl⟩ := h'
    exact ⟨rfl, rfl, rfl, rfl, rfl⟩
  | some r =>
    obtain ⟨c, l1⟩ := r
    rw [hr] at h h'
    obtain ⟨rfl, rfl, rfl⟩ := h
    obtain ⟨e, rfl, rfl⟩ := h'
    injection e with e1 e2 e3
    exact ⟨e1, e2, e3, rfl, rfl⟩
theorem reads_ok (hal : SpecOK Tryz.prog 10 aliveS) (S : Mem) (bx : AV) (b : List Int) (hb : lstV byteE S bx = some b) (hu : ∀ c ∈ b, u8 c) (hob : openQ S 1 bx = true) :
    FnOK Tryz.prog 5 [bx] S (.b true) S := by
  have hO := oReads_ok hal
  have lb := lst_len hb
  refine fn_of_wp f5 rfl (W_sound hO mixed _ _ _ _ _ ?_)
  by_cases h2 : b.length ≤ 20000
  rotate_left
  · have h2I : (20000 : Int) < b.length := by omega
    simp (maxSteps := 1000000) (disch := omega) only [c5, orc_cons, aliveS, Bool.not_true, lb, h2I, go_sem]
    exact wkv_same
  have h2I : ¬ (20000 : Int) < b.length := by omega
  obtain ⟨X1, M1, hap, hA⟩ := (acc_lit (E := byteE) (S := S) (M := S) ext_refl).apps (bytes := 1) byteE_one b (by simp; omega) (by simp; omega)
  rw [List.nil_append] at hA
  have hap : appV (S ++ [.cells [] 0 none true]) 1 1 (.sl S.length 0 0 0 0 true) (b.flatMap byteE.enc) b.length = some (X1, M1) := hap
  have hsrc : ∀ L, srcV (S ++ L) 1 bx = some (b.flatMap byteE.enc, b.length) := fun L => src_lst (lstV_grow hb L)
  obtain ⟨y2, M2, hr2, a, q, p, err, z, k, rfl, hM2, hk, hcase⟩ := read_call hA.lst hA.openQ hu (by omega)
  obtain ⟨C, hC⟩ : ∃ C : Blk, C = .cells [.i .i64 a, .i .i64 q, .i .u64 p] 0 none true := ⟨_, rfl⟩
  have hS2 : S <+: M2 ++ [C] := ext_more (hA.ext.trans hM2) _
  obtain ⟨y3, M3, hr3, a', q', p', err', z', k', rfl, hM3, hk', hcase'⟩ := rread_call (lst_ext hb hS2) (openQ_ext hob hS2) hu (by omega)
  obtain ⟨hk4, hkf⟩ := rdf_fine hu (by omega) hcase
  obtain ⟨rfl, rfl, rfl, rfl, rfl⟩ := rdf_same hcase hcase'
  have m2 : ∀ L, (M3 ++ L)[M2.length]? = some C := fun L => at_old (at_pre hM3 (by rw [at_app0]; rfl))
  have hsame := sameLS_eq (S := M3 ++ [C]) (opsOf_ext hk ((ext_app [C]).trans (hM3.trans (ext_app [C])))) (opsOf_grow hk' [C]) (by omega) (fine_small hkf) (fun o ho => (hkf o ho).1) (fun o ho => (hkf o ho).1)
  rw [decide_eq_true rfl] at hsame
  have hq1 := eqcfg (ne := false) (a := a) (q := q) (p := p) (a' := a) (q' := q) (p' := p)
  have hq2 : (decide (a = a ∧ q = q ∧ p = p) != false) = true := by simp
  rw [hq2] at hq1
  rw [hC] at m2 hsame hr3
  have hfin := hS2.trans hM3
  have hl1 := lst_len hA.lst
  simp (maxSteps := 1000000) (disch := omega) only [c5, orc_cons, aliveS, Bool.not_true, lb, h2I, List.replicate, hsrc, hap, hr2, hr3, m2, hq1, hsame, go_sem]
  exact wkv_dropP (ext_more hfin _) rfl
end Go.Proofs.YtmolaemlenllmaaGreat

namespace Go.Proofs.YtmolaemlenllmaaGreat
open Go.RowKit
set_option linter.unusedVariables false
set_option maxRecDepth 100000
section
variable {H : Type} {enc : TypeId × Value → H}
theorem walkScriptReads (W : World) (v0 : Value) {base : Nat} (o0 : Value.okWide Tryz.prog W .any base 22 v0) {d0 : DataW H} {p0 : List MemPlace}
    (h0 : DataW.Trod enc Tryz.prog W 0 (fun _ => true) true 22 v0 d0 p0) :
    Calls Tryz.prog 5 #[v0] W fun e w' => e = .returned (.bool true) ∧ Below W.heap.size W w' := by
  obtain ⟨b, hb, hu, ho⟩ := argBytes o0 h0
  refine calls_of_fnOK (S' := absS W) ?_
  show FnOK Tryz.prog _ [absA W v0] _ _ _
  exact reads_ok alive_ok _ _ b hb hu ho
end
end Go.Proofs.YtmolaemlenllmaaGreat


namespace Go.Proofs.YtmolaemlenllmaaGreat.scriptReads
open Go.ChangeShapes Go.WideShapes Go.ChangeAt Go.RowKit
open Go.ChangeMaps (open_string shut_string)
set_option linter.unusedVariables false

theorem own : ownKnob Tryz.prog.godebug = none := by kernel_rfl
theorem laidOut : laidOutB Tryz.prog = true := by kernel_rfl

/-! ### THE ROW's STEP: WRITTEN OUT: LEAVE IT -/
set_option maxRecDepth 100000 in
theorem lifted (os : Os) (started : os.Started) (H : Type) (enc : TypeId × Value → H) :
    ReturnsInHanded {} Tryz.checked os 5 .any (Rows.scriptReadsSpec.pre6 enc Tryz.prog Tryz.f5 Rows.scriptReadsRow.domain false) (Rows.scriptReadsSpec.post enc Tryz.prog Tryz.f5 false true false false) := by
  refine returnsInHanded_of_change (C := Tryz.checked) own started (by kernel_rfl) Tryz.func5
    (ChangeSpec.witness6 (enc := enc) (C := Tryz.checked) false ⟨#[], #[.slice none 0 0], []⟩ 12 (by kernel_rfl) (by kernel_rfl) (by kernel_rfl) (by kernel_rfl)) ?_
  intro W base args ds gs before hval0 hW hcnd _
  have hval : ∀ (j : Nat) t v, Tryz.f5.params[j]? = some t → args[j]? = some v → Value.okWide Tryz.prog W .any base t v := hval0
  have hW' := hW
  obtain ⟨p, q, hA0, hV, rfl, hfz, hnd⟩ := hW
  have hA : DataW.TrodAll enc Tryz.prog W 0 (fun _ => true) true Tryz.f5.params.toList args.toList ds p := hA0
  rw [Tryz.params5] at hA hval
  obtain ⟨v0, vs0, d0, ds0, p0, q0, hargs, rfl, rfl, h0, r0⟩ := trodAll_cons hA
  obtain ⟨rfl, rfl, rfl⟩ := trodAll_nil r0
  obtain rfl : args = #[v0] := by cases args; simp_all
  obtain ⟨rfl, rfl⟩ := trodVars_none hV
  have k0 := h0
  have lt0 : ∀ x ∈ p0, x.block < W.heap.size := by obtain ⟨m, hm⟩ := k0; exact DataW.trod_lt m _ _ _ hm
  clear hA0 hval0
  refine (walkScriptReads W v0 (hval 0 22 v0 rfl rfl) h0).mono fun e W' ⟨he, bel⟩ => ?_
  subst he
  exact ⟨_, rfl, _, _, _, [], _, [], hW', trodAll_mk1 (shut_bool Tryz.underlying4 _), (trodAll_cons_mk (Below.trod laidOut (by kernel_rfl) (of_decide_eq_true (by kernel_rfl)) k0 bel lt0) trodAll_mk0), rfl, bel.frame _, fun h => by cases h⟩
end Go.Proofs.YtmolaemlenllmaaGreat.scriptReads

