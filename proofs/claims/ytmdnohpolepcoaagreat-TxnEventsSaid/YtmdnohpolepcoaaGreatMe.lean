/- Proved here: what the law of this claim leans on (an evaluator of the model's code, contracts of functions). No condition. -/
import Derived.Test.YtmdnohpolepcoaaGreatMd
import Derived.Test.YtmdnohpolepcoaaGreatMc
import Derived.TacticsIn
import Derived.Shelf.SlSortCmp.WholeK
import Derived.Test.YtmdnohpolepcoaaGreatProg
namespace Go.Proofs.YtmdnohpolepcoaaGreat
open Go.RowKit
set_option linter.unusedSimpArgs false
set_option linter.unusedVariables false
set_option maxRecDepth 10000

def Chg.enc (c : Chg) : List AV := [.i .i64 c.pol.sub, .i .u8 c.pol.a, .i .u8 c.pol.b, .i .u8 c.pol.c, .i .u8 c.pol.d, .i .i64 c.pol.bits, .i .u64 c.pol.rate, .i .u64 c.pol.burst, .i .u64 c.pol.srate, .i .u64 c.pol.sburst, .i .u64 c.pol.quota, .i .u64 c.pol.lease, .i .u64 c.pol.quantum, .b c.put]
def chgE : Enc Chg where
  enc := Chg.enc
  dec r := match r with
    | [.i .i64 sub, .i .u8 a, .i .u8 b, .i .u8 c, .i .u8 d, .i .i64 bits, .i .u64 rate, .i .u64 burst, .i .u64 srate, .i .u64 sburst, .i .u64 quota, .i .u64 lease, .i .u64 quantum, .b p] => some ⟨p, ⟨sub, a, b, c, d, bits, rate, burst, srate, sburst, quota, lease, quantum⟩⟩
    | _ => none
  sz := 14
  pos := by decide
  len _ := rfl
  de _ := rfl
  ed r a h := by
    split at h
    · injection h with h; subst h; rfl
    · cases h
theorem chgE_one (c : Chg) : (chgE.enc c).all AV.one = true := rfl
theorem chg_dec (c : Chg) : chgE.dec c.enc = some c := rfl

/-! ### A Txn in memory -/
def TL (M : Mem) (x : AV) (j : Nat) (l : List Chg) : Prop := (l = [] ∧ x = .sn) ∨ (l ≠ [] ∧ ∃ v, x = .sl j 0 v l.length l.length false ∧ M[j]? = some (.cells (l.flatMap chgE.enc) v (some 14) true))
/-- At block it a Txn that holds changes (in block j), both not below b. -/
def TAt (b : Nat) (M : Mem) (it j : Nat) (l : List Chg) : Prop := b ≤ it ∧ (l ≠ [] → b ≤ j) ∧ ∃ x, M[it]? = some (.cells [x] 0 none true) ∧ TL M x j l
theorem TL.lst {M : Mem} {x : AV} {j : Nat} {l : List Chg} (h : TL M x j l) : lstV chgE M x = some l := by
  rcases h with ⟨rfl, rfl⟩ | ⟨h0, v, rfl, hB⟩
  · rfl
  · refine lst_lstV (.inr (.inr ⟨_, _, _, _, _, _, rfl, rfl, ?_⟩))
    rw [rowAt_B, hB, rowB_some, if_pos (by rw [enc_length]; show 0 + _ * 14 ≤ _ * 14; omega), List.drop_zero, ← enc_length, List.take_length]
theorem TL.extM {M M' : Mem} {x : AV} {j : Nat} {l : List Chg} (h : TL M x j l) (hM : ∀ B, l ≠ [] → M[j]? = some B → M'[j]? = some B) : TL M' x j l := by
  rcases h with h | ⟨h0, v, hx, hB⟩
  · exact .inl h
  · exact .inr ⟨h0, v, hx, hM _ h0 hB⟩
theorem TAt.keep {b it j : Nat} {M M' : Mem} {l : List Chg} (h : TAt b M it j l) (h1 : ∀ B, M[it]? = some B → M'[it]? = some B) (h2 : ∀ B, l ≠ [] → M[j]? = some B → M'[j]? = some B) : TAt b M' it j l := by
  obtain ⟨hb, hj, x, hx, hl⟩ := h
  exact ⟨hb, hj, x, h1 _ hx, hl.extM h2⟩
theorem TAt.ext {b it j : Nat} {M M' : Mem} {l : List Chg} (h : TAt b M it j l) (hM : M <+: M') : TAt b M' it j l := h.keep (fun B hB => at_pre hM hB) fun B _ hB => at_pre hM hB
/-- A change more. -/
theorem TL.app {M : Mem} {x : AV} {j it : Nat} {l : List Chg} (h : TL M x j l) (hl : l.length < 1000) (c : Chg) (hit : ∃ y, M[it]? = some (.cells [y] 0 none true)) :
    ∃ x' M' j', appV M 14 88 x c.enc 1 = some (x', M') ∧ TL M' x' j' (l ++ [c]) ∧ (l ≠ [] → j' = j) ∧ (l = [] → M.length ≤ j') ∧ M.length ≤ M'.length ∧ j' ≠ it ∧ (∀ (ib : Nat) (B : Blk), M[ib]? = some B → (l = [] ∨ ib ≠ j) → M'[ib]? = some B) ∧ M'[it]? = M[it]? := by
  obtain ⟨y, hit⟩ := hit
  rcases h with ⟨rfl, rfl⟩ | ⟨h0, v, rfl, hB⟩
  · refine ⟨_, _, M.length, app_sn (by omega) (by omega) (by omega), .inr ⟨by simp, 0, rfl, ?_⟩, fun q => absurd rfl q, fun _ => Nat.le_refl _, by simp, ?_, fun ib B hB _ => at_old hB, at_old hit ▸ hit.symm⟩
    · rw [at_app0]; simp [chgE]
    · have := (List.getElem?_eq_some_iff.1 hit).1
      omega
  · have hjl := (List.getElem?_eq_some_iff.1 hB).1
    have hne : j ≠ it := fun e => by
      rw [← e, hB] at hit
      injection hit with hit
      injection hit with _ _ q _
      cases q
    refine ⟨.sl j 0 (v + 1) (l.length + 1) (l.length + 1) false, M.set j (.cells (l.flatMap chgE.enc ++ c.enc) (v + 1) (some 14) true), j, ?_, .inr ⟨by simp, v + 1, by simp, ?_⟩, fun _ => rfl, fun q => absurd q h0, by simp, hne, fun ib B hb q => ?_, ?_⟩
    · simp only [appV]
      rw [if_neg (by omega), if_neg (by omega), if_pos ⟨by unfold lim; omega, by unfold lim; omega⟩]
      simp only [hB, Bool.false_eq_true, if_false]
      rw [if_pos ⟨trivial, trivial, trivial, by rw [enc_length]; exact Nat.le_refl _, chgE_one c⟩]
      have : (l.flatMap chgE.enc).take (l.length * 14) = l.flatMap chgE.enc := by
        rw [List.take_of_length_le]; rw [enc_length]; exact Nat.le_refl _
      rw [this]
    · rw [List.flatMap_append]; simp [hjl, chgE]
    · rw [List.getElem?_set_ne (Ne.symm (q.resolve_left h0))]; exact hb
    · rw [List.getElem?_set_ne hne]

/-! ### New, Len -/
def tnewS : Spec := fun args S => match args with
  | [] => some (.p S.length 0 0, S ++ [.cells [.sn] 0 none true])
  | _ => none
theorem tnew_ok : SpecOK Tryz.prog 6 tnewS := by
  intro args S x S' h
  unfold tnewS at h
  split at h
  · cases h
    refine fn_of_wp f6 rfl (W_sound none_ok mixed _ _ _ _ _ ?_)
    simp (maxSteps := 1000000) (disch := omega) only [c6, go_sem]
    exact wkv_same
  · cases h
def tlenS : Spec := fun args S => match args with
  | [.p it 0 0] => match S[it]? with
    | some (.cells [x] 0 none true) => match lstV chgE S x with
      | some l => some (.i .i64 l.length, S)
      | none => none
    | _ => none
  | _ => none
theorem tlen_ok : SpecOK Tryz.prog 12 tlenS := by
  intro args S x S' h
  unfold tlenS at h
  split at h
  · rename_i it
    split at h
    · rename_i y hB
      split at h
      · rename_i l hl
        cases h
        refine fn_of_wp f12 rfl (W_sound none_ok mixed _ _ _ _ _ ?_)
        have hc : cellB (S[it]?) 0 0 = some y := by rw [hB]; rfl
        simp (maxSteps := 1000000) (disch := omega) only [c12, hc, lst_len hl, go_sem]
        exact wkv_same
      · cases h
    · cases h
  · cases h
/-! ### add -/
theorem wp_ls {P : Program} {O : Orc} {S0 : Mem} {rd : Bool} {e : Env} {S : Mem} {d : List Nat} {Q : Kont} (hO : OK P (lamOf P) O) (hmix : P.follows .mixedOrders = true) {l : List Nat} {a b : ICode} (h : W P O S0 rd a (keepE e l) S d (seqK (WP P S0 rd b) Q)) : WP P S0 rd (.live l (.seq a b)) e S d Q :=
  wp_live (wp_seq (W_sound hO hmix _ _ _ _ _ h))
/-- A drawn region whose operations turn blocks that are there. -/
theorem wp_drawK {P : Program} {O : Orc} {S0 : Mem} {rd : Bool} {e : Env} {S : Mem} {d : List Nat} {Q : Kont} (hO : OK P (lamOf P) O) (hmix : P.follows .mixedOrders = true) {st : List Stage} {late : List Nat} (h : drawK (evDraw O st late e S) (normK Q d)) : WP P S0 rd (.draw st late) e S d Q := by
  unfold drawK at h
  split at h
  · rename_i p hp; exact wp_draw hO hmix hp h
  · exact h.elim
theorem appV_sl {S M : Mem} {sz by' : Nat} {x x' : AV} {cs : List AV} (h : appV S sz by' x cs 1 = some (x', M)) : ∃ i o v l c ex, x' = .sl i o v l c ex := by
  unfold appV at h
  split at h
  · rw [if_neg (by decide)] at h
    split at h
    · cases h; exact ⟨_, _, _, _, _, _, rfl⟩
    · cases h
  · rw [if_neg (by decide)] at h; cases h
  · rw [if_neg (by decide)] at h
    split at h
    · split at h
      · split at h
        · cases h; exact ⟨_, _, _, _, _, _, rfl⟩
        · cases h
      · cases h
    · split at h
      · split at h
        · split at h
          · cases h; exact ⟨_, _, _, _, _, _, rfl⟩
          · cases h
        · split at h
          · split at h
            · cases h; exact ⟨_, _, _, _, _, _, rfl⟩
            · cases h
          · cases h
      · cases h
  · cases h
def taddS : Spec := fun args S => match args with
  | [.p it 0 0, .ag cs] => match S[it]?, chgE.dec cs with
    | some (.cells [x] 0 none true), some c => match lstV chgE S x with
      | some l => if 64 ≤ l.length then some (.i .i64 161, S) else match appV (S ++ [.cells cs 0 none true, .cells cs 0 none true]) 14 88 x cs 1 with
        | some (x', M') => match M'[it]? with
          | some (.cells [_] 0 none true) => some (.i .i64 0, M'.set it (.cells [x'] 0 none true))
          | _ => none
        | none => none
      | none => none
    | _, _ => none
  | _ => none
theorem tadd_ok : SpecOK Tryz.prog 16 taddS := by
  intro args S x S' h
  unfold taddS at h
  split at h
  · rename_i it cs
    split at h
    · rename_i y c hB hd
      have hcs := chgE.ed _ _ hd
      subst hcs
      split at h
      · rename_i l hl
        have hc : cellB (S[it]?) 0 0 = some y := by rw [hB]; rfl
        have hcL : ∀ L, cellB ((S ++ L)[it]?) 0 0 = some y := fun L => by rw [at_old hB]; rfl
        have hlt : it < S.length := (List.getElem?_eq_some_iff.1 hB).1
        refine fn_of_wp f16 rfl (wp_seq (W_sound none_ok mixed _ _ _ _ _ ?_))
        simp (maxSteps := 1000000) (disch := omega) only [chgE, Chg.enc, go_sem]
        split at h
        · rename_i h64
          cases h
          refine wp_ls none_ok mixed ?_
          have h64 : (64 : Int) ≤ (l.length : Int) := by omega
          simp (maxSteps := 1000000) (disch := omega) only [c16, hcL, lst_len hl, h64, go_sem]
          exact wkv_drop rfl
        · rename_i h64
          split at h
          · rename_i x' M' ha
            split at h
            · rename_i y' hB'
              cases h
              have h64 : ¬ (64 : Int) ≤ (l.length : Int) := by omega
              refine wp_ls none_ok mixed ?_
              simp (maxSteps := 1000000) (disch := omega) only [c16, hcL, lst_len hl, h64, go_sem]
              refine wp_live (wp_seq (wp_drawK none_ok mixed ?_))
              simp only [chgE, Chg.enc] at ha
              have hv := eqv_lst hl
              obtain ⟨i1, o1, v1, l1, c1, ex1, rfl⟩ := appV_sl ha
              refine draw_of ?_
              simp (maxSteps := 1000000) (disch := omega) only [c16d0, hcL, ha, hB', hv, AV.cells, dNs_nil, dNs_cons, dnK_some, dnK_none, dOpt_none, dOpt_some, doK_some, doK_none, dStages_nil, dStages_cons, s1K_app, s2K_app, s3K_app, s4K_app, dEnd_app, evOne_op, evOne_gd, evG_tt, evG_tf, evG_ft, evG_ff, evG_ud, kSt_nil, kSt_cons, kNs_nil, kNs_cons, kN_zero, kN_succ, kA_some, eqK_some, eqK_none, kOpt_none, kOpt_some, kLike_nil, kLike_cons, ROp.use, IOp.use, IO'.use, X.use, dstL_none, dstL_some, List.flatMap_cons, List.flatMap_nil, eqv_m, eqv_p, eqv_i, eqv_b, eqv_sl, eqv_sn, eqv_pn, eqv_ud, eqv_u, eqv_mn, eqv_ag, eqvL_cons, eqvL_nil, eqv_tu, Bool.and_true, Bool.true_and, Bool.and_self, Nat.le_refl, Nat.reduceLeDiff, and_self, and_true, true_and, go_sem]
              refine W_sound none_ok mixed _ _ _ _ _ ?_
              simp (maxSteps := 1000000) (disch := omega) only [go_sem]
              exact wkv_same
            · cases h
          · cases h
      · cases h
    · cases h
  · cases h
theorem add_full {b it j : Nat} {M : Mem} {l : List Chg} (h : TAt b M it j l) (hl : 64 ≤ l.length) (c : Chg) : taddS [.p it 0 0, .ag c.enc] M = some (.i .i64 161, M) := by
  obtain ⟨hb, hj, x, hx, hL⟩ := h
  simp only [taddS, hx, chg_dec, hL.lst]
  rw [if_pos hl]
theorem add_call {b it j : Nat} {M : Mem} {l : List Chg} (h : TAt b M it j l) (hbM : b ≤ M.length) (hl : l.length < 64) (c : Chg) :
    ∃ M' j', taddS [.p it 0 0, .ag c.enc] M = some (.i .i64 0, M') ∧ TAt b M' it j' (l ++ [c]) ∧ (l ≠ [] → j' = j) ∧ (l = [] → M.length ≤ j') ∧ M.length ≤ M'.length ∧
      ∀ (ib : Nat) (B : Blk), M[ib]? = some B → ib ≠ it → (l = [] ∨ ib ≠ j) → M'[ib]? = some B := by
  obtain ⟨hb, hj, x, hx, hL⟩ := h
  have hxl := (List.getElem?_eq_some_iff.1 hx).1
  obtain ⟨U, hU⟩ : ∃ U, U = M ++ [.cells c.enc 0 none true, .cells c.enc 0 none true] := ⟨_, rfl⟩
  have hxU : U[it]? = some (.cells [x] 0 none true) := by rw [hU]; exact at_old hx
  have hLU : TL U x j l := hL.extM fun B _ hB => by rw [hU]; exact at_old hB
  obtain ⟨x', M', j', ha, h1, h2, h3, h4, h5, h6, h7⟩ := hLU.app (by omega) c ⟨x, hxU⟩
  have hUl : U.length = M.length + 2 := by rw [hU]; simp
  refine ⟨M'.set it (.cells [x'] 0 none true), j', ?_, ⟨hb, fun _ => ?_, x', ?_, ?_⟩, h2, fun q => by have := h3 q; omega, by rw [List.length_set]; omega, fun ib B hB hne hq => ?_⟩
  · simp only [taddS, hx, chg_dec, hL.lst]
    rw [if_neg (by omega), ← hU]
    simp only [ha, h7, hxU]
  · by_cases q : l = []
    · have := h3 q; omega
    · rw [h2 q]; exact hj q
  · rw [List.getElem?_set_self (by omega)]
  · refine h1.extM fun B _ hB => ?_
    rw [List.getElem?_set_ne (Ne.symm h5)]; exact hB
  · rw [List.getElem?_set_ne (Ne.symm hne)]
    exact h6 ib B (by rw [hU]; exact at_old hB) hq

/-! ### Put, Drop -/
theorem oAdd_ok : OK Tryz.prog (lamOf Tryz.prog) (orcOf [(16, taddS)]) := orc_ok (by simpa using tadd_ok)
def tputS : Spec := fun args S => match args with
  | [.p it 0 0, .ag cs] => match polE.dec cs with
    | some p => taddS [.p it 0 0, .ag (Chg.enc ⟨true, p⟩)] (S ++ [.cells cs 0 none true])
    | none => none
  | _ => none
theorem tput_ok : SpecOK Tryz.prog 8 tputS := by
  intro args S x S' h
  unfold tputS at h
  split at h
  · rename_i it cs
    split at h
    · rename_i p hd
      have hcs := polE.ed _ _ hd
      subst hcs
      simp only [polE, Pol.enc, Chg.enc] at h
      refine fn_of_wp f8 rfl (W_sound oAdd_ok mixed _ _ _ _ _ ?_)
      simp (maxSteps := 1000000) (disch := omega) only [c8, orc_cons, polE, Pol.enc, h, go_sem]
      exact wkv_same
    · cases h
  · cases h
def subPol (n : Int) : Pol := ⟨n, 0, 0, 0, 0, 0, 0, 0, 0, 0, 0, 0, 0⟩
def tdropS : Spec := fun args S => match args with
  | [.p it 0 0, .i .i64 n] => taddS [.p it 0 0, .ag (Chg.enc ⟨false, subPol n⟩)] S
  | _ => none
theorem tdrop_ok : SpecOK Tryz.prog 9 tdropS := by
  intro args S x S' h
  unfold tdropS at h
  split at h
  · rename_i it n
    simp only [subPol, Chg.enc] at h
    refine fn_of_wp f9 rfl (W_sound oAdd_ok mixed _ _ _ _ _ ?_)
    simp (maxSteps := 1000000) (disch := omega) only [c9, orc_cons, h, go_sem]
    exact wkv_same
  · cases h
theorem tput_full {b it j : Nat} {M : Mem} {l : List Chg} (h : TAt b M it j l) (hl : 64 ≤ l.length) (p : Pol) : tputS [.p it 0 0, .ag p.enc] M = some (.i .i64 161, M ++ [.cells p.enc 0 none true]) := by
  have hd : polE.dec p.enc = some p := rfl
  simp only [tputS, hd]
  exact add_full (h.ext (ext_app _)) hl _
theorem tput_call {b it j : Nat} {M : Mem} {l : List Chg} (h : TAt b M it j l) (hbM : b ≤ M.length) (hl : l.length < 64) (p : Pol) :
    ∃ M' j', tputS [.p it 0 0, .ag p.enc] M = some (.i .i64 0, M') ∧ TAt b M' it j' (l ++ [⟨true, p⟩]) ∧ (l ≠ [] → j' = j) ∧ (l = [] → M.length ≤ j') ∧ M.length ≤ M'.length ∧
      ∀ (ib : Nat) (B : Blk), M[ib]? = some B → ib ≠ it → (l = [] ∨ ib ≠ j) → M'[ib]? = some B := by
  have hd : polE.dec p.enc = some p := rfl
  obtain ⟨M', j', h1, h2, h3, h4, h5, h6⟩ := add_call (h.ext (ext_app [.cells p.enc 0 none true])) (by simp; omega) hl ⟨true, p⟩
  simp only [List.length_append, List.length_singleton] at h4 h5
  refine ⟨M', j', ?_, h2, h3, fun q => by have := h4 q; omega, by omega, fun ib B hB => h6 ib B (at_old hB)⟩
  simp only [tputS, hd]
  exact h1
theorem tdrop_full {b it j : Nat} {M : Mem} {l : List Chg} (h : TAt b M it j l) (hl : 64 ≤ l.length) (n : Int) : tdropS [.p it 0 0, .i .i64 n] M = some (.i .i64 161, M) := add_full h hl _
theorem tdrop_call {b it j : Nat} {M : Mem} {l : List Chg} (h : TAt b M it j l) (hbM : b ≤ M.length) (hl : l.length < 64) (n : Int) :
    ∃ M' j', tdropS [.p it 0 0, .i .i64 n] M = some (.i .i64 0, M') ∧ TAt b M' it j' (l ++ [⟨false, subPol n⟩]) ∧ (l ≠ [] → j' = j) ∧ (l = [] → M.length ≤ j') ∧ M.length ≤ M'.length ∧
      ∀ (ib : Nat) (B : Blk), M[ib]? = some B → ib ≠ it → (l = [] ∨ ib ≠ j) → M'[ib]? = some B := add_call h hbM hl _
theorem tlen_eq {b it j : Nat} {M : Mem} {l : List Chg} (h : TAt b M it j l) : tlenS [.p it 0 0] M = some (.i .i64 l.length, M) := by
  obtain ⟨hb, hj, x, hx, hL⟩ := h
  simp only [tlenS, hx, hL.lst]
end Go.Proofs.YtmdnohpolepcoaaGreat

namespace Go.Proofs.YtmdnohpolepcoaaGreat
open Go.RowKit
set_option linter.unusedSimpArgs false
set_option linter.unusedVariables false
set_option maxRecDepth 10000

def entsC (b : Nat) : List Chg → List (AV × AV × Nat)
  | [] => []
  | c :: r => (.i .i64 c.sub, .ag c.enc, b) :: entsC (b + 1) r
theorem entsC_length : ∀ (b : Nat) (l : List Chg), (entsC b l).length = l.length
  | _, [] => rfl
  | b, c :: r => by simp [entsC, entsC_length (b + 1) r]
theorem entsC_append : ∀ (b : Nat) (l : List Chg) (c : Chg), entsC b (l ++ [c]) = entsC b l ++ [(.i .i64 c.sub, .ag c.enc, b + l.length)]
  | b, [], c => by simp [entsC]
  | b, d :: r, c => by
    simp only [List.cons_append, entsC, entsC_append (b + 1) r c, List.length_cons]
    rw [show b + 1 + r.length = b + (r.length + 1) by omega]
theorem entsC_at : ∀ (b : Nat) (l : List Chg) (j : Nat) (hj : j < l.length), (entsC b l)[j]? = some (.i .i64 l[j].sub, .ag l[j].enc, b + j)
  | b, c :: r, 0, _ => rfl
  | b, c :: r, j + 1, h => by
    simp only [entsC, List.getElem?_cons_succ, entsC_at (b + 1) r j (by simpa using h), List.getElem_cons_succ]
    rw [show b + 1 + j = b + (j + 1) by omega]
theorem entsC_set : ∀ (b : Nat) (l : List Chg) (j : Nat) (c : Chg), (entsC b l).set j (.i .i64 c.sub, .ag c.enc, b + j) = entsC b (l.set j c)
  | b, [], j, c => rfl
  | b, d :: r, 0, c => rfl
  | b, d :: r, j + 1, c => by
    have := entsC_set (b + 1) r j c
    rw [show b + 1 + j = b + (j + 1) by omega] at this
    simp only [entsC, List.set_cons_succ, this]
theorem findC : ∀ (b i : Nat) (l : List Chg) (n : Int), findK false [.int] [.i .i64 n] (entsC b l) i = some ((l.findIdx? (sameSub n)).map (i + ·))
  | b, i, [], n => rfl
  | b, i, d :: r, n => by
    rw [List.findIdx?_cons]
    simp only [entsC, findK, key_i, eq_key]
    by_cases e : n = d.sub
    · have hs : sameSub n d = true := decide_eq_true e.symm
      rw [decide_eq_true e, hs]; rfl
    · have hs : sameSub n d = false := decide_eq_false (Ne.symm e)
      rw [decide_eq_false e, hs, findC (b + 1) (i + 1) r n]
      simp only [Bool.false_eq_true, if_false, Option.map_map]
      congr 2
      funext k
      simp only [Function.comp]; omega
/-- A map with one more, or with another in its place. -/
def updC (l : List Chg) (c : Chg) : List Chg := match l.findIdx? (sameSub c.sub) with
  | some j => l.set j c
  | none => l ++ [c]
theorem mupd_eq {S : Mem} {im : Nat} {l : List Chg} (hB : S[im]? = some (.map (entsC 0 l) l.length)) (c : Chg) :
    mupdV S false [.int] (.m im) (.i .i64 c.sub) (.ag c.enc) = some (S.set im (.map (entsC 0 (updC l c)) (updC l c).length)) := by
  simp only [mupdV, key_i, hB, findC]
  unfold updC
  cases h : l.findIdx? (sameSub c.sub) with
  | none =>
    simp only [Option.map_none, entsC_append, List.length_append, List.length_singleton, Nat.zero_add]
  | some j =>
    obtain ⟨hj, hs, _⟩ := List.findIdx?_eq_some_iff_getElem.1 h
    have he := entsC_at 0 l j hj
    simp only [Option.map_some, Nat.zero_add, he, List.length_set]
    rw [show j = 0 + j by omega, ← entsC_set]
    simp only [Nat.zero_add]
theorem mlookC_eq {S : Mem} {im cl : Nat} {l : List Chg} {z : AV} (hB : S[im]? = some (.map (entsC 0 l) cl)) (ho : OnceK Chg.sub l) {c : Chg} (hc : c ∈ l) :
    mlookV S false [.int] z false (.m im) (.i .i64 c.sub) = some (.ag c.enc) := by
  simp only [mlookV, key_i, mapOf, hB, findC]
  cases h : l.findIdx? (sameSub c.sub) with
  | none =>
    rw [List.findIdx?_eq_none_iff] at h
    have := h c hc
    simp [sameSub] at this
  | some j =>
    obtain ⟨hj, hs, _⟩ := List.findIdx?_eq_some_iff_getElem.1 h
    have he := entsC_at 0 l j hj
    have : l[j] = c := onceK_uniq ho (List.getElem_mem hj) hc (of_decide_eq_true hs)
    simp only [Option.map_some, Nat.zero_add, valAt, he, this]
    rfl
theorem updC_once {l : List Chg} (h : OnceK Chg.sub l) (c : Chg) : OnceK Chg.sub (updC l c) := by
  unfold updC
  cases hf : l.findIdx? (sameSub c.sub) with
  | none =>
    rw [List.findIdx?_eq_none_iff] at hf
    refine List.pairwise_append.2 ⟨h, List.pairwise_singleton .., fun d hd x hx => ?_⟩
    rw [List.mem_singleton] at hx; subst hx
    have := hf d hd
    simpa [sameSub] using this
  | some j =>
    obtain ⟨hj, hs, _⟩ := List.findIdx?_eq_some_iff_getElem.1 hf
    have hs : l[j].sub = c.sub := of_decide_eq_true hs
    have e : (l.set j c).map Chg.sub = l.map Chg.sub := by
      rw [List.map_set, ← hs]
      have : l[j].sub = (l.map Chg.sub)[j]'(by simpa using hj) := by simp
      rw [this, List.set_getElem_self]
    have h1 : (l.map Chg.sub).Pairwise (· ≠ ·) := List.pairwise_map.2 h
    rw [← e] at h1
    exact List.pairwise_map.1 h1
theorem updC_mem {l : List Chg} (h : OnceK Chg.sub l) {c x : Chg} : x ∈ updC l c ↔ x = c ∨ (x ∈ l ∧ x.sub ≠ c.sub) := by
  unfold updC
  cases hf : l.findIdx? (sameSub c.sub) with
  | none =>
    rw [List.findIdx?_eq_none_iff] at hf
    rw [List.mem_append, List.mem_singleton]
    constructor
    · rintro (hx | rfl)
      · exact .inr ⟨hx, by have := hf x hx; simpa [sameSub] using this⟩
      · exact .inl rfl
    · rintro (rfl | ⟨hx, _⟩)
      · exact .inr rfl
      · exact .inl hx
  | some j =>
    obtain ⟨hj, hs, _⟩ := List.findIdx?_eq_some_iff_getElem.1 hf
    have hs : l[j].sub = c.sub := of_decide_eq_true hs
    obtain ⟨a, d, b, rfl, rfl⟩ : ∃ a d b, l = a ++ d :: b ∧ j = a.length := ⟨l.take j, l[j], l.drop (j + 1), by rw [List.getElem_cons_drop, List.take_append_drop], by rw [List.length_take]; omega⟩
    have hd : d.sub = c.sub := by
      have : (a ++ d :: b)[a.length]'hj = d := by simp
      rw [this] at hs; exact hs
    obtain ⟨h1, h2, h3⟩ := List.pairwise_append.1 h
    have hset : (a ++ d :: b).set a.length c = a ++ c :: b := by simp
    simp only [hset]
    have ha : ∀ y ∈ a, y.sub ≠ c.sub := fun y hy => by rw [← hd]; exact h3 y hy d (List.mem_cons_self ..)
    have hb : ∀ y ∈ b, y.sub ≠ c.sub := fun y hy => by rw [← hd]; exact ((List.pairwise_cons.1 h2).1 y hy).symm
    simp only [List.mem_append, List.mem_cons]
    constructor
    · rintro (hx | rfl | hx)
      · exact .inr ⟨.inl hx, ha x hx⟩
      · exact .inl rfl
      · exact .inr ⟨.inr (.inr hx), hb x hx⟩
    · rintro (rfl | ⟨hx | rfl | hx, hne⟩)
      · exact .inr (.inl rfl)
      · exact .inl hx
      · exact absurd hd hne
      · exact .inr (.inr hx)
theorem keysOf_ents : ∀ (b : Nat) (l : List Chg), keysOf (entsC b l) = some (l.map Chg.sub)
  | _, [] => rfl
  | b, c :: r => by simp only [entsC, keysOf, keysOf_ents (b + 1) r, List.map_cons]
theorem born_ents : ∀ (b : Nat) (l : List Chg), (entsC b l).map (fun e => e.2.2) = List.range' b l.length
  | _, [] => rfl
  | b, c :: r => by simp only [entsC, List.map_cons, born_ents (b + 1) r, List.length_cons, List.range'_succ]
theorem born_nodup (l : List Chg) : ((entsC 0 l).map fun e => e.2.2).Nodup := by rw [born_ents]; exact List.nodup_range'
theorem born_lt (l : List Chg) : ∀ e ∈ entsC 0 l, e.2.2 < l.length := by
  intro e he
  have : e.2.2 ∈ (entsC 0 l).map fun e => e.2.2 := List.mem_map.2 ⟨e, he, rfl⟩
  rw [born_ents, List.mem_range'_1] at this
  omega
theorem once_nodup {l : List Chg} (h : OnceK Chg.sub l) : (l.map Chg.sub).Nodup := List.pairwise_map.2 h
theorem isort_seq {l cs : List Chg} (ho : OnceK Chg.sub cs) (hm : ∀ c, c ∈ cs ↔ c ∈ lasts l) : isort (cs.map Chg.sub) = (seqOf l).map Chg.sub := by
  have hr : ((seqOf l).map Chg.sub).Pairwise (· ≤ ·) := List.pairwise_map.2 ((seqOf_rises l).imp fun h => Int.le_of_lt h)
  have nd : ∀ {m : List Chg}, OnceK Chg.sub m → m.Nodup := fun h => h.imp fun hab e => hab (by rw [e])
  have hp : cs.Perm (seqOf l) := (List.perm_ext_iff_of_nodup (nd ho) (nd (seqOf_rises l).once)).2 fun c => by rw [hm c, seqOf_mem]
  exact rises_eq ((isort_perm _).trans (hp.map _)) (isort_rises _) hr

/-! ### maps.Keys -/
def keysS : Spec := fun args S => match args with
  | [.m i] => some (.f (.func 29) [] [.p S.length 0 0], S ++ [.cells [.m i] 0 none true])
  | _ => none
theorem keys_ok : SpecOK Tryz.prog 18 keysS := by
  intro args S x S' h
  unfold keysS at h
  split at h
  · cases h
    refine fn_of_wp f18 rfl (W_sound none_ok mixed _ _ _ _ _ ?_)
    simp (maxSteps := 1000000) (disch := omega) only [c18, go_sem]
    exact wkv_same
  · cases h
end Go.Proofs.YtmdnohpolepcoaaGreat

namespace Go.Proofs.YtmdnohpolepcoaaGreat
open Go.RowKit
set_option linter.unusedSimpArgs false
set_option linter.unusedVariables false
set_option maxRecDepth 10000

/-- No subscriber twice. -/
def Once (l : List Ent) : Prop := l.Pairwise fun a b => a.pol.sub ≠ b.pol.sub
def Rises (l : List Ent) : Prop := l.Pairwise fun a b => a.pol.sub < b.pol.sub
abbrev ofSub (l : List Ent) (id : Int) : Option Ent := l.find? (hasSub id)
theorem ofSub_some {l : List Ent} {id : Int} {x : Ent} (h : ofSub l id = some x) : x ∈ l ∧ x.pol.sub = id :=
  ⟨List.mem_of_find?_eq_some h, by have := List.find?_some h; simpa [hasSub] using this⟩
theorem ofSub_mem {l : List Ent} (ho : Once l) {x : Ent} (hx : x ∈ l) : ofSub l x.pol.sub = some x := by
  induction l with
  | nil => cases hx
  | cons a l ih =>
    obtain ⟨h1, h2⟩ := List.pairwise_cons.1 ho
    rcases List.mem_cons.1 hx with rfl | hx
    · simp [ofSub, hasSub]
    · have := h1 x hx
      simp only [ofSub, List.find?_cons]
      have hf : hasSub x.pol.sub a = false := by simpa [hasSub] using this
      rw [hf]
      exact ih h2 hx
theorem ofSub_iff {l : List Ent} (ho : Once l) {id : Int} {x : Ent} : ofSub l id = some x ↔ x ∈ l ∧ x.pol.sub = id :=
  ⟨ofSub_some, fun ⟨h1, h2⟩ => h2 ▸ ofSub_mem ho h1⟩
theorem Rises.once {l : List Ent} (h : Rises l) : Once l := h.imp fun h => Int.ne_of_lt h
theorem rises_ext : ∀ {l m : List Ent}, Rises l → Rises m → (∀ x, x ∈ l ↔ x ∈ m) → l = m
  | [], [], _, _, _ => rfl
  | [], b :: m, _, _, h => absurd ((h b).2 (by simp)) (by simp)
  | a :: l, [], _, _, h => absurd ((h a).1 (by simp)) (by simp)
  | a :: l, b :: m, h1, h2, h => by
    obtain ⟨a1, a2⟩ := List.pairwise_cons.1 h1
    obtain ⟨b1, b2⟩ := List.pairwise_cons.1 h2
    have hab : a = b := by
      rcases List.mem_cons.1 ((h a).1 (by simp)) with e | ha
      · exact e
      · rcases List.mem_cons.1 ((h b).2 (by simp)) with e | hb
        · exact e.symm
        · have := b1 a ha; have := a1 b hb; omega
    subst hab
    rw [rises_ext a2 b2 fun x => ?_]
    constructor
    · intro hx
      rcases List.mem_cons.1 ((h x).1 (by simp [hx])) with e | hm
      · have := a1 x hx; rw [e] at this; omega
      · exact hm
    · intro hx
      rcases List.mem_cons.1 ((h x).2 (by simp [hx])) with e | hm
      · have := b1 x hx; rw [e] at this; omega
      · exact hm
/-- All that subscribers have, in their order. -/
theorem mem_range_look {f : Int → Option Ent} (hf : ∀ id x, f id = some x → x.pol.sub = id) {k : Nat} {x : Ent} : x ∈ (List.range k).filterMap (fun i : Nat => f ((i : Int) + 1)) ↔ f x.pol.sub = some x ∧ 1 ≤ x.pol.sub ∧ x.pol.sub ≤ k := by
  constructor
  · intro h
    obtain ⟨i, hi, he⟩ := List.mem_filterMap.1 h
    have hs := hf _ _ he
    have := List.mem_range.1 hi
    exact ⟨by rw [hs]; exact he, by omega, by omega⟩
  · rintro ⟨h1, h2, h3⟩
    refine List.mem_filterMap.2 ⟨(x.pol.sub - 1).toNat, List.mem_range.2 (by omega), ?_⟩
    rw [show (((x.pol.sub - 1).toNat : Nat) : Int) + 1 = x.pol.sub by omega]; exact h1
theorem rises_range {f : Int → Option Ent} (hf : ∀ id x, f id = some x → x.pol.sub = id) : ∀ k : Nat, Rises ((List.range k).filterMap (fun i : Nat => f ((i : Int) + 1)))
  | 0 => by simp [Rises]
  | k + 1 => by
    rw [List.range_succ, List.filterMap_append]
    refine List.pairwise_append.2 ⟨rises_range hf k, ?_, fun a ha b hb => ?_⟩
    · simp only [List.filterMap_cons, List.filterMap_nil]
      cases f ((k : Int) + 1) <;> simp
    · have h1 := (mem_range_look hf).1 ha
      simp only [List.filterMap_cons, List.filterMap_nil] at hb
      cases he : f ((k : Int) + 1) with
      | none => rw [he] at hb; cases hb
      | some c =>
        rw [he] at hb
        have hbc := List.mem_singleton.1 hb
        have := hf _ _ he
        rw [hbc]; omega
theorem refOne_sub {old : List Ent} {e : Evt} (id : Int) (x : Ent) (h : refOne old e id = some x) : x.pol.sub = id := by
  unfold refOne at h
  split at h
  · cases h
  · split at h
    · rename_i y p h1 h2
      cases h
      have := List.find?_some h2
      simpa [subIsP] using this
    · rename_i y h1 h2; cases h; exact (ofSub_some h1).2
    · rename_i p h1 h2
      cases h
      have := List.find?_some h2
      simpa [subIsP] using this
    · cases h
/-- Whatever is sorted, and has what subscribers have, is the document's answer. -/
theorem sorted_ref {old d : List Ent} {e : Evt} (hd : Rises d) (hr : ∀ x ∈ d, 1 ≤ x.pol.sub ∧ x.pol.sub ≤ 255) (hl : ∀ id, 1 ≤ id → id ≤ 255 → ofSub d id = refOne old e id) : d = refEnts old e 255 := by
  refine rises_ext hd (rises_range refOne_sub 255) fun x => ?_
  show x ∈ d ↔ x ∈ (List.range 255).filterMap (fun i : Nat => refOne old e ((i : Int) + 1))
  rw [mem_range_look refOne_sub]
  constructor
  · intro hx
    obtain ⟨h1, h2⟩ := hr x hx
    exact ⟨by rw [← hl _ h1 h2]; exact ofSub_mem hd.once hx, h1, by omega⟩
  · rintro ⟨h1, h2, h3⟩
    rw [← hl _ h2 (by omega)] at h1
    exact (ofSub_some h1).1

/-! ### The program's way: one by one -/
theorem once_none {a : List Ent} {id : Int} (h : ∀ y ∈ a, y.pol.sub ≠ id) : ofSub a id = none := by
  rw [ofSub, List.find?_eq_none]
  intro y hy
  simpa [hasSub] using h y hy
theorem ofSub_app (a b : List Ent) (id : Int) : ofSub (a ++ b) id = (ofSub a id).or (ofSub b id) := by
  simp [ofSub, List.find?_append]
theorem ofSub_cons (x : Ent) (b : List Ent) (id : Int) : ofSub (x :: b) id = if x.pol.sub = id then some x else ofSub b id := by
  simp only [ofSub, List.find?_cons, hasSub]
  by_cases h : x.pol.sub = id <;> simp [h]
theorem once_mid {a b : List Ent} {x : Ent} (h : Once (a ++ x :: b)) : Once (a ++ b) ∧ (∀ y ∈ a, y.pol.sub ≠ x.pol.sub) ∧ (∀ y ∈ b, y.pol.sub ≠ x.pol.sub) := by
  obtain ⟨h1, h2, h3⟩ := List.pairwise_append.1 h
  obtain ⟨h4, h5⟩ := List.pairwise_cons.1 h2
  exact ⟨List.pairwise_append.2 ⟨h1, h5, fun y hy z hz => h3 y hy z (by simp [hz])⟩, fun y hy => h3 y hy x (by simp), fun y hy => (h4 y hy).symm⟩
theorem ofSub_erase {a b : List Ent} {x : Ent} (h : Once (a ++ x :: b)) (id : Int) : ofSub (a ++ b) id = if id = x.pol.sub then none else ofSub (a ++ x :: b) id := by
  obtain ⟨_, h1, h2⟩ := once_mid h
  rw [ofSub_app, ofSub_app, ofSub_cons]
  by_cases e : id = x.pol.sub
  · subst e
    rw [if_pos rfl, once_none h1, once_none h2]; rfl
  · rw [if_neg e, if_neg (Ne.symm e)]
theorem ofSub_set {a b : List Ent} {x y : Ent} (h : Once (a ++ x :: b)) (hy : y.pol.sub = x.pol.sub) (id : Int) : ofSub (a ++ y :: b) id = if id = x.pol.sub then some y else ofSub (a ++ x :: b) id := by
  obtain ⟨_, h1, h2⟩ := once_mid h
  rw [ofSub_app, ofSub_app, ofSub_cons, ofSub_cons, hy]
  by_cases e : id = x.pol.sub
  · subst e
    rw [if_pos rfl, if_pos rfl, once_none h1]; rfl
  · rw [if_neg e, if_neg (Ne.symm e), if_neg (Ne.symm e)]
theorem once_set {a b : List Ent} {x y : Ent} (h : Once (a ++ x :: b)) (hy : y.pol.sub = x.pol.sub) : Once (a ++ y :: b) := by
  obtain ⟨h0, h1, h2⟩ := once_mid h
  obtain ⟨g1, g2, g3⟩ := List.pairwise_append.1 h0
  refine List.pairwise_append.2 ⟨g1, List.pairwise_cons.2 ⟨fun z hz => by rw [hy]; exact (h2 z hz).symm, g2⟩, fun z hz w hw => ?_⟩
  rcases List.mem_cons.1 hw with rfl | hw
  · rw [hy]; exact h1 z hz
  · exact g3 z hz w hw
theorem ofSub_push {a : List Ent} {y : Ent} (h : ofSub a y.pol.sub = none) (id : Int) : ofSub (a ++ [y]) id = if id = y.pol.sub then some y else ofSub a id := by
  rw [ofSub_app, ofSub_cons]
  by_cases e : id = y.pol.sub
  · subst e
    rw [if_pos rfl, if_pos rfl, h]; rfl
  · rw [if_neg e, if_neg (Ne.symm e)]
    cases ofSub a id <;> rfl
theorem once_push {a : List Ent} {y : Ent} (ho : Once a) (h : ofSub a y.pol.sub = none) : Once (a ++ [y]) := by
  refine List.pairwise_append.2 ⟨ho, List.pairwise_singleton _ _, fun z hz w hw => ?_⟩
  rw [List.mem_singleton.1 hw]
  intro e
  have := ofSub_mem ho hz
  rw [e, h] at this
  cases this
/-- Where a subscriber's entry lies. -/
theorem split_sub {l : List Ent} {id : Int} {k : Nat} (h : l.findIdx? (hasSub id) = some k) : ∃ a x b, l = a ++ x :: b ∧ a.length = k ∧ x.pol.sub = id ∧ ofSub l id = some x := by
  obtain ⟨hk, hs, hb⟩ := List.findIdx?_eq_some_iff_getElem.1 h
  refine ⟨l.take k, l[k], l.drop (k + 1), by rw [← List.drop_eq_getElem_cons hk, List.take_append_drop], by rw [List.length_take]; omega, by simpa [hasSub] using hs, ?_⟩
  rw [ofSub, find_of_idx, h]
  exact List.getElem?_eq_getElem hk
theorem no_sub {l : List Ent} {id : Int} (h : l.findIdx? (hasSub id) = none) : ofSub l id = none := by
  rw [ofSub, find_of_idx, h]
def dropAll : List Int → List Ent → Option (List Ent)
  | [], l => some l
  | id :: ds, l => match l.findIdx? (hasSub id) with
    | some k => dropAll ds (l.eraseIdx k)
    | none => none
def putAll : List Pol → List Ent → List Ent
  | [], l => l
  | p :: ps, l => match l.findIdx? (hasSub p.sub) with
    | some k => putAll ps (l.set k ⟨p, (l.getD k noEnt).granted⟩)
    | none => putAll ps (l ++ [⟨p, 0⟩])
theorem erase_mid (a b : List Ent) (x : Ent) : (a ++ x :: b).eraseIdx a.length = a ++ b := by
  rw [List.eraseIdx_append_of_length_le (Nat.le_refl _), Nat.sub_self]; rfl
theorem set_mid (a b : List Ent) (x y : Ent) : (a ++ x :: b).set a.length y = a ++ y :: b := by
  rw [List.set_append_right _ _ (Nat.le_refl _), Nat.sub_self]; rfl
theorem getD_mid (a b : List Ent) (x d : Ent) : (a ++ x :: b).getD a.length d = x := by
  rw [List.getD_eq_getElem?_getD, List.getElem?_append_right (Nat.le_refl _), Nat.sub_self]; rfl
theorem dropAll_ok : ∀ (ds : List Int) (l : List Ent), ds.Nodup → Once l → match dropAll ds l with
    | some l' => Once l' ∧ (∀ id, ofSub l' id = if id ∈ ds then none else ofSub l id) ∧ (∀ id ∈ ds, ofSub l id ≠ none) ∧ (∀ x ∈ l', x ∈ l)
    | none => ∃ id ∈ ds, ofSub l id = none
  | [], l, _, ho => ⟨ho, fun id => by simp, by simp, fun x hx => hx⟩
  | id :: ds, l, hn, ho => by
    obtain ⟨hn1, hn2⟩ := List.nodup_cons.1 hn
    simp only [dropAll]
    cases hi : l.findIdx? (hasSub id) with
    | none => exact ⟨id, by simp, no_sub hi⟩
    | some k =>
      obtain ⟨a, x, b, rfl, rfl, hx, hf⟩ := split_sub hi
      simp only
      rw [erase_mid]
      have ho' := (once_mid ho).1
      have hl := ofSub_erase ho
      have ih := dropAll_ok ds (a ++ b) hn2 ho'
      cases hd : dropAll ds (a ++ b) with
      | none =>
        rw [hd] at ih
        obtain ⟨i, hi1, hi2⟩ := ih
        refine ⟨i, by simp [hi1], ?_⟩
        rw [hl, if_neg (fun e => hn1 (by rw [← hx, ← e]; exact hi1))] at hi2
        exact hi2
      | some l' =>
        rw [hd] at ih
        obtain ⟨i1, i2, i3, i4⟩ := ih
        refine ⟨i1, fun j => ?_, fun j hj => ?_, fun y hy => ?_⟩
        · rw [i2, hl]
          by_cases e : j = id
          · subst e; rw [hx]; simp
          · rw [hx, if_neg e]
            by_cases e2 : j ∈ ds <;> simp [e, e2]
        · rcases List.mem_cons.1 hj with rfl | hj
          · rw [hf]; simp
          · have := i3 j hj
            rw [hl, if_neg (fun e => hn1 (by rw [← hx, ← e]; exact hj))] at this
            exact this
        · rcases List.mem_append.1 (i4 y hy) with h | h
          · simp [h]
          · simp [h]
theorem putAll_ok : ∀ (ps : List Pol) (l : List Ent), (ps.Pairwise fun p q => p.sub ≠ q.sub) → Once l → Once (putAll ps l) ∧
    ∀ id, ofSub (putAll ps l) id = match ps.find? (subIsP id) with
      | some p => some ⟨p, match ofSub l id with | some x => x.granted | none => 0⟩
      | none => ofSub l id
  | [], l, _, ho => ⟨ho, fun id => rfl⟩
  | p :: ps, l, hn, ho => by
    obtain ⟨hn1, hn2⟩ := List.pairwise_cons.1 hn
    have hps : ps.find? (subIsP p.sub) = none := by
      rw [List.find?_eq_none]; intro q hq
      have := hn1 q hq
      simp only [subIsP, decide_eq_true_eq]
      exact fun e => this e.symm
    simp only [putAll]
    cases hi : l.findIdx? (hasSub p.sub) with
    | none =>
      have h0 := no_sub hi
      have h0' : ofSub l (Ent.mk p 0).pol.sub = none := h0
      obtain ⟨i1, i2⟩ := putAll_ok ps (l ++ [⟨p, 0⟩]) hn2 (once_push ho h0')
      refine ⟨i1, fun id => ?_⟩
      simp only
      rw [i2, ofSub_push h0', List.find?_cons]
      by_cases e : id = p.sub
      · subst e
        rw [hps]
        simp [subIsP, h0]
      · have e' : ¬ p.sub = id := fun z => e z.symm
        have hf : subIsP id p = false := by simp [subIsP, e']
        rw [hf, if_neg e]
    | some k =>
      obtain ⟨a, x, b, rfl, rfl, hx, hf⟩ := split_sub hi
      simp only
      rw [set_mid, getD_mid]
      have hy : (Ent.mk p x.granted).pol.sub = x.pol.sub := hx.symm
      obtain ⟨i1, i2⟩ := putAll_ok ps (a ++ ⟨p, x.granted⟩ :: b) hn2 (once_set ho hy)
      refine ⟨i1, fun id => ?_⟩
      rw [i2, ofSub_set ho hy, List.find?_cons]
      by_cases e : id = p.sub
      · subst e
        rw [hps, hx, if_pos rfl, hf]
        simp [subIsP]
      · have e' : ¬ p.sub = id := fun z => e z.symm
        have hff : subIsP id p = false := by simp [subIsP, e']
        rw [hff, hx, if_neg e]

/-! ### The program's commit is the document's -/
theorem ok_once {p : Int} {l : List Ent} (ho : (Bk.mk p l).ok) : Once l := by
  refine List.pairwise_iff_getElem.2 fun i j hi hj hij => ?_
  have := sub_lt ho hj hij
  omega
theorem ok_range {p : Int} {l : List Ent} (ho : (Bk.mk p l).ok) : ∀ x ∈ l, 1 ≤ x.pol.sub ∧ x.pol.sub ≤ 255 := by
  intro x hx
  obtain ⟨i, hi, rfl⟩ := List.getElem_of_mem hx
  have := (ho.2.2.1.2 i (by unfold polsOf; simpa using hi) (by unfold polsOf; simpa using hi)).1
  have h1 : l[i].pol.right := by simpa [polsOf] using this
  exact ⟨h1.1, h1.2.1⟩
theorem pols_once {ps : List Pol} (h : Pols ps) : ps.Pairwise fun p q => p.sub ≠ q.sub := by
  refine List.pairwise_iff_getElem.2 fun i j hi hj hij => ?_
  have := ((h.2 j hj hj).2 i hij).1
  omega
theorem pols_range {ps : List Pol} (h : Pols ps) : ∀ p ∈ ps, 1 ≤ p.sub ∧ p.sub ≤ 255 := by
  intro p hp
  obtain ⟨i, hi, rfl⟩ := List.getElem_of_mem hp
  have := (h.2 i hi hi).1
  exact ⟨this.1, this.2.1⟩
theorem rise_lt {ds : List Int} (h : riseTo ds ds.length) : ∀ j (hj : j < ds.length) i (hi : i < j), ds[i] < ds[j]
  | j + 1, hj, i, hi => by
    have h1 := (h (j + 1) hj hj).2 (by omega)
    simp only [Nat.add_sub_cancel] at h1
    by_cases e : i = j
    · subst e; exact h1
    · have := rise_lt h j (by omega) i (by omega); omega
theorem rise_nodup {ds : List Int} (h : riseTo ds ds.length) : ds.Nodup := by
  refine List.pairwise_iff_getElem.2 fun i j hi hj hij => ?_
  have := rise_lt h j hj i hij
  omega
theorem rise_range {ds : List Int} (h : riseTo ds ds.length) : ∀ d ∈ ds, 1 ≤ d ∧ d ≤ 255 := by
  intro d hd
  obtain ⟨i, hi, rfl⟩ := List.getElem_of_mem hd
  exact (h i hi hi).1
theorem commit_none {p : Int} {l : List Ent} {ps : List Pol} {ds : List Int} (ho : (Bk.mk p l).ok) (hr : Evt.right ⟨1, 0, ps, ds, 0, 0⟩) (h : dropAll ds l = none) : ∃ i : Nat, i < 255 ∧ refBad l ⟨1, 0, ps, ds, 0, 0⟩ ((i : Int) + 1) := by
  have hri := (right1.1 hr).2.2.2.2.2.1
  have := dropAll_ok ds l (rise_nodup hri) (ok_once ho)
  rw [h] at this
  obtain ⟨id, hid, hn⟩ := this
  have hrg := rise_range hri id hid
  refine ⟨(id - 1).toNat, by omega, ?_⟩
  rw [show (((id - 1).toNat : Nat) : Int) + 1 = id by omega]
  exact ⟨hid, hn⟩
theorem commit_some {p : Int} {l l1 d : List Ent} {ps : List Pol} {ds : List Int} (ho : (Bk.mk p l).ok) (hr : Evt.right ⟨1, 0, ps, ds, 0, 0⟩) (h : dropAll ds l = some l1) (hd : Rises d) (hm : ∀ x, x ∈ d ↔ x ∈ putAll ps l1) :
    (¬ ∃ i : Nat, i < 255 ∧ refBad l ⟨1, 0, ps, ds, 0, 0⟩ ((i : Int) + 1)) ∧ d = refEnts l ⟨1, 0, ps, ds, 0, 0⟩ 255 := by
  obtain ⟨_, _, _, _, hP, hri, hnd, _⟩ := right1.1 hr
  have hda := dropAll_ok ds l (rise_nodup hri) (ok_once ho)
  rw [h] at hda
  obtain ⟨o1, o2, o3, o4⟩ := hda
  obtain ⟨q1, q2⟩ := putAll_ok ps l1 (pols_once hP) o1
  refine ⟨?_, sorted_ref hd (fun x hx => ?_) fun id _ _ => ?_⟩
  · rintro ⟨i, _, hb1, hb2⟩
    exact o3 _ hb1 hb2
  · have hx := (hm x).1 hx
    have hl := ofSub_mem q1 hx
    rw [q2] at hl
    split at hl
    · rename_i pp hf
      have h1 := List.mem_of_find?_eq_some hf
      have h2 := List.find?_some hf
      have h3 : pp.sub = x.pol.sub := by simpa [subIsP] using h2
      rw [← h3]; exact pols_range hP pp h1
    · exact ok_range ho x (o4 x (ofSub_some hl).1)
  · have hdo := hd.once
    have e1 : ofSub d id = ofSub (putAll ps l1) id := by
      cases hx : ofSub (putAll ps l1) id with
      | some x => exact (ofSub_iff hdo).2 ⟨(hm x).2 (ofSub_some hx).1, (ofSub_some hx).2⟩
      | none =>
        cases hy : ofSub d id with
        | none => rfl
        | some y =>
          have := (ofSub_iff q1).2 ⟨(hm y).1 (ofSub_some hy).1, (ofSub_some hy).2⟩
          rw [hx] at this; cases this
    rw [e1, q2]
    unfold refOne
    by_cases hds : id ∈ ds
    · have hno : ps.find? (subIsP id) = none := by
        rw [List.find?_eq_none]; intro q hq
        simp only [subIsP, decide_eq_true_eq]
        exact fun e => hnd q hq (by rw [e]; exact hds)
      rw [hno, o2, if_pos hds, if_pos hds]
    · rw [if_neg hds, o2, if_neg hds]
      show _ = match ofSub l id, ps.find? (subIsP id) with
        | some x, some p => some (⟨p, x.granted⟩ : Ent)
        | some x, none => some x
        | none, some p => some ⟨p, 0⟩
        | none, none => none
      cases ps.find? (subIsP id) <;> cases ofSub l id <;> rfl
end Go.Proofs.YtmdnohpolepcoaaGreat

namespace Go.Proofs.YtmdnohpolepcoaaGreat
open Go.RowKit
set_option linter.unusedSimpArgs false
set_option linter.unusedVariables false
set_option maxRecDepth 10000

def cmpI (a b : Int) : Int := if a < b then -1 else if b < a then 1 else 0
end Go.Proofs.YtmdnohpolepcoaaGreat

namespace Go.Proofs.YtmdnohpolepcoaaGreat
open Go.RowKit
set_option linter.unusedSimpArgs false
set_option linter.unusedVariables false
set_option maxRecDepth 10000

def zero14 : List AV := noEnt.enc
/-- The cells behind a deletion at 'k' of 'n'. -/
def cutCells (cs : List AV) (k n : Nat) : List AV := cs.take (k * 14) ++ (cs.drop ((k + 1) * 14)).take ((n - (k + 1)) * 14) ++ zero14 ++ cs.drop (n * 14)
def delS : Spec := fun args S => match args with
  | [.sl i 0 v n cap false, .i .i64 a, .i .i64 b] => match S[i]? with
    | some (.cells cs ver (some 14) true) => if ver = v ∧ cs.length = cap * 14 ∧ n ≤ cap ∧ 0 ≤ a ∧ a < (n : Int) ∧ b = a + 1 ∧ n ≤ 1000000 ∧ cs.all AV.one = true then
        some (.sl i 0 v (n - 1) cap false, S.set i (.cells (cutCells cs a.toNat n) v (some 14) true)) else none
    | _ => none
  | _ => none
theorem splice_cut {cs : List AV} {k n : Nat} (hk : k < n) (hn : n * 14 ≤ cs.length) : splice (splice cs (k * 14) ((cs.drop ((k + 1) * 14)).take ((n - (k + 1)) * 14))) ((n - 1) * 14) zero14 = cutCells cs k n := by
  have hml : ((cs.drop ((k + 1) * 14)).take ((n - (k + 1)) * 14)).length = (n - (k + 1)) * 14 := by rw [List.length_take, List.length_drop]; omega
  have hkl : (cs.take (k * 14)).length = k * 14 := by rw [List.length_take]; omega
  have hz : zero14.length = 14 := rfl
  unfold cutCells
  generalize hm : (cs.drop ((k + 1) * 14)).take ((n - (k + 1)) * 14) = mid at hml
  unfold splice
  rw [hml, hz]
  have e1 : k * 14 + (n - (k + 1)) * 14 = (n - 1) * 14 := by omega
  rw [e1]
  have h1 : (cs.take (k * 14) ++ (mid ++ cs.drop ((n - 1) * 14))).take ((n - 1) * 14) = cs.take (k * 14) ++ mid := by
    rw [← List.append_assoc, List.take_append_of_le_length (by rw [List.length_append, hkl, hml]; omega), List.take_of_length_le (by rw [List.length_append, hkl, hml]; omega)]
  have h2 : (cs.take (k * 14) ++ (mid ++ cs.drop ((n - 1) * 14))).drop ((n - 1) * 14 + 14) = cs.drop (n * 14) := by
    rw [← List.append_assoc, List.drop_append, List.drop_of_length_le (by rw [List.length_append, hkl, hml]; omega), List.nil_append, List.length_append, hkl, hml, List.drop_drop]
    congr 1; omega
  rw [h1, h2, List.append_assoc (cs.take (k * 14) ++ mid)]
theorem del_ok : SpecOK Tryz.prog 58 delS := by
  intro args S x S' h
  simp only [delS] at h
  split at h
  · rename_i i v n cap a b
    split at h
    · rename_i cs ver hB
      split at h
      · rename_i hc
        obtain ⟨rfl, hcl, hnc, ha0, han, rfl, hlim, hone⟩ := hc
        cases h
        obtain ⟨k, rfl⟩ := Int.eq_ofNat_of_zero_le ha0
        rw [Int.toNat_natCast]
        have hkn : k < n := by omega
        have hk1 : ((k : Nat) : Int) + 1 = ((k + 1 : Nat) : Int) := by omega
        rw [hk1]
        have s1 : sliceV S 14 (.sl i 0 ver n cap false) (some (.i .i64 (k : Int))) (some (.i .i64 ((k + 1 : Nat) : Int))) (some (.i .i64 (n : Int))) = some (.sl i (cutAt 0 k n 14) ver 1 (n - k) true) := by
          simp only [sliceV, bnds, bndV, natV_nat, Option.isSome_some, Option.isNone_some]
          simp [show n ≤ cap from hnc, show k + 1 ≤ n from hkn, show k ≤ n by omega, natV]
        have s2 : sliceV S 14 (.sl i 0 ver n cap false) none (some (.i .i64 (k : Int))) none = some (.sl i 0 ver k cap false) := by
          refine slice_hi (by omega) ?_
          simp [openS, hB, Blk.opn]; omega
        have hne : ¬ ((k : Nat) : Int) = ((k + 1 : Nat) : Int) := by omega
        refine fn_of_wp f58 rfl (W_sound none_ok mixed _ _ _ _ _ ?_)
        by_cases hlast : k + 1 = n
        · subst hlast
          have hz : zerosV noEnt.enc 1 = noEnt.enc := by rfl
          have s4 : sliceV S 14 (.sl i 0 ver k cap false) (some (.i .i64 (k : Int))) (some (.i .i64 ((k + 1 : Nat) : Int))) none = some (.sl i (k * 14) ver 1 (cap - k) false) := by
            simp only [sliceV, bnds_both (q := .i64) (q' := .i64) (show k ≤ k + 1 by omega) hnc, Option.isSome_none, Bool.or_false, Bool.false_eq_true, if_false]
            rw [if_neg (by omega)]
            simp only [hB, Blk.opn, if_true, Nat.zero_add, Nat.add_sub_cancel_left]
          obtain ⟨S3, hS3⟩ : ∃ S3, S3 = S.set i (.cells (splice cs (k * 14) zero14) ver (some 14) true) := ⟨_, rfl⟩
          have hclr : clearV S noEnt.enc (.sl i (k * 14) ver 1 (cap - k) false) = some (.tu [], S3) := by
            simp only [clearV, hB]
            rw [if_neg (by omega), if_pos ⟨trivial, by show k * 14 + 1 * 14 ≤ cs.length; omega, by rw [hz]; rfl⟩, hS3, hz]; rfl
          simp only [noEnt, Ent.enc] at hclr
          have hfin : S3 = S.set i (.cells (cutCells cs k (k + 1)) ver (some 14) true) := by
            rw [hS3]
            have hz14 : zero14.length = 14 := rfl
            unfold cutCells splice
            rw [Nat.sub_self, Nat.zero_mul, List.take_zero, List.append_nil, hz14, show k * 14 + 14 = (k + 1) * 14 by omega, List.append_assoc]
          have ha : ∀ cs', appV S 14 88 (.sl i 0 ver k cap false) cs' 0 = some (.sl i 0 ver k cap false, S) := fun cs' => by simp [appV]
          rw [Nat.add_sub_cancel]
          by_cases hcap : k + 1 = cap
          · have s3 : sliceV S 14 (.sl i 0 ver (k + 1) cap false) (some (.i .i64 ((k + 1 : Nat) : Int))) none none = some .se := by
              simp only [sliceV, bnds_lo (q := .i64) (show k + 1 ≤ k + 1 by omega) hnc, Option.isSome_none, Bool.or_false, Bool.false_eq_true, if_false]
              rw [if_pos hcap]
            have hse : srcV S 14 .se = some ([], 0) := rfl
            simp (maxSteps := 1000000) (disch := omega) only [c58, s1, s2, s3, hne, hse, ha, s4, hclr, go_sem]
            rw [hfin]
            exact wkv_same
          · have s3 : sliceV S 14 (.sl i 0 ver (k + 1) cap false) (some (.i .i64 ((k + 1 : Nat) : Int))) none none = some (.sl i ((k + 1) * 14) ver 0 (cap - (k + 1)) false) := by
              simp only [sliceV, bnds_lo (q := .i64) (show k + 1 ≤ k + 1 by omega) hnc, Option.isSome_none, Bool.or_false, Bool.false_eq_true, if_false]
              rw [if_neg hcap]
              simp only [hB, Blk.opn, if_true, Nat.zero_add, Nat.sub_self]
            have hle3 : (k + 1) * 14 + 0 ≤ cs.length := by omega
            have hse : srcV S 14 (.sl i ((k + 1) * 14) ver 0 (cap - (k + 1)) false) = some ([], 0) := by
              rw [src_sl, hB, Nat.zero_mul, rowB_some, if_pos hle3]; rfl
            simp (maxSteps := 1000000) (disch := omega) only [c58, s1, s2, s3, hne, hse, ha, s4, hclr, go_sem]
            rw [hfin]
            exact wkv_same
        · have hn1 : k + 1 < n := by omega
          have s3 : sliceV S 14 (.sl i 0 ver n cap false) (some (.i .i64 ((k + 1 : Nat) : Int))) none none = some (.sl i (0 + (k + 1) * 14) ver (n - (k + 1)) (cap - (k + 1)) false) := by
            simp only [sliceV, bnds_lo (q := .i64) (show k + 1 ≤ n by omega) hnc, Option.isSome_none, Bool.or_false, Bool.false_eq_true, if_false]
            rw [if_neg (by omega)]
            simp only [hB, Blk.opn, if_true]
          have hle3 : (k + 1) * 14 + (n - (k + 1)) * 14 ≤ cs.length := by omega
          generalize hmid : (cs.drop ((k + 1) * 14)).take ((n - (k + 1)) * 14) = mid
          have hmidl : mid.length = (n - (k + 1)) * 14 := by rw [← hmid, List.length_take, List.length_drop]; omega
          have hmid1 : mid.all AV.one = true := by
            rw [List.all_eq_true] at hone ⊢
            intro y hy; rw [← hmid] at hy
            exact hone y (List.mem_of_mem_drop (List.mem_of_mem_take hy))
          obtain ⟨S2, hS2⟩ : ∃ S2, S2 = S.set i (.cells (splice cs (0 + k * 14) mid) ver (some 14) true) := ⟨_, rfl⟩
          have ha : appV S 14 88 (.sl i 0 ver k cap false) mid (n - (k + 1)) = some (.sl i 0 ver (n - 1) cap false, S2) := by
            simp only [appV, hB]
            rw [if_neg (by omega), if_pos (by omega), if_pos ⟨trivial, by omega, hmid1⟩, hS2, show k + (n - (k + 1)) = n - 1 by omega]
          have hB2 : S2[i]? = some (.cells (splice cs (0 + k * 14) mid) ver (some 14) true) := by rw [hS2]; exact at_set hB
          have s4 : sliceV S2 14 (.sl i 0 ver (n - 1) cap false) (some (.i .i64 ((n - 1 : Nat) : Int))) (some (.i .i64 (n : Int))) none = some (.sl i (0 + (n - 1) * 14) ver (n - (n - 1)) (cap - (n - 1)) false) := by
            simp only [sliceV, bnds_both (q := .i64) (q' := .i64) (show n - 1 ≤ n by omega) hnc, Option.isSome_none, Bool.or_false, Bool.false_eq_true, if_false]
            rw [if_neg (by omega)]
            simp only [hB2, Blk.opn, if_true]
          rw [show n - (n - 1) = 1 by omega, Nat.zero_add] at s4
          obtain ⟨S3, hS3⟩ : ∃ S3, S3 = S2.set i (.cells (splice (splice cs (0 + k * 14) mid) ((n - 1) * 14) zero14) ver (some 14) true) := ⟨_, rfl⟩
          have hsl : (splice cs (0 + k * 14) mid).length = cap * 14 := by
            unfold splice
            rw [List.length_append, List.length_append, List.length_take, List.length_drop, hmidl]; omega
          have hz : zerosV noEnt.enc 1 = noEnt.enc := by rfl
          have hclr : clearV S2 noEnt.enc (.sl i ((n - 1) * 14) ver 1 (cap - (n - 1)) false) = some (.tu [], S3) := by
            simp only [clearV, hB2]
            rw [if_neg (by omega), if_pos ⟨trivial, by rw [hsl]; show (n - 1) * 14 + 1 * 14 ≤ cap * 14; omega, by rw [hz]; rfl⟩, hS3, hz]; rfl
          simp only [noEnt, Ent.enc] at hclr
          simp (maxSteps := 1000000) (disch := omega) only [c58, s1, s2, s3, hne, src_sl, hB, hle3, hmid, srcN_some, ha, s4, hclr, go_sem]
          have hfin : S3 = S.set i (.cells (cutCells cs k n) ver (some 14) true) := by
            rw [hS3, hS2, List.set_set, ← hmid, Nat.zero_add, splice_cut hkn (by omega)]
          rw [hfin]
          exact wkv_same
      · cases h
    · cases h
  · cases h
end Go.Proofs.YtmdnohpolepcoaaGreat

namespace Go.Proofs.YtmdnohpolepcoaaGreat
open Go.RowKit
set_option linter.unusedSimpArgs false
set_option linter.unusedVariables false
set_option maxRecDepth 10000

/-- A list in a block of its own, perhaps with room behind it. -/
def Sp (i : Nat) (S : Mem) (x : AV) (l : List Ent) : Prop := ∃ v cap junk, x = .sl i 0 v l.length cap false ∧ S[i]? = some (.cells (l.flatMap entE.enc ++ junk) v (some 14) true) ∧ junk.length = (cap - l.length) * 14 ∧ l.length ≤ cap ∧ junk.all AV.one = true
theorem flat14 (l : List Ent) : (l.flatMap entE.enc).length = l.length * 14 := enc_length (E := entE) l
theorem Sp.lst {i : Nat} {S : Mem} {x : AV} {l : List Ent} (h : Sp i S x l) : lstV entE S x = some l := by
  obtain ⟨v, cap, junk, rfl, hB, hj, hlc, _⟩ := h
  refine lst_lstV (.inr (.inr ⟨_, _, _, _, _, _, rfl, rfl, ?_⟩))
  rw [rowAt_B, hB]
  show rowB _ 0 v (l.length * 14) = _
  rw [rowB_some, if_pos (by rw [List.length_append, flat14]; omega), List.drop_zero, List.take_append_of_le_length (by rw [flat14]; omega), ← flat14, List.take_length]
theorem Sp.del {i : Nat} {S : Mem} {x : AV} {l : List Ent} (h : Sp i S x l) {k : Nat} (hk : k < l.length) (hl : l.length ≤ 1000000) :
    ∃ x' B, delS [x, .i .i64 (k : Int), .i .i64 ((k : Int) + 1)] S = some (x', S.set i B) ∧ Sp i (S.set i B) x' (l.eraseIdx k) := by
  obtain ⟨v, cap, junk, rfl, hB, hj, hlc, hj1⟩ := h
  have hcl : (l.flatMap entE.enc ++ junk).length = cap * 14 := by rw [List.length_append, flat14, hj]; omega
  have hone : (l.flatMap entE.enc ++ junk).all AV.one = true := by rw [List.all_append, hj1, all_one entE_one l]; rfl
  refine ⟨_, _, by simp only [delS, hB]; rw [if_pos ⟨trivial, hcl, hlc, by omega, by omega, trivial, hl, hone⟩], ?_⟩
  rw [Int.toNat_natCast]
  have hle : (l.eraseIdx k).length = l.length - 1 := by rw [List.length_eraseIdx, if_pos hk]
  refine ⟨v, cap, zero14 ++ junk, by rw [hle], ?_, ?_, by omega, ?_⟩
  · rw [at_set hB]
    congr 2
    have he : l.eraseIdx k = l.take k ++ l.drop (k + 1) := List.eraseIdx_eq_take_drop_succ ..
    have t1 : (l.flatMap entE.enc ++ junk).take (k * 14) = (l.take k).flatMap entE.enc := by
      rw [List.take_append_of_le_length (by rw [flat14]; omega)]; exact flat_take (E := entE) l k
    have t2 : ((l.flatMap entE.enc ++ junk).drop ((k + 1) * 14)).take ((l.length - (k + 1)) * 14) = (l.drop (k + 1)).flatMap entE.enc := by
      rw [List.drop_append_of_le_length (by rw [flat14]; omega)]
      rw [show (l.flatMap entE.enc).drop ((k + 1) * 14) = (l.drop (k + 1)).flatMap entE.enc from flat_drop (E := entE) l (k + 1)]
      rw [List.take_append_of_le_length (by rw [flat14, List.length_drop]; omega), List.take_of_length_le (by rw [flat14, List.length_drop]; omega)]
    have t3 : (l.flatMap entE.enc ++ junk).drop (l.length * 14) = junk := by rw [← flat14, List.drop_left]
    unfold cutCells
    rw [t1, t2, t3, he, List.flatMap_append, List.append_assoc, List.append_assoc]
    first | done | simp [List.append_assoc]
  · rw [List.length_append, hj, hle]
    show 14 + _ = _
    omega
  · rw [List.all_append, hj1]; rfl
theorem Sp.app {i : Nat} {S : Mem} {x : AV} {l : List Ent} (h : Sp i S x l) (a : Ent) (hl : l.length ≤ 1000000) :
    ∃ x' B, appV S 14 88 x (entE.enc a) 1 = some (x', S.set i B) ∧ Sp i (S.set i B) x' (l ++ [a]) := by
  obtain ⟨v, cap, junk, rfl, hB, hj, hlc, hj1⟩ := h
  have ha14 : (entE.enc a).length = 14 := rfl
  have hlim1 : (l.length + 1) * 88 ≤ lim := by show _ ≤ 140737488355328; omega
  have hlim2 : l.length + 1 ≤ lim := by show _ ≤ 140737488355328; omega
  by_cases hc : l.length + 1 ≤ cap
  · refine ⟨.sl i 0 v (l.length + 1) cap false, .cells (splice (l.flatMap entE.enc ++ junk) (0 + l.length * 14) (entE.enc a)) v (some 14) true, ?_, ?_⟩
    · simp only [appV, hB]
      rw [if_neg (by omega), if_pos hc, if_pos ⟨trivial, by rw [List.length_append, flat14, hj]; omega, entE_one a⟩]
    · refine ⟨v, cap, junk.drop 14, by rw [List.length_append]; rfl, ?_, by rw [List.length_drop, hj, List.length_append]; simp; omega, by rw [List.length_append]; exact hc, ?_⟩
      · rw [at_set hB]
        congr 2
        unfold splice
        rw [Nat.zero_add, ha14, ← flat14, List.take_left, List.flatMap_append, List.drop_append, List.drop_of_length_le (by omega), List.nil_append, Nat.add_sub_cancel_left]
        simp [List.append_assoc]
      · rw [List.all_eq_true] at hj1 ⊢
        exact fun y hy => hj1 y (List.mem_of_mem_drop hy)
  · have hcl : cap = l.length := by omega
    obtain rfl : junk = [] := List.eq_nil_of_length_eq_zero (by rw [hj]; omega)
    rw [List.append_nil] at hB
    refine ⟨.sl i 0 (v + 1) (l.length + 1) (l.length + 1) false, .cells ((l.flatMap entE.enc).take (l.length * 14) ++ entE.enc a) (v + 1) (some 14) true, ?_, ?_⟩
    · simp only [appV, hB, Bool.false_eq_true, if_false]
      rw [if_neg (by omega), if_neg hc, if_pos ⟨hlim1, hlim2⟩, if_pos ⟨trivial, trivial, trivial, by rw [flat14]; omega, entE_one a⟩]
    · refine ⟨v + 1, l.length + 1, [], by rw [List.length_append]; rfl, ?_, by rw [List.length_append]; simp, by rw [List.length_append]; exact Nat.le_refl _, rfl⟩
      rw [at_set hB, ← flat14, List.take_length, List.append_nil, List.flatMap_append]
      simp
/-- A policy is laid in place. -/
theorem Sp.pol {i : Nat} {S : Mem} {x : AV} {l : List Ent} (h : Sp i S x l) {k : Nat} (hk : k < l.length) (p : Pol) :
    ∃ v cap cs, x = .sl i 0 v l.length cap false ∧ S[i]? = some (.cells cs v (some 14) true) ∧ k * 14 + 13 ≤ cs.length ∧ Sp i (S.set i (.cells (cs.take (k * 14) ++ (p.enc ++ cs.drop (k * 14 + 13))) v (some 14) true)) x (l.set k ⟨p, l[k].granted⟩) := by
  obtain ⟨v, cap, junk, rfl, hB, hj, hlc, hj1⟩ := h
  have hcs : k * 14 + 13 ≤ (l.flatMap entE.enc).length := by rw [flat14]; omega
  refine ⟨v, cap, _, rfl, hB, by rw [List.length_append]; omega, v, cap, junk, by rw [List.length_set], ?_, by rw [List.length_set]; exact hj, by rw [List.length_set]; exact hlc, hj1⟩
  rw [at_set hB]
  have hsp := splice_at (E := entE) l hk ⟨p, l[k].granted⟩ (f := 0) (ys := p.enc) (by simp [entE, Pol.enc]) (by rfl)
  have hsp : (l.flatMap entE.enc).take (k * 14) ++ p.enc ++ (l.flatMap entE.enc).drop (k * 14 + 13) = (l.set k ⟨p, l[k].granted⟩).flatMap entE.enc := by rw [← hsp]; show _ = (l.flatMap entE.enc).take (k * 14 + 0) ++ (p.enc ++ (l.flatMap entE.enc).drop (k * 14 + 0 + 13)); simp only [Nat.add_zero, List.append_assoc]
  rw [← hsp, List.take_append_of_le_length (by omega), List.drop_append_of_le_length (by omega)]
  simp [List.append_assoc]
end Go.Proofs.YtmdnohpolepcoaaGreat

namespace Go.Proofs.YtmdnohpolepcoaaGreat
open Go.RowKit
set_option linter.unusedSimpArgs false
set_option linter.unusedVariables false

theorem cmpI_neg {a b : Int} : cmpI a b < 0 ↔ a < b := by
  unfold cmpI
  split
  · rename_i h; exact ⟨fun _ => h, fun _ => by omega⟩
  · rename_i h
    split
    · exact ⟨fun z => by omega, fun z => absurd z h⟩
    · exact ⟨fun z => by omega, fun z => absurd z h⟩
/-- A permutation in which no later one is less than an earlier one: it rises, if no subscriber is there twice. -/
theorem rises_of_sorted {l d : List Ent} (hp : d.Perm l) (ho : Once l) (hs : ∀ i j (hij : i < j) (hj : j < d.length), ¬ cmpI d[j].pol.sub (d[i]'(by omega)).pol.sub < 0) : Rises d ∧ ∀ x, x ∈ d ↔ x ∈ l := by
  have hod : Once d := (hp.pairwise_iff fun h => Ne.symm h).2 ho
  refine ⟨List.pairwise_iff_getElem.2 fun i j hi hj hij => ?_, fun x => hp.mem_iff⟩
  have h1 := List.pairwise_iff_getElem.1 hod i j hi hj hij
  have h2 := hs i j hij hj
  rw [cmpI_neg] at h2
  omega
end Go.Proofs.YtmdnohpolepcoaaGreat

namespace Go.Proofs.YtmdnohpolepcoaaGreat
open Go.RowKit Go.Sort
set_option linter.unusedSimpArgs false
set_option linter.unusedVariables false
set_option maxRecDepth 10000

instance : Inhabited Ent := ⟨noEnt⟩
def entV (a : Ent) : List Value := [.int .i64 a.pol.sub, .int .u8 a.pol.a, .int .u8 a.pol.b, .int .u8 a.pol.c, .int .u8 a.pol.d, .int .i64 a.pol.bits, .int .u64 a.pol.rate, .int .u64 a.pol.burst, .int .u64 a.pol.srate, .int .u64 a.pol.sburst, .int .u64 a.pol.quota, .int .u64 a.pol.lease, .int .u64 a.pol.quantum, .int .u64 a.granted]
theorem entV_len (a : Ent) : (entV a).length = 14 := rfl
theorem entV_cell (a : Ent) : ∀ v ∈ entV a, v.oneCell' = true := by
  intro v hv
  simp only [entV, List.mem_cons, List.not_mem_nil, or_false] at hv
  rcases hv with rfl | rfl | rfl | rfl | rfl | rfl | rfl | rfl | rfl | rfl | rfl | rfl | rfl | rfl <;> rfl
theorem vr_i {K : Ctx} {S : Mem} {q : IntKind} {n : Int} {v : Value} (h : VR K S (.i q n) v) : v = .int q n := by cases h; rfl
theorem ent_cell {K : Ctx} {S : Mem} {a : Ent} {j : Nat} (hj : j < 14) {v : Value} (h : VR K S ((entE.enc a).getD j .u) v) : v = (entV a)[j]! := by
  simp only [entE, Ent.enc] at h
  match j, hj with
  | 0, _ | 1, _ | 2, _ | 3, _ | 4, _ | 5, _ | 6, _ | 7, _ | 8, _ | 9, _ | 10, _ | 11, _ | 12, _ | 13, _ => exact vr_i h
theorem cell_vr {K : Ctx} {S : Mem} {a : Ent} {j : Nat} (hj : j < 14) : VR K S ((entE.enc a).getD j .u) ((entV a)[j]!) := by
  simp only [entE, Ent.enc]
  match j, hj with
  | 0, _ | 1, _ | 2, _ | 3, _ | 4, _ | 5, _ | 6, _ | 7, _ | 8, _ | 9, _ | 10, _ | 11, _ | 12, _ | 13, _ => exact .i _ _
theorem flat_get {l : List Ent} {junk : List AV} {t : Nat} (ht : t < l.length * 14) : (l.flatMap entE.enc ++ junk).getD t .u = (entE.enc (l.toArray[t / 14]!)).getD (t % 14) .u := by
  have hk : t / 14 < l.length := by omega
  have e : l.toArray[t / 14]! = l[t / 14] := by rw [getElem!_pos l.toArray (t / 14) (by simpa using hk)]; simp
  rw [e]
  have hp := flat_part (f := entE.enc) (w := 14) (fun a => rfl) l (t / 14) hk
  simp only [List.getD_eq_getElem?_getD]
  congr 1
  rw [List.getElem?_append_left (by rw [flat14]; exact ht), ← hp, List.getElem?_take, if_pos (by omega), List.getElem?_drop]
  congr 1; omega
/-- A block of entries is what the kit's sort asks for. -/
theorem holds_of_sim {base : Bs} {w0 : World} {K : Ctx} {S : Mem} {w : World} (h : Sim base w0 K S w) {i v : Nat} {l : List Ent} {junk : List AV} {op : Option Nat} (hB : S[i]? = some (.cells (l.flatMap entE.enc ++ junk) v op true)) : HoldsK entV 14 w (K.μ i) 0 l.toArray := by
  intro j hj
  have hj' : j < l.length * 14 := by simpa using hj
  have hjl : j < (l.flatMap entE.enc ++ junk).length := by rw [List.length_append, flat14]; omega
  obtain ⟨x, h1, h2⟩ := h.load hB hjl
  have hf := (h.set1 hB hjl h2).1
  rw [Nat.zero_add]
  refine ⟨?_, hf⟩
  rw [h1]
  rw [flat_get hj'] at h2
  rw [get_flatK _ _ _ j (by simpa using hj')]
  exact congrArg some (ent_cell (by omega) h2)
theorem put_size (F arr : Array Value) : (putCells id 0 F arr).size = arr.size := by unfold putCells; simp
theorem put_get {F arr : Array Value} {k : Nat} (hk : k < arr.size) : (putCells id 0 F arr).getD k undef = if k < F.size then F[k]! else arr.getD k undef := by
  have h : (putCells id 0 F arr)[k]? = some (if 0 ≤ k ∧ k < 0 + F.size then id F[k - 0]! else arr[k]) := by
    unfold putCells
    rw [Array.getElem?_mapIdx, Array.getElem?_eq_getElem hk]; rfl
  rw [Array.getD_eq_getD_getElem?, h, Option.getD_some]
  by_cases c : k < F.size
  · rw [if_pos ⟨Nat.zero_le _, by omega⟩, if_pos c, Nat.sub_zero]; rfl
  · rw [if_neg (by omega), if_neg c, Array.getD_eq_getD_getElem?, Array.getElem?_eq_getElem hk]; rfl
/-- Behind the kit's sort. -/
theorem sim_sorted {base : Bs} {w0 : World} {K : Ctx} {S : Mem} {w : World} (h : Sim base w0 K S w) {i v : Nat} {l : List Ent} {junk : List AV} {op : Option Nat} (hB : S[i]? = some (.cells (l.flatMap entE.enc ++ junk) v op true)) {d : Array Ent} (hd : d.size = l.length) (n : Nat) (os : Array Obj) :
    Sim base w0 K (S.set i (.cells (d.toList.flatMap entE.enc ++ junk) v op true)) (sortWorldK entV 14 w (K.μ i) 0 n d os) ∧ Stp K S w K (S.set i (.cells (d.toList.flatMap entE.enc ++ junk) v op true)) (sortWorldK entV 14 w (K.μ i) 0 n d os) := by
  obtain ⟨c, et, fz, h1, h2, h3, h4, h5, h6⟩ := h.blk i _ hB
  have hdl : d.toList.length = l.length := by rw [Array.length_toList, hd]
  have hlen : (d.toList.flatMap entE.enc ++ junk).length = (l.flatMap entE.enc ++ junk).length := by rw [List.length_append, List.length_append, flat14, flat14, hdl]
  refine h.resort hB h1 (f := putCells id 0 (flatK entV 14 d)) (put_size _ _) hlen (fun k hk => ?_) n os
  have hkc : k < c.size := by rw [hlen] at hk; omega
  rw [put_get hkc, size_flatK]
  by_cases c1 : k < d.size * 14
  · rw [if_pos c1, get_flatK _ _ _ k c1, flat_get (l := d.toList) (by rw [hdl, ← hd]; exact c1)]
    rw [show d.toList.toArray = d by simp]
    exact cell_vr (by omega)
  · rw [if_neg c1]
    have h7 := h5 k (by rw [← hlen]; exact hk)
    have e : (d.toList.flatMap entE.enc ++ junk).getD k .u = (l.flatMap entE.enc ++ junk).getD k .u := by
      simp only [List.getD_eq_getElem?_getD]
      rw [List.getElem?_append_right (by rw [flat14, hdl, ← hd]; omega), List.getElem?_append_right (by rw [flat14, ← hd]; omega), flat14, flat14, hdl]
    rw [e]; exact h7
end Go.Proofs.YtmdnohpolepcoaaGreat

namespace Go.Proofs.YtmdnohpolepcoaaGreat
open Go.RowKit Go.Sort
set_option linter.unusedSimpArgs false
set_option linter.unusedVariables false
set_option maxRecDepth 100000

theorem nan_calls (a : Int) (W : World) : Calls Tryz.prog 86 #[.int .i64 a] W fun e w' => e = .returned (.bool false) ∧ w' = W := by
  go_enter Tryz.func86, Tryz.ntmps86
  go_wp2
  go_ret
  simp
set_option maxHeartbeats 1000000 in
theorem cmp_calls (a b : Int) (W : World) : Calls Tryz.prog 61 #[.int .i64 a, .int .i64 b] W fun e w' => e = .returned (.int .i64 (cmpI a b)) ∧ w' = W := by
  have h1 := fun (x : Int) (W : World) => nan_calls x W
  unfold cmpI
  go_enter Tryz.func61, Tryz.ntmps61
  by_cases c1 : a < b
  · go_wp2_with (go_at_call 86; refine (h1 _ _).mono ?_; rintro e w' ⟨rfl, rfl⟩)
    go_ret
    exact ⟨rfl, rfl⟩
  · by_cases c2 : b < a
    · go_wp2_with (go_at_call 86; refine (h1 _ _).mono ?_; rintro e w' ⟨rfl, rfl⟩)
      go_ret
      exact ⟨rfl, rfl⟩
    · go_wp2_with (go_at_call 86; refine (h1 _ _).mono ?_; rintro e w' ⟨rfl, rfl⟩)
      go_ret
      exact ⟨rfl, rfl⟩
set_option maxHeartbeats 1000000 in
theorem closure_calls (x y : Ent) (W : World) : Calls Tryz.prog 60 #[.agg (entV x).toArray, .agg (entV y).toArray] W fun e w' => e = .returned (.int .i64 (cmpI x.pol.sub y.pol.sub)) ∧ ∃ q os', w' = grow (W.drewN q) os' := by
  have hcon := fun W' => cmp_calls x.pol.sub y.pol.sub W'
  generalize cmpI x.pol.sub y.pol.sub = r at hcon ⊢
  obtain ⟨⟨s, a1, a2, a3, a4, a5, a6, a7, a8, a9, a10, a11, a12⟩, a13⟩ := x
  obtain ⟨⟨t, b1, b2, b3, b4, b5, b6, b7, b8, b9, b10, b11, b12⟩, b13⟩ := y
  simp only [entV] at hcon ⊢
  go_enter Tryz.func60, Tryz.ntmps60
  go_wp2_with (go_at_call 61; refine (hcon _).mono ?_; rintro e w' ⟨rfl, rfl⟩)
  go_ret
  exact ⟨rfl, 0, _, by rw [alloc_eq_grow, alloc_eq_grow, grow_grow]; rfl⟩
end Go.Proofs.YtmdnohpolepcoaaGreat

namespace Go.Proofs.YtmdnohpolepcoaaGreat
open Go.RowKit
set_option linter.unusedSimpArgs false
set_option linter.unusedVariables false
set_option maxRecDepth 10000

structure Cf where
  v : Nat
  cap : Nat
  junk : List AV
  l : List Ent
def Cf.x (i : Nat) (c : Cf) : AV := .sl i 0 c.v c.l.length c.cap false
def Cf.blk (c : Cf) : Blk := .cells (c.l.flatMap entE.enc ++ c.junk) c.v (some 14) true
structure Cf.wf (c : Cf) : Prop where
  hj : c.junk.length = (c.cap - c.l.length) * 14
  hc : c.l.length ≤ c.cap
  ho : c.junk.all AV.one = true
def Cf.del (c : Cf) (k : Nat) : Cf := ⟨c.v, c.cap, zero14 ++ c.junk, c.l.eraseIdx k⟩
def Cf.app (c : Cf) (a : Ent) : Cf := if c.l.length + 1 ≤ c.cap then ⟨c.v, c.cap, c.junk.drop 14, c.l ++ [a]⟩ else ⟨c.v + 1, c.l.length + 1, [], c.l ++ [a]⟩
def Cf.pol (c : Cf) (k : Nat) (p : Pol) : Cf := ⟨c.v, c.cap, c.junk, c.l.set k ⟨p, (c.l.getD k noEnt).granted⟩⟩
noncomputable def sortE (l : List Ent) : List Ent := open Classical in if h : ∃ d, Rises d ∧ ∀ x, x ∈ d ↔ x ∈ l then h.choose else l
noncomputable def Cf.sort (c : Cf) : Cf := ⟨c.v, c.cap, c.junk, sortE c.l⟩
theorem Cf.app_l (c : Cf) (a : Ent) : (c.app a).l = c.l ++ [a] := by unfold Cf.app; split <;> rfl
section
variable {i : Nat} {S : Mem} {c : Cf}
theorem Cf.sp (hw : c.wf) (hB : S[i]? = some c.blk) : Sp i S (c.x i) c.l := ⟨_, _, _, rfl, hB, hw.hj, hw.hc, hw.ho⟩
theorem Cf.lst (hw : c.wf) (hB : S[i]? = some c.blk) : lstV entE S (c.x i) = some c.l := (Cf.sp hw hB).lst
theorem Cf.del_wf (hw : c.wf) {k : Nat} (hk : k < c.l.length) : (c.del k).wf := by
  have hle : (c.l.eraseIdx k).length = c.l.length - 1 := by rw [List.length_eraseIdx, if_pos hk]
  have := hw.hc
  refine ⟨?_, ?_, ?_⟩
  · show (zero14 ++ c.junk).length = (c.cap - (c.l.eraseIdx k).length) * 14
    rw [List.length_append, hw.hj, hle]
    show 14 + _ = _
    omega
  · show (c.l.eraseIdx k).length ≤ c.cap
    rw [hle]; omega
  · show (zero14 ++ c.junk).all AV.one = true
    rw [List.all_append, hw.ho]; rfl
theorem Cf.del_eq (hw : c.wf) (hB : S[i]? = some c.blk) {k : Nat} (hk : k < c.l.length) (hl : c.l.length ≤ 1000000) : delS [c.x i, .i .i64 (k : Int), .i .i64 ((k : Int) + 1)] S = some ((c.del k).x i, S.set i (c.del k).blk) := by
  have hj := hw.hj
  have hlc := hw.hc
  have hcl : (c.l.flatMap entE.enc ++ c.junk).length = c.cap * 14 := by rw [List.length_append, flat14, hj]; omega
  have hone : (c.l.flatMap entE.enc ++ c.junk).all AV.one = true := by rw [List.all_append, hw.ho, all_one entE_one c.l]; rfl
  have hle : (c.l.eraseIdx k).length = c.l.length - 1 := by rw [List.length_eraseIdx, if_pos hk]
  have hB : S[i]? = some (.cells (c.l.flatMap entE.enc ++ c.junk) c.v (some 14) true) := hB
  simp only [delS, Cf.x, hB]
  rw [if_pos ⟨trivial, hcl, hlc, by omega, by omega, trivial, hl, hone⟩, Int.toNat_natCast]
  have hx : c.l.length - 1 = (c.del k).l.length := hle.symm
  have hbk : cutCells (c.l.flatMap entE.enc ++ c.junk) k c.l.length = (c.l.eraseIdx k).flatMap entE.enc ++ (zero14 ++ c.junk) := by
    have he : c.l.eraseIdx k = c.l.take k ++ c.l.drop (k + 1) := List.eraseIdx_eq_take_drop_succ ..
    have t1 : (c.l.flatMap entE.enc ++ c.junk).take (k * 14) = (c.l.take k).flatMap entE.enc := by
      rw [List.take_append_of_le_length (by rw [flat14]; omega)]; exact flat_take (E := entE) c.l k
    have t2 : ((c.l.flatMap entE.enc ++ c.junk).drop ((k + 1) * 14)).take ((c.l.length - (k + 1)) * 14) = (c.l.drop (k + 1)).flatMap entE.enc := by
      rw [List.drop_append_of_le_length (by rw [flat14]; omega)]
      rw [show (c.l.flatMap entE.enc).drop ((k + 1) * 14) = (c.l.drop (k + 1)).flatMap entE.enc from flat_drop (E := entE) c.l (k + 1)]
      rw [List.take_append_of_le_length (by rw [flat14, List.length_drop]; omega), List.take_of_length_le (by rw [flat14, List.length_drop]; omega)]
    have t3 : (c.l.flatMap entE.enc ++ c.junk).drop (c.l.length * 14) = c.junk := by rw [← flat14, List.drop_left]
    unfold cutCells
    rw [t1, t2, t3, he, List.flatMap_append, List.append_assoc, List.append_assoc]
    first | done | simp [List.append_assoc]
  rw [hx, hbk]; rfl
theorem Cf.app_wf (hw : c.wf) (a : Ent) : (c.app a).wf := by
  have hj := hw.hj
  have hlc := hw.hc
  unfold Cf.app
  split
  · rename_i h
    refine ⟨?_, ?_, ?_⟩
    · show (c.junk.drop 14).length = (c.cap - (c.l ++ [a]).length) * 14
      rw [List.length_drop, hj, List.length_append]; simp; omega
    · show (c.l ++ [a]).length ≤ c.cap
      rw [List.length_append]; exact h
    · show (c.junk.drop 14).all AV.one = true
      have := hw.ho
      rw [List.all_eq_true] at this ⊢
      exact fun y hy => this y (List.mem_of_mem_drop hy)
  · refine ⟨?_, ?_, rfl⟩
    · show ([] : List AV).length = (c.l.length + 1 - (c.l ++ [a]).length) * 14
      rw [List.length_append]; simp
    · show (c.l ++ [a]).length ≤ c.l.length + 1
      rw [List.length_append]; exact Nat.le_refl _
theorem Cf.app_eq (hw : c.wf) (hB : S[i]? = some c.blk) (a : Ent) (hl : c.l.length ≤ 1000000) : appV S 14 88 (c.x i) (entE.enc a) 1 = some ((c.app a).x i, S.set i (c.app a).blk) := by
  have hj := hw.hj
  have hlc := hw.hc
  have ha14 : (entE.enc a).length = 14 := rfl
  have hlim1 : (c.l.length + 1) * 88 ≤ lim := by show _ ≤ 140737488355328; omega
  have hlim2 : c.l.length + 1 ≤ lim := by show _ ≤ 140737488355328; omega
  have hB : S[i]? = some (.cells (c.l.flatMap entE.enc ++ c.junk) c.v (some 14) true) := hB
  unfold Cf.app
  by_cases hc : c.l.length + 1 ≤ c.cap
  · rw [if_pos hc]
    simp only [appV, Cf.x, hB]
    rw [if_neg (by omega), if_pos hc, if_pos ⟨trivial, by rw [List.length_append, flat14, hj]; omega, entE_one a⟩]
    have hbk : splice (c.l.flatMap entE.enc ++ c.junk) (0 + c.l.length * 14) (entE.enc a) = (c.l ++ [a]).flatMap entE.enc ++ c.junk.drop 14 := by
      unfold splice
      rw [Nat.zero_add, ha14, ← flat14, List.take_left, List.flatMap_append, List.drop_append, List.drop_of_length_le (by omega), List.nil_append, Nat.add_sub_cancel_left]
      simp [List.append_assoc]
    rw [hbk, List.length_append]; rfl
  · have hcl : c.cap = c.l.length := by omega
    have hj0 : c.junk = [] := List.eq_nil_of_length_eq_zero (by rw [hj]; omega)
    rw [if_neg hc]
    rw [hj0, List.append_nil] at hB
    simp only [appV, Cf.x, hB, Bool.false_eq_true, if_false]
    rw [if_neg (by omega), if_neg hc, if_pos ⟨hlim1, hlim2⟩, if_pos ⟨trivial, trivial, trivial, by rw [flat14]; omega, entE_one a⟩]
    have hbk : (c.l.flatMap entE.enc).take (c.l.length * 14) ++ entE.enc a = (c.l ++ [a]).flatMap entE.enc ++ [] := by
      rw [← flat14, List.take_length, List.append_nil, List.flatMap_append]
      simp
    rw [hbk, List.length_append]; rfl
theorem Cf.pol_wf (hw : c.wf) (k : Nat) (p : Pol) : (c.pol k p).wf := by
  refine ⟨?_, ?_, hw.ho⟩
  · show c.junk.length = (c.cap - (c.l.set k _).length) * 14
    rw [List.length_set]; exact hw.hj
  · show (c.l.set k _).length ≤ c.cap
    rw [List.length_set]; exact hw.hc
theorem Cf.pol_eq (hw : c.wf) {k : Nat} (hk : k < c.l.length) (p : Pol) :
    k * 14 + 13 ≤ (c.l.flatMap entE.enc ++ c.junk).length ∧ (c.l.flatMap entE.enc ++ c.junk).take (k * 14) ++ (p.enc ++ (c.l.flatMap entE.enc ++ c.junk).drop (k * 14 + 13)) = (c.pol k p).l.flatMap entE.enc ++ c.junk := by
  have hcs : k * 14 + 13 ≤ (c.l.flatMap entE.enc).length := by rw [flat14]; omega
  refine ⟨by rw [List.length_append]; omega, ?_⟩
  have hg : c.l.getD k noEnt = c.l[k] := by rw [List.getD_eq_getElem?_getD, List.getElem?_eq_getElem hk]; rfl
  have hsp := splice_at (E := entE) c.l hk ⟨p, c.l[k].granted⟩ (f := 0) (ys := p.enc) (by simp [entE, Pol.enc]) (by rfl)
  have hsp : (c.l.flatMap entE.enc).take (k * 14) ++ p.enc ++ (c.l.flatMap entE.enc).drop (k * 14 + 13) = (c.l.set k ⟨p, c.l[k].granted⟩).flatMap entE.enc := by rw [← hsp]; show _ = (c.l.flatMap entE.enc).take (k * 14 + 0) ++ (p.enc ++ (c.l.flatMap entE.enc).drop (k * 14 + 0 + 13)); simp only [Nat.add_zero, List.append_assoc]
  show _ = (c.l.set k ⟨p, (c.l.getD k noEnt).granted⟩).flatMap entE.enc ++ c.junk
  rw [hg, ← hsp, List.take_append_of_le_length (by omega), List.drop_append_of_le_length (by omega)]
  simp [List.append_assoc]
end

/-! ### Sorting: plain -/
theorem ex_rises : ∀ (l : List Ent), Once l → ∃ d, Rises d ∧ (∀ x, x ∈ d ↔ x ∈ l) ∧ d.length = l.length
  | [], _ => ⟨[], List.Pairwise.nil, fun x => Iff.rfl, rfl⟩
  | a :: l, ho => by
    obtain ⟨h1, h2⟩ := List.pairwise_cons.1 ho
    obtain ⟨d, d1, d2, d3⟩ := ex_rises l h2
    refine ⟨d.filter (fun x => decide (x.pol.sub < a.pol.sub)) ++ a :: d.filter (fun x => decide (a.pol.sub < x.pol.sub)), ?_, fun x => ?_, ?_⟩
    · refine List.pairwise_append.2 ⟨d1.filter _, List.pairwise_cons.2 ⟨fun y hy => ?_, d1.filter _⟩, fun y hy z hz => ?_⟩
      · have := (List.mem_filter.1 hy).2; simpa using this
      · have h3 := (List.mem_filter.1 hy).2
        simp only [decide_eq_true_eq] at h3
        rcases List.mem_cons.1 hz with rfl | hz
        · exact h3
        · have h4 := (List.mem_filter.1 hz).2
          simp only [decide_eq_true_eq] at h4
          omega
    · simp only [List.mem_append, List.mem_cons, List.mem_filter, decide_eq_true_eq]
      constructor
      · rintro (⟨h, _⟩ | h | ⟨h, _⟩)
        · exact .inr ((d2 x).1 h)
        · exact .inl h
        · exact .inr ((d2 x).1 h)
      · rintro (h | h)
        · exact .inr (.inl h)
        · have := h1 x h
          by_cases hlt : x.pol.sub < a.pol.sub
          · exact .inl ⟨(d2 x).2 h, hlt⟩
          · exact .inr (.inr ⟨(d2 x).2 h, by omega⟩)
    · rw [List.length_append, List.length_cons, List.length_cons, ← d3]
      have hne : ∀ x ∈ d, x.pol.sub ≠ a.pol.sub := fun x hx => (h1 x ((d2 x).1 hx)).symm
      clear h1 h2 d1 d2 d3 ho
      induction d with
      | nil => rfl
      | cons b d ih =>
        have ih := ih fun x hx => hne x (by simp [hx])
        have hb := hne b (by simp)
        simp only [List.filter_cons]
        by_cases hlt : b.pol.sub < a.pol.sub
        · have h2 : ¬ a.pol.sub < b.pol.sub := by omega
          simp only [hlt, h2, decide_true, decide_false, if_true, Bool.false_eq_true, if_false, List.length_cons]
          omega
        · have h2 : a.pol.sub < b.pol.sub := by omega
          simp only [hlt, h2, decide_true, decide_false, if_true, Bool.false_eq_true, if_false, List.length_cons]
          omega
theorem sortE_ok {l : List Ent} (ho : Once l) : Rises (sortE l) ∧ (∀ x, x ∈ sortE l ↔ x ∈ l) ∧ (sortE l).length = l.length := by
  obtain ⟨d, d1, d2, d3⟩ := ex_rises l ho
  have hex : ∃ d, Rises d ∧ ∀ x, x ∈ d ↔ x ∈ l := ⟨d, d1, d2⟩
  have h : Rises (sortE l) ∧ ∀ x, x ∈ sortE l ↔ x ∈ l := by
    unfold sortE
    rw [dif_pos hex]; exact hex.choose_spec
  refine ⟨h.1, h.2, ?_⟩
  rw [rises_ext h.1 d1 fun x => (h.2 x).trans (d2 x).symm]; exact d3
theorem sortE_eq {l d : List Ent} (ho : Once l) (hd : Rises d) (hm : ∀ x, x ∈ d ↔ x ∈ l) : d = sortE l :=
  rises_ext hd (sortE_ok ho).1 fun x => (hm x).trans ((sortE_ok ho).2.1 x).symm
end Go.Proofs.YtmdnohpolepcoaaGreat

namespace Go.Proofs.YtmdnohpolepcoaaGreat
open Go.Shelf
def Tryz.laysSort_ren : Go.Shelf.Ren := ⟨fun | 6 => 59 | 15 => 45 | 14 => 85 | 28 => 75 | 29 => 76 | 20 => 96 | 21 => 97 | 22 => 98 | 23 => 99 | 24 => 100 | 25 => 101 | 26 => 102 | 27 => 103 | 46 => 105 | 47 => 90 | 48 => 91 | 49 => 106 | 50 => 107 | 57 => 108 | n => n, fun | 22 => 23 | 24 => 57 | 25 => 108 | 3 => 3 | 39 => 96 | 0 => 0 | 53 => 123 | 55 => 22 | 4 => 4 | 46 => 115 | 45 => 114 | 50 => 120 | 5 => 5 | 9 => 9 | 66 => 133 | 70 => 137 | 76 => 146 | 77 => 147 | n => n, fun | n => n⟩
theorem Tryz.laysSort : Go.Proofs.SlLaysF0.n6 Tryz.prog Tryz.laysSort_ren := {
  mixed := by kernel_rfl
  f6 := ⟨Tryz.f59.name, by decide, Tryz.func59.trans (congrArg some (by kernel_rfl))⟩
  f14 := ⟨Tryz.f85.name, by decide, Tryz.func85.trans (congrArg some (by kernel_rfl))⟩
  f15 := Tryz.func45.trans (congrArg some (by kernel_rfl))
  f20 := ⟨Tryz.f96.name, by decide, Tryz.func96.trans (congrArg some (by kernel_rfl))⟩
  f21 := ⟨Tryz.f97.name, by decide, Tryz.func97.trans (congrArg some (by kernel_rfl))⟩
  f22 := ⟨Tryz.f98.name, by decide, Tryz.func98.trans (congrArg some (by kernel_rfl))⟩
  f23 := ⟨Tryz.f99.name, by decide, Tryz.func99.trans (congrArg some (by kernel_rfl))⟩
  f24 := ⟨Tryz.f100.name, by decide, Tryz.func100.trans (congrArg some (by kernel_rfl))⟩
  f25 := ⟨Tryz.f101.name, by decide, Tryz.func101.trans (congrArg some (by kernel_rfl))⟩
  f26 := ⟨Tryz.f102.name, by decide, Tryz.func102.trans (congrArg some (by kernel_rfl))⟩
  f27 := ⟨Tryz.f103.name, by decide, Tryz.func103.trans (congrArg some (by kernel_rfl))⟩
  f28 := Tryz.func75.trans (congrArg some (by kernel_rfl))
  f29 := Tryz.func76.trans (congrArg some (by kernel_rfl))
  f46 := ⟨Tryz.f105.name, by decide, Tryz.func105.trans (congrArg some (by kernel_rfl))⟩
  f47 := Tryz.func90.trans (congrArg some (by kernel_rfl))
  f48 := Tryz.func91.trans (congrArg some (by kernel_rfl))
  f49 := ⟨Tryz.f106.name, by decide, Tryz.func106.trans (congrArg some (by kernel_rfl))⟩
  f50 := ⟨Tryz.f107.name, by decide, Tryz.func107.trans (congrArg some (by kernel_rfl))⟩
  f57 := ⟨Tryz.f108.name, by decide, Tryz.func108.trans (congrArg some (by kernel_rfl))⟩
  t0 := Tryz.underlying0
  a0 := Tryz.isAgg0
  z0 := Tryz.sizeOf0
  v0 := Tryz.zeroValue0
  t3 := Tryz.underlying3
  a3 := Tryz.isAgg3
  z3 := Tryz.sizeOf3
  v3 := Tryz.zeroValue3
  t4 := Tryz.underlying4
  a4 := Tryz.isAgg4
  z4 := Tryz.sizeOf4
  v4 := Tryz.zeroValue4
  t5 := Tryz.underlying5
  a5 := Tryz.isAgg5
  z5 := Tryz.sizeOf5
  v5 := Tryz.zeroValue5
  t9 := Tryz.underlying9
  a9 := Tryz.isAgg9
  z9 := Tryz.sizeOf9
  v9 := Tryz.zeroValue9
  t22 := Tryz.underlying23
  a22 := Tryz.isAgg23
  z22 := Tryz.sizeOf23
  v22 := Tryz.zeroValue23
  t25 := Tryz.underlying108
  a25 := Tryz.isAgg108
  z25 := Tryz.sizeOf108
  v25 := Tryz.zeroValue108
  t39 := Tryz.underlying96
  a39 := Tryz.isAgg96
  z39 := Tryz.sizeOf96
  v39 := Tryz.zeroValue96
  t45 := Tryz.underlying114
  a45 := Tryz.isAgg114
  z45 := Tryz.sizeOf114
  v45 := Tryz.zeroValue114
  t46 := Tryz.underlying115
  a46 := Tryz.isAgg115
  z46 := Tryz.sizeOf115
  v46 := Tryz.zeroValue115
  t50 := Tryz.underlying120
  a50 := Tryz.isAgg120
  z50 := Tryz.sizeOf120
  v50 := Tryz.zeroValue120
  t53 := Tryz.underlying123
  a53 := Tryz.isAgg123
  z53 := Tryz.sizeOf123
  v53 := Tryz.zeroValue123
  t55 := Tryz.underlying22
  a55 := Tryz.isAgg22
  z55 := Tryz.sizeOf22
  v55 := Tryz.zeroValue22
  t66 := Tryz.underlying133
  a66 := Tryz.isAgg133
  z66 := Tryz.sizeOf133
  v66 := Tryz.zeroValue133
  t70 := Tryz.underlying137
  a70 := Tryz.isAgg137
  z70 := Tryz.sizeOf137
  v70 := Tryz.zeroValue137
  t76 := Tryz.underlying146
  a76 := Tryz.isAgg146
  z76 := Tryz.sizeOf146
  v76 := Tryz.zeroValue146
  t77 := Tryz.underlying147
  a77 := Tryz.isAgg147
  z77 := Tryz.sizeOf147
  v77 := Tryz.zeroValue147 }
end Go.Proofs.YtmdnohpolepcoaaGreat

namespace Go.Proofs.YtmdnohpolepcoaaGreat
open Go.RowKit Go.Sort
set_option linter.unusedSimpArgs false
set_option linter.unusedVariables false
set_option maxRecDepth 10000

noncomputable def sortS : Spec := fun args S => match args with
  | [.sl i 0 v n cap false, .f (.func f) [] []] => open Classical in if h : f = 60 ∧ ∃ c : Cf, c.wf ∧ Once c.l ∧ c.l.length ≤ 1000000 ∧ v = c.v ∧ n = c.l.length ∧ cap = c.cap ∧ S[i]? = some c.blk then
      some (.tu [], S.set i h.2.choose.sort.blk) else none
  | _ => none
theorem cf_same {S : Mem} {i : Nat} {c c' : Cf} (h1 : c.v = c'.v) (h2 : c.l.length = c'.l.length) (h3 : c.cap = c'.cap) (h4 : S[i]? = some c.blk) (h5 : S[i]? = some c'.blk) : c = c' := by
  obtain ⟨v, cap, junk, l⟩ := c
  obtain ⟨v', cap', junk', l'⟩ := c'
  simp only at h1 h2 h3
  subst h1 h3
  rw [h4] at h5
  simp only [Cf.blk, Option.some.injEq, Blk.cells.injEq, and_true] at h5
  have h6 : (l.flatMap entE.enc).length = (l'.flatMap entE.enc).length := by rw [flat14, flat14, h2]
  obtain ⟨h7, h8⟩ := List.append_inj h5 h6
  have h9 : l = l' := by
    have e1 := decL_enc (E := entE) l
    have e2 := decL_enc (E := entE) l'
    rw [h7, h2] at e1
    rw [e1] at e2
    exact Option.some.inj e2
  rw [h9, h8]
theorem sort_eq {S : Mem} {i : Nat} {c : Cf} (hw : c.wf) (ho : Once c.l) (hl : c.l.length ≤ 1000000) (hB : S[i]? = some c.blk) : sortS [c.x i, .f (.func 60) [] []] S = some (.tu [], S.set i c.sort.blk) := by
  have hex : 60 = 60 ∧ ∃ c' : Cf, c'.wf ∧ Once c'.l ∧ c'.l.length ≤ 1000000 ∧ c.v = c'.v ∧ c.l.length = c'.l.length ∧ c.cap = c'.cap ∧ S[i]? = some c'.blk := ⟨rfl, c, hw, ho, hl, rfl, rfl, rfl, hB⟩
  simp only [sortS, Cf.x]
  rw [dif_pos hex]
  obtain ⟨_, _, _, g1, g2, g3, g4⟩ := hex.2.choose_spec
  exact congrArg (fun q : Cf => some (AV.tu [], S.set i q.sort.blk)) (cf_same g1 g2 g3 hB g4).symm
theorem swo_sub : SWO (ltOf fun x y : Ent => cmpI x.pol.sub y.pol.sub) := by
  have e : ∀ x y : Ent, ltOf (fun x y : Ent => cmpI x.pol.sub y.pol.sub) x y = decide (x.pol.sub < y.pol.sub) := fun x y => by
    unfold ltOf
    simp only
    exact decide_eq_decide.2 cmpI_neg
  refine ⟨fun x => ?_, fun x y z h1 h2 => ?_, fun x y z h1 h2 => ?_⟩
  · rw [e]; simp
  · rw [e] at h1 h2 ⊢
    simp only [decide_eq_true_eq] at h1 h2 ⊢
    omega
  · rw [e] at h1 h2 ⊢
    simp only [decide_eq_false_iff_not] at h1 h2 ⊢
    omega
theorem sort_ok : SpecOK Tryz.prog 59 sortS := by
  intro args S x S' h
  unfold sortS at h
  split at h
  · rename_i i v n cap f
    split at h
    · rename_i hex
      obtain ⟨rfl, hc⟩ := hex
      simp only [Option.some.injEq, Prod.mk.injEq] at h
      obtain ⟨rfl, rfl⟩ := h
      have sp := hc.choose_spec
      revert sp
      generalize hc.choose = c
      intro sp
      obtain ⟨hw, ho, hl, rfl, rfl, rfl, hB⟩ := sp
      clear hc
      refine ⟨by kernel_rfl, fun base w0 K w vs hΛ hA hS => ?_⟩
      obtain ⟨v1, v2, hvs⟩ : ∃ v1 v2, vs.toList = [v1, v2] := by
        match hh : vs.toList, hA.1 with
        | [p, q], _ => exact ⟨p, q, rfl⟩
      rw [hvs] at hA
      have q1 : VR K S (.sl i 0 c.v c.l.length c.cap false) v1 := hA.2 0 (by simp) (by simp)
      have q2 : VR K S (.f (.func 60) [] []) v2 := hA.2 1 (by simp) (by simp)
      have hvs' : vs = #[v1, v2] := by rw [← Array.toArray_toList (xs := vs), hvs]
      subst hvs'
      have hB : S[i]? = some (.cells (c.l.flatMap entE.enc ++ c.junk) c.v (some 14) true) := hB
      cases q1 with
      | sl _ _ _ _ _ _ a cc B h1 h2 h3 h4 h5 h6 =>
        rw [hB] at h1
        injection h1 with h1
        subst h1
        obtain ⟨rfl, _⟩ := h6 rfl
        cases q2 with
        | f _ _ _ x' y' hx hy hhx hhy =>
          have hx0 : x' = #[] := Array.eq_empty_of_size_eq_zero hx.symm
          have hy0 : y' = #[] := Array.eq_empty_of_size_eq_zero hy.symm
          subst hx0 hy0
          have hH := holds_of_sim hS hB
          have hblk : K.μ i < w.heap.size := by
            obtain ⟨ar, et, fz, g1, _⟩ := hS.blk i _ hB
            exact (Array.getElem?_eq_some_iff.1 g1).1
          have hk := AnyQ.slices_SortFunc Tryz.laysSort 14 Tryz.isAgg57 Tryz.sizeOf57 entV entV_len entV_cell (fun x y : Ent => cmpI x.pol.sub y.pol.sub) swo_sub 60 #[] (K.μ i) 0 cc c.l.toArray w
            (fun args w => run_callFunc (by kernel_rfl) args) (fun m os dk hs x y => closure_calls x y _) hH hblk (by simp; omega)
          have hk' : Calls Tryz.prog 59 #[.slice (some ⟨K.μ i, 0, none⟩) c.l.length cc, .func (.func 60) #[] #[]] w _ := hk
          refine hk'.mono fun e w' hp => ?_
          obtain ⟨rfl, d', n, os, hpm, hso, rfl⟩ := hp
          obtain ⟨p1, p2, p3⟩ := hpm
          have hsz : d'.size = c.l.length := by rw [p1]; simp
          have hd : d'.toList.length = c.l.length := by rw [Array.length_toList, hsz]
          have hperm : d'.toList.Perm c.l := by
            have e1 : d'.extract 0 c.l.toArray.size = d' := by
              rw [show c.l.toArray.size = d'.size by rw [hsz]; simp]; simp
            have e2 : c.l.toArray.extract 0 c.l.toArray.size = c.l.toArray := by simp
            rw [e1, e2] at p3
            simpa using p3
          have hri := rises_of_sorted hperm ho fun i j hij hj => by
            have hj' : j < d'.size := by simpa using hj
            have hh := hso i j (Nat.zero_le _) hij (by rw [show c.l.toArray.size = d'.size by rw [hsz]; simp]; exact hj')
            have e1 : d'[j]! = d'.toList[j] := by rw [getElem!_pos d' j hj']; simp
            have e2 : d'[i]! = d'.toList[i]'(by omega) := by rw [getElem!_pos d' i (by omega)]; simp
            rw [e1, e2] at hh
            unfold ltOf at hh
            simpa using hh
          have hde : d'.toList = sortE c.l := sortE_eq ho hri.1 hri.2
          obtain ⟨r1, r2⟩ := sim_sorted hS hB hsz n os
          have hbk : c.sort.blk = .cells (d'.toList.flatMap entE.enc ++ c.junk) c.v (some 14) true := by rw [hde]; rfl
          rw [hbk]
          exact ⟨K, _, rfl, .tu [] #[] rfl fun k => .u _, r1, r2⟩
    · cases h
  · cases h
end Go.Proofs.YtmdnohpolepcoaaGreat

namespace Go.Proofs.YtmdnohpolepcoaaGreat
open Go.RowKit
set_option linter.unusedSimpArgs false
set_option linter.unusedVariables false
set_option maxRecDepth 10000

def dropC : List Int → Cf → Cf × Bool
  | [], c => (c, true)
  | id :: ds, c => match c.l.findIdx? (hasSub id) with
    | some k => dropC ds (c.del k)
    | none => (c, false)
def putC : List Pol → Cf → Cf
  | [], c => c
  | p :: ps, c => match c.l.findIdx? (hasSub p.sub) with
    | some k => putC ps (c.pol k p)
    | none => putC ps (c.app ⟨p, 0⟩)
theorem dropC_all : ∀ (ds : List Int) (c : Cf), dropAll ds c.l = if (dropC ds c).2 = true then some (dropC ds c).1.l else none
  | [], c => rfl
  | id :: ds, c => by
    cases h : c.l.findIdx? (hasSub id) with
    | none => simp only [dropAll, dropC, h]; rfl
    | some k => simp only [dropAll, dropC, h]; exact dropC_all ds (c.del k)
theorem putC_all : ∀ (ps : List Pol) (c : Cf), (putC ps c).l = putAll ps c.l
  | [], c => rfl
  | p :: ps, c => by
    cases h : c.l.findIdx? (hasSub p.sub) with
    | none => simp only [putAll, putC, h]; exact (putC_all ps (c.app ⟨p, 0⟩)).trans (by rw [Cf.app_l])
    | some k => simp only [putAll, putC, h]; exact putC_all ps (c.pol k p)
def commitOk (l : List Ent) (e : Evt) : Prop := Once l ∧ e.drops.Nodup ∧ (e.puts.Pairwise fun p q => p.sub ≠ q.sub) ∧ l.length + e.puts.length ≤ 1000000 ∧ e.drops.length ≤ 1000000

/-- A list that is empty and has no block of its own to grow in. -/
def noX (S : Mem) : AV → Bool
  | .sn => true
  | .sl i 0 0 0 0 true => match S[i]? with
    | some (.cells [] 0 none true) => true
    | _ => false
  | _ => false
theorem noX_cases {S : Mem} {x : AV} (h : noX S x = true) : x = .sn ∨ ∃ i, x = .sl i 0 0 0 0 true ∧ S[i]? = some (.cells [] 0 none true) := by
  unfold noX at h
  split at h
  · exact .inl rfl
  · rename_i i
    split at h
    · rename_i hB; exact .inr ⟨i, rfl, hB⟩
    · cases h
  · cases h
def bs (md : Option Nat) (S : Mem) : Mem := match md with
  | some i => S.take i
  | none => S
/-- The list in its own block ('md': the block's number), or in no block yet, or in a new block. -/
def Kx (S M : Mem) (md : Option Nat) (x : AV) (c : Cf) : Prop := match md with
  | some i => x = c.x i ∧ c.wf ∧ i < S.length ∧ ∃ L, M = S.set i c.blk ++ L
  | none => S <+: M ∧ ((c.l = [] ∧ noX S x = true) ∨ ∃ (p : Nat) (c' : Cf), c'.l = c.l ∧ c'.wf ∧ x = c'.x (S.length + p) ∧ M[S.length + p]? = some c'.blk)
section
variable {S M : Mem} {md : Option Nat} {x : AV} {c : Cf}
theorem set_at {i : Nat} {B : Blk} (h : i < S.length) : (S.set i B)[i]? = some B := by simp [h]
theorem Kx.blk {i : Nat} (h : Kx S M (some i) x c) : M[i]? = some c.blk := by
  obtain ⟨_, _, hi, L, rfl⟩ := h
  exact at_old (set_at hi)
theorem Kx.ext (h : Kx S M md x c) : bs md S <+: M := by
  cases md with
  | none => exact h.1
  | some i =>
    obtain ⟨_, _, hi, L, rfl⟩ := h
    refine ext_more ?_ L
    show S.take i <+: S.set i c.blk
    rw [List.set_eq_take_append_cons_drop, if_pos hi]
    exact List.prefix_append _ _
theorem Kx.grow (h : Kx S M md x c) (U : Mem) : Kx S (M ++ U) md x c := by
  cases md with
  | none =>
    refine ⟨ext_more h.1 U, ?_⟩
    rcases h.2 with h | ⟨p, c', h1, h2, h3, h4⟩
    · exact .inl h
    · exact .inr ⟨p, c', h1, h2, h3, at_old h4⟩
  | some i =>
    obtain ⟨h1, h2, hi, L, rfl⟩ := h
    exact ⟨h1, h2, hi, L ++ U, by rw [List.append_assoc]⟩
theorem Kx.lst (h : Kx S M md x c) : lstV entE M x = some c.l := by
  cases md with
  | none =>
    obtain ⟨hS, ⟨h1, h2⟩ | ⟨p, c', h1, h2, h3, h4⟩⟩ := h
    · rw [h1]
      rcases noX_cases h2 with rfl | ⟨i, rfl, hB⟩
      · rfl
      · have hB' := at_pre hS hB
        refine lst_lstV (.inr (.inr ⟨_, _, _, _, _, _, rfl, rfl, ?_⟩))
        rw [rowAt_B, hB']; rfl
    · rw [h3, ← h1]; exact Cf.lst h2 h4
  | some i =>
    have hB := h.blk
    obtain ⟨rfl, h2, hi, L, rfl⟩ := h
    exact Cf.lst h2 hB
theorem Kx.del {i : Nat} (h : Kx S M (some i) x c) {k : Nat} (hk : k < c.l.length) (hl : c.l.length ≤ 1000000) :
    ∃ x' M', delS [x, .i .i64 (k : Int), .i .i64 ((k : Int) + 1)] M = some (x', M') ∧ Kx S M' (some i) x' (c.del k) ∧ M' = M.set i (c.del k).blk := by
  have hB := h.blk
  obtain ⟨rfl, h2, hi, L, rfl⟩ := h
  have hs : ∀ U : Mem, (S.set i c.blk ++ U).set i (c.del k).blk = S.set i (c.del k).blk ++ U := fun U => by rw [set_old (set_at hi), List.set_set]
  exact ⟨_, _, Cf.del_eq h2 hB hk hl, ⟨rfl, Cf.del_wf h2 hk, hi, L, hs L⟩, rfl⟩
theorem Kx.app (h : Kx S M md x c) (a : Ent) (hl : c.l.length ≤ 1000000) : ∃ x' M', appV M 14 88 x (entE.enc a) 1 = some (x', M') ∧ Kx S M' md x' (c.app a) := by
  cases md with
  | none =>
    obtain ⟨hS, ⟨h1, h2⟩ | ⟨p, c', h1, h2, h3, h4⟩⟩ := h
    · obtain ⟨T, rfl⟩ := hS
      refine ⟨.sl (S ++ T).length 0 0 1 1 false, (S ++ T) ++ [.cells (entE.enc a) 0 (some 14) true], ?_, ext_more (ext_app _) _, .inr ⟨T.length, ⟨0, 1, [], [a]⟩, ?_, ⟨rfl, Nat.le_refl _, rfl⟩, ?_, ?_⟩⟩
      · rcases noX_cases h2 with rfl | ⟨i, rfl, hB⟩
        · simp only [appV]
          rw [if_neg (by omega), if_pos ⟨by decide, by decide⟩]
        · have hc : rowAt (S ++ T) i 0 0 (0 * 14) = some [] := by rw [rowAt_B, at_old hB]; rfl
          simp only [appV, hc]
          rw [if_neg (by omega), if_neg (by omega), if_pos ⟨by decide, by decide⟩]
          rfl
      · rw [Cf.app_l, h1]; rfl
      · rw [List.length_append]; rfl
      · rw [← List.length_append, at_app0]
        show some (Blk.cells (entE.enc a) 0 (some 14) true) = some (.cells ([a].flatMap entE.enc ++ []) 0 (some 14) true)
        simp
    · refine ⟨_, _, by rw [h3]; exact Cf.app_eq h2 h4 a (by rw [h1]; exact hl), ext_set hS (by omega) _, .inr ⟨p, c'.app a, by rw [Cf.app_l, Cf.app_l, h1], Cf.app_wf h2 a, rfl, at_set h4⟩⟩
  | some i =>
    have hB := h.blk
    obtain ⟨rfl, h2, hi, L, rfl⟩ := h
    exact ⟨_, _, Cf.app_eq h2 hB a hl, rfl, Cf.app_wf h2 a, hi, L, by rw [set_old (set_at hi), List.set_set]⟩
theorem Kx.pol (h : Kx S M md x c) {k : Nat} (hk : k < c.l.length) (p : Pol) :
    ∃ i cs v cap, x = .sl i 0 v c.l.length cap false ∧ M[i]? = some (.cells cs v (some 14) true) ∧ k * 14 + 13 ≤ cs.length ∧ Kx S (M.set i (.cells (cs.take (k * 14) ++ (p.enc ++ cs.drop (k * 14 + 13))) v (some 14) true)) md x (c.pol k p) := by
  cases md with
  | none =>
    obtain ⟨hS, ⟨h1, h2⟩ | ⟨q, c', h1, h2, h3, h4⟩⟩ := h
    · rw [h1] at hk; cases hk
    · have hk' : k < c'.l.length := by rw [h1]; exact hk
      obtain ⟨g1, g2⟩ := Cf.pol_eq h2 hk' p
      refine ⟨S.length + q, _, c'.v, c'.cap, by rw [h3, ← h1]; rfl, h4, g1, ext_set hS (by omega) _, .inr ⟨q, c'.pol k p, ?_, Cf.pol_wf h2 k p, ?_, ?_⟩⟩
      · show c'.l.set k _ = c.l.set k _
        rw [h1]
      · rw [h3]
        show AV.sl _ 0 c'.v c'.l.length c'.cap false = AV.sl _ 0 c'.v (c'.l.set k _).length c'.cap false
        rw [List.length_set]
      · rw [at_set h4, g2]; rfl
  | some i =>
    have hB := h.blk
    obtain ⟨rfl, h2, hi, L, rfl⟩ := h
    obtain ⟨g1, g2⟩ := Cf.pol_eq h2 hk p
    refine ⟨i, _, c.v, c.cap, rfl, hB, g1, ?_, Cf.pol_wf h2 k p, hi, L, ?_⟩
    · show AV.sl _ 0 c.v c.l.length c.cap false = AV.sl _ 0 c.v (c.l.set k _).length c.cap false
      rw [List.length_set]
    · rw [set_old (set_at hi), List.set_set, g2]; rfl
end
theorem putC_app {p : Pol} {ps : List Pol} {c : Cf} (h : c.l.findIdx? (hasSub p.sub) = none) : putC (p :: ps) c = putC ps (c.app ⟨p, 0⟩) := by simp only [putC, h]
theorem putC_pol {p : Pol} {ps : List Pol} {c : Cf} {k : Nat} (h : c.l.findIdx? (hasSub p.sub) = some k) : putC (p :: ps) c = putC ps (c.pol k p) := by simp only [putC, h]
theorem dropC_none {id : Int} {ds : List Int} {c : Cf} (h : c.l.findIdx? (hasSub id) = none) : dropC (id :: ds) c = (c, false) := by simp only [dropC, h]
theorem dropC_some {id : Int} {ds : List Int} {c : Cf} {k : Nat} (h : c.l.findIdx? (hasSub id) = some k) : dropC (id :: ds) c = dropC ds (c.del k) := by simp only [dropC, h]
end Go.Proofs.YtmdnohpolepcoaaGreat

namespace Go.Proofs.YtmdnohpolepcoaaGreat
open Go.RowKit
set_option linter.unusedSimpArgs false
set_option linter.unusedVariables false
set_option maxRecDepth 10000

theorem oCo_ok : OK Tryz.prog (lamOf Tryz.prog) (orcOf [(30, placeS), (58, delS), (59, sortS)]) := orc_ok (by simpa using ⟨place_ok, del_ok, sort_ok⟩)
theorem commit_walk {S : Mem} {x : AV} {ce : List AV} {md : Option Nat} {c0 : Cf} {ev : Evt} {rx : AV} {rS : Mem} (hK : Kx S S md x c0) (hn : md = none → c0.l = []) (hev : evtOf (bs md S) ce = some ev) (hok : commitOk c0.l ev)
    (hF : (dropC ev.drops c0).2 = false → ∀ x' c M, Kx S M md x' c → c.v = c0.v → WkV S rx rS (.tu [.sn, .b false]) M)
    (hT : (dropC ev.drops c0).2 = true → ∀ x' M, Kx S M md x' (putC ev.puts (dropC ev.drops c0).1) → ∃ M', sortS [x', .f (.func 60) [] []] M = some (.tu [], M') ∧ WkV S rx rS (.tu [x', .b true]) M') :
    FnOK Tryz.prog 38 [x, .ag ce] S rx rS := by
  obtain ⟨xp, xd, rfl, hp, hd⟩ := evtOf_ok hev
  obtain ⟨k0, s0, ps, ds, g0, q0⟩ := ev
  obtain ⟨ho, hdn, hpn, hlim, hlim2⟩ := hok
  simp only at hp hd hF hT ho hdn hpn hlim hlim2
  refine fn_of_wp f38 rfl (W_sound oCo_ok mixed _ _ _ _ _ ?_)
  simp (maxSteps := 1000000) (disch := omega) only [c38, lst_cells hp, lst_cells hd, lst_len hd, List.replicate, go_sem]
  obtain ⟨evb, hevb⟩ : ∃ evb : Blk, evb = .cells [.i .i64 k0, .i .i64 s0, xp, xd, .i .u64 g0, .i .u64 q0] 0 none true := ⟨_, rfl⟩
  refine wp_loop (fun j e M dl => dl = [] ∧ ∃ (t : Nat) (c : Cf) (x' : AV), j = ds.length - t ∧ t ≤ ds.length ∧ Kx S M md x' c ∧ M[S.length]? = some evb ∧ dropC (ds.drop t) c = dropC ds c0 ∧ c.v = c0.v ∧ c.l.length ≤ c0.l.length ∧ (md = none → c.l = []) ∧
    e.get 13 = xd ∧ e.get 3 = .p S.length 0 0 ∧ e.get 14 = .i .i64 ds.length ∧ e.get 15 = .i .i64 t ∧ e.get 0 = x') (j := ds.length)
    ⟨rfl, 0, c0, x, rfl, Nat.zero_le _, hK.grow _, by rw [hevb, at_app0]; rfl, by rw [List.drop_zero], rfl, Nat.le_refl _, hn, rfl, rfl, rfl, rfl, rfl⟩ ?_
  rintro j e M d' ⟨rfl, t, c, x', rfl, ht, hKx, hE, hdc, hv, hcl, hmn, e13, e3, e14, e15, e0⟩
  refine W_sound oCo_ok mixed _ _ _ _ _ ?_
  have hpl := fun (n : Int) => place_eq hKx.lst n (by omega)
  have hbdE := hKx.ext
  have hpM := lst_ext hp hbdE
  have hdM := lst_ext hd hbdE
  by_cases htl : t < ds.length
  · obtain ⟨bi, o, v, cap, ex, rfl⟩ := lst_sl hd htl
    have hc := lstV_cell hdM rfl (fun a => rfl) htl []
    rw [List.append_nil] at hc
    have htI : (t : Int) < ds.length := by omega
    have hw1 : wrapV .i64 ((t : Int) + 1) = ((t + 1 : Nat) : Int) := by rw [wrap_i64 (by omega) (by omega)]; omega
    have hdr : ds.drop t = ds[t] :: ds.drop (t + 1) := List.drop_eq_getElem_cons htl
    rw [hdr] at hdc
    cases hi : c.l.findIdx? (hasSub ds[t]) with
    | none =>
      rw [dropC_none hi] at hdc
      simp (maxSteps := 1000000) (disch := omega) only [c38l0, e13, e3, e14, e15, e0, htI, Int.toNat_natCast, Nat.mul_one, hc, orc_cons, hpl, idx_eq_none hi, go_sem]
      exact hF (by rw [← hdc]) _ _ _ hKx hv
    | some k =>
      obtain ⟨hk, _, _⟩ := List.findIdx?_eq_some_iff_getElem.1 hi
      rw [dropC_some hi] at hdc
      have hk0 : ¬ ((k : Int) < 0) := by omega
      have hwk : wrapV .i64 ((k : Int) + 1) = (k : Int) + 1 := by rw [wrap_i64 (by omega) (by omega)]
      cases md with
      | none => rw [hmn rfl] at hk; cases hk
      | some i =>
        obtain ⟨x2, M2, hde, hK2, hM2⟩ := hKx.del hk (by omega)
        have hiS : i < S.length := hKx.2.2.1
        have hE2 : M2[S.length]? = some evb := by rw [hM2, at_set_ne (by omega)]; exact hE
        simp (maxSteps := 1000000) (disch := omega) only [c38l0, e13, e3, e14, e15, e0, htI, Int.toNat_natCast, Nat.mul_one, hc, orc_cons, hpl, idx_eq_some hi, hk0, hwk, hde, hw1, go_sem]
        refine ⟨ds.length - (t + 1), by omega, t + 1, c.del k, x2, rfl, htl, hK2, hE2, hdc, hv, ?_, rfl, rfl⟩
        have : (c.l.eraseIdx k).length ≤ c.l.length := List.length_eraseIdx_le ..
        exact Nat.le_trans this hcl
  · have htI : ¬ (t : Int) < ds.length := by omega
    obtain rfl : t = ds.length := by omega
    rw [List.drop_length] at hdc
    have hc1 : (dropC ds c0).2 = true ∧ (dropC ds c0).1 = c := by rw [← hdc]; exact ⟨rfl, rfl⟩
    rw [hc1.2] at hT
    have hT := hT hc1.1
    rw [hevb] at hE
    simp (maxSteps := 1000000) (disch := omega) only [c38l0, e13, e3, e14, e15, e0, htI, hE, lst_len hp, go_sem]
    refine wp_loop (fun j e M dl => dl = [] ∧ ∃ (t : Nat) (c1 : Cf) (x1 : AV), j = ps.length - t ∧ t ≤ ps.length ∧ Kx S M md x1 c1 ∧ putC (ps.drop t) c1 = putC ps c ∧ c1.l.length ≤ c.l.length + t ∧ e.get 0 = x1 ∧ e.get 31 = xp ∧ e.get 32 = .i .i64 ps.length ∧ e.get 33 = .i .i64 t) (j := ps.length)
      ⟨rfl, 0, c, x', rfl, Nat.zero_le _, hKx, by rw [List.drop_zero], Nat.le_refl _, rfl, rfl, rfl, rfl⟩ ?_
    clear hE hpl hbdE hpM hdM e13 e3 e14 e0 e15 hKx
    rintro j2 e2 M2 d2 ⟨rfl, t, c1, x1, rfl, ht2, hK1, hpc, hl1, g0', g31, g32, g33⟩
    refine W_sound oCo_ok mixed _ _ _ _ _ ?_
    have hpM := lst_ext hp hK1.ext
    have hpl := fun (L : Mem) (n : Int) => place_eq (hK1.grow L).lst n (by omega)
    by_cases htl : t < ps.length
    · obtain ⟨bi, o, v, cap, ex, rfl⟩ := lst_sl hp htl
      have hr := lstV_row hpM htl []
      rw [List.append_nil] at hr
      have hdr : ps.drop t = ps[t] :: ps.drop (t + 1) := List.drop_eq_getElem_cons htl
      rw [hdr] at hpc
      generalize ps[t] = p at hr hpc
      have hr : rowB (M2[bi]?) (o + t * 13) v 13 = some p.enc := hr
      have htI : (t : Int) < ps.length := by omega
      have hw1 : wrapV .i64 ((t : Int) + 1) = ((t + 1 : Nat) : Int) := by rw [wrap_i64 (by omega) (by omega)]; omega
      cases hi : c1.l.findIdx? (hasSub p.sub) with
      | none =>
        rw [putC_app hi] at hpc
        obtain ⟨x2, M3, ha, hK2⟩ := (hK1.grow [.cells p.enc 0 none true, .cells (entE.enc ⟨p, 0⟩) 0 none true]).app ⟨p, 0⟩ (by omega)
        simp only [entE, Ent.enc, Pol.enc] at ha hr
        simp (maxSteps := 1000000) (disch := omega) only [c38l1, g0', g31, g32, g33, htI, Int.toNat_natCast, hr, orc_cons, hpl, idx_eq_none hi, hw1, ha, go_sem]
        refine ⟨ps.length - (t + 1), by omega, t + 1, c1.app ⟨p, 0⟩, x2, rfl, htl, hK2, hpc, ?_, rfl, rfl⟩
        rw [Cf.app_l, List.length_append]
        show c1.l.length + 1 ≤ _
        omega
      | some k =>
        obtain ⟨hk, _, _⟩ := List.findIdx?_eq_some_iff_getElem.1 hi
        rw [putC_pol hi] at hpc
        have hk0 : (k : Int) ≥ 0 := by omega
        obtain ⟨i, cs, v', cap', rfl, hB, hcs, hK2⟩ := (hK1.grow [.cells p.enc 0 none true]).pol hk p
        simp only [Pol.enc] at hr hK2 hB
        simp (maxSteps := 1000000) (disch := omega) only [c38l1, g0', g31, g32, g33, htI, Int.toNat_natCast, hr, orc_cons, hpl, idx_eq_some hi, hw1, hk0, go_sem]
        rw [hB]
        simp only [stB, splice]
        rw [if_pos ⟨trivial, rfl, hcs, rfl⟩]
        simp only [List.append_assoc, List.length_cons, List.length_nil]
        simp (maxSteps := 1000000) (disch := omega) only [go_sem]
        refine ⟨ps.length - (t + 1), by omega, t + 1, c1.pol k p, _, rfl, htl, hK2, hpc, ?_, rfl, rfl⟩
        have : (c1.pol k p).l.length = c1.l.length := List.length_set ..
        omega
    · have htI : ¬ (t : Int) < ps.length := by omega
      obtain rfl : t = ps.length := by omega
      rw [List.drop_length] at hpc
      have hpc : c1 = putC ps c := hpc
      subst hpc
      obtain ⟨M', hs, hwk⟩ := hT x1 M2 hK1
      simp (maxSteps := 1000000) (disch := omega) only [c38l1, g0', g31, g32, g33, htI, orc_cons, hs, go_sem]
      exact hwk
end Go.Proofs.YtmdnohpolepcoaaGreat

namespace Go.Proofs.YtmdnohpolepcoaaGreat
open Go.RowKit
set_option linter.unusedSimpArgs false
set_option linter.unusedVariables false
set_option maxRecDepth 10000

noncomputable def endX (i v : Nat) (d : List Ent) : AV := open Classical in if d = [] then .se else .sl i 0 v d.length d.length false
noncomputable def commitR (i : Nat) (c0 : Cf) (e : Evt) (S : Mem) : AV × Mem :=
  if (dropC e.drops c0).2 = true then
    (.tu [endX i (putC e.puts (dropC e.drops c0).1).v (sortE (putC e.puts (dropC e.drops c0).1).l), .b true], S.set i (.cells ((sortE (putC e.puts (dropC e.drops c0).1).l).flatMap entE.enc) (putC e.puts (dropC e.drops c0).1).v (some 14) true))
  else (.tu [.sn, .b false], S.set i (.cells [] c0.v (some 14) true))
noncomputable def commitR0 (e : Evt) (S : Mem) : AV × Mem := match e.drops with
  | [] => (.tu [retX false S (sortE (putAll e.puts [])), .b true], retM false entE S (sortE (putAll e.puts [])))
  | _ :: _ => (.tu [.sn, .b false], S)
noncomputable def commitS : Spec := fun args S => match args with
  | [x, .ag ce] => open Classical in if noX S x = true then match evtOf S ce with
      | some e => if commitOk [] e ∧ (e.drops ≠ [] ∨ e.puts ≠ []) then some (commitR0 e S) else none
      | none => none
    else match x with
      | .sl i 0 v n cap false => match ownV entE S (.sl i 0 v n cap false), evtOf (S.take i) ce with
        | some l, some e => if commitOk l e ∧ ∃ cs, S[i]? = some (.cells cs v (some 14) true) then some (commitR i ⟨v, n, [], l⟩ e S) else none
        | _, _ => none
      | _ => none
  | _ => none
theorem putC_len : ∀ (ps : List Pol) (c : Cf), (putC ps c).l.length ≤ c.l.length + ps.length
  | [], c => Nat.le_refl _
  | p :: ps, c => by
    cases h : c.l.findIdx? (hasSub p.sub) with
    | none =>
      have := putC_len ps (c.app ⟨p, 0⟩)
      rw [Cf.app_l, List.length_append] at this
      simp only [putC, h, List.length_cons, List.length_nil] at this ⊢; omega
    | some k =>
      have := putC_len ps (c.pol k p)
      have h2 : (c.pol k p).l.length = c.l.length := List.length_set ..
      simp only [putC, h, List.length_cons]; omega
theorem dropC_len : ∀ (ds : List Int) (c : Cf), (dropC ds c).1.l.length ≤ c.l.length
  | [], c => Nat.le_refl _
  | id :: ds, c => by
    cases h : c.l.findIdx? (hasSub id) with
    | none => simp only [dropC, h]; exact Nat.le_refl _
    | some k =>
      have := dropC_len ds (c.del k)
      have h2 : (c.del k).l.length ≤ c.l.length := List.length_eraseIdx_le ..
      simp only [dropC, h]; omega
theorem once_drop {c : Cf} {ds : List Int} (ho : Once c.l) (hn : ds.Nodup) (h : (dropC ds c).2 = true) : Once (dropC ds c).1.l := by
  have h1 := dropAll_ok ds c.l hn ho
  rw [dropC_all, if_pos h] at h1
  exact h1.1
theorem once_put {c : Cf} {ps : List Pol} (ho : Once c.l) (hn : ps.Pairwise fun p q => p.sub ≠ q.sub) : Once (putC ps c).l := by
  rw [putC_all]; exact (putAll_ok ps c.l hn ho).1
theorem putAll_ne : ∀ (ps : List Pol) (l : List Ent), l ≠ [] → putAll ps l ≠ []
  | [], l, h => h
  | p :: ps, l, h => by
    simp only [putAll]
    split
    · exact putAll_ne ps _ (by simpa using h)
    · exact putAll_ne ps _ (by simp)
theorem sortE_ne {l : List Ent} (ho : Once l) (h : l ≠ []) : sortE l ≠ [] := by
  have := (sortE_ok ho).2.2
  intro q
  rw [q] at this
  exact h (List.eq_nil_of_length_eq_zero this.symm)
theorem set_flat {S : Mem} {i : Nat} {d : List Ent} {v : Nat} {j : Nat} {B : Blk} (h : (S.set i (.cells (d.flatMap entE.enc) v (some 14) true))[j]? = some B) : S[j]? = some B ∨ BFlat S.length B := by
  by_cases hij : i = j
  · subst hij
    right
    by_cases hi : i < S.length
    · rw [set_at hi] at h
      injection h with h
      rw [← h]
      exact bflat_list entE_flat d v (some 14) true
    · rw [List.getElem?_eq_none (by rw [List.length_set]; omega)] at h; cases h
  · rw [at_set_ne hij] at h
    exact .inl h
theorem commit_ok : SpecOK Tryz.prog 38 commitS := by
  intro args S x S' h
  unfold commitS at h
  split at h
  · rename_i x0 ce
    split at h
    · rename_i hno
      split at h
      · rename_i e he
        split at h
        · rename_i hc
          obtain ⟨hok, hne⟩ := hc
          refine commit_walk (md := none) (c0 := ⟨0, 0, [], []⟩) ⟨ext_refl, .inl ⟨rfl, hno⟩⟩ (fun _ => rfl) he hok (fun hd x' c M hK _ => ?_) (fun hd x' M hK => ?_)
          · cases hds : e.drops with
            | nil => rw [hds] at hd; cases hd
            | cons a ds =>
              simp only [commitR0, hds, Option.some.injEq, Prod.mk.injEq] at h
              obtain ⟨rfl, rfl⟩ := h
              exact wkv_dropP hK.1 rfl
          · cases hds : e.drops with
            | cons a ds => rw [hds] at hd; cases hd
            | nil =>
              simp only [commitR0, hds, Option.some.injEq, Prod.mk.injEq] at h
              obtain ⟨rfl, rfl⟩ := h
              rw [hds] at hK hne
              have hps : e.puts ≠ [] := by rcases hne with q | q; exact absurd rfl q; exact q
              have hK : Kx S M none x' (putC e.puts ⟨0, 0, [], []⟩) := hK
              have hl : (putC e.puts ⟨0, 0, [], []⟩).l = putAll e.puts [] := putC_all _ _
              have ho : Once (putC e.puts ⟨0, 0, [], []⟩).l := once_put hok.1 hok.2.2.1
              have hn := putC_len e.puts ⟨0, 0, [], []⟩
              have hlen := hok.2.2.2.1
              simp only [List.length_nil, Nat.zero_add] at hn hlen
              obtain ⟨hSM, ⟨h1, h2⟩ | ⟨p, c', h1, h2, h3, h4⟩⟩ := hK
              · exfalso
                rw [hl] at h1
                cases hp : e.puts with
                | nil => exact hps hp
                | cons a r =>
                  rw [hp] at h1
                  exact putAll_ne r [⟨a, 0⟩] (by simp) h1
              · obtain ⟨T, rfl⟩ := hSM
                rw [← h1] at ho hn
                have hso := sortE_ok ho
                refine ⟨_, by rw [h3]; exact sort_eq h2 ho (by omega) h4, ?_⟩
                have hx : x' = .sl (S.length + p) 0 c'.v (sortE c'.l).length c'.cap false := by rw [h3, hso.2.2]; rfl
                have hTp : p < T.length := by
                  rw [at_app] at h4
                  exact (List.getElem?_eq_some_iff.1 h4).1
                rw [hx, ← hl, ← h1]
                refine wkv_less (cs := (sortE c'.l).flatMap entE.enc) (junk := c'.junk) (sz := 14) (rw' := true) (at_set h4) ?_
                rw [List.set_set, set_app]
                have hA : Acc false entE S (S ++ T.set p (.cells ((sortE c'.l).flatMap entE.enc) c'.v (some 14) true)) (.sl (S.length + p) 0 c'.v (sortE c'.l).length (sortE c'.l).length false) (sortE c'.l) :=
                  ⟨_, rfl, .inr (.inr ⟨sortE_ne ho (by
                    rw [h1, hl]
                    cases hp : e.puts with
                    | nil => exact absurd hp hps
                    | cons a r => exact putAll_ne r [⟨a, 0⟩] (by simp)), p, c'.v, rfl, by simp only [List.getElem?_set_self hTp]; rfl⟩)⟩
                exact Acc.ret2 entE_flat hA Flat_b
        · cases h
      · cases h
    · rename_i hno
      split at h
      · rename_i i v n cap
        split at h
        · rename_i l e hl he
          split at h
          · rename_i hc
            obtain ⟨hok, cs, hB⟩ := hc
            obtain ⟨b, v2, ex, op, hx, hB2⟩ := ownV_ok hl
            injection hx with z1 z2 z3 z4 z5 z6
            subst z1 z3 z4 z5 z6
            rw [hB] at hB2
            injection hB2 with hB2
            injection hB2 with y1 y2 y3 y4
            subst y1 y3
            simp only [Option.some.injEq, Prod.mk.injEq] at h
            have hi : i < S.length := (List.getElem?_eq_some_iff.1 hB).1
            have hB0 : S[i]? = some (Cf.blk ⟨v, l.length, [], l⟩) := by rw [hB]; show _ = some (Blk.cells (l.flatMap entE.enc ++ []) v (some 14) true); rw [List.append_nil]
            have hK : Kx S S (some i) (.sl i 0 v l.length l.length false) ⟨v, l.length, [], l⟩ := ⟨rfl, ⟨by simp, Nat.le_refl _, rfl⟩, hi, [], by rw [List.append_nil, set_self hB0]⟩
            refine commit_walk (md := some i) hK (fun q => by cases q) he hok (fun hd x' c M hK hv => ?_) (fun hd x' M hK => ?_)
            · unfold commitR at h
              rw [if_neg (by rw [hd]; exact Bool.false_ne_true)] at h
              simp only [Option.some.injEq, Prod.mk.injEq] at h
              obtain ⟨rfl, rfl⟩ := h
              have hb := hK.blk
              obtain ⟨_, _, _, L, rfl⟩ := hK
              have hv : c.v = v := hv
              refine wkv_shr (i := i) (cs := []) (junk := c.l.flatMap entE.enc ++ c.junk) (v := c.v) (sz := 14) (rw' := true) hb ?_
              rw [set_old (set_at hi), List.set_set, hv]
              exact wkv_drop' (List.length_set ..) (fun j B hj => set_flat (d := []) hj) (fun g => rfl)
            · unfold commitR at h
              rw [if_pos hd] at h
              simp only [Option.some.injEq, Prod.mk.injEq] at h
              obtain ⟨rfl, rfl⟩ := h
              have ho : Once (putC e.puts (dropC e.drops ⟨v, l.length, [], l⟩).1).l := once_put (once_drop hok.1 hok.2.1 hd) hok.2.2.1
              have hn1 := putC_len e.puts (dropC e.drops ⟨v, l.length, [], l⟩).1
              have hn2 := dropC_len e.drops ⟨v, l.length, [], l⟩
              have hlen := hok.2.2.2.1
              simp only at hn2
              generalize putC e.puts (dropC e.drops ⟨v, l.length, [], l⟩).1 = c2 at ho hn1 hK ⊢
              have hb := hK.blk
              obtain ⟨rfl, hw, _, L, rfl⟩ := hK
              have hso := sortE_ok ho
              refine ⟨_, sort_eq hw ho (by omega) hb, ?_⟩
              rw [set_old (set_at hi), List.set_set]
              have hb2 : (S.set i c2.sort.blk ++ L)[i]? = some c2.sort.blk := at_old (set_at hi)
              have hx : c2.x i = .sl i 0 c2.v (sortE c2.l).length c2.cap false := by rw [hso.2.2]; rfl
              rw [hx]
              by_cases hd0 : sortE c2.l = []
              · have hbe : c2.sort.blk = .cells c2.junk c2.v (some 14) true := by
                  show Blk.cells ((sortE c2.l).flatMap entE.enc ++ c2.junk) c2.v (some 14) true = _
                  rw [hd0]; rfl
                rw [hbe] at hb2 ⊢
                unfold endX
                rw [if_pos hd0, hd0]
                refine wkv_se (sz := 14) (rw' := true) hb2 ?_
                rw [set_old (set_at hi), List.set_set]
                exact wkv_drop' (List.length_set ..) (fun j B hj => set_flat (d := []) hj) (fun g => rfl)
              · unfold endX
                rw [if_neg hd0]
                refine wkv_less (cs := (sortE c2.l).flatMap entE.enc) (junk := c2.junk) (sz := 14) (rw' := true) hb2 ?_
                rw [set_old (set_at hi), List.set_set]
                refine wkv_drop' (List.length_set ..) (fun j B hj => set_flat hj) (Flat_tu fun y hy => ?_)
                simp only [List.mem_cons, List.not_mem_nil, or_false] at hy
                rcases hy with rfl | rfl
                · exact Flat_sl hi
                · exact Flat_b
          · cases h
        · cases h
      · cases h
  · cases h
end Go.Proofs.YtmdnohpolepcoaaGreat

namespace Go.Proofs.YtmdnohpolepcoaaGreat
open Go.RowKit
set_option linter.unusedSimpArgs false
set_option linter.unusedVariables false

theorem fin_some {b : Bk} (h : b.ok) : Bk.fin (some b) = some b := by simp only [Bk.fin, if_pos h]
theorem quota_le {p : Int} {l : List Ent} (ho : (Bk.mk p l).ok) {k : Nat} (hk : k < l.length) : l[k].pol.quota ≤ 281474976710656 := by
  have h := (ho.2.2.1.2 k (by unfold polsOf; simpa using hk) (by unfold polsOf; simpa using hk)).1
  have h1 : l[k].pol.right := by simpa [polsOf] using h
  exact h1.2.2.2.1 _ (by simp [Pol.nums])
theorem leased_ok {p : Int} {l l' : List Ent} {s g : Int} (ho : (Bk.mk p l).ok) (h : leased l s g = some l') : (Bk.mk p l').ok := by
  obtain ⟨k, hk, rfl, _, h1, h2⟩ := leased_some h
  have hp : polsOf (l.set k (l[k].grant g)) = polsOf l := by
    unfold polsOf
    rw [List.map_set]
    have : (l[k].grant g).pol = (l.map (·.pol))[k]'(by simpa using hk) := by simp [Ent.grant]
    rw [this, List.set_getElem_self]
  refine ⟨ho.1, ho.2.1, by show Pols (polsOf (l.set k (l[k].grant g))); rw [hp]; exact ho.2.2.1, fun x hx => ?_⟩
  rcases List.mem_or_eq_of_mem_set hx with hx | rfl
  · exact ho.2.2.2 x hx
  · have := quota_le ho hk
    show g ≤ _
    omega
theorem zeroed_ok {p q : Int} {l : List Ent} (ho : (Bk.mk p l).ok) (h1 : 1 ≤ q) (h2 : q ≤ 281474976710656) : (Bk.mk q (l.map (·.grant 0))).ok := by
  refine ⟨h1, h2, ?_, fun x hx => ?_⟩
  · have hp : polsOf (l.map (·.grant 0)) = polsOf l := by unfold polsOf; rw [List.map_map]; rfl
    show Pols (polsOf (l.map (·.grant 0)))
    rw [hp]; exact ho.2.2.1
  · obtain ⟨y, _, rfl⟩ := List.mem_map.1 hx
    show (0 : Int) ≤ _
    omega
/-- The kinds 2 and 3. -/
theorem turned_eq {b : Bk} {e : Evt} (hk : ¬ (b.ok ∧ e.right ∧ e.kind = 1)) : b.turned e = b.rapplied e := by
  unfold Bk.turned Bk.rapplied
  by_cases h : b.ok ∧ e.right
  · rw [if_pos h, if_pos h]
    obtain ⟨p, l⟩ := b
    obtain ⟨k, s, ps, ds, g, q⟩ := e
    have hk1 : ¬ k = 1 := fun z => hk ⟨h.1, h.2, z⟩
    rw [if_neg hk1]
    unfold Bk.turn
    by_cases hk2 : k = 2
    · rw [if_pos hk2]; first | rw [if_pos hk2] | skip
      simp only
      cases hl : leased l s g with
      | none => rfl
      | some l' => exact fin_some (leased_ok h.1 hl)
    · rw [if_neg hk2]; first | rw [if_neg hk2] | skip
      simp only
      by_cases hq : q = p + 1
      · rw [if_pos hq]; first | rw [if_pos hq] | skip
        have hv : valOk q := by
          rcases h.2 with z | z | z
          · exact absurd z.1 hk1
          · exact absurd z.1 hk2
          · exact z.2.1
        exact fin_some (zeroed_ok h.1 hv.1 hv.2)
      · rw [if_neg hq]; first | rfl | (rw [if_neg hq]; rfl)
  · rw [if_neg h, if_neg h]
end Go.Proofs.YtmdnohpolepcoaaGreat

namespace Go.Proofs.YtmdnohpolepcoaaGreat
open Go.RowKit
set_option linter.unusedSimpArgs false
set_option linter.unusedVariables false
set_option maxRecDepth 10000

theorem commit_eq {S : Mem} {i v : Nat} {l : List Ent} {ce : List AV} {e : Evt} (hB : S[i]? = some (.cells (l.flatMap entE.enc) v (some 14) true)) (he : evtOf (S.take i) ce = some e) (hok : commitOk l e) :
    commitS [.sl i 0 v l.length l.length false, .ag ce] S = some (commitR i ⟨v, l.length, [], l⟩ e S) := by
  have hno : ¬ noX S (.sl i 0 v l.length l.length false) = true := by
    intro h
    rcases noX_cases h with h | ⟨j, h, _⟩
    · cases h
    · injection h with _ _ _ _ _ h; cases h
  simp only [commitS]
  rw [if_neg hno]
  simp only [ownV_mk hB, he]
  rw [if_pos ⟨hok, _, hB⟩]
theorem commit_eq0 {S : Mem} {x : AV} {ce : List AV} {e : Evt} (hx : noX S x = true) (he : evtOf S ce = some e) (hok : commitOk [] e) (hne : e.drops ≠ [] ∨ e.puts ≠ []) : commitS [x, .ag ce] S = some (commitR0 e S) := by
  simp only [commitS]
  rw [if_pos hx]
  simp only [he]
  rw [if_pos ⟨hok, hne⟩]
theorem commit_okk {p : Int} {l : List Ent} {ps : List Pol} {ds : List Int} (ho : (Bk.mk p l).ok) (hr : Evt.right ⟨1, 0, ps, ds, 0, 0⟩) (hd : ds.length ≤ 1000000) : commitOk l ⟨1, 0, ps, ds, 0, 0⟩ ∧ (ds ≠ [] ∨ ps ≠ []) := by
  have h := right1.1 hr
  have hP := h.2.2.2.2.1
  have hri := h.2.2.2.2.2.1
  refine ⟨⟨ok_once ho, rise_nodup hri, pols_once hP, ?_, hd⟩, ?_⟩
  · have h1 : (polsOf l).length ≤ 8 := ho.2.2.1.1
    have h2 : ps.length ≤ 8 := hP.1
    have h3 : (polsOf l).length = l.length := List.length_map ..
    show l.length + ps.length ≤ 1000000
    omega
  · rcases hr with ⟨_, h0, _⟩ | ⟨h0, _⟩ | ⟨h0, _⟩
    · simp only at h0
      by_cases hd0 : ds = []
      · right
        intro hp0
        rw [hd0, hp0] at h0
        exact absurd h0 (by decide)
      · exact .inl hd0
    · exact absurd h0 (by decide : ¬ (1 : Int) = 2)
    · exact absurd h0 (by decide : ¬ (1 : Int) = 3)
theorem commitR_f {i : Nat} {c : Cf} {e : Evt} {S : Mem} (h : (dropC e.drops c).2 = false) : commitR i c e S = (.tu [.sn, .b false], S.set i (.cells [] c.v (some 14) true)) := by
  unfold commitR; rw [if_neg (by rw [h]; exact Bool.false_ne_true)]
theorem commitR_t {i : Nat} {c : Cf} {e : Evt} {S : Mem} {d : List Ent} (h : (dropC e.drops c).2 = true) (hd : sortE (putC e.puts (dropC e.drops c).1).l = d) : commitR i c e S = (.tu [endX i (putC e.puts (dropC e.drops c).1).v d, .b true], S.set i (.cells (d.flatMap entE.enc) (putC e.puts (dropC e.drops c).1).v (some 14) true)) := by
  unfold commitR; rw [if_pos h, hd]
theorem commitR0_f {e : Evt} {S : Mem} {v cap : Nat} {junk : List AV} (h : (dropC e.drops ⟨v, cap, junk, []⟩).2 = false) : commitR0 e S = (.tu [.sn, .b false], S) := by
  unfold commitR0
  split
  · rename_i hd; rw [hd] at h; cases h
  · rfl
theorem commitR0_t {e : Evt} {S : Mem} {d : List Ent} {v cap : Nat} {junk : List AV} (h : (dropC e.drops ⟨v, cap, junk, []⟩).2 = true) (hd : sortE (putC e.puts (dropC e.drops ⟨v, cap, junk, []⟩).1).l = d) (hne : e.drops ≠ [] ∨ e.puts ≠ []) (hp : e.puts.Pairwise fun p q => p.sub ≠ q.sub) :
    d ≠ [] ∧ commitR0 e S = (.tu [retX false S d, .b true], retM false entE S d) := by
  unfold commitR0
  cases hds : e.drops with
  | nil =>
    rw [hds] at hd hne
    have hd : sortE (putC e.puts ⟨v, cap, junk, []⟩).l = d := hd
    rw [putC_all] at hd
    have hd : sortE (putAll e.puts []) = d := hd
    refine ⟨?_, by rw [hd]⟩
    rw [← hd]
    refine sortE_ne (putAll_ok e.puts [] hp List.Pairwise.nil).1 ?_
    cases hp : e.puts with
    | nil => rw [hp] at hne; simp at hne
    | cons a r => exact putAll_ne r [⟨a, 0⟩] (by simp)
  | cons a ds => rw [hds] at h; cases h
noncomputable def commitB (z : Bool) (S : Mem) (b : Bk) (r : Option Bk) : AV × Mem := match r with
  | some b' => open Classical in if b'.entries = [] then (.tu [.ag [.i .u64 b'.period, .se], .i .i64 0], S) else bookR true S b' 0
  | none => bookR z S b 131
/-- What a commit leaves, said with the document's words. -/
theorem rapplied1 {p : Int} {l : List Ent} {ps : List Pol} {ds : List Int} (ho : (Bk.mk p l).ok) (hr : Evt.right ⟨1, 0, ps, ds, 0, 0⟩) :
    Bk.rapplied ⟨p, l⟩ ⟨1, 0, ps, ds, 0, 0⟩ = if ∃ i : Nat, i < 255 ∧ refBad l ⟨1, 0, ps, ds, 0, 0⟩ ((i : Int) + 1) then none else Bk.fin (some ⟨p, refEnts l ⟨1, 0, ps, ds, 0, 0⟩ 255⟩) := by
  unfold Bk.rapplied
  rw [if_pos ⟨ho, hr⟩, if_pos rfl]
/-- The program's list behind a commit. -/
theorem commit_list {p : Int} {l : List Ent} {ps : List Pol} {ds : List Int} {c : Cf} (hc : c.l = l) (ho : (Bk.mk p l).ok) (hr : Evt.right ⟨1, 0, ps, ds, 0, 0⟩) :
    ((dropC ds c).2 = false ∧ Bk.rapplied ⟨p, l⟩ ⟨1, 0, ps, ds, 0, 0⟩ = none) ∨
    ((dropC ds c).2 = true ∧ ∃ d, sortE (putC ps (dropC ds c).1).l = d ∧ d = refEnts l ⟨1, 0, ps, ds, 0, 0⟩ 255 ∧ Bk.rapplied ⟨p, l⟩ ⟨1, 0, ps, ds, 0, 0⟩ = Bk.fin (some ⟨p, d⟩)) := by
  subst hc
  rw [rapplied1 ho hr]
  have hda := dropC_all ds c
  have h := right1.1 hr
  cases hb : (dropC ds c).2 with
  | false =>
    rw [if_neg (by rw [hb]; exact Bool.false_ne_true)] at hda
    exact .inl ⟨rfl, by rw [if_pos (commit_none ho hr hda)]⟩
  | true =>
    rw [if_pos hb] at hda
    have hon : Once (putC ps (dropC ds c).1).l := once_put (once_drop (ok_once ho) (rise_nodup h.2.2.2.2.2.1) hb) (pols_once h.2.2.2.2.1)
    have hs := sortE_ok hon
    obtain ⟨h1, h2⟩ := commit_some ho hr hda hs.1 (fun x => by rw [← putC_all]; exact hs.2.1 x)
    exact .inr ⟨rfl, _, rfl, h2, by rw [if_neg h1, h2]⟩
end Go.Proofs.YtmdnohpolepcoaaGreat

namespace Go.Proofs.YtmdnohpolepcoaaGreat
open Go.RowKit
set_option linter.unusedSimpArgs false
set_option linter.unusedVariables false
set_option maxRecDepth 10000

theorem oA1_ok : OK Tryz.prog (lamOf Tryz.prog) (orcOf [(35, cloneES), (36, brightS), (37, erightS), (38, commitS)]) := orc_ok (by simpa using ⟨cloneE_ok, bright_ok, eright_ok, commit_ok⟩)
set_option maxHeartbeats 1000000 in
theorem apply1 {S : Mem} {s xp xd : AV} {p : Int} {l : List Ent} {ps : List Pol} {ds : List Int} (hl : lstV entE S s = some l) (hp : lstV polE S xp = some ps) (hd : lstV (intE .i64) S xd = some ds) (hbf : Bk.fits ⟨p, l⟩) (hef : Evt.fits ⟨1, 0, ps, ds, 0, 0⟩) (ho : Bk.ok ⟨p, l⟩) (hr : Evt.right ⟨1, 0, ps, ds, 0, 0⟩) :
    FnOK Tryz.prog 21 [.ag [.i .u64 p, s], .ag [.i .i64 1, .i .i64 0, xp, xd, .i .u64 0, .i .u64 0]] S (commitB (nz s) S ⟨p, l⟩ (Bk.rapplied ⟨p, l⟩ ⟨1, 0, ps, ds, 0, 0⟩)).1 (commitB (nz s) S ⟨p, l⟩ (Bk.rapplied ⟨p, l⟩ ⟨1, 0, ps, ds, 0, 0⟩)).2 := by
  have b1 := fun L => bright_eq (bookOf_mk (p := p) (lstV_grow hl L)) hbf
  have e1 := fun L => eright_eq (evtOf_mk (k := 1) (s := 0) (g := 0) (p := 0) (lstV_grow hp L) (lstV_grow hd L)) hef
  have c1 := fun L => cloneE_eq (lstV_grow hl L) hbf.1
  rw [decide_eq_true ho] at b1
  rw [decide_eq_true hr] at e1
  obtain ⟨hok, hne0⟩ := commit_okk ho hr hef.2.1
  have hdf : ∀ d : List Ent, d = refEnts l ⟨1, 0, ps, ds, 0, 0⟩ 255 → Bk.fits ⟨p, d⟩ := fun d hd => by
    subst hd
    exact ⟨Nat.le_trans (refEnts_len _ _ _) (by omega), refEnts_fits hbf.2 hef.2.2⟩
  refine fn_of_wp f21 rfl (W_sound oA1_ok mixed _ _ _ _ _ ?_)
  by_cases hne : l = []
  · subst hne
    have hc0 : ∀ (x : AV) (L : Mem), noX (S ++ L) x = true → commitS [x, .ag [.i .i64 1, .i .i64 0, xp, xd, .i .u64 0, .i .u64 0]] (S ++ L) = some (commitR0 ⟨1, 0, ps, ds, 0, 0⟩ (S ++ L)) := fun x L hx =>
      commit_eq0 hx (evtOf_mk (lstV_grow hp L) (lstV_grow hd L)) hok hne0
    cases hz : nz s with
    | false =>
      have c1 : ∀ L, cloneES [s] (S ++ L) = some (.sn, S ++ L) := fun L => by rw [c1 L, hz]; rfl
      have cm := fun L => hc0 .sn L rfl
      rcases commit_list (c := ⟨0, 0, [], []⟩) rfl ho hr with ⟨hF, hrn⟩ | ⟨hT, d, hs, hde, hrn⟩
      · rw [hrn]
        have cm := fun L => (cm L).trans (congrArg some (commitR0_f hF))
        simp (maxSteps := 1000000) (disch := omega) only [c21, orc_cons, lst_cells hl, c1, b1, e1, cm, go_sem]
        exact wkv_drop rfl
      · rw [hrn]
        have hd0 := (commitR0_t (S := S) hT hs hne0 hok.2.2.1).1
        have cm : ∀ L, _ = some (AV.tu [.sl (S ++ L).length 0 0 d.length d.length false, .b true], (S ++ L) ++ [.cells (d.flatMap entE.enc) 0 (some 14) true]) := fun L => (cm L).trans (by rw [(commitR0_t hT hs hne0 hok.2.2.1).2, retX_ne hd0, retM_ne hd0]; rfl)
        have hdf := hdf d hde
        have b2 : ∀ B0 B1 B2 B3 B4 : Blk, brightS [.ag [.i .u64 p, .sl (S.length + 5) 0 0 d.length d.length false]] (S ++ [B0, B1, B2, B3, B4, .cells (d.flatMap entE.enc) 0 (some 14) true]) = some (.b (decide (Bk.ok ⟨p, d⟩)), S ++ [B0, B1, B2, B3, B4, .cells (d.flatMap entE.enc) 0 (some 14) true]) := fun B0 B1 B2 B3 B4 => bright_eq (bookOf_mk (own_lst (ownV_mk (by rw [at_app]; rfl)))) hdf
        simp (maxSteps := 1000000) (disch := omega) only [c21, orc_cons, lst_cells hl, c1, b1, e1, cm, b2, go_sem]
        refine ⟨fun h1 => ?_, fun h1 => ?_⟩
        · rw [show Bk.fin (some ⟨p, d⟩) = none by simp only [Bk.fin, if_neg h1]]
          exact wkv_drop rfl
        · rw [show Bk.fin (some ⟨p, d⟩) = some ⟨p, d⟩ by simp only [Bk.fin, if_pos (Decidable.not_not.1 h1)]]
          unfold commitB
          simp only
          rw [if_neg hd0]
          exact Acc.retB entE_flat ⟨_, rfl, .inr (.inr ⟨hd0, 5, 0, rfl, rfl⟩)⟩ Flat_i Flat_i
    | true =>
      have c1 : ∀ L, cloneES [s] (S ++ L) = some (.sl (S ++ L).length 0 0 0 0 true, (S ++ L) ++ [.cells [] 0 none true]) := fun L => by rw [c1 L, hz]; rfl
      have cm := fun B0 B1 B2 B3 B4 B6 : Blk => hc0 (.sl (S.length + 5) 0 0 0 0 true) [B0, B1, B2, B3, B4, .cells [] 0 none true, B6] (by simp only [noX]; rw [at_app]; rfl)
      rcases commit_list (c := ⟨0, 0, [], []⟩) rfl ho hr with ⟨hF, hrn⟩ | ⟨hT, d, hs, hde, hrn⟩
      · rw [hrn]
        have cm := fun B0 B1 B2 B3 B4 B6 => (cm B0 B1 B2 B3 B4 B6).trans (congrArg some (commitR0_f hF))
        simp (maxSteps := 1000000) (disch := omega) only [c21, orc_cons, lst_cells hl, c1, b1, e1, cm, go_sem]
        exact Acc.retB entE_flat ⟨_, rfl, .inr (.inl ⟨rfl, rfl, 3, rfl, rfl⟩)⟩ Flat_i Flat_i
      · rw [hrn]
        have hd0 := (commitR0_t (S := S) hT hs hne0 hok.2.2.1).1
        have cm : ∀ B0 B1 B2 B3 B4 B6 : Blk, _ = some (AV.tu [.sl (S.length + 7) 0 0 d.length d.length false, .b true], S ++ [B0, B1, B2, B3, B4, .cells [] 0 none true, B6, .cells (d.flatMap entE.enc) 0 (some 14) true]) := fun B0 B1 B2 B3 B4 B6 => (cm B0 B1 B2 B3 B4 B6).trans (by rw [(commitR0_t hT hs hne0 hok.2.2.1).2, retX_ne hd0, retM_ne hd0, List.length_append, List.append_assoc]; rfl)
        have hdf := hdf d hde
        have b2 : ∀ B0 B1 B2 B3 B4 B5 B6 : Blk, brightS [.ag [.i .u64 p, .sl (S.length + 7) 0 0 d.length d.length false]] (S ++ [B0, B1, B2, B3, B4, B5, B6, .cells (d.flatMap entE.enc) 0 (some 14) true]) = some (.b (decide (Bk.ok ⟨p, d⟩)), S ++ [B0, B1, B2, B3, B4, B5, B6, .cells (d.flatMap entE.enc) 0 (some 14) true]) := fun B0 B1 B2 B3 B4 B5 B6 => bright_eq (bookOf_mk (own_lst (ownV_mk (by rw [at_app]; rfl)))) hdf
        simp (maxSteps := 1000000) (disch := omega) only [c21, orc_cons, lst_cells hl, c1, b1, e1, cm, b2, go_sem]
        refine ⟨fun h1 => ?_, fun h1 => ?_⟩
        · rw [show Bk.fin (some ⟨p, d⟩) = none by simp only [Bk.fin, if_neg h1]]
          exact Acc.retB entE_flat ⟨_, rfl, .inr (.inl ⟨rfl, rfl, 3, rfl, rfl⟩)⟩ Flat_i Flat_i
        · rw [show Bk.fin (some ⟨p, d⟩) = some ⟨p, d⟩ by simp only [Bk.fin, if_pos (Decidable.not_not.1 h1)]]
          unfold commitB
          simp only
          rw [if_neg hd0]
          exact Acc.retB entE_flat ⟨_, rfl, .inr (.inr ⟨hd0, 7, 0, rfl, rfl⟩)⟩ Flat_i Flat_i
  · obtain ⟨i, o, v, cap, ex, rfl⟩ := lst_sl hl (List.length_pos_iff.2 hne)
    have c1 : ∀ L, cloneES [.sl i o v l.length cap ex] (S ++ L) = some (.sl (S ++ L).length 0 0 l.length l.length false, (S ++ L) ++ [.cells (l.flatMap entE.enc) 0 (some 14) true]) := fun L => by
      rw [c1 L, retX_ne hne, retM_ne hne]; rfl
    have cm : ∀ B0 B1 B2 B3 B4 B6 : Blk, commitS [.sl (S.length + 5) 0 0 l.length l.length false, .ag [.i .i64 1, .i .i64 0, xp, xd, .i .u64 0, .i .u64 0]] (S ++ [B0, B1, B2, B3, B4, .cells (l.flatMap entE.enc) 0 (some 14) true, B6]) = some (commitR (S.length + 5) ⟨0, l.length, [], l⟩ ⟨1, 0, ps, ds, 0, 0⟩ (S ++ [B0, B1, B2, B3, B4, .cells (l.flatMap entE.enc) 0 (some 14) true, B6])) := fun B0 B1 B2 B3 B4 B6 => by
      refine commit_eq (by rw [at_app]; rfl) ?_ hok
      have ht : (S ++ [B0, B1, B2, B3, B4, .cells (l.flatMap entE.enc) 0 (some 14) true, B6]).take (S.length + 5) = S ++ [B0, B1, B2, B3, B4] := by
        rw [List.take_append, List.take_of_length_le (by omega), Nat.add_sub_cancel_left]; rfl
      rw [ht]
      exact evtOf_mk (lstV_grow hp _) (lstV_grow hd _)
    have own : ∀ (A : Mem) (err : Int), WkV S (bookR (nz (.sl i o v l.length cap ex)) S ⟨p, l⟩ err).1 (bookR (nz (.sl i o v l.length cap ex)) S ⟨p, l⟩ err).2 (.tu [.ag [.i .u64 p, .sl (S.length + 3) 0 0 l.length l.length false], .i .i64 err])
      (S ++ (.cells [.i .u64 p, .sl i o v l.length cap ex] 0 none true :: .cells [.i .i64 1, .i .i64 0, xp, xd, .i .u64 0, .i .u64 0] 0 none true :: .cells [.i .u64 p, .sl (S.length + 3) 0 0 l.length l.length false] 0 none true :: .cells (l.flatMap entE.enc) 0 (some 14) true :: A)) := fun A err =>
      Acc.retB entE_flat ⟨_, rfl, .inr (.inr ⟨hne, 3, 0, rfl, rfl⟩)⟩ Flat_i Flat_i
    rcases commit_list (c := ⟨0, l.length, [], l⟩) rfl ho hr with ⟨hF, hrn⟩ | ⟨hT, d, hs, hde, hrn⟩
    · rw [hrn]
      have cm := fun B0 B1 B2 B3 B4 B6 => (cm B0 B1 B2 B3 B4 B6).trans (congrArg some (commitR_f hF))
      simp (maxSteps := 1000000) (disch := omega) only [c21, orc_cons, lst_cells hl, c1, b1, e1, cm, go_sem]
      exact own _ _
    · rw [hrn]
      have cm := fun B0 B1 B2 B3 B4 B6 => (cm B0 B1 B2 B3 B4 B6).trans (congrArg some (commitR_t hT hs))
      simp only at cm
      generalize (putC ps (dropC ds ⟨0, l.length, [], l⟩).1).v = v2 at cm
      have hdf := hdf d hde
      by_cases hd0 : d = []
      · subst hd0
        have cm : ∀ B0 B1 B2 B3 B4 B6 : Blk, _ = some (AV.tu [.se, .b true], List.set (S ++ [B0, B1, B2, B3, B4, .cells (l.flatMap entE.enc) 0 (some 14) true, B6]) (S.length + 5) (.cells [] v2 (some 14) true)) := fun B0 B1 B2 B3 B4 B6 => (cm B0 B1 B2 B3 B4 B6).trans (by unfold endX; rw [if_pos rfl]; rfl)
        have b2 : ∀ M : Mem, brightS [.ag [.i .u64 p, .se]] M = some (.b (decide (Bk.ok ⟨p, []⟩)), M) := fun M => bright_eq (bookOf_mk rfl) hdf
        simp (maxSteps := 1000000) (disch := omega) only [c21, orc_cons, lst_cells hl, c1, b1, e1, cm, b2, go_sem]
        refine ⟨fun h1 => ?_, fun h1 => ?_⟩
        · rw [show Bk.fin (some ⟨p, []⟩) = none by simp only [Bk.fin, if_neg h1]]
          exact own _ _
        · rw [show Bk.fin (some ⟨p, []⟩) = some ⟨p, []⟩ by simp only [Bk.fin, if_pos (Decidable.not_not.1 h1)]]
          unfold commitB
          simp only
          rw [if_pos trivial]
          exact wkv_drop rfl
      · have cm : ∀ B0 B1 B2 B3 B4 B6 : Blk, _ = some (AV.tu [.sl (S.length + 5) 0 v2 d.length d.length false, .b true], List.set (S ++ [B0, B1, B2, B3, B4, .cells (l.flatMap entE.enc) 0 (some 14) true, B6]) (S.length + 5) (.cells (d.flatMap entE.enc) v2 (some 14) true)) := fun B0 B1 B2 B3 B4 B6 => (cm B0 B1 B2 B3 B4 B6).trans (by unfold endX; rw [if_neg hd0])
        have b2 : ∀ B0 B1 B2 B3 B4 B6 : Blk, brightS [.ag [.i .u64 p, .sl (S.length + 5) 0 v2 d.length d.length false]] (S ++ [B0, B1, B2, B3, B4, .cells (d.flatMap entE.enc) v2 (some 14) true, B6]) = some (.b (decide (Bk.ok ⟨p, d⟩)), S ++ [B0, B1, B2, B3, B4, .cells (d.flatMap entE.enc) v2 (some 14) true, B6]) := fun B0 B1 B2 B3 B4 B6 => bright_eq (bookOf_mk (own_lst (ownV_mk (by rw [at_app]; rfl)))) hdf
        simp (maxSteps := 1000000) (disch := omega) only [c21, orc_cons, lst_cells hl, c1, b1, e1, cm, b2, go_sem]
        refine ⟨fun h1 => ?_, fun h1 => ?_⟩
        · rw [show Bk.fin (some ⟨p, d⟩) = none by simp only [Bk.fin, if_neg h1]]
          exact own _ _
        · rw [show Bk.fin (some ⟨p, d⟩) = some ⟨p, d⟩ by simp only [Bk.fin, if_pos (Decidable.not_not.1 h1)]]
          unfold commitB
          simp only
          rw [if_neg hd0]
          exact Acc.retB entE_flat ⟨_, rfl, .inr (.inr ⟨hd0, 5, v2, rfl, rfl⟩)⟩ Flat_i Flat_i
end Go.Proofs.YtmdnohpolepcoaaGreat

namespace Go.Proofs.YtmdnohpolepcoaaGreat
open Go.RowKit
set_option linter.unusedSimpArgs false
set_option linter.unusedVariables false
set_option maxRecDepth 10000

noncomputable def applyR (z : Bool) (S : Mem) (b : Bk) (e : Evt) : AV × Mem := if e.kind = 1 then commitB z S b (b.rapplied e) else match b.rapplied e with
  | some b' => bookR z S b' 0
  | none => bookR z S b 131
noncomputable def applyS : Spec := fun args S => match args with
  | [.ag cb, .ag ce] => match bookOf S cb, evtOf S ce with
    | some b, some e => if b.fits ∧ e.fits then some (applyR (nzB cb) S b e) else none
    | _, _ => none
  | _ => none
theorem right_eq {e : Evt} (hr : e.right) (hk : e.kind = 1) : e = ⟨1, 0, e.puts, e.drops, 0, 0⟩ := by
  rcases hr with ⟨_, _, _, _, h⟩ | ⟨h, _⟩ | ⟨h, _⟩
  · rw [hk] at h; exact h
  · rw [hk] at h; exact absurd h (by decide)
  · rw [hk] at h; exact absurd h (by decide)
theorem apply_ok : SpecOK Tryz.prog 21 applyS := by
  intro args S x S' h
  simp only [applyS] at h
  split at h
  · rename_i cb ce
    split at h
    · rename_i b e hb he
      split at h
      · rename_i hf
        obtain ⟨hbf, hef⟩ := hf
        by_cases hc : b.ok ∧ e.right ∧ e.kind = 1
        · obtain ⟨ho, hr, hk⟩ := hc
          obtain ⟨s, rfl, hl⟩ := bookOf_ok hb
          obtain ⟨xp, xd, rfl, hp, hd⟩ := evtOf_ok he
          have hre := right_eq hr hk
          obtain ⟨k, sub, ps, ds, g, q⟩ := e
          simp only at hk
          subst hk
          simp only [Evt.mk.injEq, true_and, and_true] at hre
          obtain ⟨rfl, rfl, rfl⟩ := hre
          obtain ⟨p, l⟩ := b
          simp only [Option.some.injEq] at h
          have hz : nzB [AV.i .u64 (Bk.mk p l).period, s] = nz s := rfl
          rw [hz] at h
          have hx := congrArg Prod.fst h
          have hm := congrArg Prod.snd h
          simp only at hx hm
          have h1 := apply1 hl hp hd hbf hef ho hr
          unfold applyR at hx hm
          rw [if_pos rfl] at hx hm
          rw [hx, hm] at h1
          exact h1
        · refine turn_ok _ _ _ _ ?_
          simp only [turnS, hb, he]
          have hc' : ¬ (b.ok ∧ e.right ∧ e.kind = 1) := hc
          rw [if_pos ⟨hbf, hef, hc'⟩, turned_eq hc']
          rw [← h]
          unfold applyR
          by_cases hk : e.kind = 1
          · have hn : b.rapplied e = none := by
              unfold Bk.rapplied
              rw [if_neg fun z => hc ⟨z.1, z.2, hk⟩]
            rw [hn, if_pos hk]; rfl
          · rw [if_neg hk]
            cases b.rapplied e <;> rfl
      · cases h
    · cases h
  · cases h
/-- The book behind an event. -/
noncomputable def Bk.after (b : Bk) (e : Evt) : Bk := (b.rapplied e).getD b
noncomputable def Bk.err (b : Bk) (e : Evt) : Int := if (b.rapplied e).isSome then 0 else 131
theorem apply_call {S : Mem} {cb ce : List AV} {b : Bk} {e : Evt} (hb : bookOf S cb = some b) (he : evtOf S ce = some e) (hbf : b.fits) (hef : e.fits) :
    ∃ Y M, applyS [.ag cb, .ag ce] S = some (.tu [.ag [.i .u64 (b.after e).period, Y], .i .i64 (b.err e)], M) ∧ lstV entE M Y = some (b.after e).entries ∧ S <+: M := by
  simp only [applyS, hb, he]
  rw [if_pos ⟨hbf, hef⟩]
  unfold applyR commitB Bk.after Bk.err
  cases b.rapplied e with
  | none => split <;> exact ⟨_, _, rfl, retX_lst, retM_ext⟩
  | some b' =>
    split
    · simp only
      split
      · rename_i h0
        exact ⟨_, _, rfl, by simp only [Option.getD_some]; rw [h0]; rfl, ext_refl⟩
      · exact ⟨_, _, rfl, retX_lst, retM_ext⟩
    · exact ⟨_, _, rfl, retX_lst, retM_ext⟩
theorem rapply_call {S : Mem} {cb : List AV} {k s g q : Int} {xp xd : AV} {ps : List Pol} {ds : List Int} {b : Bk} (hb : bookOf S cb = some b) (hp : lstV polE S xp = some ps) (hd : lstV (intE .i64) S xd = some ds) (hbf : b.fits) (hef : Evt.fits ⟨k, s, ps, ds, g, q⟩) (ho : openQ S 13 xp = true) :
    ∃ Y M, rapplyS [.ag cb, .ag [.i .i64 k, .i .i64 s, xp, xd, .i .u64 g, .i .u64 q]] S = some (.tu [.ag [.i .u64 (b.after ⟨k, s, ps, ds, g, q⟩).period, Y], .i .i64 (b.err ⟨k, s, ps, ds, g, q⟩)], M) ∧ lstV entE M Y = some (b.after ⟨k, s, ps, ds, g, q⟩).entries ∧ S <+: M := by
  have he := evtOf_mk (k := k) (s := s) (g := g) (p := q) hp hd
  simp only [rapplyS, hb, he]
  rw [if_pos ⟨hbf, hef, ho⟩]
  unfold Bk.after Bk.err
  obtain ⟨y, rfl, hl⟩ := bookOf_ok hb
  cases b.rapplied ⟨k, s, ps, ds, g, q⟩ with
  | none => exact ⟨_, _, rfl, hl, ext_refl⟩
  | some b' => exact ⟨_, _, rfl, retX_lst, retM_ext⟩
end Go.Proofs.YtmdnohpolepcoaaGreat

namespace Go.Proofs.YtmdnohpolepcoaaGreat
open Go.RowKit
set_option linter.unusedSimpArgs false
set_option linter.unusedVariables false
set_option maxRecDepth 10000

theorem Acc.setL {α : Type} {z : Bool} {E : Enc α} {S2 M : Mem} {x : AV} {l : List α} (h : Acc z E S2 M x l) {i : Nat} (hi : i < S2.length) (B : Blk) : Acc z E (S2.set i B) (M.set i B) x l := by
  obtain ⟨T, rfl, h⟩ := h
  refine ⟨T, List.set_append_left _ _ hi, ?_⟩
  rw [List.length_set]; exact h
theorem intE_flat : ∀ n a, ∀ c ∈ (intE .i64).enc a, AV.Flat n c := by
  intro n a c hc
  simp only [intE, List.mem_singleton] at hc
  subst hc; exact Flat_i
def evtR (S : Mem) (e : Evt) : AV := .ag [.i .i64 e.kind, .i .i64 e.sub, retX false S e.puts, ret2Y polE S e.puts e.drops, .i .u64 e.granted, .i .u64 e.period]
def outR (S : Mem) (o : Evt × Bool × Int) : AV × Mem := (.tu [evtR S o.1, .b o.2.1, .i .i64 o.2.2], ret2M polE (intE .i64) S o.1.puts o.1.drops)
theorem outR_no (S : Mem) (n : Int) : outR S (noEvt, false, n) = (.tu [.ag [.i .i64 0, .i .i64 0, .sn, .sn, .i .u64 0, .i .u64 0], .b false, .i .i64 n], S) := rfl
theorem evt_ret {S M : Mem} {xp xd : AV} {ps : List Pol} {ds : List Int} (hp : Acc false polE S M xp ps) (hd : Acc false (intE .i64) S M xd ds) :
    WkV S (outR S (⟨1, 0, ps, ds, 0, 0⟩, true, 0)).1 (outR S (⟨1, 0, ps, ds, 0, 0⟩, true, 0)).2 (.tu [.ag [.i .i64 1, .i .i64 0, xp, xd, .i .u64 0, .i .u64 0], .b true, .i .i64 0]) M := by
  obtain ⟨keep, T, rfl, h1, h2, h3, h4, h5⟩ := hp.keep2 polE_flat intE_flat (show polE.sz ≠ (intE .i64).sz by decide) hd
  have := wkv_keep (S0 := S) (L := T) (y := .tu [.ag [.i .i64 1, .i .i64 0, xp, xd, .i .u64 0, .i .u64 0], .b true, .i .i64 0]) keep h1 h2
  rw [ren_tu, renL_cons, renL_cons, renL_cons, renL_nil, ren_ag, renL_cons, renL_cons, renL_cons, renL_cons, renL_cons, renL_cons, renL_nil, h3, h4, h5] at this
  exact this
def Chg.fits (c : Chg) : Prop := c.pol.fits ∧ -9223372036854775808 ≤ c.pol.sub ∧ c.pol.sub ≤ 9223372036854775807
instance (c : Chg) : Decidable c.fits := by unfold Chg.fits; infer_instance
noncomputable def tevS : Spec := fun args S => match args with
  | [.p it 0 0, .ag cb] => match S[it]? with
    | some (.cells [x] 0 none true) => match lstV chgE S x, bookOf S cb with
      | some l, some b => if b.fits ∧ l.length ≤ 1000 ∧ ∀ c ∈ l, c.fits then some (outR S (outOf b (seqOf l))) else none
      | _, _ => none
    | _ => none
  | _ => none
theorem oEv_ok : OK Tryz.prog (lamOf Tryz.prog) (orcOf [(18, keysS), (17, sortedS), (19, findS), (20, polS), (21, applyS)]) := orc_ok (by simpa using ⟨keys_ok, sorted_ok, bfind_ok, pol_ok, apply_ok⟩)
theorem updC_len (l : List Chg) (c : Chg) : (updC l c).length ≤ l.length + 1 := by
  unfold updC
  split
  · rw [List.length_set]; omega
  · simp
theorem retX_set {M : Mem} {K : List Int} {i : Nat} (hi : i < M.length) (B : Blk) : lstV (intE .i64) ((retM false (intE .i64) M K).set i B) (retX false M K) = some K := by
  cases K with
  | nil => rfl
  | cons a K =>
    have h := retX_lst (z := false) (E := intE .i64) (S := M.set i B) (l := a :: K)
    have e1 : retX false (M.set i B) (a :: K) = retX false M (a :: K) := by simp only [retX, List.length_set]
    have e2 : retM false (intE .i64) (M.set i B) (a :: K) = (retM false (intE .i64) M (a :: K)).set i B := by
      simp only [retM]; rw [List.set_append_left _ _ hi]
    rw [e1, e2] at h
    exact h
theorem foundV_mk (o : Option Ent) : ∃ a : Ent, foundV o = .tu [.ag a.enc, .b o.isSome] := by
  cases o with
  | none => exact ⟨noEnt, rfl⟩
  | some a => exact ⟨a, rfl⟩
theorem wrapSucc {k n : Nat} (h : k < n) (hn : n ≤ 1000) : wrapV .i64 ((k : Int) + 1) = ((k + 1 : Nat) : Int) := by rw [wrap_i64 (by omega) (by omega)]; omega
abbrev evC (k : Int) (xp xd : AV) : Blk := .cells [.i .i64 k, .i .i64 0, xp, xd, .i .u64 0, .i .u64 0] 0 none true
theorem tev_ok : SpecOK Tryz.prog 10 tevS := by
  intro args S x S' h
  unfold tevS at h
  split at h
  · rename_i it cb
    split at h
    · rename_i y hB
      split at h
      · rename_i l b hl hb
        split at h
        · rename_i hc
          obtain ⟨hbf, hl1, hcf⟩ := hc
          simp only [Option.some.injEq, Prod.ext_iff] at h
          obtain ⟨rfl, rfl⟩ := h
          obtain ⟨s, rfl, hls⟩ := bookOf_ok hb
          have hcL : ∀ L, cellB ((S ++ L)[it]?) 0 0 = some y := fun L => by rw [at_old hB]; rfl
          refine fn_of_wp f10 rfl (W_sound oEv_ok mixed _ _ _ _ _ ?_)
          simp (maxSteps := 1000000) (disch := omega) only [c10, hcL, lst_len hl, go_sem]
          refine wp_loop (fun j e M dl => dl = [] ∧ ∃ (k : Nat) (cs : List Chg), j = l.length - k ∧ k ≤ l.length ∧ S <+: M ∧ M[S.length]? = some (.cells [.i .u64 b.period, s] 0 none true) ∧
            M[S.length + 1]? = some (evC 0 .sn .sn) ∧ M[S.length + 2]? = some (.map (entsC 0 cs) cs.length) ∧ OnceK Chg.sub cs ∧ (∀ d, d ∈ cs ↔ d ∈ lasts (l.take k)) ∧ cs.length ≤ k ∧
            e.get 7 = .m (S.length + 2) ∧ e.get 22 = y ∧ e.get 4 = .p (S.length + 1) 0 0 ∧ e.get 3 = .p S.length 0 0 ∧ e.get 23 = .i .i64 l.length ∧ e.get 24 = .i .i64 k) (j := l.length) ?_ ?_
          · exact ⟨rfl, 0, [], rfl, Nat.zero_le _, ext_app _, by rw [at_app0]; rfl, by rw [at_app]; rfl, by rw [at_app]; rfl, List.Pairwise.nil, fun d => by simp [lasts], Nat.le_refl _, rfl, rfl, rfl, rfl, rfl, rfl⟩
          rintro j e M d' ⟨rfl, k, cs, rfl, hk, hSM, m0, m1, m2, hon, hmem, hcl, h7, h22, h4, h3, h23, h24⟩
          refine W_sound oEv_ok mixed _ _ _ _ _ ?_
          by_cases hkl : k < l.length
          · obtain ⟨bi, o, v, cap, ex, rfl⟩ := lst_sl hl hkl
            have hM := lst_ext hl hSM
            have hr : ∀ L, rowB ((M ++ L)[bi]?) (o + k * 14) v 14 = some (chgE.enc l[k]) := lstV_row hM hkl
            have hr0 := hr []
            rw [List.append_nil] at hr0
            have hkI : (k : Int) < l.length := by omega
            have hw : wrapV .i64 ((k : Int) + 1) = ((k + 1 : Nat) : Int) := by rw [wrap_i64 (by omega) (by omega)]; omega
            have hm := mupd_eq (at_old (L := [.cells l[k].enc 0 none true]) m2) l[k]
            simp only [chgE, Chg.enc, Chg.sub] at hr0 hm
            simp (maxSteps := 1000000) (disch := omega) only [c10l0, h7, h22, h4, h3, h23, h24, hkI, Int.toNat_natCast, hr0, hm, hw, go_sem]
            refine ⟨l.length - (k + 1), by omega, k + 1, updC cs l[k], rfl, hkl, ext_set (hSM.trans (ext_app _)) (by omega) _, ?_, ?_, at_set (at_old m2), updC_once hon _, fun d => ?_, ?_, ?_⟩
            rotate_left 4
            · first | rfl | exact ⟨rfl, rfl⟩
            · rw [at_set_ne (by omega)]; exact at_old m0
            · rw [at_set_ne (by omega)]; exact at_old m1
            · rw [updC_mem hon, List.take_succ_eq_append_getElem hkl, lasts_snoc, List.mem_append, List.mem_filter, List.mem_singleton, hmem]
              simp [sameSub, or_comm]
            · exact Nat.le_trans (updC_len _ _) (by omega)
          · have hkI : ¬ (k : Int) < l.length := by omega
            have hk1 : k = l.length := by omega
            subst hk1
            rw [List.take_length] at hmem
            obtain ⟨K, hK⟩ : ∃ K, K = (seqOf l).map Chg.sub := ⟨_, rfl⟩
            have hiK : isort (cs.map Chg.sub) = K := by rw [hK]; exact isort_seq hon hmem
            have hM1 : ∀ L, (M ++ evC 1 .sn .sn :: L)[M.length]? = some (evC 1 .sn .sn) := fun L => by rw [at_app0]; rfl
            have hk1 : keysS [.m (S.length + 2)] (M ++ [evC 1 .sn .sn]) = some (.f (.func 29) [] [.p (M.length + 1) 0 0], M ++ [evC 1 .sn .sn, .cells [.m (S.length + 2)] 0 none true]) := by
              simp only [keysS, List.append_assoc, List.length_append, List.length_singleton, List.singleton_append]
            obtain ⟨M2, hM2⟩ : ∃ M2, M2 = M ++ [evC 1 .sn .sn, .cells [.m (S.length + 2)] 0 none true] := ⟨_, rfl⟩
            have hs1 : sortedS [.f (.func 29) [] [.p (M.length + 1) 0 0]] M2 = some (retX false M2 K, retM false (intE .i64) M2 K) := by
              have e1 : M2[M.length + 1]? = some (.cells [.m (S.length + 2)] 0 none true) := by rw [hM2, at_app]; rfl
              have e2 : M2[S.length + 2]? = some (.map (entsC 0 cs) cs.length) := by rw [hM2]; exact at_old m2
              simp only [sortedS, e1, e2, keysOf_ents]
              have hrg : ∀ k ∈ cs.map Chg.sub, -9223372036854775808 ≤ k ∧ k ≤ 9223372036854775807 := by
                intro k hk
                obtain ⟨c, hc, rfl⟩ := List.mem_map.1 hk
                exact (hcf c (lasts_sub ((hmem c).1 hc))).2
              rw [if_pos ⟨trivial, once_nodup hon, born_nodup cs, born_lt cs, by rw [entsC_length]; omega, hrg⟩, hiK]
            rw [← hM2] at hk1
            have hXl : lstV (intE .i64) (retM false (intE .i64) M2 K) (retX false M2 K) = some K := retX_lst
            simp (maxSteps := 1000000) (disch := omega) only [c10l0, h7, h22, h4, h3, h23, h24, hkI, orc_cons, hk1, hs1, lst_len hXl, go_sem]
            obtain ⟨U, hU⟩ : ∃ U, U = retM false (intE .i64) M2 K := ⟨_, rfl⟩
            have hM2l : M2.length = M.length + 2 := by rw [hM2]; simp
            have hMl : S.length + 2 < M.length := (List.getElem?_eq_some_iff.1 m2).1
            have hM2U : M2 <+: U := by rw [hU]; exact retM_ext
            have hUl : M2.length ≤ U.length := hM2U.length_le
            have u10 : U[M.length]? = some (evC 1 .sn .sn) := at_pre hM2U (by rw [hM2]; exact hM1 _)
            have u0 : ∀ B, (U.set M.length B)[S.length]? = some (.cells [.i .u64 b.period, s] 0 none true) := fun B => by
              rw [at_set_ne (by omega)]; exact at_pre hM2U (by rw [hM2]; exact at_old m0)
            have u1 : ∀ B, (U.set M.length B)[S.length + 1]? = some (evC 0 .sn .sn) := fun B => by
              rw [at_set_ne (by omega)]; exact at_pre hM2U (by rw [hM2]; exact at_old m1)
            have u2 : ∀ B, (U.set M.length B)[S.length + 2]? = some (.map (entsC 0 cs) cs.length) := fun B => by
              rw [at_set_ne (by omega)]; exact at_pre hM2U (by rw [hM2]; exact at_old m2)
            have uB : ∀ B, (U.set M.length B)[M.length]? = some B := fun B => at_set u10
            have hSU : ∀ B, S <+: U.set M.length B := fun B => ext_set (hSM.trans ((by rw [hM2]; exact ext_app _ : M <+: M2).trans hM2U)) (by omega) _
            have uX : ∀ B, lstV (intE .i64) (U.set M.length B) (retX false M2 K) = some K := fun B => by rw [hU]; exact retX_set (by omega) B
            rw [← hU]
            obtain ⟨q, hq⟩ : ∃ q, q = seqOf l := ⟨_, rfl⟩
            rw [← hq] at hK
            rw [show outOf b (seqOf l) = outOf b q by rw [hq]]
            have hqK : K.length = q.length := by rw [hK, List.length_map]
            have hql : q.length ≤ 1000 := by rw [hq]; exact Nat.le_trans (seqOf_len l) hl1
            have hqm : ∀ c ∈ q, c ∈ cs := fun c hc => by rw [hq] at hc; exact (hmem c).2 (seqOf_mem.1 hc)
            have hqf : ∀ c ∈ q, c.pol.fits := fun c hc => (hcf c (lasts_sub ((hmem c).1 (hqm c hc)))).1
            obtain ⟨X, hX⟩ : ∃ X, X = retX false M2 K := ⟨_, rfl⟩
            rw [← hX] at uX
            rw [← hX]
            clear hs1 hk1 hXl
            refine wp_loop (fun j e M' dl => dl = [] ∧ ∃ (k : Nat) (xp xd : AV), j = q.length - k ∧ k ≤ q.length ∧ Acc false polE (U.set M.length (evC 1 xp xd)) M' xp (putsOf (q.take k)) ∧
              Acc false (intE .i64) (U.set M.length (evC 1 xp xd)) M' xd (dropsOf b.entries (q.take k)) ∧ (∀ c ∈ q.take k, ¬ (c.put = true ∧ ¬ c.pol.right)) ∧
              e.get 4 = .p (S.length + 1) 0 0 ∧ e.get 10 = .p M.length 0 0 ∧ e.get 3 = .p S.length 0 0 ∧ e.get 7 = .m (S.length + 2) ∧ e.get 37 = X ∧ e.get 38 = .i .i64 q.length ∧ e.get 39 = .i .i64 k) (j := q.length) ?_ ?_
            · refine ⟨rfl, 0, .sn, .sn, rfl, Nat.zero_le _, acc_nil ?_, acc_nil ?_, fun c hc => by simp at hc, rfl, rfl, rfl, rfl, rfl, by rw [hqK]; rfl, rfl⟩ <;> rw [set_self u10] <;> exact ext_refl
            rintro j e M' d' ⟨rfl, k, xp, xd, rfl, hkq, hp, hd, hgood, h4, h10, h3, h7, h37, h38, h39⟩
            have e0 := at_pre hp.ext (u0 _)
            have e1 := at_pre hp.ext (u1 _)
            have e2 := at_pre hp.ext (u2 _)
            have eB := at_pre hp.ext (uB _)
            have eX := lst_ext (uX (evC 1 xp xd)) hp.ext
            by_cases hkl : k < q.length
            · have hKk : K[k]'(by omega) = q[k].sub := by simp only [hK, List.getElem_map]
              obtain ⟨bi, o, v, cap, ex, rfl⟩ := lst_sl eX (show k < K.length by omega)
              have hc := lstV_cell eX rfl (fun a => rfl) (show k < K.length by omega) []
              rw [List.append_nil, hKk] at hc
              have hkI : (k : Int) < q.length := by omega
              have hm := fun z => mlookC_eq (z := z) e2 hon (hqm _ (List.getElem_mem hkl))
              refine wp_seq (W_sound oEv_ok mixed _ _ _ _ _ ?_)
              simp (maxSteps := 1000000) (disch := omega) only [h38, h39, hkI, go_sem]
              refine wp_ls oEv_ok mixed ?_
              simp (maxSteps := 1000000) (disch := omega) only [go_sem]
              refine wp_live (wp_seq (wp_block (wp_seq (W_sound oEv_ok mixed _ _ _ _ _ ?_))))
              simp (maxSteps := 1000000) (disch := omega) only [h4, h10, h3, h7, h37, h38, h39, Int.toNat_natCast, Nat.mul_one, hc, go_sem]
              generalize hq0 : q[k] = c at hc hm
              obtain ⟨a, ha⟩ := foundV_mk (b.entries.find? (hasSub c.sub))
              have hpr : ∀ L, polS [.ag c.pol.enc] (M' ++ L) = some (.b (decide c.pol.right), M' ++ L) := fun L => polS_eq (by rw [← hq0]; exact hqf _ (List.getElem_mem hkl)) _
              have r0 : ∀ L, rowB ((M' ++ L)[S.length]?) 0 0 2 = some [.i .u64 b.period, s] := fun L => by rw [at_old e0]; rfl
              have hfi : ∀ L, findS [.ag [.i .u64 b.period, s], .i .i64 c.sub] (M' ++ L) = some (foundV (b.entries.find? (hasSub c.sub)), M' ++ L) := fun L => by
                have hb' : bookOf (M' ++ L) [.i .u64 b.period, s] = some b := by
                  have := bookOf_mk (p := b.period) (lstV_grow (lst_ext hls ((hSU _).trans hp.ext)) L)
                  exact this
                simp only [findS, hb']
                rw [if_pos hbf.1]
              rw [ha] at hfi
              simp only [Chg.enc, Pol.enc, Ent.enc] at hm hpr hfi
              refine wp_ls oEv_ok mixed ?_
              simp (maxSteps := 1000000) (disch := omega) only [hm, go_sem]
              refine wp_ls oEv_ok mixed ?_
              simp (maxSteps := 1000000) (disch := omega) only [r0, orc_cons, hfi, go_sem]
              refine wp_live (wp_block (wp_seq (W_sound oEv_ok mixed _ _ _ _ _ ?_)))
              have hBL : ∀ L : Mem, (M' ++ L)[M.length]? = some (evC 1 xp xd) := fun L => at_old eB
              have c1 : ∀ L, rowB ((M' ++ L)[S.length + 1]?) 0 0 6 = some [.i .i64 0, .i .i64 0, .sn, .sn, .i .u64 0, .i .u64 0] := fun L => by rw [at_old e1]; rfl
              have e1L : ∀ L : Mem, (M' ++ L)[S.length + 1]? = some (evC 0 .sn .sn) := fun L => at_old e1
              have hMU : M.length < (U.set M.length (evC 1 xp xd)).length := by rw [List.length_set]; omega
              have htk : q.take (k + 1) = q.take k ++ [c] := by rw [List.take_succ_eq_append_getElem hkl, hq0]
              have hpl : (putsOf (q.take k)).length ≤ 1000 := Nat.le_trans (putsOf_len _) (Nat.le_trans (List.length_take_le _ _) (by omega))
              have hdl : (dropsOf b.entries (q.take k)).length ≤ 1000 := Nat.le_trans (dropsOf_len _ _) (Nat.le_trans (List.length_take_le _ _) (by omega))
              have hgd : ∀ (x : Chg), (x = c → ¬ (x.put = true ∧ ¬ x.pol.right)) → x ∈ q.take (k + 1) → ¬ (x.put = true ∧ ¬ x.pol.right) := fun x h1 h2 => by
                rw [htk, List.mem_append, List.mem_singleton] at h2
                rcases h2 with h2 | h2
                · exact hgood x h2
                · exact h1 h2
              cases hput : c.put with
              | true =>
                by_cases hr : c.pol.right
                · rw [decide_eq_true hr] at hpr
                  simp (maxSteps := 1000000) (disch := omega) only [hpr, orc_cons, un_not_b, Bool.not_true, Bool.not_false, go_sem]
                  have c2 : ∀ L, cellB ((M' ++ L)[M.length]?) 2 0 = some xp := fun L => by rw [hBL]; rfl
                  obtain ⟨x', M'', hap, hp', hfr⟩ := (hp.grow [.cells [.i .i64 c.pol.sub, .i .u8 c.pol.a, .i .u8 c.pol.b, .i .u8 c.pol.c, .i .u8 c.pol.d, .i .i64 c.pol.bits, .i .u64 c.pol.rate, .i .u64 c.pol.burst, .i .u64 c.pol.srate, .i .u64 c.pol.sburst, .i .u64 c.pol.quota, .i .u64 c.pol.lease, .i .u64 c.pol.quantum, .b true] 0 none true, .cells a.enc 0 none true, .cells c.pol.enc 0 none true]).app2 (bytes := 80) polE_one c.pol (by omega) (by omega)
                  have hd' := ((hd.grow [.cells [.i .i64 c.pol.sub, .i .u8 c.pol.a, .i .u8 c.pol.b, .i .u8 c.pol.c, .i .u8 c.pol.d, .i .i64 c.pol.bits, .i .u64 c.pol.rate, .i .u64 c.pol.burst, .i .u64 c.pol.srate, .i .u64 c.pol.sburst, .i .u64 c.pol.quota, .i .u64 c.pol.lease, .i .u64 c.pol.quantum, .b true] 0 none true, .cells a.enc 0 none true, .cells c.pol.enc 0 none true]).kept hp'.ext hfr (by decide)).setL hMU (evC 1 x' xd)
                  have hp'' := hp'.setL hMU (evC 1 x' xd)
                  rw [List.set_set] at hd' hp''
                  have hB'' := hfr M.length _ (hBL _) (by simp [Blk.opn])
                  simp only [polE, Pol.enc, Ent.enc] at hap
                  obtain ⟨i1, o1, v1, l1, c1, ex1, rfl⟩ := appV_sl hap
                  refine W_sound oEv_ok mixed _ _ _ _ _ ?_
                  simp (maxSteps := 1000000) (disch := omega) only [c2, hap, hB'', AV.cells, go_sem]
                  refine W_sound oEv_ok mixed _ _ _ _ _ ?_
                  simp (maxSteps := 1000000) (disch := omega) only [wrapSucc hkl hql, go_sem]
                  refine ⟨q.length - (k + 1), by omega, k + 1, .sl i1 o1 v1 l1 c1 ex1, xd, rfl, hkl, ?_, ?_, fun x => hgd x fun e q => ?_, rfl⟩
                  · rw [htk, putsOf, List.filterMap_append]
                    have : [c].filterMap putOf = [c.pol] := by simp [putOf, hput]
                    rw [this]; exact hp''
                  · rw [htk, dropsOf, List.filterMap_append]
                    have : [c].filterMap (dropOf b.entries) = [] := by simp [dropOf, hput]
                    rw [this, List.append_nil]; exact hd'
                  · subst e; exact q.2 hr
                · rw [decide_eq_false hr] at hpr
                  have hset : ∀ L : Mem, (M' ++ L).set (S.length + 1) (evC 0 .sn .sn) = M' ++ L := fun L => set_self (e1L L)
                  simp (maxSteps := 1000000) (disch := omega) only [hpr, orc_cons, un_not_b, Bool.not_true, Bool.not_false, go_sem]
                  refine W_sound oEv_ok mixed _ _ _ _ _ ?_
                  simp (maxSteps := 1000000) (disch := omega) only [c10, e1L, hset, go_sem]
                  rw [out_bad ⟨c, by rw [← hq0]; exact List.getElem_mem hkl, hput, hr⟩, outR_no]
                  exact wkv_dropP (((hSU _).trans hp.ext).trans (ext_app _)) rfl
              | false =>
                simp (maxSteps := 1000000) (disch := omega) only [hpr, orc_cons, un_not_b, Bool.not_true, Bool.not_false, go_sem]
                have hpt : putsOf (q.take (k + 1)) = putsOf (q.take k) := by
                  rw [htk, putsOf, List.filterMap_append]
                  have : [c].filterMap putOf = [] := by simp [putOf, hput]
                  rw [this, List.append_nil]; rfl
                have hdt : dropsOf b.entries (q.take (k + 1)) = dropsOf b.entries (q.take k) ++ (if (b.entries.find? (hasSub c.sub)).isSome then [c.sub] else []) := by
                  rw [htk, dropsOf, List.filterMap_append]
                  congr 1
                  cases hf : (b.entries.find? (hasSub c.sub)).isSome <;> simp [dropOf, hput, hf]
                cases hth : (b.entries.find? (hasSub c.sub)).isSome with
                | true =>
                  rw [hth, if_pos rfl] at hdt
                  have c3 : ∀ L, cellB ((M' ++ L)[M.length]?) 3 0 = some xd := fun L => by rw [hBL]; rfl
                  obtain ⟨x', M'', hap, hd', hfr⟩ := (hd.grow [.cells [.i .i64 c.pol.sub, .i .u8 c.pol.a, .i .u8 c.pol.b, .i .u8 c.pol.c, .i .u8 c.pol.d, .i .i64 c.pol.bits, .i .u64 c.pol.rate, .i .u64 c.pol.burst, .i .u64 c.pol.srate, .i .u64 c.pol.sburst, .i .u64 c.pol.quota, .i .u64 c.pol.lease, .i .u64 c.pol.quantum, .b false] 0 none true, .cells a.enc 0 none true, .cells [.i .i64 c.sub] 0 none true]).app2 (bytes := 8) (fun _ => rfl) c.sub (by omega) (by omega)
                  have hp' := ((hp.grow [.cells [.i .i64 c.pol.sub, .i .u8 c.pol.a, .i .u8 c.pol.b, .i .u8 c.pol.c, .i .u8 c.pol.d, .i .i64 c.pol.bits, .i .u64 c.pol.rate, .i .u64 c.pol.burst, .i .u64 c.pol.srate, .i .u64 c.pol.sburst, .i .u64 c.pol.quota, .i .u64 c.pol.lease, .i .u64 c.pol.quantum, .b false] 0 none true, .cells a.enc 0 none true, .cells [.i .i64 c.sub] 0 none true]).kept hd'.ext hfr (by decide)).setL hMU (evC 1 xp x')
                  have hd'' := hd'.setL hMU (evC 1 xp x')
                  rw [List.set_set] at hp' hd''
                  have hB'' := hfr M.length _ (hBL _) (by simp [Blk.opn])
                  simp only [intE, Ent.enc] at hap
                  obtain ⟨i1, o1, v1, l1, c1, ex1, rfl⟩ := appV_sl hap
                  refine W_sound oEv_ok mixed _ _ _ _ _ ?_
                  simp (maxSteps := 1000000) (disch := omega) only [c3, hap, hB'', AV.cells, go_sem]
                  refine W_sound oEv_ok mixed _ _ _ _ _ ?_
                  simp (maxSteps := 1000000) (disch := omega) only [wrapSucc hkl hql, go_sem]
                  refine ⟨q.length - (k + 1), by omega, k + 1, xp, .sl i1 o1 v1 l1 c1 ex1, rfl, hkl, ?_, ?_, fun x => hgd x fun e q => ?_, rfl⟩
                  · rw [hpt]; exact hp'
                  · rw [hdt]; exact hd''
                  · subst e; rw [hput] at q; cases q.1
                | false =>
                  rw [hth, if_neg (by decide), List.append_nil] at hdt
                  refine W_sound oEv_ok mixed _ _ _ _ _ ?_
                  simp (maxSteps := 1000000) (disch := omega) only [go_sem]
                  refine W_sound oEv_ok mixed _ _ _ _ _ ?_
                  simp (maxSteps := 1000000) (disch := omega) only [wrapSucc hkl hql, go_sem]
                  refine ⟨q.length - (k + 1), by omega, k + 1, xp, xd, rfl, hkl, ?_, ?_, fun x => hgd x fun e q => ?_, rfl⟩
                  · rw [hpt]; exact hp.grow _
                  · rw [hdt]; exact hd.grow _
                  · subst e; rw [hput] at q; cases q.1
            · have hkI : ¬ (k : Int) < q.length := by omega
              obtain rfl : k = q.length := by omega
              rw [List.take_length] at hp hd hgood
              have hng : ¬ badIn q := fun ⟨c, hc, h⟩ => hgood c hc h
              have c2 : cellB (M'[M.length]?) 2 0 = some xp := by rw [eB]; rfl
              have c3 : cellB (M'[M.length]?) 3 0 = some xd := by rw [eB]; rfl
              have hpl : (putsOf q).length ≤ 1000 := Nat.le_trans (putsOf_len _) hql
              have hdl : (dropsOf b.entries q).length ≤ 1000 := Nat.le_trans (dropsOf_len _ _) hql
              by_cases hz : (putsOf q).length = 0 ∧ (dropsOf b.entries q).length = 0
              · have hsum : wrapV .i64 (((putsOf q).length : Int) + ((dropsOf b.entries q).length : Int)) = 0 := by rw [hz.1, hz.2]; rfl
                have hset : M'.set (S.length + 1) (evC 0 .sn .sn) = M' := set_self e1
                refine W_sound oEv_ok mixed _ _ _ _ _ ?_
                simp (maxSteps := 1000000) (disch := omega) only [c10, c10l1, h4, h10, h3, h38, h39, hkI, c2, c3, lst_len hp.lst, lst_len hd.lst, hsum, e1, hset, go_sem]
                rw [out_none hng hz.1 hz.2, outR_no]
                exact wkv_dropP ((hSU _).trans hp.ext) rfl
              · have hsum : wrapV .i64 (((putsOf q).length : Int) + ((dropsOf b.entries q).length : Int)) ≠ 0 := by rw [wrap_i64 (by omega) (by omega)]; omega
                have hsum2 : ¬ (((putsOf q).length : Int) + ((dropsOf b.entries q).length : Int)) = 0 := by clear hsum; omega
                have hb' : bookOf M' [.i .u64 b.period, s] = some b := bookOf_mk (p := b.period) (lst_ext hls ((hSU _).trans hp.ext))
                have hef : Evt.fits ⟨1, 0, putsOf q, dropsOf b.entries q, 0, 0⟩ := ⟨by show (putsOf q).length ≤ _; omega, by show (dropsOf b.entries q).length ≤ _; omega, fun p hpm => by
                  obtain ⟨c, hc, _, rfl⟩ := putsOf_mem.1 hpm
                  exact hqf c hc⟩
                obtain ⟨Y, M3, hap, hY, hM3⟩ := apply_call hb' (evtOf_mk (k := 1) (s := 0) (g := 0) (p := 0) hp.lst hd.lst) hbf hef
                have r0 : rowB (M'[S.length]?) 0 0 2 = some [.i .u64 b.period, s] := by rw [e0]; rfl
                have rB : rowB (M'[M.length]?) 0 0 6 = some [.i .i64 1, .i .i64 0, xp, xd, .i .u64 0, .i .u64 0] := by rw [eB]; rfl
                have f1 : ∀ L : Mem, (M3 ++ L)[S.length + 1]? = some (evC 0 .sn .sn) := fun L => at_old (at_pre hM3 e1)
                have fB : ∀ L : Mem, rowB ((M3 ++ L)[M.length]?) 0 0 6 = some [.i .i64 1, .i .i64 0, xp, xd, .i .u64 0, .i .u64 0] := fun L => by rw [at_old (at_pre hM3 eB)]; rfl
                have hset : ∀ L : Mem, (M3 ++ L).set (S.length + 1) (evC 0 .sn .sn) = M3 ++ L := fun L => set_self (f1 L)
                have hrow : ∀ (L : Mem), rowB (((M3 ++ L).set (S.length + 1) (evC 1 xp xd))[S.length + 1]?) 0 0 6 = some [.i .i64 1, .i .i64 0, xp, xd, .i .u64 0, .i .u64 0] := fun L => by rw [at_set (f1 L)]; rfl
                generalize b.after ⟨1, 0, putsOf q, dropsOf b.entries q, 0, 0⟩ = ba at hap hY
                unfold Bk.err at hap
                refine W_sound oEv_ok mixed _ _ _ _ _ ?_
                by_cases hs : (b.rapplied ⟨1, 0, putsOf q, dropsOf b.entries q, 0, 0⟩).isSome = true
                · rw [if_pos hs] at hap
                  simp (maxSteps := 1000000) (disch := omega) only [c10, c10l1, h4, h10, h3, h38, h39, hkI, c2, c3, lst_len hp.lst, lst_len hd.lst, hsum, hsum2, r0, rB, orc_cons, hap, lst_cells hY, lst_one hY, List.replicate, f1, fB, lst_one hp.lst, lst_one hd.lst, Bool.and_self, hrow, go_sem]
                  rw [out_some hng hz hs]
                  have hM4 : M' <+: M3 ++ [.cells [.i .u64 ba.period, Y] 0 none true] := hM3.trans (ext_app _)
                  exact evt_ret (((hp.base (hSU _)).extM hM4).setB (by omega) (f1 _) rfl _) (((hd.base (hSU _)).extM hM4).setB (by omega) (f1 _) rfl _)
                · rw [if_neg hs] at hap
                  simp (maxSteps := 1000000) (disch := omega) only [c10, c10l1, h4, h10, h3, h38, h39, hkI, c2, c3, lst_len hp.lst, lst_len hd.lst, hsum, hsum2, r0, rB, orc_cons, hap, lst_cells hY, lst_one hY, List.replicate, f1, fB, hset, go_sem]
                  rw [out_err hng hz hs, outR_no]
                  exact wkv_dropP ((((hSU _).trans hp.ext).trans hM3).trans (ext_app _)) rfl
        · cases h
      · cases h
    · cases h
  · cases h
end Go.Proofs.YtmdnohpolepcoaaGreat

namespace Go.Proofs.YtmdnohpolepcoaaGreat
open Go.RowKit
set_option linter.unusedSimpArgs false
set_option linter.unusedVariables false
set_option maxRecDepth 10000

noncomputable def rbrightW : Spec := fun args S => match args with
  | [.ag cs] => match bookOf S cs with
    | some b => if ∀ x ∈ b.entries, x.pol.fits then some (.b (decide b.ok), S) else none
    | none => none
  | _ => none
theorem rbrightW_ok : SpecOK Tryz.prog 5 rbrightW := by
  intro args S x S' h
  simp only [rbrightW] at h
  split at h
  · rename_i cs
    split at h
    · rename_i b hb
      split at h
      · rename_i hf
        cases h
        by_cases hlim : b.entries.length ≤ 1000000
        · refine rbright_ok _ _ _ _ ?_
          simp only [brightS, hb]
          rw [if_pos ⟨hlim, hf⟩]
        · obtain ⟨s, rfl, hl⟩ := bookOf_ok hb
          obtain ⟨p, l⟩ := b
          simp only at hl hlim
          have h8 : (8 : Int) < l.length := by omega
          refine fn_of_wp f5 rfl (W_sound none_ok mixed _ _ _ _ _ ?_)
          simp (maxSteps := 1000000) (disch := omega) only [c5, lst_len hl, h8, go_sem]
          have hno : ¬ (Bk.mk p l).ok := fun q => by
            have := q.2.2.1.1; unfold polsOf at this; simp at this; omega
          refine ⟨fun h1 => ⟨fun h2 => ?_, fun h2 => ?_⟩, fun h1 => ?_⟩ <;> exact wkv_f hno
      · cases h
    · cases h
  · cases h
theorem rbrightW_eq {S : Mem} {cs : List AV} {b : Bk} (h : bookOf S cs = some b) (hf : ∀ x ∈ b.entries, x.pol.fits) : rbrightW [.ag cs] S = some (.b (decide b.ok), S) := by
  simp only [rbrightW, h, if_pos hf]

theorem resame_ok : SpecOK Tryz.prog 13 esameS := by
  intro args S x S' h
  simp only [esameS] at h
  split at h
  · rename_i c1 c2
    split at h
    · rename_i a b ha hb
      split at h
      · rename_i hf
        cases h
        obtain ⟨xp1, xd1, rfl, hp1, hd1⟩ := evtOf_ok ha
        obtain ⟨xp2, xd2, rfl, hp2, hd2⟩ := evtOf_ok hb
        obtain ⟨k1, s1, ps1, ds1, g1, q1⟩ := a
        obtain ⟨k2, s2, ps2, ds2, g2, q2⟩ := b
        obtain ⟨hf1, hf2, _⟩ := hf
        simp only at hp1 hp2 hd1 hd2 hf1 hf2
        simp only [Evt.mk.injEq]
        by_cases hall : k1 = k2 ∧ s1 = s2 ∧ g1 = g2 ∧ q1 = q2 ∧ ps1.length = ps2.length ∧ ds1.length = ds2.length
        · obtain ⟨rfl, rfl, rfl, rfl, hpl, hdl⟩ := hall
          have hplI : (ps1.length : Int) = ps2.length := by omega
          have hdlI : (ds1.length : Int) = ds2.length := by omega
          refine fn_of_wp f13 rfl (W_sound none_ok mixed _ _ _ _ _ ?_)
          simp (maxSteps := 1000000) (disch := omega) only [c13, lst_len hp1, lst_len hp2, lst_len hd1, lst_len hd2, hplI, hdlI, eq_self, go_sem]
          refine wp_loop (fun j e M dl => dl = [] ∧ ∃ k : Nat, j = ps2.length - k ∧ k ≤ ps2.length ∧ M = S ++ [.cells [.i .i64 k1, .i .i64 s1, xp1, xd1, .i .u64 g1, .i .u64 q1] 0 none true, .cells [.i .i64 k1, .i .i64 s1, xp2, xd2, .i .u64 g1, .i .u64 q1] 0 none true] ∧ (∀ i (hi : i < k) (h1 : i < ps1.length) (h2 : i < ps2.length), ps1[i] = ps2[i]) ∧
            e.get 2 = .p S.length 0 0 ∧ e.get 3 = .p (S.length + 1) 0 0 ∧ e.get 53 = .i .i64 ps2.length ∧ e.get 54 = .i .i64 k) (j := ps2.length) ⟨rfl, 0, rfl, Nat.zero_le _, rfl, fun i hi => absurd hi (Nat.not_lt_zero _), rfl, rfl, rfl, rfl⟩ ?_
          rintro j e M d' ⟨rfl, k, rfl, hk, rfl, hn, h2, h3, h53, h54⟩
          refine W_sound none_ok mixed _ _ _ _ _ ?_
          by_cases hkl : k < ps2.length
          · obtain ⟨bi, o, v, cap, ex, rfl⟩ := lst_sl hp1 (show k < ps1.length by omega)
            obtain ⟨bj, o2, v2, cap2, ex2, rfl⟩ := lst_sl hp2 hkl
            have hkI : (k : Int) < ps2.length := by omega
            have hkm : k < ps1.length := by omega
            have ha : ∀ L, rowB ((S ++ L)[bi]?) (o + k * 13) v 13 = some (polE.enc ps1[k]) := lstV_row hp1 hkm
            have hb : ∀ L, rowB ((S ++ L)[bj]?) (o2 + k * 13) v2 13 = some (polE.enc ps2[k]) := lstV_row hp2 hkl
            have hkI2 : (k : Int) < ps1.length := by omega
            simp (maxSteps := 1000000) (disch := omega) only [c13l1, h2, h3, h53, h54, hkI, hkI2, Int.toNat_natCast, ha, hb, ne_pol, go_sem]
            refine ⟨fun hd => wkv_f fun q => hd (by have := q.1; subst this; rfl), fun hd => ⟨ps2.length - (k + 1), by omega, k + 1, rfl, hkl, fun i hi g1 g2 => ?_, rfl⟩⟩
            by_cases hik : i = k
            · subst hik; exact Decidable.not_not.1 hd
            · exact hn i (by omega) g1 g2
          · have hkI : ¬ (k : Int) < ps2.length := by omega
            have hps : ps1 = ps2 := List.ext_getElem hpl fun i g1 g2 => hn i (by omega) g1 g2
            simp (maxSteps := 1000000) (disch := omega) only [c13l1, h2, h3, h53, h54, hkI, lst_len hd1, lst_len hd2, hdlI, go_sem]
            refine wp_loop (fun j e M dl => dl = [] ∧ ∃ k : Nat, j = ds2.length - k ∧ k ≤ ds2.length ∧ M = S ++ [.cells [.i .i64 k1, .i .i64 s1, xp1, xd1, .i .u64 g1, .i .u64 q1] 0 none true, .cells [.i .i64 k1, .i .i64 s1, xp2, xd2, .i .u64 g1, .i .u64 q1] 0 none true] ∧ (∀ i (hi : i < k) (h1 : i < ds1.length) (h2 : i < ds2.length), ds1[i] = ds2[i]) ∧
              e.get 2 = .p S.length 0 0 ∧ e.get 3 = .p (S.length + 1) 0 0 ∧ e.get 71 = .i .i64 ds2.length ∧ e.get 72 = .i .i64 k) (j := ds2.length) ⟨rfl, 0, rfl, Nat.zero_le _, rfl, fun i hi => absurd hi (Nat.not_lt_zero _), rfl, rfl, rfl, rfl⟩ ?_
            clear h2 h3 h53 h54 hkI hkl hn hk
            rintro j e M d' ⟨rfl, k, rfl, hk, rfl, hn, h2, h3, h71, h72⟩
            refine W_sound none_ok mixed _ _ _ _ _ ?_
            by_cases hkl : k < ds2.length
            · obtain ⟨bi, o, v, cap, ex, rfl⟩ := lst_sl hd1 (show k < ds1.length by omega)
              obtain ⟨bj, o2, v2, cap2, ex2, rfl⟩ := lst_sl hd2 hkl
              have hkI : (k : Int) < ds2.length := by omega
              have hkm : k < ds1.length := by omega
              have ha := lstV_cell hd1 rfl (fun a => rfl) hkm
              have hb := lstV_cell hd2 rfl (fun a => rfl) hkl
              have hkI2 : (k : Int) < ds1.length := by omega
              simp (maxSteps := 1000000) (disch := omega) only [c13l3, h2, h3, h71, h72, hkI, hkI2, Int.toNat_natCast, Nat.mul_one, ha, hb, go_sem]
              refine ⟨fun hd => wkv_f fun q => hd (by have := q.2; subst this; rfl), fun hd => ⟨ds2.length - (k + 1), by omega, k + 1, rfl, hkl, fun i hi g1 g2 => ?_, rfl⟩⟩
              by_cases hik : i = k
              · subst hik; exact Decidable.not_not.1 hd
              · exact hn i (by omega) g1 g2
            · have hkI : ¬ (k : Int) < ds2.length := by omega
              have hds : ds1 = ds2 := List.ext_getElem hdl fun i g1 g2 => hn i (by omega) g1 g2
              simp (maxSteps := 1000000) (disch := omega) only [c13l3, h2, h3, h71, h72, hkI, go_sem]
              exact wkv_tP (ext_app _) ⟨hps, hds⟩
        · have hno : ¬ (k1 = k2 ∧ s1 = s2 ∧ ps1 = ps2 ∧ ds1 = ds2 ∧ g1 = g2 ∧ q1 = q2) := fun q => hall ⟨q.1, q.2.1, q.2.2.2.2.1, q.2.2.2.2.2, by rw [q.2.2.1], by rw [q.2.2.2.1]⟩
          refine fn_of_wp f13 rfl (W_sound none_ok mixed _ _ _ _ _ ?_)
          simp (maxSteps := 1000000) (disch := omega) only [c13, lst_len hp1, lst_len hp2, lst_len hd1, lst_len hd2, go_sem]
          refine ⟨fun h1 => ⟨fun h2 => ⟨fun h3 => ⟨fun h4 => ⟨fun h5 => ⟨fun h6 => wkv_f hno, fun h6 => absurd ⟨Decidable.not_not.1 h1, Decidable.not_not.1 h2, Decidable.not_not.1 h3, Decidable.not_not.1 h4, by omega, by omega⟩ hall⟩, fun h5 => wkv_f hno⟩, fun h4 => wkv_f hno⟩, fun h3 => wkv_f hno⟩, fun h2 => wkv_f hno⟩, fun h1 => wkv_f hno⟩
      · cases h
    · cases h
  · cases h
end Go.Proofs.YtmdnohpolepcoaaGreat

namespace Go.Proofs.YtmdnohpolepcoaaGreat
open Go.RowKit
set_option linter.unusedSimpArgs false
set_option linter.unusedVariables false
set_option maxRecDepth 10000

theorem ext_of_at {S M : Mem} (h : ∀ (i : Nat) (B : Blk), S[i]? = some B → M[i]? = some B) : S <+: M := by
  rw [List.prefix_iff_getElem?]
  intro i hi
  exact h i _ (List.getElem?_eq_getElem hi)
/-- What an added change leaves as it was. -/
def Frm (M M' : Mem) (it j : Nat) (l : List Chg) : Prop := ∀ (ib : Nat) (B : Blk), M[ib]? = some B → ib ≠ it → (l = [] ∨ ib ≠ j) → M'[ib]? = some B
theorem Frm.ext {S M M' : Mem} {it j : Nat} {l : List Chg} (h : Frm M M' it j l) (t : TAt S.length M it j l) (hS : S <+: M) : S <+: M' := by
  obtain ⟨hb, hj, _⟩ := t
  refine ext_of_at fun i B hB => ?_
  have hi := (List.getElem?_eq_some_iff.1 hB).1
  refine h i B (at_pre hS hB) (by omega) ?_
  by_cases q : l = []
  · exact .inl q
  · have := hj q; exact .inr (by omega)
theorem TL.ne_box {M : Mem} {x y : AV} {j i : Nat} {l : List Chg} (h : TL M x j l) (hl : l ≠ []) (hy : M[i]? = some (.cells [y] 0 none true)) : i ≠ j := by
  rintro rfl
  rcases h with ⟨q, _⟩ | ⟨_, v, _, hB⟩
  · exact hl q
  · rw [hy] at hB
    injection hB with hB
    injection hB with _ _ q _
    cases q
structure Two (b : Nat) (M : Mem) (ix jx : Nat) (l1 : List Chg) (iy jy : Nat) (l2 : List Chg) : Prop where
  h1 : TAt b M ix jx l1
  h2 : TAt b M iy jy l2
  ne : ix ≠ iy
  dj : l1 ≠ [] → l2 ≠ [] → jx ≠ jy
section
variable {b ix jx iy jy : Nat} {M M' : Mem} {l1 l2 : List Chg} {c : Chg}
theorem Two.symm (h : Two b M ix jx l1 iy jy l2) : Two b M iy jy l2 ix jx l1 := ⟨h.h2, h.h1, h.ne.symm, fun a b => (h.dj b a).symm⟩
theorem Two.step (h : Two b M ix jx l1 iy jy l2) {j' : Nat} (t : TAt b M' ix j' (l1 ++ [c])) (e1 : l1 ≠ [] → j' = jx) (e2 : l1 = [] → M.length ≤ j') (fr : Frm M M' ix jx l1) : Two b M' ix j' (l1 ++ [c]) iy jy l2 := by
  obtain ⟨⟨b1, b2, x, hx, hX⟩, ⟨b3, b4, y, hy, hY⟩, ne, dj⟩ := h
  refine ⟨t, ⟨b3, b4, y, fr iy _ hy ne.symm ?_, hY.extM fun B q hB => fr jy B hB (Ne.symm (hY.ne_box q hx)) ?_⟩, ne, fun _ q => ?_⟩
  · by_cases q : l1 = []
    · exact .inl q
    · exact .inr (hX.ne_box q hy)
  · by_cases p : l1 = []
    · exact .inl p
    · exact .inr (dj p q).symm
  · by_cases p : l1 = []
    · have := e2 p
      rcases hY with ⟨q', _⟩ | ⟨_, v, _, hB⟩
      · exact absurd q' q
      · have := (List.getElem?_eq_some_iff.1 hB).1
        omega
    · rw [e1 p]; exact dj p q
theorem Two.ext (h : Two b M ix jx l1 iy jy l2) (hM : M <+: M') : Two b M' ix jx l1 iy jy l2 := ⟨h.h1.ext hM, h.h2.ext hM, h.ne, h.dj⟩
end
/-- A change as a Txn keeps it. -/
def nrm (c : Chg) : Chg := if c.put then c else ⟨false, subPol c.sub⟩
theorem nrm_sub (c : Chg) : (nrm c).sub = c.sub := by unfold nrm; split <;> rfl
/-- Put or Drop, as it stands in a change. -/
def opS (it : Nat) (c : Chg) (M : Mem) : Option (AV × Mem) := if c.put then tputS [.p it 0 0, .ag c.pol.enc] M else tdropS [.p it 0 0, .i .i64 c.sub] M
theorem op_call {b it j : Nat} {M : Mem} {l : List Chg} (h : TAt b M it j l) (hbM : b ≤ M.length) (hl : l.length < 64) (c : Chg) :
    ∃ M' j', opS it c M = some (.i .i64 0, M') ∧ TAt b M' it j' (l ++ [nrm c]) ∧ (l ≠ [] → j' = j) ∧ (l = [] → M.length ≤ j') ∧ M.length ≤ M'.length ∧ Frm M M' it j l := by
  unfold opS nrm
  cases hp : c.put with
  | true =>
    obtain ⟨M', j', h1, h2, h3, h4, h5, h6⟩ := tput_call h hbM hl c.pol
    have hc : (⟨true, c.pol⟩ : Chg) = c := by rw [← hp]
    rw [hc] at h2
    exact ⟨M', j', h1, h2, h3, h4, h5, h6⟩
  | false =>
    obtain ⟨M', j', h1, h2, h3, h4, h5, h6⟩ := tdrop_call h hbM hl c.sub
    exact ⟨M', j', h1, h2, h3, h4, h5, h6⟩
theorem Two.op {S M : Mem} {ix jx iy jy : Nat} {l1 l2 : List Chg} (h : Two S.length M ix jx l1 iy jy l2) (hS : S <+: M) (hl : l1.length < 64) (c : Chg) :
    ∃ M' j', opS ix c M = some (.i .i64 0, M') ∧ Two S.length M' ix j' (l1 ++ [nrm c]) iy jy l2 ∧ S <+: M' := by
  obtain ⟨M', j', h1, h2, h3, h4, h5, h6⟩ := op_call h.h1 hS.length_le hl c
  exact ⟨M', j', h1, h.step h2 h3 h4 h6, h6.ext h.h1 hS⟩
/-! ### Event -/
theorem tev_eq {b it j : Nat} {M : Mem} {l : List Chg} (h : TAt b M it j l) {cb : List AV} {bk : Bk} (hb : bookOf M cb = some bk) (hf : bk.fits) (hl : l.length ≤ 1000) (hc : ∀ c ∈ l, c.fits) : tevS [.p it 0 0, .ag cb] M = some (outR M (outOf bk (seqOf l))) := by
  obtain ⟨hb', hj, x, hx, hL⟩ := h
  simp only [tevS, hx, hL.lst, hb]
  rw [if_pos ⟨hf, hl, hc⟩]
def evtCs (S : Mem) (e : Evt) : List AV := [.i .i64 e.kind, .i .i64 e.sub, retX false S e.puts, ret2Y polE S e.puts e.drops, .i .u64 e.granted, .i .u64 e.period]
theorem evtCs_of {S M : Mem} {e : Evt} (h : ret2M polE (intE .i64) S e.puts e.drops <+: M) : evtOf M (evtCs S e) = some e := by
  obtain ⟨k, s, ps, ds, g, p⟩ := e
  exact evtOf_mk (lst_ext ret2X_lst h) (lst_ext ret2Y_lst h)
theorem one_retX {α : Type} {S : Mem} {l : List α} : (retX false S l).one = true := by cases l <;> rfl
theorem one_ret2Y {S : Mem} {l : List Pol} {m : List Int} : (ret2Y polE S l m).one = true := one_retX
theorem out_fits {b : Bk} {l : List Chg} (hl : l.length ≤ 1000) (hc : ∀ c ∈ l, c.fits) : (outOf b (seqOf l)).1.fits := by
  have h1 : (evtIn b.entries (seqOf l)).fits := by
    have hq := seqOf_len l
    have hp := putsOf_len (seqOf l)
    have hd := dropsOf_len b.entries (seqOf l)
    refine ⟨by show (putsOf (seqOf l)).length ≤ _; omega, by show (dropsOf b.entries (seqOf l)).length ≤ _; omega, fun p hp => ?_⟩
    obtain ⟨c, hc', _, rfl⟩ := putsOf_mem.1 hp
    exact (hc c (lasts_sub (seqOf_mem.1 hc'))).1
  have h0 : noEvt.fits := ⟨by decide, by decide, fun p hp => by cases hp⟩
  unfold outOf
  split
  · exact h0
  · split
    · exact h0
    · split
      · exact h1
      · exact h0
/-- Two events that are the same. -/
theorem esame_two {S1 S2 M : Mem} {e : Evt} (hf : e.fits) (h1 : ret2M polE (intE .i64) S1 e.puts e.drops <+: M) (h2 : ret2M polE (intE .i64) S2 e.puts e.drops <+: M) : esameS [.ag (evtCs S1 e), .ag (evtCs S2 e)] M = some (.b true, M) := by
  simp only [esameS, evtCs_of h1, evtCs_of h2]
  rw [if_pos hf]; simp
end Go.Proofs.YtmdnohpolepcoaaGreat

namespace Go.Proofs.YtmdnohpolepcoaaGreat
open Go.RowKit
set_option linter.unusedVariables false
set_option maxRecDepth 100000

section
variable {H : Type} {enc : TypeId × Value → H} {W : World}

theorem wf_u8 {n : Int} (h : (Lit.int .u8 n).wf = true) : u8 n := by
  simp only [Lit.wf, IntKind.min, IntKind.max, IntKind.signed, IntKind.bits, Bool.and_eq_true] at h
  unfold u8
  simpa using h
theorem wf_u64 {n : Int} (h : (Lit.int .u64 n).wf = true) : u64 n := by
  simp only [Lit.wf, IntKind.min, IntKind.max, IntKind.signed, IntKind.bits, Bool.and_eq_true] at h
  unfold u64
  simpa using h
theorem wf_i64 {n : Int} (h : (Lit.int .i64 n).wf = true) : i64 n := by
  simp only [Lit.wf, IntKind.min, IntKind.max, IntKind.signed, IntKind.bits, Bool.and_eq_true] at h
  unfold i64
  simpa using h

theorem enc_inj {α : Type} {E : Enc α} {a b : α} (h : E.enc a = E.enc b) : a = b := by
  have h1 := E.de a
  rw [h, E.de] at h1
  injection h1 with h1; exact h1.symm

end
end Go.Proofs.YtmdnohpolepcoaaGreat

namespace Go.Proofs.YtmdnohpolepcoaaGreat
open Go.RowKit
set_option linter.unusedVariables false
set_option maxRecDepth 100000

section
variable {H : Type} {enc : TypeId × Value → H} {W : World}

abbrev polSh : List CS := [.int .i64, .int .u8, .int .u8, .int .u8, .int .u8, .int .i64, .int .u64, .int .u64, .int .u64, .int .u64, .int .u64, .int .u64, .int .u64]
theorem rowPol {cs : List Value} (h : RowIs enc Tryz.prog W polSh cs) : ∃ a : Pol, cs.map (absV W) = a.enc ∧ a.good := by
  obtain ⟨h1, h2⟩ := h
  match cs, h1 with
  | [x0, x1, x2, x3, x4, x5, x6, x7, x8, x9, x10, x11, x12], _ =>
    obtain ⟨a0, rfl, w0⟩ := h2 0 (by simp) (by simp)
    obtain ⟨a1, rfl, w1⟩ := h2 1 (by simp) (by simp)
    obtain ⟨a2, rfl, w2⟩ := h2 2 (by simp) (by simp)
    obtain ⟨a3, rfl, w3⟩ := h2 3 (by simp) (by simp)
    obtain ⟨a4, rfl, w4⟩ := h2 4 (by simp) (by simp)
    obtain ⟨a5, rfl, w5⟩ := h2 5 (by simp) (by simp)
    obtain ⟨a6, rfl, w6⟩ := h2 6 (by simp) (by simp)
    obtain ⟨a7, rfl, w7⟩ := h2 7 (by simp) (by simp)
    obtain ⟨a8, rfl, w8⟩ := h2 8 (by simp) (by simp)
    obtain ⟨a9, rfl, w9⟩ := h2 9 (by simp) (by simp)
    obtain ⟨a10, rfl, w10⟩ := h2 10 (by simp) (by simp)
    obtain ⟨a11, rfl, w11⟩ := h2 11 (by simp) (by simp)
    obtain ⟨a12, rfl, w12⟩ := h2 12 (by simp) (by simp)
    exact ⟨⟨a0, a1, a2, a3, a4, a5, a6, a7, a8, a9, a10, a11, a12⟩, rfl, wf_i64 w0, ⟨wf_u8 w1, wf_u8 w2, wf_u8 w3, wf_u8 w4⟩, wf_i64 w5, wf_u64 w6, wf_u64 w7, wf_u64 w8, wf_u64 w9, wf_u64 w10, wf_u64 w11, wf_u64 w12⟩
abbrev entSh : List CS := [.int .i64, .int .u8, .int .u8, .int .u8, .int .u8, .int .i64, .int .u64, .int .u64, .int .u64, .int .u64, .int .u64, .int .u64, .int .u64, .int .u64]
theorem rowEnt {cs : List Value} (h : RowIs enc Tryz.prog W entSh cs) : ∃ a : Ent, cs.map (absV W) = a.enc ∧ a.good := by
  obtain ⟨h1, h2⟩ := h
  match cs, h1 with
  | [x0, x1, x2, x3, x4, x5, x6, x7, x8, x9, x10, x11, x12, x13], _ =>
    obtain ⟨a0, rfl, w0⟩ := h2 0 (by simp) (by simp)
    obtain ⟨a1, rfl, w1⟩ := h2 1 (by simp) (by simp)
    obtain ⟨a2, rfl, w2⟩ := h2 2 (by simp) (by simp)
    obtain ⟨a3, rfl, w3⟩ := h2 3 (by simp) (by simp)
    obtain ⟨a4, rfl, w4⟩ := h2 4 (by simp) (by simp)
    obtain ⟨a5, rfl, w5⟩ := h2 5 (by simp) (by simp)
    obtain ⟨a6, rfl, w6⟩ := h2 6 (by simp) (by simp)
    obtain ⟨a7, rfl, w7⟩ := h2 7 (by simp) (by simp)
    obtain ⟨a8, rfl, w8⟩ := h2 8 (by simp) (by simp)
    obtain ⟨a9, rfl, w9⟩ := h2 9 (by simp) (by simp)
    obtain ⟨a10, rfl, w10⟩ := h2 10 (by simp) (by simp)
    obtain ⟨a11, rfl, w11⟩ := h2 11 (by simp) (by simp)
    obtain ⟨a12, rfl, w12⟩ := h2 12 (by simp) (by simp)
    obtain ⟨a13, rfl, w13⟩ := h2 13 (by simp) (by simp)
    exact ⟨⟨⟨a0, a1, a2, a3, a4, a5, a6, a7, a8, a9, a10, a11, a12⟩, a13⟩, rfl, ⟨wf_i64 w0, ⟨wf_u8 w1, wf_u8 w2, wf_u8 w3, wf_u8 w4⟩, wf_i64 w5, wf_u64 w6, wf_u64 w7, wf_u64 w8, wf_u64 w9, wf_u64 w10, wf_u64 w11, wf_u64 w12⟩, wf_u64 w13⟩
/-- A slice's cell, as a list. -/
theorem cellEnts {v : Value} (h : CellIs enc Tryz.prog W (.slice 57) v) : ∃ l : List Ent, lstV entE (absS W) (absV W v) = some l ∧ ∀ x ∈ l, x.good := by
  have s2 : shapes Tryz.prog 20 57 = some entSh := by kernel_rfl
  have c2 : Tryz.prog.cellsOf 57 = 14 := by kernel_rfl
  obtain ⟨l, hl, hf, _⟩ := lst_of (e := Ent.enc) (sz := 14) c2 (by omega) h (fun cs fuel x ht => let ⟨a, h1, h2⟩ := rowEnt (shapes_ok 20 fuel 57 cs x _ ht s2); ⟨a, h1, rfl⟩)
    (good := Ent.good) (fun cs fuel x a ht he => let ⟨a', h1, h2⟩ := rowEnt (shapes_ok 20 fuel 57 cs x _ ht s2); enc_inj (E := entE) (h1.symm.trans he) ▸ h2)
  exact ⟨l, lst_lstV (E := entE) hl, hf⟩
theorem argBook {v : Value} {base : Nat} {d : DataW H} {ps : List MemPlace} (o : Value.okWide Tryz.prog W .any base 25 v) (h : DataW.Trod enc Tryz.prog W 0 (fun _ => true) true 25 v d ps) :
    ∃ p s l, absA W v = .ag [.i .u64 p, s] ∧ lstV entE (absS W) s = some l ∧ (∀ x ∈ l, x.good) ∧ u64 p := by
  have s0 : shapes Tryz.prog 20 25 = some [.int .u64, .slice 57] := by kernel_rfl
  obtain ⟨cs, rfl⟩ : ∃ cs, v = .agg cs := by
    unfold Value.okWide at o
    rw [Tryz.underlying25] at o
    obtain ⟨cs, h, _⟩ := o
    exact ⟨cs, h⟩
  obtain ⟨h1, h2⟩ := arg_row h s0
  have h1 : cs.toList.length = 2 := h1
  have h2 : ∀ (i : Nat) (h : i < 2) (h' : i < cs.toList.length), CellIs enc Tryz.prog W ([CS.int .u64, CS.slice 57][i]) cs.toList[i] := fun i h h' => h2 i h h'
  generalize hcs : cs.toList = cl at h1 h2
  match cl, h1 with
  | [x, y], _ =>
    obtain ⟨p, rfl, wp⟩ := h2 0 (by omega) (by simp)
    obtain ⟨l, hl, hf⟩ := cellEnts (h2 1 (by omega) (by simp))
    refine ⟨p, absV W y, l, ?_, hl, hf, wf_u64 wp⟩
    show AV.ag (cs.toList.map (absV W)) = _
    rw [hcs]; rfl
end
end Go.Proofs.YtmdnohpolepcoaaGreat

namespace Go.Proofs.YtmdnohpolepcoaaGreat
open Go.RowKit
set_option linter.unusedVariables false
set_option maxRecDepth 100000

/-- A change as the document has it: first whether it is put. -/
def rchE : Enc Chg where
  enc c := .b c.put :: c.pol.enc
  dec r := match r with
    | [.b p, .i .i64 sub, .i .u8 a, .i .u8 b, .i .u8 c, .i .u8 d, .i .i64 bits, .i .u64 rate, .i .u64 burst, .i .u64 srate, .i .u64 sburst, .i .u64 quota, .i .u64 lease, .i .u64 quantum] => some ⟨p, ⟨sub, a, b, c, d, bits, rate, burst, srate, sburst, quota, lease, quantum⟩⟩
    | _ => none
  sz := 14
  pos := by decide
  len _ := rfl
  de _ := rfl
  ed r a h := by
    split at h
    · injection h with h; subst h; rfl
    · cases h
theorem rchE_one (c : Chg) : (rchE.enc c).all AV.one = true := rfl
theorem rchE_flat (n : Nat) (c : Chg) : ∀ x ∈ rchE.enc c, AV.Flat n x := by
  intro x hx
  simp only [rchE, Pol.enc, List.mem_cons, List.not_mem_nil, or_false] at hx
  rcases hx with rfl | rfl | rfl | rfl | rfl | rfl | rfl | rfl | rfl | rfl | rfl | rfl | rfl | rfl <;> first | exact Flat_i | exact Flat_b
section
variable {H : Type} {enc : TypeId × Value → H} {W : World}
theorem argOpen {e : TypeId} {n : Nat} {v : Value} (h : CellIs enc Tryz.prog W (.slice e) v) : openQ (absS W) n (absV W v) = true := by
  rcases h with rfl | ⟨a, len, cap, rfl, hl, _, _⟩
  · rfl
  · obtain ⟨b, o, sp⟩ := a
    simp only [absV]
    split
    · rfl
    · cases numOf W b with
      | none => rfl
      | some i => cases sp with
        | none => simp [openQ, hl]
        | some q => rfl
abbrev chgSh : List CS := .bool :: polSh
theorem rowChg {cs : List Value} (h : RowIs enc Tryz.prog W chgSh cs) : ∃ a : Chg, cs.map (absV W) = rchE.enc a ∧ a.pol.good := by
  obtain ⟨h1, h2⟩ := h
  match cs, h1 with
  | x :: r, hl =>
    obtain ⟨p, rfl⟩ := h2 0 (by simp) (by simp)
    obtain ⟨a, h3, h4⟩ := rowPol (enc := enc) (W := W) (cs := r) ⟨by simpa using hl, fun i hi hi' => h2 (i + 1) (Nat.succ_lt_succ hi) (by rw [List.length_cons]; exact Nat.succ_lt_succ hi')⟩
    exact ⟨⟨p, a⟩, by rw [List.map_cons, h3]; rfl, h4⟩
theorem cellChgs {v : Value} (h : CellIs enc Tryz.prog W (.slice 38) v) : ∃ l : List Chg, lstV rchE (absS W) (absV W v) = some l ∧ (∀ x ∈ l, x.pol.good) ∧ openQ (absS W) 14 (absV W v) = true := by
  have s2 : shapes Tryz.prog 20 38 = some chgSh := by kernel_rfl
  have c2 : Tryz.prog.cellsOf 38 = 14 := by kernel_rfl
  obtain ⟨l, hl, hf, _⟩ := lst_of (e := rchE.enc) (sz := 14) c2 (by omega) h (fun cs fuel x ht => let ⟨a, h1, _⟩ := rowChg (shapes_ok 20 fuel 38 cs x _ ht s2); ⟨a, h1, rfl⟩)
    (good := fun c => c.pol.good) (fun cs fuel x a ht he => let ⟨a', h1, h2⟩ := rowChg (shapes_ok 20 fuel 38 cs x _ ht s2); enc_inj (E := rchE) (h1.symm.trans he) ▸ h2)
  exact ⟨l, lst_lstV (E := rchE) hl, hf, argOpen h⟩
theorem argChgs {v : Value} {base : Nat} {d : DataW H} {ps : List MemPlace} (o : Value.okWide Tryz.prog W .any base 26 v) (h : DataW.Trod enc Tryz.prog W 0 (fun _ => true) true 26 v d ps) :
    ∃ l, lstV rchE (absS W) (absA W v) = some l ∧ (∀ x ∈ l, x.pol.good) ∧ openQ (absS W) 14 (absA W v) = true := by
  have s0 : shapes Tryz.prog 20 26 = some [.slice 38] := by kernel_rfl
  have hv : v.cells.toList = [v] ∧ absA W v = absV W v := by
    cases v with
    | agg cs =>
      unfold Value.okWide at o
      rw [Tryz.underlying26] at o
      unfold Cell.okWide at o
      rw [Tryz.underlying26] at o
      unfold Cell.ok at o
      rw [Tryz.underlying26] at o
      simp at o
    | _ => exact ⟨rfl, rfl⟩
  obtain ⟨h1, h2⟩ := arg_row h s0
  rw [hv.1] at h1 h2
  have hc := h2 0 (by simp) (by simp)
  simp only [List.getElem_cons_zero] at hc
  rw [hv.2]
  exact cellChgs hc
end
end Go.Proofs.YtmdnohpolepcoaaGreat

namespace Go.Proofs.YtmdnohpolepcoaaGreat
open Go.RowKit
set_option linter.unusedSimpArgs false
set_option linter.unusedVariables false
set_option maxRecDepth 10000

def raddS : Spec := fun args S => match args with
  | [x, .ag cs] => match lstV rchE S x, rchE.dec cs with
    | some l, some c => if 64 ≤ l.length then some (.tu [x, .i .i64 161], S) else some (.tu [retX true S (l ++ [c]), .i .i64 0], retM true rchE S (l ++ [c]))
    | _, _ => none
  | _ => none
theorem flat_tu2 {n : Nat} {x y : AV} (hx : AV.Flat n x) (hy : AV.Flat n y) : (AV.tu [x, y]).flat n := by
  show ren n _ _ = _
  rw [ren_tu, renL_cons, renL_cons, renL_nil, hx, hy]
theorem radd_ok : SpecOK Tryz.prog 7 raddS := by
  intro args S x S' h
  unfold raddS at h
  split at h
  · rename_i x cs
    split at h
    · rename_i l c hl hd
      have hcs := rchE.ed _ _ hd
      subst hcs
      split at h
      · rename_i h64
        cases h
        have h64 : (64 : Int) ≤ (l.length : Int) := by omega
        refine fn_of_wp f7 rfl (W_sound none_ok mixed _ _ _ _ _ ?_)
        simp (maxSteps := 1000000) (disch := omega) only [c7, lst_len hl, h64, go_sem]
        exact wkv_drop (flat_tu2 (lst_Flat hl) Flat_i)
      · rename_i h64
        cases h
        have h64I : ¬ (64 : Int) ≤ (l.length : Int) := by omega
        obtain ⟨X1, M1, ha1, hX1⟩ := (acc_lit (E := rchE) (S := S ++ [.cells (rchE.enc c) 0 none true]) (M := S ++ [.cells (rchE.enc c) 0 none true]) ext_refl).apps (bytes := 88) rchE_one l (by simp only [List.length_nil]; omega) (by simp only [List.length_nil]; omega)
        rw [List.nil_append] at hX1
        have hl1 : (S ++ [Blk.cells (rchE.enc c) 0 none true]).length = S.length + 1 := by simp
        have ha1 : appV (S ++ [.cells (rchE.enc c) 0 none true, .cells [] 0 none true]) 14 88 (.sl (S.length + 1) 0 0 0 0 true) (l.flatMap rchE.enc) l.length = some (X1, M1) := by
          rw [hl1, List.append_assoc] at ha1; exact ha1
        obtain ⟨X2, M2, ha2, hX2⟩ := (hX1.grow [.cells (rchE.enc c) 0 none true]).app (bytes := 88) rchE_one c (by omega) (by omega)
        have r1 : rowB (M1[S.length]?) 0 0 14 = some (rchE.enc c) := by rw [at_pre hX1.ext (by rw [at_app0]; rfl)]; rfl
        have hsrc : ∀ L, srcV (S ++ L) 14 x = some (l.flatMap rchE.enc, l.length) := fun L => src_lst (lstV_grow hl L)
        have v0 := eqv_lst hl
        have v1 := eqv_lst hX1.lst
        have v2 := eqv_lst hX2.lst
        have he : rchE.enc c = [.b c.put, .i .i64 c.pol.sub, .i .u8 c.pol.a, .i .u8 c.pol.b, .i .u8 c.pol.c, .i .u8 c.pol.d, .i .i64 c.pol.bits, .i .u64 c.pol.rate, .i .u64 c.pol.burst, .i .u64 c.pol.srate, .i .u64 c.pol.sburst, .i .u64 c.pol.quota, .i .u64 c.pol.lease, .i .u64 c.pol.quantum] := rfl
        rw [he] at ha1 ha2 r1
        rw [show rchE.sz = 14 from rfl] at ha2
        refine fn_of_wp f7 rfl (W_sound none_ok mixed _ _ _ _ _ ?_)
        simp (maxSteps := 1000000) (disch := omega) only [c7, lst_len hl, h64I, he, go_sem]
        refine draw_of ?_
        simp (maxSteps := 1000000) (disch := omega) only [c7d0, hsrc, ha1, ha2, v0, v1, v2, r1, dNs_nil, dNs_cons, dnK_some, dnK_none, dOpt_none, dOpt_some, doK_some, doK_none, dStages_nil, dStages_cons, s1K_app, s2K_app, s3K_app, s4K_app, dEnd_app, evOne_op, evOne_gd, evG_tt, evG_tf, evG_ft, evG_ff, evG_ud, kSt_nil, kSt_cons, kNs_nil, kNs_cons, kN_zero, kN_succ, kA_some, eqK_some, eqK_none, kOpt_none, kOpt_some, kLike_nil, kLike_cons, ROp.use, IOp.use, IO'.use, X.use, dstL_none, dstL_some, List.flatMap_cons, List.flatMap_nil, eqv_m, eqv_p, eqv_i, eqv_b, eqv_sl, eqv_sn, eqv_pn, eqv_ud, eqv_u, eqv_mn, eqv_ag, eqvL_cons, eqvL_nil, eqv_tu, Bool.and_true, Bool.true_and, Bool.and_self, Nat.le_refl, Nat.reduceLeDiff, and_self, and_true, true_and, go_sem]
        exact (hX2.base (ext_app _)).ret2 rchE_flat Flat_i
    · cases h
  · cases h
theorem row_split {B : Option Blk} {p v n : Nat} {x : AV} {r : List AV} (h : rowB B p v (n + 1) = some (x :: r)) : cellB B p v = some x ∧ rowB B (p + 1) v n = some r := by
  cases B with
  | none => simp [rowB] at h
  | some B =>
    cases B with
    | cells cs ver op w =>
      simp only [rowB] at h
      split at h
      · rename_i hc
        obtain ⟨hv, hl⟩ := hc
        have h := Option.some.inj h
        have hp : p < cs.length := by omega
        have hd : cs.drop p = cs[p] :: cs.drop (p + 1) := List.drop_eq_getElem_cons hp
        rw [hd, List.take_succ_cons] at h
        obtain ⟨e1, e2⟩ := List.cons.inj h
        subst hv
        refine ⟨?_, ?_⟩
        · rw [cellB_some, List.getElem?_eq_getElem hp, e1]
        · rw [rowB_some, if_pos (by omega), e2]
      · cases h
    | _ => simp [rowB] at h
theorem insK_at {α : Type} {key : α → Int} {a : α} : ∀ {l : List α} {n : Nat}, n ≤ l.length → (∀ i (h : i < l.length), i < n → key l[i] < key a) → (∀ h : n < l.length, ¬ key (l[n]'h) < key a) → insK key a l = l.take n ++ a :: l.drop n
  | [], n, hn, _, _ => by
    have : n = 0 := by simpa using hn
    subst this; rfl
  | d :: l, 0, _, _, h => by
    have := h (by simp)
    simp only [List.getElem_cons_zero] at this
    rw [insK, if_neg this]; rfl
  | d :: l, n + 1, hn, h1, h2 => by
    have h0 := h1 0 (by simp) (by omega)
    simp only [List.getElem_cons_zero] at h0
    rw [insK, if_pos h0, insK_at (n := n) (by simpa using hn) (fun i hi hin => by
      have := h1 (i + 1) (by simpa using hi) (by omega)
      simpa using this) fun h => by
      have := h2 (by simpa using h)
      simpa using this]
    rfl
def insPS : Spec := fun args S => match args with
  | [x, .ag cs] => match lstV polE S x, polE.dec cs with
    | some l, some p => if l.length ≤ 1000 ∧ openQ S 13 x = true then some (retX true S (insK Pol.sub p l), retM true polE S (insK Pol.sub p l)) else none
    | _, _ => none
  | _ => none
theorem insP_ok : SpecOK Tryz.prog 23 insPS := by
  intro args S x S' h
  unfold insPS at h
  split at h
  · rename_i x cs
    split at h
    · rename_i l p hl hd
      have hcs := polE.ed _ _ hd
      subst hcs
      split at h
      · rename_i hc
        obtain ⟨hlen, ho⟩ := hc
        cases h
        obtain ⟨M0, hM0⟩ : ∃ M0, M0 = S ++ [Blk.cells (polE.enc p) 0 none true] := ⟨_, rfl⟩
        have hSM : S <+: M0 := by rw [hM0]; exact ext_app _
        have hM0l : M0.length = S.length + 1 := by rw [hM0]; simp
        have hlM := lst_ext hl hSM
        have hoM := openQ_ext ho hSM
        have b0 : M0[S.length]? = some (.cells (polE.enc p) 0 none true) := by rw [hM0, at_app0]; rfl
        have hcp : cellB (M0[S.length]?) 0 0 = some (.i .i64 p.sub) := by rw [b0]; rfl
        have he : polE.enc p = [.i .i64 p.sub, .i .u8 p.a, .i .u8 p.b, .i .u8 p.c, .i .u8 p.d, .i .i64 p.bits, .i .u64 p.rate, .i .u64 p.burst, .i .u64 p.srate, .i .u64 p.sburst, .i .u64 p.quota, .i .u64 p.lease, .i .u64 p.quantum] := rfl
        refine fn_of_wp f23 rfl (W_sound none_ok mixed _ _ _ _ _ ?_)
        rw [he] at hM0
        simp (maxSteps := 1000000) (disch := omega) only [c23, he, ← hM0, go_sem]
        refine wp_loop (fun j e M dl => dl = [] ∧ ∃ n : Nat, j = l.length - n ∧ n ≤ l.length ∧ M0 = M ∧ (∀ i (h : i < l.length), i < n → (l[i]).sub < p.sub) ∧ e.get 3 = .p S.length 0 0 ∧ e.get 0 = x ∧ e.get 5 = .i .i64 n) (j := l.length) ⟨rfl, 0, rfl, Nat.zero_le _, rfl, fun i hi h => absurd h (Nat.not_lt_zero _), rfl, rfl, rfl⟩ ?_
        rintro j e M d' ⟨rfl, n, rfl, hn, rfl, hlo, e3, e0, e5⟩
        by_cases hgo : ∃ h : n < l.length, (l[n]).sub < p.sub
        · obtain ⟨hnl, hlt⟩ := hgo
          obtain ⟨bi, o, v, cap, ex, rfl⟩ := lst_sl hl hnl
          have hnI : (n : Int) < l.length := by omega
          have hr : rowB ((M0 ++ [])[bi]?) (o + n * 13) v (12 + 1) = some (polE.enc l[n]) := lstV_row hlM hnl []
          rw [List.append_nil] at hr
          have hcn := (row_split hr).1
          refine W_sound none_ok mixed _ _ _ _ _ ?_
          simp (maxSteps := 1000000) (disch := omega) only [c23l1, e3, e0, e5, hnI, Int.toNat_natCast, hcn, hcp, hlt, wrapSucc hnl hlen, go_sem]
          refine ⟨l.length - (n + 1), by omega, n + 1, rfl, hnl, fun i hi hin => ?_, rfl⟩
          by_cases q : i = n
          · subst q; exact hlt
          · exact hlo i hi (by omega)
        · have hins : insK Pol.sub p l = l.take n ++ p :: l.drop n := insK_at hn hlo fun h q => hgo ⟨h, q⟩
          obtain ⟨t1, hs1, hl1, _⟩ := take_lst hlM hoM (q := .i64) (b := n) hn
          obtain ⟨t2, hs2, hl2, _⟩ := drop_lst hlM hoM (q := .i64) (a := n) hn
          have hs1 : sliceV M0 13 x none (some (.i .i64 (n : Int))) none = some t1 := hs1
          have hs2 : sliceV M0 13 x (some (.i .i64 (n : Int))) none none = some t2 := hs2
          have hs1g : ∀ L, sliceV (M0 ++ L) 13 x none (some (.i .i64 (n : Int))) none = some t1 := fun L => sliceV_grow L hs1
          have ltk : (l.take n).length = n := by rw [List.length_take]; omega
          have ldp : (l.drop n).length = l.length - n := by rw [List.length_drop]
          obtain ⟨X1, M1, ha1, hX1⟩ := (acc_lit (E := polE) (S := M0) (M := M0) ext_refl).apps (bytes := 80) polE_one (l.take n) (by simp only [List.length_nil]; omega) (by simp only [List.length_nil]; omega)
          rw [List.nil_append] at hX1
          have ha1 : appV (M0 ++ [.cells [] 0 none true]) 13 80 (.sl M0.length 0 0 0 0 true) ((l.take n).flatMap polE.enc) (l.take n).length = some (X1, M1) := ha1
          obtain ⟨X2, M2, ha2, hX2⟩ := (hX1.grow [.cells (polE.enc p) 0 none true]).app (bytes := 80) polE_one p (by omega) (by omega)
          have h2l : (l.take n ++ [p]).length = n + 1 := by rw [List.length_append, ltk]; rfl
          obtain ⟨X3, M3, ha3, hX3⟩ := hX2.apps (bytes := 80) polE_one (l.drop n) (by omega) (by omega)
          rw [List.append_assoc, List.singleton_append, ← hins] at hX3
          have hsrc1 : ∀ L, srcV (M0 ++ L) 13 t1 = some ((l.take n).flatMap polE.enc, (l.take n).length) := fun L => src_lst (lstV_grow hl1 L)
          have hsrc3 : srcV M2 13 t2 = some ((l.drop n).flatMap polE.enc, (l.drop n).length) := src_lst (lst_ext hl2 hX2.ext)
          have hs2' : sliceV M1 13 x (some (.i .i64 (n : Int))) none none = some t2 := by
            obtain ⟨U, hU⟩ := hX1.ext
            rw [← hU]; exact sliceV_grow U hs2
          have hs2g : ∀ L, sliceV (M1 ++ L) 13 x (some (.i .i64 (n : Int))) none none = some t2 := fun L => sliceV_grow L hs2'
          have hs22 : sliceV M2 13 x (some (.i .i64 (n : Int))) none none = some t2 := by
            obtain ⟨U, hU⟩ := hX2.ext
            rw [← hU]; exact sliceV_grow U hs2
          have r1 : rowB (M1[S.length]?) 0 0 13 = some (polE.enc p) := by rw [at_pre hX1.ext b0]; rfl
          have v0 := eqv_lst hl
          have v1 := eqv_lst hX1.lst
          have v2 := eqv_lst hX2.lst
          have v3 := eqv_lst hX3.lst
          have vt := eqv_lst hl2
          rw [he] at ha2 r1
          rw [show polE.sz = 13 from rfl] at ha2 ha3
          have hr2 : rowB (M2[S.length]?) 0 0 13 = some [.i .i64 p.sub, .i .u8 p.a, .i .u8 p.b, .i .u8 p.c, .i .u8 p.d, .i .i64 p.bits, .i .u64 p.rate, .i .u64 p.burst, .i .u64 p.srate, .i .u64 p.sburst, .i .u64 p.quota, .i .u64 p.lease, .i .u64 p.quantum] := by rw [at_pre hX2.ext b0]; rfl
          rcases Nat.lt_or_ge n l.length with hnl | hnl
          · obtain ⟨bi, o, v, cap, ex, rfl⟩ := lst_sl hl hnl
            have hnI : (n : Int) < l.length := by omega
            have hlt : ¬ (l[n]).sub < p.sub := fun q => hgo ⟨hnl, q⟩
            have hr : rowB ((M0 ++ [])[bi]?) (o + n * 13) v (12 + 1) = some (polE.enc l[n]) := lstV_row hlM hnl []
            rw [List.append_nil] at hr
            have hcn := (row_split hr).1
            refine W_sound none_ok mixed _ _ _ _ _ ?_
            simp (maxSteps := 1000000) (disch := omega) only [c23, c23l1, e3, e0, e5, hnI, Int.toNat_natCast, hcn, hcp, hlt, hs1g, hsrc1, ha1, go_sem]
            refine draw_of ?_
            simp (maxSteps := 1000000) (disch := omega) only [c23d2, hs2', hs2g, hs22, r1, hr2, ha2, hsrc3, ha3, v0, v1, v2, v3, vt, dNs_nil, dNs_cons, dnK_some, dnK_none, dOpt_none, dOpt_some, doK_some, doK_none, dStages_nil, dStages_cons, s1K_app, s2K_app, s3K_app, s4K_app, dEnd_app, evOne_op, evOne_gd, evG_tt, evG_tf, evG_ft, evG_ff, evG_ud, kSt_nil, kSt_cons, kNs_nil, kNs_cons, kN_zero, kN_succ, kA_some, eqK_some, eqK_none, kOpt_none, kOpt_some, kLike_nil, kLike_cons, ROp.use, IOp.use, IO'.use, X.use, dstL_none, dstL_some, List.flatMap_cons, List.flatMap_nil, eqv_m, eqv_p, eqv_i, eqv_b, eqv_sl, eqv_sn, eqv_pn, eqv_ud, eqv_u, eqv_mn, eqv_ag, eqvL_cons, eqvL_nil, eqv_tu, Bool.and_true, Bool.true_and, Bool.and_self, Nat.le_refl, Nat.reduceLeDiff, and_self, and_true, true_and, go_sem]
            exact (hX3.base hSM).ret polE_flat
          · have hnI : ¬ (n : Int) < l.length := by omega
            refine W_sound none_ok mixed _ _ _ _ _ ?_
            simp (maxSteps := 1000000) (disch := omega) only [c23, c23l1, e3, e0, e5, lst_len hl, hnI, Int.toNat_natCast, hs1g, hsrc1, ha1, go_sem]
            refine draw_of ?_
            simp (maxSteps := 1000000) (disch := omega) only [c23d2, hs2', hs2g, hs22, r1, hr2, ha2, hsrc3, ha3, v0, v1, v2, v3, vt, dNs_nil, dNs_cons, dnK_some, dnK_none, dOpt_none, dOpt_some, doK_some, doK_none, dStages_nil, dStages_cons, s1K_app, s2K_app, s3K_app, s4K_app, dEnd_app, evOne_op, evOne_gd, evG_tt, evG_tf, evG_ft, evG_ff, evG_ud, kSt_nil, kSt_cons, kNs_nil, kNs_cons, kN_zero, kN_succ, kA_some, eqK_some, eqK_none, kOpt_none, kOpt_some, kLike_nil, kLike_cons, ROp.use, IOp.use, IO'.use, X.use, dstL_none, dstL_some, List.flatMap_cons, List.flatMap_nil, eqv_m, eqv_p, eqv_i, eqv_b, eqv_sl, eqv_sn, eqv_pn, eqv_ud, eqv_u, eqv_mn, eqv_ag, eqvL_cons, eqvL_nil, eqv_tu, Bool.and_true, Bool.true_and, Bool.and_self, Nat.le_refl, Nat.reduceLeDiff, and_self, and_true, true_and, go_sem]
            exact (hX3.base hSM).ret polE_flat
      · cases h
    · cases h
  · cases h
def insIS : Spec := fun args S => match args with
  | [x, .i .i64 p] => match lstV (intE .i64) S x with
    | some l => if l.length ≤ 1000 ∧ openQ S 1 x = true then some (retX true S (insK id p l), retM true (intE .i64) S (insK id p l)) else none
    | _ => none
  | _ => none
theorem insI_ok : SpecOK Tryz.prog 25 insIS := by
  intro args S x S' h
  unfold insIS at h
  split at h
  · rename_i x p
    split at h
    · rename_i l hl
      split at h
      · rename_i hc
        obtain ⟨hlen, ho⟩ := hc
        cases h
        refine fn_of_wp f25 rfl (W_sound none_ok mixed _ _ _ _ _ ?_)
        simp (maxSteps := 1000000) (disch := omega) only [c25, go_sem]
        refine wp_loop (fun j e M dl => dl = [] ∧ ∃ n : Nat, j = l.length - n ∧ n ≤ l.length ∧ S = M ∧ (∀ i (h : i < l.length), i < n → id l[i] < id p) ∧ e.get 1 = .i .i64 p ∧ e.get 0 = x ∧ e.get 5 = .i .i64 n) (j := l.length) ⟨rfl, 0, rfl, Nat.zero_le _, rfl, fun i hi h => absurd h (Nat.not_lt_zero _), rfl, rfl, rfl⟩ ?_
        rintro j e M d' ⟨rfl, n, rfl, hn, rfl, hlo, e1, e0, e5⟩
        by_cases hgo : ∃ h : n < l.length, l[n] < p
        · obtain ⟨hnl, hlt⟩ := hgo
          obtain ⟨bi, o, v, cap, ex, rfl⟩ := lst_sl hl hnl
          have hnI : (n : Int) < l.length := by omega
          have hcn := lstV_cell hl rfl (fun a => rfl) hnl []
          rw [List.append_nil] at hcn
          refine W_sound none_ok mixed _ _ _ _ _ ?_
          simp (maxSteps := 1000000) (disch := omega) only [c25l0, e1, e0, e5, hnI, Int.toNat_natCast, Nat.mul_one, hcn, hlt, wrapSucc hnl hlen, go_sem]
          refine ⟨l.length - (n + 1), by omega, n + 1, rfl, hnl, fun i hi hin => ?_, rfl⟩
          by_cases q : i = n
          · subst q; exact hlt
          · exact hlo i hi (by omega)
        · have hins : insK id p l = l.take n ++ p :: l.drop n := insK_at hn hlo fun h q => hgo ⟨h, q⟩
          obtain ⟨t1, hs1, hl1, _⟩ := take_lst hl ho (q := .i64) (b := n) hn
          obtain ⟨t2, hs2, hl2, _⟩ := drop_lst hl ho (q := .i64) (a := n) hn
          have hs1 : sliceV S 1 x none (some (.i .i64 (n : Int))) none = some t1 := hs1
          have hs2 : sliceV S 1 x (some (.i .i64 (n : Int))) none none = some t2 := hs2
          have hs1g : ∀ L, sliceV (S ++ L) 1 x none (some (.i .i64 (n : Int))) none = some t1 := fun L => sliceV_grow L hs1
          have ltk : (l.take n).length = n := by rw [List.length_take]; omega
          have ldp : (l.drop n).length = l.length - n := by rw [List.length_drop]
          obtain ⟨X1, M1, ha1, hX1⟩ := (acc_lit (E := intE .i64) (S := S) (M := S) ext_refl).apps (bytes := 8) (fun _ => rfl) (l.take n) (by simp only [List.length_nil]; omega) (by simp only [List.length_nil]; omega)
          rw [List.nil_append] at hX1
          have ha1 : appV (S ++ [.cells [] 0 none true]) 1 8 (.sl S.length 0 0 0 0 true) ((l.take n).flatMap (intE .i64).enc) (l.take n).length = some (X1, M1) := ha1
          obtain ⟨X2, M2, ha2, hX2⟩ := (hX1.grow [.cells [.i .i64 p] 0 none true]).app (bytes := 8) (fun _ => rfl) p (by omega) (by omega)
          have h2l : (l.take n ++ [p]).length = n + 1 := by rw [List.length_append, ltk]; rfl
          obtain ⟨X3, M3, ha3, hX3⟩ := hX2.apps (bytes := 8) (fun _ => rfl) (l.drop n) (by omega) (by omega)
          rw [List.append_assoc, List.singleton_append, ← hins] at hX3
          have hsrc1 : ∀ L, srcV (S ++ L) 1 t1 = some ((l.take n).flatMap (intE .i64).enc, (l.take n).length) := fun L => src_lst (lstV_grow hl1 L)
          have hsrc3 : srcV M2 1 t2 = some ((l.drop n).flatMap (intE .i64).enc, (l.drop n).length) := src_lst (lst_ext hl2 hX2.ext)
          have hs2' : sliceV M1 1 x (some (.i .i64 (n : Int))) none none = some t2 := by
            obtain ⟨U, hU⟩ := hX1.ext
            rw [← hU]; exact sliceV_grow U hs2
          have hs2g : ∀ L, sliceV (M1 ++ L) 1 x (some (.i .i64 (n : Int))) none none = some t2 := fun L => sliceV_grow L hs2'
          have hs22 : sliceV M2 1 x (some (.i .i64 (n : Int))) none none = some t2 := by
            obtain ⟨U, hU⟩ := hX2.ext
            rw [← hU]; exact sliceV_grow U hs2
          have v0 := eqv_lst hl
          have v1 := eqv_lst hX1.lst
          have v2 := eqv_lst hX2.lst
          have v3 := eqv_lst hX3.lst
          have vt := eqv_lst hl2
          have ha2 : appV (M1 ++ [.cells [.i .i64 p] 0 none true]) 1 8 X1 [.i .i64 p] 1 = some (X2, M2) := ha2
          rw [show (intE .i64).sz = 1 from rfl] at ha3
          rcases Nat.lt_or_ge n l.length with hnl | hnl
          · obtain ⟨bi, o, v, cap, ex, rfl⟩ := lst_sl hl hnl
            have hnI : (n : Int) < l.length := by omega
            have hlt : ¬ l[n] < p := fun q => hgo ⟨hnl, q⟩
            have hcn := lstV_cell hl rfl (fun a => rfl) hnl []
            rw [List.append_nil] at hcn
            refine W_sound none_ok mixed _ _ _ _ _ ?_
            simp (maxSteps := 1000000) (disch := omega) only [c25, c25l0, e1, e0, e5, hnI, Int.toNat_natCast, Nat.mul_one, hcn, hlt, hs1g, hsrc1, ha1, go_sem]
            refine draw_of ?_
            simp (maxSteps := 1000000) (disch := omega) only [c25d1, hs2', hs2g, hs22, ha2, hsrc3, ha3, v0, v1, v2, v3, vt, dNs_nil, dNs_cons, dnK_some, dnK_none, dOpt_none, dOpt_some, doK_some, doK_none, dStages_nil, dStages_cons, s1K_app, s2K_app, s3K_app, s4K_app, dEnd_app, evOne_op, evOne_gd, evG_tt, evG_tf, evG_ft, evG_ff, evG_ud, kSt_nil, kSt_cons, kNs_nil, kNs_cons, kN_zero, kN_succ, kA_some, eqK_some, eqK_none, kOpt_none, kOpt_some, kLike_nil, kLike_cons, ROp.use, IOp.use, IO'.use, X.use, dstL_none, dstL_some, List.flatMap_cons, List.flatMap_nil, eqv_m, eqv_p, eqv_i, eqv_b, eqv_sl, eqv_sn, eqv_pn, eqv_ud, eqv_u, eqv_mn, eqv_ag, eqvL_cons, eqvL_nil, eqv_tu, Bool.and_true, Bool.true_and, Bool.and_self, Nat.le_refl, Nat.reduceLeDiff, and_self, and_true, true_and, go_sem]
            exact hX3.ret intE_flat
          · have hnI : ¬ (n : Int) < l.length := by omega
            refine W_sound none_ok mixed _ _ _ _ _ ?_
            simp (maxSteps := 1000000) (disch := omega) only [c25, c25l0, e1, e0, e5, lst_len hl, hnI, Int.toNat_natCast, hs1g, hsrc1, ha1, go_sem]
            refine draw_of ?_
            simp (maxSteps := 1000000) (disch := omega) only [c25d1, hs2', hs2g, hs22, ha2, hsrc3, ha3, v0, v1, v2, v3, vt, dNs_nil, dNs_cons, dnK_some, dnK_none, dOpt_none, dOpt_some, doK_some, doK_none, dStages_nil, dStages_cons, s1K_app, s2K_app, s3K_app, s4K_app, dEnd_app, evOne_op, evOne_gd, evG_tt, evG_tf, evG_ft, evG_ff, evG_ud, kSt_nil, kSt_cons, kNs_nil, kNs_cons, kN_zero, kN_succ, kA_some, eqK_some, eqK_none, kOpt_none, kOpt_some, kLike_nil, kLike_cons, ROp.use, IOp.use, IO'.use, X.use, dstL_none, dstL_some, List.flatMap_cons, List.flatMap_nil, eqv_m, eqv_p, eqv_i, eqv_b, eqv_sl, eqv_sn, eqv_pn, eqv_ud, eqv_u, eqv_mn, eqv_ag, eqvL_cons, eqvL_nil, eqv_tu, Bool.and_true, Bool.true_and, Bool.and_self, Nat.le_refl, Nat.reduceLeDiff, and_self, and_true, true_and, go_sem]
            exact hX3.ret intE_flat
      · cases h
    · cases h
  · cases h
end Go.Proofs.YtmdnohpolepcoaaGreat

namespace Go.Proofs.YtmdnohpolepcoaaGreat
open Go.RowKit
set_option linter.unusedSimpArgs false
set_option linter.unusedVariables false
set_option maxRecDepth 10000

theorem Acc.openG {α : Type} {z : Bool} {E : Enc α} {S M : Mem} {x : AV} {l : List α} (h : Acc z E S M x l) : Go.Proofs.YtmdnohpolepcoaaGreat.openQ M E.sz x = true := by
  obtain ⟨T, rfl, ⟨rfl, rfl, rfl⟩ | ⟨rfl, rfl, p, rfl, h2⟩ | ⟨h0, p, v, rfl, h2⟩⟩ := h
  · rfl
  · simp [Go.Proofs.YtmdnohpolepcoaaGreat.openQ, at_app, h2, Blk.opn]
  · simp [Go.Proofs.YtmdnohpolepcoaaGreat.openQ, at_app, h2, Blk.opn]
theorem Acc.z {α : Type} {z : Bool} {E : Enc α} {S M : Mem} {x : AV} {l : List α} (h : Acc z E S M x l) (hl : l ≠ []) : Acc false E S M x l := by
  obtain ⟨T, rfl, ⟨q, _⟩ | ⟨q, _⟩ | h⟩ := h
  · exact absurd q hl
  · exact absurd q hl
  · exact ⟨T, rfl, .inr (.inr h)⟩
theorem insK_ne {α : Type} {key : α → Int} {a : α} {l : List α} : insK key a l ≠ [] := by
  intro h
  have := insK_len (key := key) (a := a) (l := l)
  rw [h] at this; cases this
noncomputable def revS : Spec := fun args S => match args with
  | [x, .ag cb] => match lstV rchE S x, bookOf S cb with
    | some l, some b => if b.fits ∧ l.length ≤ 1000 ∧ (∀ c ∈ l, c.pol.fits) ∧ openQ S 14 x = true then some (outR S (outOf b (seqOf l))) else none
    | _, _ => none
  | _ => none
theorem oRv_ok : OK Tryz.prog (lamOf Tryz.prog) (orcOf [(22, polS), (23, insPS), (25, insIS), (24, findS), (26, rapplyS)]) := orc_ok (by simpa using ⟨rpol_ok, insP_ok, insI_ok, rfind_ok, rapply_ok⟩)
set_option maxHeartbeats 1000000 in
theorem rev_ok : SpecOK Tryz.prog 11 revS := by
  intro args S x S' h
  unfold revS at h
  split at h
  · rename_i y cb
    split at h
    · rename_i l b hl hb
      split at h
      · rename_i hc
        obtain ⟨hbf, hl1, hcf, ho⟩ := hc
        simp only [Option.some.injEq, Prod.ext_iff] at h
        obtain ⟨rfl, rfl⟩ := h
        obtain ⟨s, rfl, hls⟩ := bookOf_ok hb
        refine fn_of_wp f11 rfl (W_sound oRv_ok mixed _ _ _ _ _ ?_)
        simp (maxSteps := 1000000) (disch := omega) only [c11, lst_len hl, go_sem]
        refine wp_loop (fun j e M dl => dl = [] ∧ ∃ (k : Nat) (P : List Chg) (xp xd : AV), j = l.length - k ∧ k ≤ l.length ∧ lasts l = P ++ lasts (l.drop k) ∧ M[S.length]? = some (.cells [.i .u64 b.period, s] 0 none true) ∧
          M[S.length + 1]? = some (evC 0 .sn .sn) ∧ M[S.length + 2]? = some (evC 1 xp xd) ∧ Acc false polE S M xp (putsOf (srtK Chg.sub P)) ∧ Acc false (intE .i64) S M xd (dropsOf b.entries (srtK Chg.sub P)) ∧ (∀ c ∈ P, ¬ (c.put = true ∧ ¬ c.pol.right)) ∧
          e.get 4 = .p (S.length + 1) 0 0 ∧ e.get 7 = .p (S.length + 2) 0 0 ∧ e.get 3 = .p S.length 0 0 ∧ e.get 0 = y ∧ e.get 18 = y ∧ e.get 19 = .i .i64 l.length ∧ e.get 20 = .i .i64 k) (j := l.length) ?_ ?_
        · exact ⟨rfl, 0, [], .sn, .sn, rfl, Nat.zero_le _, by rw [List.drop_zero]; rfl, by rw [at_app0]; rfl, by rw [at_app]; rfl, by rw [at_app]; rfl, acc_nil (ext_app _), acc_nil (ext_app _), (fun c hc => by cases hc), rfl, rfl, rfl, rfl, rfl, rfl, rfl⟩
        rintro j e M d' ⟨rfl, k, P, xp, xd, rfl, hk, hP, m0, m1, m2, hp, hd, hgood, h4, h7, h3, h0, h18, h19, h20⟩
        by_cases hkl : k < l.length
        · obtain ⟨bi, o, v, cap, ex, rfl⟩ := lst_sl hl hkl
          have hlM := lst_ext hl hp.ext
          have hoM := openQ_ext ho hp.ext
          have hkI : (k : Int) < l.length := by omega
          have hrow : rowB ((M ++ [])[bi]?) (o + k * 14) v 14 = some (rchE.enc l[k]) := lstV_row hlM hkl []
          rw [List.append_nil] at hrow
          have hdrop : l.drop k = l[k] :: l.drop (k + 1) := List.drop_eq_getElem_cons hkl
          have hcm : l[k] ∈ l := List.getElem_mem hkl
          generalize hc0 : l[k] = c at hrow hdrop hcm
          have he : rchE.enc c = [.b c.put, .i .i64 c.pol.sub, .i .u8 c.pol.a, .i .u8 c.pol.b, .i .u8 c.pol.c, .i .u8 c.pol.d, .i .i64 c.pol.bits, .i .u64 c.pol.rate, .i .u64 c.pol.burst, .i .u64 c.pol.srate, .i .u64 c.pol.sburst, .i .u64 c.pol.quota, .i .u64 c.pol.lease, .i .u64 c.pol.quantum] := rfl
          obtain ⟨M1, hM1⟩ : ∃ M1, M1 = M ++ [Blk.cells (rchE.enc c) 0 none true] := ⟨_, rfl⟩
          have hMM1 : M <+: M1 := by rw [hM1]; exact ext_app _
          have bC : M1[M.length]? = some (.cells (rchE.enc c) 0 none true) := by rw [hM1, at_app0]; rfl
          obtain ⟨t28, hs28, hl28, _⟩ := drop_lst (lst_ext hlM hMM1) (openQ_ext hoM hMM1) (q := .i64) (a := k + 1) (by omega)
          have hs28 : sliceV M1 14 (.sl bi o v l.length cap ex) (some (.i .i64 ((k + 1 : Nat) : Int))) none none = some t28 := hs28
          have hl28n := lst_len hl28
          rw [he] at hM1 hrow
          refine wp_seq (W_sound oRv_ok mixed _ _ _ _ _ ?_)
          simp (maxSteps := 1000000) (disch := omega) only [h20, h19, hkI, go_sem]
          refine wp_ls oRv_ok mixed ?_
          simp (maxSteps := 1000000) (disch := omega) only [go_sem]
          refine wp_live (wp_seq (wp_block (wp_seq (W_sound oRv_ok mixed _ _ _ _ _ ?_))))
          simp (maxSteps := 1000000) (disch := omega) only [h4, h7, h3, h0, h18, h19, h20, Int.toNat_natCast, hkI, hrow, ← hM1, go_sem]
          refine wp_ls oRv_ok mixed ?_
          simp (maxSteps := 1000000) (disch := omega) only [go_sem]
          refine wp_ls oRv_ok mixed ?_
          simp (maxSteps := 1000000) (disch := omega) only [wrapSucc hkl hl1, hs28, hl28n, go_sem]
          obtain ⟨r, hr⟩ : ∃ r, r = l.drop (k + 1) := ⟨_, rfl⟩
          rw [← hr] at hl28 hl28n hdrop
          rw [← hr]
          have hrl : r.length ≤ 1000 := by rw [hr, List.length_drop]; omega
          refine wp_loop (fun j e M' dl => dl = [] ∧ ∃ n : Nat, j = r.length - n ∧ n ≤ r.length ∧ M1 <+: M' ∧ e.get 9 = .p M.length 0 0 ∧ e.get 28 = t28 ∧ e.get 4 = .p (S.length + 1) 0 0 ∧ e.get 7 = .p (S.length + 2) 0 0 ∧ e.get 3 = .p S.length 0 0 ∧ e.get 0 = .sl bi o v l.length cap ex ∧ e.get 18 = .sl bi o v l.length cap ex ∧
            e.get 19 = .i .i64 l.length ∧ e.get 20 = .i .i64 k ∧ e.get 29 = .i .i64 r.length ∧ e.get 30 = .i .i64 n ∧ e.get 10 = .b (!(r.take n).any (sameSub c.sub))) (j := r.length) ?_ ?_
          · exact ⟨rfl, 0, rfl, Nat.zero_le _, ext_refl, rfl, rfl, rfl, rfl, rfl, rfl, rfl, rfl, rfl, rfl, rfl, rfl⟩
          clear h4 h7 h3 h0 h18 h19 h20
          rintro j e M' d' ⟨rfl, n, rfl, hn, hM1', h9, h28, h4, h7, h3, h0, h18, h19, h20, h29, h30, h10⟩
          by_cases hnl : n < r.length
          · have hl28' := lst_ext hl28 hM1'
            obtain ⟨bj, o2, v2, cap2, ex2, rfl⟩ := lst_sl hl28' hnl
            have hnI : (n : Int) < r.length := by omega
            have hrn : rowB ((M' ++ [])[bj]?) (o2 + n * 14) v2 14 = some (rchE.enc r[n]) := lstV_row hl28' hnl []
            rw [List.append_nil] at hrn
            have cc : ∀ L : Mem, cellB ((M' ++ L)[M.length]?) 1 0 = some (.i .i64 c.sub) := fun L => by rw [at_old (at_pre hM1' bC)]; rfl
            have htk : (r.take (n + 1)).any (sameSub c.sub) = ((r.take n).any (sameSub c.sub) || sameSub c.sub r[n]) := by
              rw [List.take_succ_eq_append_getElem hnl, List.any_append]; simp
            generalize hd0 : r[n] = d at hrn htk
            simp only [rchE, Pol.enc] at hrn
            cases hB : (r.take n).any (sameSub c.sub) with
            | true =>
              rw [hB] at h10 htk
              refine W_sound oRv_ok mixed _ _ _ _ _ ?_
              simp (maxSteps := 1000000) (disch := omega) only [c11l0, h9, h28, h4, h7, h3, h0, h18, h19, h20, h29, h30, h10, hnI, Int.toNat_natCast, hrn, Bool.not_true, wrapSucc hnl hrl, go_sem]
              exact ⟨r.length - (n + 1), by omega, n + 1, rfl, hnl, hM1'.trans (ext_app _), rfl, by rw [htk]; rfl⟩
            | false =>
              rw [hB] at h10 htk
              refine W_sound oRv_ok mixed _ _ _ _ _ ?_
              simp (maxSteps := 1000000) (disch := omega) only [c11l0, h9, h28, h4, h7, h3, h0, h18, h19, h20, h29, h30, h10, hnI, Int.toNat_natCast, hrn, Bool.not_false, cc, wrapSucc hnl hrl, go_sem]
              refine ⟨r.length - (n + 1), by omega, n + 1, rfl, hnl, hM1'.trans (ext_app _), rfl, ?_⟩
              rw [htk, Bool.false_or]
              have : sameSub c.sub d = decide (d.pol.sub = c.sub) := rfl
              rw [this]
              by_cases q : d.pol.sub = c.sub <;> simp [q]
          · have hnI : ¬ (n : Int) < r.length := by omega
            obtain rfl : n = r.length := by omega
            rw [List.take_length] at h10
            have hpM := (hp.extM hMM1).extM hM1'
            have hdM := (hd.extM hMM1).extM hM1'
            have n0 := at_pre hM1' (at_pre hMM1 m0)
            have n1 := at_pre hM1' (at_pre hMM1 m1)
            have n2 := at_pre hM1' (at_pre hMM1 m2)
            have nC := at_pre hM1' bC
            have hlasts : lasts l = P ++ (if r.any (sameSub c.sub) = true then lasts r else c :: lasts r) := by rw [hP, hdrop]; rfl
            cases hB : r.any (sameSub c.sub) with
            | true =>
              rw [hB] at h10 hlasts
              refine W_sound oRv_ok mixed _ _ _ _ _ ?_
              simp (maxSteps := 1000000) (disch := omega) only [c11l0, h9, h4, h7, h3, h0, h18, h19, h20, h29, h30, h10, hnI, Bool.not_true, go_sem]
              refine W_sound oRv_ok mixed _ _ _ _ _ ?_
              simp (maxSteps := 1000000) (disch := omega) only [un_not_b, Bool.not_false, go_sem]
              refine W_sound oRv_ok mixed _ _ _ _ _ ?_
              simp (maxSteps := 1000000) (disch := omega) only [wrapSucc hkl hl1, go_sem]
              exact ⟨l.length - (k + 1), by omega, k + 1, P, xp, xd, rfl, hkl, by rw [hlasts, hr]; rfl, n0, n1, n2, hpM, hdM, hgood, rfl⟩
            | false =>
              rw [hB] at h10 hlasts
              refine W_sound oRv_ok mixed _ _ _ _ _ ?_
              simp (maxSteps := 1000000) (disch := omega) only [c11l0, h9, h4, h7, h3, h0, h18, h19, h20, h29, h30, h10, hnI, Bool.not_false, go_sem]
              refine wp_ls oRv_ok mixed ?_
              simp (maxSteps := 1000000) (disch := omega) only [un_not_b, Bool.not_true, go_sem]
              have hlc : lasts l = P ++ c :: lasts r := hlasts
              have hon : OnceK Chg.sub (P ++ [c]) := by
                have h1 := lasts_once l
                rw [hlc] at h1
                refine List.Pairwise.sublist ?_ h1
                exact List.Sublist.append (List.Sublist.refl _) (List.Sublist.cons_cons _ (List.nil_sublist _))
              have hlc' : lasts l = (P ++ [c]) ++ lasts (l.drop (k + 1)) := by rw [hlc, ← hr, List.append_assoc]; rfl
              have hcC : cellB (M'[M.length]?) 0 0 = some (.b c.put) := by rw [nC]; rfl
              have hcS : cellB (M'[M.length]?) 1 0 = some (.i .i64 c.sub) := by rw [nC]; rfl
              have hrC : rowB (M'[M.length]?) 1 0 13 = some c.pol.enc := by rw [nC]; rfl
              have c2 : cellB (M'[S.length + 2]?) 2 0 = some xp := by rw [n2]; rfl
              have c3 : cellB (M'[S.length + 2]?) 3 0 = some xd := by rw [n2]; rfl
              have r0 : rowB (M'[S.length]?) 0 0 2 = some [.i .u64 b.period, s] := by rw [n0]; rfl
              have hpr : polS [.ag c.pol.enc] M' = some (.b (decide c.pol.right), M') := polS_eq (hcf c hcm) _
              have hpl : (putsOf (srtK Chg.sub P)).length ≤ 1000 := by
                have h1 := lasts_len l
                rw [hlc, List.length_append] at h1
                have h2 := putsOf_len (srtK Chg.sub P)
                rw [srtK_len] at h2
                omega
              have hdl : (dropsOf b.entries (srtK Chg.sub P)).length ≤ 1000 := by
                have h1 := lasts_len l
                rw [hlc, List.length_append] at h1
                have h2 := dropsOf_len b.entries (srtK Chg.sub P)
                rw [srtK_len] at h2
                omega
              have hgd : ¬ (c.put = true ∧ ¬ c.pol.right) → ∀ x ∈ P ++ [c], ¬ (x.put = true ∧ ¬ x.pol.right) := fun h1 x hx => by
                rw [List.mem_append, List.mem_singleton] at hx
                rcases hx with hx | rfl
                · exact hgood x hx
                · exact h1
              have hps := putsOf_snoc hon
              have hds := dropsOf_snoc (b := b.entries) hon
              cases hput : c.put with
              | true =>
                rw [hput] at hcC
                rw [hput, if_pos rfl] at hps
                rw [if_neg (fun q => by rw [hput] at q; cases q.1)] at hds
                refine wp_ls oRv_ok mixed ?_
                by_cases hrt : c.pol.right
                · rw [decide_eq_true hrt] at hpr
                  have hins : insPS [xp, .ag c.pol.enc] M' = some (retX true M' (insK Pol.sub c.pol (putsOf (srtK Chg.sub P))), retM true polE M' (insK Pol.sub c.pol (putsOf (srtK Chg.sub P)))) := by
                    have hd0 : polE.dec c.pol.enc = some c.pol := rfl
                    simp only [insPS, hpM.lst, hd0]
                    rw [if_pos ⟨hpl, hpM.openG⟩]
                  have hXa : Acc true polE M' (retM true polE M' (insK Pol.sub c.pol (putsOf (srtK Chg.sub P)))) (retX true M' (insK Pol.sub c.pol (putsOf (srtK Chg.sub P)))) (insK Pol.sub c.pol (putsOf (srtK Chg.sub P))) := retX_acc
                  have hXe := hXa.ext
                  have hXz := (hXa.z insK_ne).base hpM.ext
                  generalize retX true M' (insK Pol.sub c.pol (putsOf (srtK Chg.sub P))) = X' at hins hXz
                  generalize retM true polE M' (insK Pol.sub c.pol (putsOf (srtK Chg.sub P))) = M'' at hins hXz hXe
                  have q2 := at_pre hXe n2
                  simp only [Pol.enc] at hrC hpr hins
                  simp (maxSteps := 1000000) (disch := omega) only [c11, h9, hcC, hrC, orc_cons, hpr, un_not_b, Bool.not_true, c2, hins, q2, lst_cells hXz.lst, lst_one hXz.lst, go_sem]
                  refine W_sound oRv_ok mixed _ _ _ _ _ ?_
                  simp (maxSteps := 1000000) (disch := omega) only [wrapSucc hkl hl1, go_sem]
                  refine ⟨l.length - (k + 1), by omega, k + 1, P ++ [c], X', xd, rfl, hkl, hlc', ?_, ?_, at_set q2, ?_, ?_, hgd fun q => q.2 hrt, rfl⟩
                  · rw [at_set_ne (by omega)]; exact at_pre hXe n0
                  · rw [at_set_ne (by omega)]; exact at_pre hXe n1
                  · rw [hps]; exact hXz.setB (by omega) q2 rfl _
                  · rw [hds]; exact (hdM.extM hXe).setB (by omega) q2 rfl _
                · rw [decide_eq_false hrt] at hpr
                  have hset : M'.set (S.length + 1) (evC 0 .sn .sn) = M' := set_self n1
                  simp only [Pol.enc] at hrC hpr
                  simp (maxSteps := 1000000) (disch := omega) only [c11, h9, hcC, hrC, orc_cons, hpr, un_not_b, Bool.not_false, n1, hset, go_sem]
                  rw [out_bad (badIn_seq.2 ⟨c, by rw [hlc]; simp, hput, hrt⟩), outR_no]
                  exact wkv_dropP hpM.ext rfl
              | false =>
                rw [hput] at hcC
                rw [hput, if_neg (by decide)] at hps
                obtain ⟨a, ha⟩ := foundV_mk (b.entries.find? (hasSub c.sub))
                have hfi : findS [.ag [.i .u64 b.period, s], .i .i64 c.sub] M' = some (foundV (b.entries.find? (hasSub c.sub)), M') := by
                  have hb' : bookOf M' [.i .u64 b.period, s] = some b := bookOf_mk (p := b.period) (lst_ext hls hpM.ext)
                  simp only [findS, hb']
                  rw [if_pos hbf.1]
                rw [ha] at hfi
                simp only [Ent.enc] at hfi
                refine wp_ls oRv_ok mixed ?_
                simp (maxSteps := 1000000) (disch := omega) only [c11, h9, hcC, go_sem]
                refine wp_ls oRv_ok mixed ?_
                simp (maxSteps := 1000000) (disch := omega) only [r0, hcS, orc_cons, hfi, go_sem]
                cases hth : (b.entries.find? (hasSub c.sub)).isSome with
                | true =>
                  rw [if_pos ⟨hput, hth⟩] at hds
                  obtain ⟨M5, hM5⟩ : ∃ M5, M5 = M' ++ [Blk.cells a.enc 0 none true] := ⟨_, rfl⟩
                  have hME : M' <+: M5 := by rw [hM5]; exact ext_app _
                  have hpE := hpM.extM hME
                  have hdE := hdM.extM hME
                  have q0 := at_pre hME n0
                  have q1 := at_pre hME n1
                  have q2 := at_pre hME n2
                  have hcS5 : cellB (M5[M.length]?) 1 0 = some (.i .i64 c.sub) := by rw [at_pre hME nC]; rfl
                  have c35 : cellB (M5[S.length + 2]?) 3 0 = some xd := by rw [q2]; rfl
                  have hins : insIS [xd, .i .i64 c.sub] M5 = some (retX true M5 (insK id c.sub (dropsOf b.entries (srtK Chg.sub P))), retM true (intE .i64) M5 (insK id c.sub (dropsOf b.entries (srtK Chg.sub P)))) := by
                    simp only [insIS, hdE.lst]
                    rw [if_pos ⟨hdl, hdE.openG⟩]
                  have hXa : Acc true (intE .i64) M5 (retM true (intE .i64) M5 (insK id c.sub (dropsOf b.entries (srtK Chg.sub P)))) (retX true M5 (insK id c.sub (dropsOf b.entries (srtK Chg.sub P)))) (insK id c.sub (dropsOf b.entries (srtK Chg.sub P))) := retX_acc
                  have hXe := hXa.ext
                  have hXz := (hXa.z insK_ne).base hpE.ext
                  generalize retX true M5 (insK id c.sub (dropsOf b.entries (srtK Chg.sub P))) = X' at hins hXz
                  generalize retM true (intE .i64) M5 (insK id c.sub (dropsOf b.entries (srtK Chg.sub P))) = M'' at hins hXz hXe
                  have w2 := at_pre hXe q2
                  rw [Ent.enc] at hM5
                  rw [← hM5]
                  refine W_sound oRv_ok mixed _ _ _ _ _ ?_
                  simp (maxSteps := 1000000) (disch := omega) only [c35, hcS5, orc_cons, hins, w2, lst_cells hXz.lst, lst_one hXz.lst, go_sem]
                  refine W_sound oRv_ok mixed _ _ _ _ _ ?_
                  simp (maxSteps := 1000000) (disch := omega) only [wrapSucc hkl hl1, go_sem]
                  refine ⟨l.length - (k + 1), by omega, k + 1, P ++ [c], xp, X', rfl, hkl, hlc', ?_, ?_, at_set w2, ?_, ?_, hgd fun q => (by rw [hput] at q; cases q.1), rfl⟩
                  · rw [at_set_ne (by omega)]; exact at_pre hXe q0
                  · rw [at_set_ne (by omega)]; exact at_pre hXe q1
                  · rw [hps]; exact (hpE.extM hXe).setB (by omega) w2 rfl _
                  · rw [hds]; exact hXz.setB (by omega) w2 rfl _
                | false =>
                  rw [if_neg (fun q => by rw [hth] at q; cases q.2)] at hds
                  refine W_sound oRv_ok mixed _ _ _ _ _ ?_
                  simp (maxSteps := 1000000) (disch := omega) only [go_sem]
                  refine W_sound oRv_ok mixed _ _ _ _ _ ?_
                  simp (maxSteps := 1000000) (disch := omega) only [wrapSucc hkl hl1, go_sem]
                  refine ⟨l.length - (k + 1), by omega, k + 1, P ++ [c], xp, xd, rfl, hkl, hlc', at_old n0, at_old n1, at_old n2, ?_, ?_, hgd fun q => (by rw [hput] at q; cases q.1), rfl⟩
                  · rw [hps]; exact hpM.grow _
                  · rw [hds]; exact hdM.grow _
        · have hkI : ¬ (k : Int) < l.length := by omega
          obtain rfl : k = l.length := by omega
          have hPl : lasts l = P := by rw [hP, List.drop_length]; exact List.append_nil _
          have hng : ¬ badIn (seqOf l) := fun q => by
            obtain ⟨c, hc, h⟩ := badIn_seq.1 q
            rw [hPl] at hc
            exact hgood c hc h
          rw [show srtK Chg.sub P = seqOf l by rw [seqOf, hPl]] at hp hd
          have hql : (seqOf l).length ≤ 1000 := Nat.le_trans (seqOf_len l) hl1
          have hpl : (putsOf (seqOf l)).length ≤ 1000 := Nat.le_trans (putsOf_len _) hql
          have hdl : (dropsOf b.entries (seqOf l)).length ≤ 1000 := Nat.le_trans (dropsOf_len _ _) hql
          have hqf : ∀ c ∈ seqOf l, c.pol.fits := fun c hc => hcf c (lasts_sub (seqOf_mem.1 hc))
          generalize seqOf l = q at hp hd hng hql hpl hdl hqf
          have c2 : cellB (M[S.length + 2]?) 2 0 = some xp := by rw [m2]; rfl
          have c3 : cellB (M[S.length + 2]?) 3 0 = some xd := by rw [m2]; rfl
          by_cases hz : (putsOf q).length = 0 ∧ (dropsOf b.entries q).length = 0
          · obtain ⟨z1, z2⟩ := hz
            have z1I : ((putsOf q).length : Int) = 0 := by omega
            have z2I : ((dropsOf b.entries q).length : Int) = 0 := by omega
            have hset : M.set (S.length + 1) (evC 0 .sn .sn) = M := set_self m1
            refine W_sound oRv_ok mixed _ _ _ _ _ ?_
            simp (maxSteps := 1000000) (disch := omega) only [c11, c11l1, h4, h7, h3, h0, h18, h19, h20, hkI, c2, c3, lst_len hp.lst, lst_len hd.lst, z1I, z2I, m1, hset, go_sem]
            rw [out_none hng z1 z2, outR_no]
            exact wkv_dropP hp.ext rfl
          · have hb' : bookOf M [.i .u64 b.period, s] = some b := bookOf_mk (p := b.period) (lst_ext hls hp.ext)
            have hef : Evt.fits ⟨1, 0, putsOf q, dropsOf b.entries q, 0, 0⟩ := ⟨by show (putsOf q).length ≤ _; omega, by show (dropsOf b.entries q).length ≤ _; omega, fun p hpm => by
              obtain ⟨c, hc, _, rfl⟩ := putsOf_mem.1 hpm
              exact hqf c hc⟩
            obtain ⟨Y, M3, hap, hY, hM3⟩ := rapply_call (k := 1) (s := 0) (g := 0) (q := 0) hb' hp.lst hd.lst hbf hef hp.openG
            have r0 : rowB (M[S.length]?) 0 0 2 = some [.i .u64 b.period, s] := by rw [m0]; rfl
            have rB : rowB (M[S.length + 2]?) 0 0 6 = some [.i .i64 1, .i .i64 0, xp, xd, .i .u64 0, .i .u64 0] := by rw [m2]; rfl
            have f1 : ∀ L : Mem, (M3 ++ L)[S.length + 1]? = some (evC 0 .sn .sn) := fun L => at_old (at_pre hM3 m1)
            have fB : ∀ L : Mem, rowB ((M3 ++ L)[S.length + 2]?) 0 0 6 = some [.i .i64 1, .i .i64 0, xp, xd, .i .u64 0, .i .u64 0] := fun L => by rw [at_old (at_pre hM3 m2)]; rfl
            have hset : ∀ L : Mem, (M3 ++ L).set (S.length + 1) (evC 0 .sn .sn) = M3 ++ L := fun L => set_self (f1 L)
            have hrow : ∀ (L : Mem), rowB (((M3 ++ L).set (S.length + 1) (evC 1 xp xd))[S.length + 1]?) 0 0 6 = some [.i .i64 1, .i .i64 0, xp, xd, .i .u64 0, .i .u64 0] := fun L => by rw [at_set (f1 L)]; rfl
            generalize b.after ⟨1, 0, putsOf q, dropsOf b.entries q, 0, 0⟩ = ba at hap hY
            unfold Bk.err at hap
            have hM4 : M <+: M3 ++ [.cells [.i .u64 ba.period, Y] 0 none true] := hM3.trans (ext_app _)
            rcases (by omega : (((putsOf q).length : Int) = 0 ∧ ¬ ((dropsOf b.entries q).length : Int) = 0) ∨ ¬ ((putsOf q).length : Int) = 0) with ⟨z1, z2⟩ | z1
            · refine W_sound oRv_ok mixed _ _ _ _ _ ?_
              by_cases hs : (b.rapplied ⟨1, 0, putsOf q, dropsOf b.entries q, 0, 0⟩).isSome = true
              · rw [if_pos hs] at hap
                simp (maxSteps := 1000000) (disch := omega) only [c11, c11l1, h4, h7, h3, h0, h18, h19, h20, hkI, c2, c3, lst_len hp.lst, lst_len hd.lst, z1, z2, r0, rB, orc_cons, hap, lst_cells hY, lst_one hY, List.replicate, f1, fB, lst_one hp.lst, lst_one hd.lst, Bool.and_self, hrow, go_sem]
                rw [out_some hng hz hs]
                exact evt_ret ((hp.extM hM4).setB (by omega) (f1 _) rfl _) ((hd.extM hM4).setB (by omega) (f1 _) rfl _)
              · rw [if_neg hs] at hap
                simp (maxSteps := 1000000) (disch := omega) only [c11, c11l1, h4, h7, h3, h0, h18, h19, h20, hkI, c2, c3, lst_len hp.lst, lst_len hd.lst, z1, z2, r0, rB, orc_cons, hap, lst_cells hY, lst_one hY, List.replicate, f1, fB, hset, go_sem]
                rw [out_err hng hz hs, outR_no]
                exact wkv_dropP (hp.ext.trans hM4) rfl
            · refine W_sound oRv_ok mixed _ _ _ _ _ ?_
              by_cases hs : (b.rapplied ⟨1, 0, putsOf q, dropsOf b.entries q, 0, 0⟩).isSome = true
              · rw [if_pos hs] at hap
                simp (maxSteps := 1000000) (disch := omega) only [c11, c11l1, h4, h7, h3, h0, h18, h19, h20, hkI, c2, c3, lst_len hp.lst, lst_len hd.lst, z1, r0, rB, orc_cons, hap, lst_cells hY, lst_one hY, List.replicate, f1, fB, lst_one hp.lst, lst_one hd.lst, Bool.and_self, hrow, go_sem]
                rw [out_some hng hz hs]
                exact evt_ret ((hp.extM hM4).setB (by omega) (f1 _) rfl _) ((hd.extM hM4).setB (by omega) (f1 _) rfl _)
              · rw [if_neg hs] at hap
                simp (maxSteps := 1000000) (disch := omega) only [c11, c11l1, h4, h7, h3, h0, h18, h19, h20, hkI, c2, c3, lst_len hp.lst, lst_len hd.lst, z1, r0, rB, orc_cons, hap, lst_cells hY, lst_one hY, List.replicate, f1, fB, hset, go_sem]
                rw [out_err hng hz hs, outR_no]
                exact wkv_dropP (hp.ext.trans hM4) rfl
      · cases h
    · cases h
  · cases h
end Go.Proofs.YtmdnohpolepcoaaGreat

namespace Go.Proofs.YtmdnohpolepcoaaGreat
open Go.RowKit
set_option linter.unusedSimpArgs false
set_option linter.unusedVariables false
set_option maxRecDepth 1000000

/-- A list of one entry in order: as it is. -/
def sort1S : Spec := fun args S => match args with
  | [.sl i 0 v n cap false, .f (.func f) [] []] => match S[i]? with
    | some (.cells cs v' (some sz) true) => match entE.dec cs with
      | some a => if f = 60 ∧ v' = v ∧ sz = 14 ∧ n = 1 ∧ cap = 1 then some (.tu [], S) else none
      | none => none
    | _ => none
  | _ => none
theorem sort1_ok : SpecOK Tryz.prog 59 sort1S := by
  intro args S x S' h
  unfold sort1S at h
  split at h
  · rename_i i v n cap f
    split at h
    · rename_i cs v' sz hB
      split at h
      · rename_i a ha
        split at h
        · rename_i hc
          obtain ⟨rfl, rfl, rfl, rfl, rfl⟩ := hc
          cases h
          have hcs := entE.ed _ _ ha
          have hB' : S[i]? = some (Cf.blk ⟨v', 1, [], [a]⟩) := by rw [hB, hcs]; rfl
          have hs := sort_eq (i := i) (S := S) (c := ⟨v', 1, [], [a]⟩) ⟨rfl, Nat.le_refl _, rfl⟩ (List.pairwise_singleton ..) (show 1 ≤ 1000000 by omega) hB'
          have hse : sortE [a] = [a] := (sortE_eq (List.pairwise_singleton ..) (List.pairwise_singleton ..) fun x => Iff.rfl).symm
          have hbk : Cf.blk (Cf.sort ⟨v', 1, [], [a]⟩) = Cf.blk ⟨v', 1, [], [a]⟩ := by unfold Cf.sort Cf.blk; rw [hse]
          rw [hbk, set_self hB'] at hs
          exact sort_ok _ _ _ _ hs
        · cases h
      · cases h
    · cases h
  · cases h
def specs : List (FuncId × Spec) := [(17, sortedS), (59, sort1S)]
theorem specs_ok : ∀ p ∈ specs, SpecOK Tryz.prog p.1 p.2 := by
  intro p hp
  simp only [specs, List.mem_cons, List.not_mem_nil, or_false] at hp
  rcases hp with rfl | rfl
  · exact sorted_ok
  · exact sort1_ok
theorem alive_run : isTrue ((evMix specs tab 100000 100).fn 4 [] []) = true := by kernel_rfl
def aliveS : Spec := fun args S => match args with
  | [] => some (.b true, S)
  | _ => none
theorem alive_ok : SpecOK Tryz.prog 4 aliveS := by
  intro args S x S' h
  unfold aliveS at h
  split at h
  · cases h
    exact fnOK_of_below (by kernel_rfl) (fun w => calls_of_mix mixed specs_ok tab_ok alive_run w) S
  · cases h
end Go.Proofs.YtmdnohpolepcoaaGreat

namespace Go.Proofs.YtmdnohpolepcoaaGreat
open Go.RowKit
set_option linter.unusedSimpArgs false
set_option linter.unusedVariables false
set_option maxRecDepth 10000

/-! ### Changes as a Txn keeps them come to the same -/
theorem nrm_fits {c : Chg} (h : c.pol.good) : (nrm c).fits := by
  have h1 : c.pol.sub = (nrm c).pol.sub := (nrm_sub c).symm
  have hs : -9223372036854775808 ≤ c.pol.sub ∧ c.pol.sub ≤ 9223372036854775807 := h.1
  refine ⟨?_, by rw [← h1]; exact hs.1, by rw [← h1]; exact hs.2⟩
  unfold nrm
  split
  · exact h.fits
  · show u84 0 0 0 0
    exact ⟨⟨by omega, by omega⟩, ⟨by omega, by omega⟩, ⟨by omega, by omega⟩, ⟨by omega, by omega⟩⟩
theorem nrm_put (c : Chg) : (nrm c).put = c.put := by
  unfold nrm; split
  · rfl
  · rename_i h; simp at h; exact h.symm
theorem nrm_pol {c : Chg} (h : c.put = true) : (nrm c).pol = c.pol := by unfold nrm; rw [if_pos h]
theorem lasts_nrm : ∀ l : List Chg, lasts (l.map nrm) = (lasts l).map nrm
  | [] => rfl
  | c :: l => by
    have h : (l.map nrm).any (sameSub (nrm c).sub) = l.any (sameSub c.sub) := by
      rw [List.any_map, nrm_sub]
      congr 1
      funext d
      show decide ((nrm d).sub = c.sub) = decide (d.sub = c.sub)
      rw [nrm_sub]
    rw [List.map_cons, lasts, lasts, h, lasts_nrm l]
    split
    · rfl
    · rfl
theorem insK_nrm (c : Chg) : ∀ l : List Chg, insK Chg.sub (nrm c) (l.map nrm) = (insK Chg.sub c l).map nrm
  | [] => rfl
  | d :: l => by
    rw [List.map_cons, insK, insK, nrm_sub, nrm_sub, insK_nrm c l]
    split <;> rfl
theorem srtK_nrm : ∀ l : List Chg, srtK Chg.sub (l.map nrm) = (srtK Chg.sub l).map nrm
  | [] => rfl
  | c :: l => by rw [List.map_cons, srtK, srtK, srtK_nrm l, insK_nrm]
theorem seq_nrm (l : List Chg) : seqOf (l.map nrm) = (seqOf l).map nrm := by unfold seqOf; rw [lasts_nrm, srtK_nrm]
theorem puts_nrm (s : List Chg) : putsOf (s.map nrm) = putsOf s := by
  unfold putsOf
  rw [List.filterMap_map]
  congr 1
  funext c
  show putOf (nrm c) = putOf c
  unfold putOf
  rw [nrm_put]
  split
  · rename_i h; rw [nrm_pol h]
  · rfl
theorem drops_nrm (b : List Ent) (s : List Chg) : dropsOf b (s.map nrm) = dropsOf b s := by
  unfold dropsOf
  rw [List.filterMap_map]
  congr 1
  funext c
  show dropOf b (nrm c) = dropOf b c
  unfold dropOf
  rw [nrm_put, nrm_sub]
theorem bad_nrm (s : List Chg) : badIn (s.map nrm) ↔ badIn s := by
  unfold badIn
  constructor
  · rintro ⟨c, hc, hp, hr⟩
    obtain ⟨d, hd, rfl⟩ := List.mem_map.1 hc
    rw [nrm_put] at hp
    rw [nrm_pol hp] at hr
    exact ⟨d, hd, hp, hr⟩
  · rintro ⟨d, hd, hp, hr⟩
    exact ⟨nrm d, List.mem_map.2 ⟨d, hd, rfl⟩, by rw [nrm_put]; exact hp, by rw [nrm_pol hp]; exact hr⟩
theorem out_nrm (b : Bk) (l : List Chg) : outOf b (seqOf (l.map nrm)) = outOf b (seqOf l) := by
  rw [seq_nrm]
  have he : evtIn b.entries ((seqOf l).map nrm) = evtIn b.entries (seqOf l) := by unfold evtIn; rw [puts_nrm, drops_nrm]
  unfold outOf
  rw [he, puts_nrm, drops_nrm]
  by_cases h : badIn (seqOf l)
  · rw [if_pos h, if_pos ((bad_nrm _).2 h)]
  · rw [if_neg h, if_neg (fun q => h ((bad_nrm _).1 q))]

/-! ### A list of its own beside a Txn -/
structure LAt (M : Mem) (x : AV) (i : Nat) (m : List Chg) : Prop where
  h : ∃ v ex op, x = .sl i 0 v m.length m.length ex ∧ M[i]? = some (.cells (m.flatMap rchE.enc) v op true) ∧ (ex = true ∨ op = some 14)
theorem LAt.lst {M : Mem} {x : AV} {i : Nat} {m : List Chg} (h : LAt M x i m) : lstV rchE M x = some m := by
  obtain ⟨v, ex, op, rfl, hB, _⟩ := h.h
  refine lst_lstV (.inr (.inr ⟨_, _, _, _, _, _, rfl, rfl, ?_⟩))
  rw [rowAt_B, hB, rowB_some, if_pos (by rw [enc_length]; show 0 + _ * 14 ≤ _ * 14; omega), List.drop_zero, ← enc_length, List.take_length]
theorem LAt.openQ {M : Mem} {x : AV} {i : Nat} {m : List Chg} (h : LAt M x i m) : openQ M 14 x = true := by
  obtain ⟨v, ex, op, rfl, hB, ho⟩ := h.h
  rcases ho with rfl | rfl <;> simp [Go.Proofs.YtmdnohpolepcoaaGreat.openQ, hB, Blk.opn]
theorem LAt.lt {M : Mem} {x : AV} {i : Nat} {m : List Chg} (h : LAt M x i m) : i < M.length := by
  obtain ⟨v, ex, op, rfl, hB, _⟩ := h.h
  exact (List.getElem?_eq_some_iff.1 hB).1
theorem LAt.keep {M M' : Mem} {x : AV} {i : Nat} {m : List Chg} (h : LAt M x i m) (hM : ∀ B, M[i]? = some B → M'[i]? = some B) : LAt M' x i m := by
  obtain ⟨v, ex, op, hx, hB, ho⟩ := h.h
  exact ⟨v, ex, op, hx, hM _ hB, ho⟩
theorem LAt.ext {M M' : Mem} {x : AV} {i : Nat} {m : List Chg} (h : LAt M x i m) (hM : M <+: M') : LAt M' x i m := h.keep fun B hB => at_pre hM hB
theorem op_full {b it j : Nat} {M : Mem} {l : List Chg} (h : TAt b M it j l) (hl : 64 ≤ l.length) (c : Chg) : ∃ M', opS it c M = some (.i .i64 161, M') ∧ M <+: M' := by
  unfold opS
  cases hp : c.put with
  | true => exact ⟨_, tput_full h hl c.pol, ext_app _⟩
  | false => exact ⟨_, tdrop_full h hl c.sub, ext_refl⟩
/-- A change more for both. -/
theorem both_step {S M : Mem} {it jx i : Nat} {x : AV} {m : List Chg} (ht : TAt S.length M it jx (m.map nrm)) (hx : LAt M x i m) (hS : S <+: M) (hit : i ≠ it) (hij : m ≠ [] → i ≠ jx) (c : Chg) (U : Blk) :
    ∃ (M2 M3 : Mem) (x' : AV) (i' j' : Nat) (er : Int), raddS [x, .ag (rchE.enc c)] (M ++ [U]) = some (.tu [x', .i .i64 er], M2) ∧ (M ++ [U]) <+: M2 ∧ opS it c M2 = some (.i .i64 er, M3) ∧
      TAt S.length M3 it j' ((if 64 ≤ m.length then m else m ++ [c]).map nrm) ∧ LAt M2 x' i' (if 64 ≤ m.length then m else m ++ [c]) ∧ LAt M3 x' i' (if 64 ≤ m.length then m else m ++ [c]) ∧ S <+: M3 ∧ i' ≠ it ∧ ((if 64 ≤ m.length then m else m ++ [c]) ≠ [] → i' ≠ j') := by
  have hM1 : M <+: M ++ [U] := ext_app _
  have hx1 := hx.ext hM1
  have ht1 := ht.ext hM1
  have hd : rchE.dec (rchE.enc c) = some c := rfl
  by_cases h64 : 64 ≤ m.length
  · rw [if_pos h64]
    obtain ⟨M3, h3, hM3⟩ := op_full ht1 (by rw [List.length_map]; exact h64) c
    refine ⟨M ++ [U], M3, x, i, jx, 161, ?_, ext_refl, h3, ht1.ext hM3, hx1, hx1.ext hM3, (hS.trans hM1).trans hM3, hit, hij⟩
    simp only [raddS, hx1.lst, hd]
    rw [if_pos h64]
  · rw [if_neg h64]
    obtain ⟨M2, hM2⟩ : ∃ M2, M2 = retM true rchE (M ++ [U]) (m ++ [c]) := ⟨_, rfl⟩
    have hM12 : M ++ [U] <+: M2 := by rw [hM2]; exact retM_ext
    obtain ⟨a, r, har⟩ := List.exists_cons_of_ne_nil (show m ++ [c] ≠ [] by simp)
    have hlen : M2.length = (M ++ [U]).length + 1 := by rw [hM2, har]; simp [retM]
    have hx2 : LAt M2 (retX true (M ++ [U]) (m ++ [c])) (M ++ [U]).length (m ++ [c]) := by
      refine ⟨0, false, some 14, ?_, ?_, .inr rfl⟩
      · rw [har]; rfl
      · rw [hM2, har]
        show ((M ++ [U]) ++ [Blk.cells ((a :: r).flatMap rchE.enc) 0 (some 14) true])[(M ++ [U]).length]? = _
        rw [at_app0]; rfl
    have ht2 := ht1.ext hM12
    obtain ⟨M3, j', o1, o2, o3, o4, o5, o6⟩ := op_call ht2 ((hS.trans hM1).trans hM12).length_le (by rw [List.length_map]; omega) c
    obtain ⟨_, _, y, hy, hL⟩ := ht1
    have hyl := (List.getElem?_eq_some_iff.1 hy).1
    have hi2 : (M ++ [U]).length ≠ it := by omega
    have hij2 : m.map nrm ≠ [] → (M ++ [U]).length ≠ jx := fun q => by
      rcases hL with ⟨q', _⟩ | ⟨_, v, _, hB⟩
      · exact absurd q' q
      · have := (List.getElem?_eq_some_iff.1 hB).1
        omega
    refine ⟨M2, M3, retX true (M ++ [U]) (m ++ [c]), (M ++ [U]).length, j', 0, ?_, hM12, o1, ?_, hx2, ?_, o6.ext ht2 ((hS.trans hM1).trans hM12), hi2, fun _ => ?_⟩
    · simp only [raddS, hx1.lst, hd]
      rw [if_neg h64, hM2]
    · rw [List.map_append, List.map_singleton]; exact o2
    · refine hx2.keep fun B hB => o6 _ B hB hi2 ?_
      by_cases q : m.map nrm = []
      · exact .inl q
      · exact .inr (hij2 q)
    · by_cases q : m.map nrm = []
      · have := o4 q; omega
      · rw [o3 q]; exact hij2 q
end Go.Proofs.YtmdnohpolepcoaaGreat

namespace Go.Proofs.YtmdnohpolepcoaaGreat
open Go.RowKit
set_option linter.unusedSimpArgs false
set_option linter.unusedVariables false
set_option maxRecDepth 10000

theorem oEs_ok : OK Tryz.prog (lamOf Tryz.prog) (orcOf [(4, aliveS), (5, rbrightW), (6, tnewS), (7, raddS), (8, tputS), (9, tdropS), (10, tevS), (11, revS), (12, tlenS), (13, esameS)]) :=
  orc_ok (by simpa using ⟨alive_ok, rbrightW_ok, tnew_ok, radd_ok, tput_ok, tdrop_ok, tev_ok, rev_ok, tlen_ok, resame_ok⟩)
theorem rev_eq {M : Mem} {x : AV} {l : List Chg} (hl : lstV rchE M x = some l) {cb : List AV} {bk : Bk} (hb : bookOf M cb = some bk) (hf : bk.fits) (hn : l.length ≤ 1000) (hc : ∀ c ∈ l, c.pol.fits) (ho : openQ M 14 x = true) : revS [x, .ag cb] M = some (outR M (outOf bk (seqOf l))) := by
  simp only [revS, hl, hb]
  rw [if_pos ⟨hf, hn, hc, ho⟩]
theorem take64 {l : List Chg} {k : Nat} (hk : k < l.length) : (if 64 ≤ (l.take (min k 64)).length then l.take (min k 64) else l.take (min k 64) ++ [l[k]]) = l.take (min (k + 1) 64) := by
  rw [List.length_take]
  by_cases h : 64 ≤ k
  · rw [if_pos (by omega), show min k 64 = 64 by omega, show min (k + 1) 64 = 64 by omega]
  · rw [if_neg (by omega), show min k 64 = k by omega, show min (k + 1) 64 = k + 1 by omega, List.take_succ_eq_append_getElem hk]
set_option maxHeartbeats 1000000 in
theorem events_ok (S : Mem) (p : Int) (s x : AV) (bs : List Ent) (l : List Chg) (hs : lstV entE S s = some bs) (hgb : ∀ y ∈ bs, y.good) (hl : lstV rchE S x = some l) (hgl : ∀ c ∈ l, c.pol.good) :
    FnOK Tryz.prog 3 [.ag [.i .u64 p, s], x] S (.b true) S := by
  have hbf : ∀ y ∈ (Bk.mk p bs).entries, y.pol.fits := fun y hy => (hgb y hy).1.fits
  have r1 := fun L => rbrightW_eq (bookOf_mk (p := p) (lstV_grow hs L)) hbf
  have hal : ∀ U, aliveS [] U = some (.b true, U) := fun U => rfl
  refine fn_of_wp f3 rfl (wp_seq (W_sound oEs_ok mixed _ _ _ _ _ ?_))
  simp (maxSteps := 1000000) (disch := omega) only [go_sem]
  refine wp_ls oEs_ok mixed ?_
  simp (maxSteps := 1000000) (disch := omega) only [orc_cons, hal, un_not_b, Bool.not_true, go_sem]
  by_cases g2 : (80 : Int) < (l.length : Int)
  · refine wp_ls oEs_ok mixed ?_
    simp (maxSteps := 1000000) (disch := omega) only [c3, lst_len hl, g2, go_sem]
    exact wkv_drop rfl
  by_cases hok : (Bk.mk p bs).ok
  rotate_left
  · rw [decide_eq_false hok] at r1
    refine wp_ls oEs_ok mixed ?_
    simp (maxSteps := 1000000) (disch := omega) only [c3, lst_len hl, g2, orc_cons, r1, un_not_b, Bool.not_false, go_sem]
    exact wkv_drop rfl
  rw [decide_eq_true hok] at r1
  have hl80 : l.length ≤ 80 := by omega
  refine wp_ls oEs_ok mixed ?_
  simp (maxSteps := 1000000) (disch := omega) only [c3, lst_len hl, g2, orc_cons, r1, un_not_b, Bool.not_true, go_sem]
  have n1 : tnewS [] (S ++ [.cells [.i .u64 p, s] 0 none true]) = some (.p (S.length + 1) 0 0, S ++ [.cells [.i .u64 p, s] 0 none true, .cells [.sn] 0 none true]) := by
    simp only [tnewS, List.length_append, List.length_singleton, List.append_assoc, List.singleton_append]
  refine wp_ls oEs_ok mixed ?_
  simp (maxSteps := 1000000) (disch := omega) only [orc_cons, n1, go_sem]
  refine wp_ls oEs_ok mixed ?_
  simp (maxSteps := 1000000) (disch := omega) only [go_sem]
  refine wp_ls oEs_ok mixed ?_
  simp (maxSteps := 1000000) (disch := omega) only [lst_len hl, go_sem]
  obtain ⟨S1, hS1⟩ : ∃ S1, S1 = S ++ [Blk.cells [.i .u64 p, s] 0 none true] := ⟨_, rfl⟩
  have hS1l : S1.length = S.length + 1 := by rw [hS1]; simp
  have hSS1 : S <+: S1 := by rw [hS1]; exact ext_app _
  have b0 : S1[S.length]? = some (.cells [.i .u64 p, s] 0 none true) := by rw [hS1, at_app0]; rfl
  obtain ⟨M0, hM0⟩ : ∃ M0, M0 = S ++ [Blk.cells [.i .u64 p, s] 0 none true, .cells [.sn] 0 none true, .cells [] 0 none true] := ⟨_, rfl⟩
  have hM01 : M0 = S1 ++ [.cells [.sn] 0 none true, .cells [] 0 none true] := by rw [hM0, hS1, List.append_assoc]; rfl
  have hS1M0 : S1 <+: M0 := by rw [hM01]; exact ext_app _
  have x0 : M0[S.length + 1]? = some (.cells [.sn] 0 none true) := by rw [hM0, at_app]; rfl
  have y0 : M0[S.length + 2]? = some (.cells [] 0 none true) := by rw [hM0, at_app]; rfl
  have hT0 : TAt S1.length M0 (S.length + 1) 0 [] := ⟨by omega, fun q => absurd rfl q, .sn, x0, .inl ⟨rfl, rfl⟩⟩
  have hL0 : LAt M0 (.sl (S.length + 2) 0 0 0 0 true) (S.length + 2) [] := ⟨0, true, none, rfl, y0, .inl rfl⟩
  rw [← hM0]
  have hbk : (Bk.mk p bs).fits := ⟨by have := hok.2.2.1.1; unfold polsOf at this; simp at this; show bs.length ≤ _; omega, hbf⟩
  refine wp_loop (fun j e M dl => dl = [] ∧ ∃ (k jx i6 : Nat) (x6 : AV), j = l.length - k ∧ k ≤ l.length ∧ S1 <+: M ∧ TAt S1.length M (S.length + 1) jx ((l.take (min k 64)).map nrm) ∧ LAt M x6 i6 (l.take (min k 64)) ∧ i6 ≠ S.length + 1 ∧ (l.take (min k 64) ≠ [] → i6 ≠ jx) ∧
    e.get 5 = .p (S.length + 1) 0 0 ∧ e.get 2 = .p S.length 0 0 ∧ e.get 30 = x ∧ e.get 31 = .i .i64 l.length ∧ e.get 32 = .i .i64 k ∧ e.get 6 = x6) (j := l.length) ⟨rfl, 0, 0, _, _, rfl, Nat.zero_le _, hS1M0, hT0, hL0, by omega, fun q => absurd rfl q, rfl, rfl, rfl, rfl, rfl, rfl⟩ ?_
  rintro j e M d' ⟨rfl, k, jx, i6, x6, rfl, hk, hSM, hT, hL, hi1, hi2, h5, h2, h30, h31, h32, h6⟩
  by_cases hkl : k < l.length
  · obtain ⟨bi, o, v, cap, ex, rfl⟩ := lst_sl hl hkl
    have hkI : (k : Int) < l.length := by omega
    have hlM := lst_ext hl (hSS1.trans hSM)
    have hrow : rowB ((M ++ [])[bi]?) (o + k * 14) v 14 = some (rchE.enc l[k]) := lstV_row hlM hkl []
    rw [List.append_nil] at hrow
    obtain ⟨M2, M3, x', i', j', er, a1, a2, a3, a4, a5, a6, a7, a8, a9⟩ := both_step hT hL hSM hi1 hi2 l[k] (.cells (rchE.enc l[k]) 0 none true)
    rw [take64 hkl] at a4 a5 a6 a9
    obtain ⟨m', hm'⟩ : ∃ m', m' = l.take (min (k + 1) 64) := ⟨_, rfl⟩
    rw [← hm'] at a4 a5 a6 a9
    have hml : m'.length ≤ 1000 := by rw [hm', List.length_take]; omega
    have hmm : ∀ c ∈ m', c ∈ l := fun c hc => by rw [hm'] at hc; exact List.mem_of_mem_take hc
    have hnf : ∀ c ∈ m'.map nrm, c.fits := fun c hc => by
      obtain ⟨d, hd, rfl⟩ := List.mem_map.1 hc
      exact nrm_fits (hgl d (hmm d hd))
    have hbM : ∀ U, S1 <+: U → bookOf U [.i .u64 p, s] = some (Bk.mk p bs) := fun U hU => bookOf_mk (lst_ext hs (hSS1.trans hU))
    have ev1 := tev_eq a4 (hbM M3 a7) hbk (by rw [List.length_map]; exact hml) hnf
    rw [out_nrm] at ev1
    have hof := out_fits (b := ⟨p, bs⟩) (l := m'.map nrm) (by rw [List.length_map]; exact hml) hnf
    rw [out_nrm] at hof
    have ev2 := fun (U : Mem) (hU : M3 <+: U) => rev_eq (a6.ext hU).lst (hbM U (a7.trans hU)) hbk hml (fun c hc => (hgl c (hmm c hc)).fits) (a6.ext hU).openQ
    generalize outOf ⟨p, bs⟩ (seqOf m') = oo at ev1 ev2 hof
    obtain ⟨ev, sm, er2⟩ := oo
    obtain ⟨M4, hM4⟩ : ∃ M4, M4 = ret2M polE (intE .i64) M3 ev.puts ev.drops := ⟨_, rfl⟩
    have hM34 : M3 <+: M4 := by rw [hM4]; exact ret2M_ext
    obtain ⟨M5, hM5⟩ : ∃ M5, M5 = M4 ++ [.cells (evtCs M3 ev) 0 none true] := ⟨_, rfl⟩
    have hM45 : M4 <+: M5 := by rw [hM5]; exact ext_app _
    have ev2 := ev2 M5 (hM34.trans hM45)
    obtain ⟨M6, hM6⟩ : ∃ M6, M6 = ret2M polE (intE .i64) M5 ev.puts ev.drops := ⟨_, rfl⟩
    have hM56 : M5 <+: M6 := by rw [hM6]; exact ret2M_ext
    have hsame : ∀ L : Mem, esameS [.ag (evtCs M3 ev), .ag (evtCs M5 ev)] (M6 ++ L) = some (.b true, M6 ++ L) := fun L =>
      esame_two hof (by rw [← hM4]; exact (hM45.trans hM56).trans (ext_app _)) (by rw [← hM6]; exact ext_app _)
    have x12 : M5[M4.length]? = some (.cells (evtCs M3 ev) 0 none true) := by rw [hM5, at_app0]; rfl
    have r12 : ∀ L : Mem, rowB ((M6 ++ L)[M4.length]?) 0 0 6 = some (evtCs M3 ev) := fun L => by rw [at_old (at_pre hM56 x12)]; rfl
    have rb3 : rowB (M3[S.length]?) 0 0 2 = some [.i .u64 p, s] := by rw [at_pre a7 b0]; rfl
    have rb5 : rowB (M5[S.length]?) 0 0 2 = some [.i .u64 p, s] := by rw [at_pre ((a7.trans hM34).trans hM45) b0]; rfl
    have hM36 : M3 <+: M6 := (hM34.trans hM45).trans hM56
    have hlen : ∀ L : Mem, tlenS [.p (S.length + 1) 0 0] (M6 ++ L) = some (.i .i64 m'.length, M6 ++ L) := fun L => by
      have := tlen_eq (a4.ext (hM36.trans (ext_app L)))
      rw [List.length_map] at this; exact this
    have hx6 := a5.lst
    simp only [outR, evtR, ← hM4, ← hM6] at ev1 ev2
    simp only [evtCs] at hM5 hsame r12
    generalize hc0 : l[k] = c at a1 a2 a3 hrow
    have he : rchE.enc c = [.b c.put, .i .i64 c.pol.sub, .i .u8 c.pol.a, .i .u8 c.pol.b, .i .u8 c.pol.c, .i .u8 c.pol.d, .i .i64 c.pol.bits, .i .u64 c.pol.rate, .i .u64 c.pol.burst, .i .u64 c.pol.srate, .i .u64 c.pol.sburst, .i .u64 c.pol.quota, .i .u64 c.pol.lease, .i .u64 c.pol.quantum] := rfl
    have bC : M2[M.length]? = some (.cells (rchE.enc c) 0 none true) := at_pre a2 (by rw [at_app0]; rfl)
    have hcC : cellB (M2[M.length]?) 0 0 = some (.b c.put) := by rw [bC]; rfl
    have hcS : cellB (M2[M.length]?) 1 0 = some (.i .i64 c.sub) := by rw [bC]; rfl
    have hrC : rowB (M2[M.length]?) 1 0 13 = some c.pol.enc := by rw [bC]; rfl
    rw [he] at a1 hrow
    refine wp_seq (W_sound oEs_ok mixed _ _ _ _ _ ?_)
    simp (maxSteps := 1000000) (disch := omega) only [h31, h32, hkI, go_sem]
    refine wp_ls oEs_ok mixed ?_
    simp (maxSteps := 1000000) (disch := omega) only [go_sem]
    refine wp_live (wp_seq (wp_block (wp_seq (W_sound oEs_ok mixed _ _ _ _ _ ?_))))
    simp (maxSteps := 1000000) (disch := omega) only [h5, h2, h30, h31, h32, h6, Int.toNat_natCast, hkI, hrow, go_sem]
    refine wp_ls oEs_ok mixed ?_
    simp (maxSteps := 1000000) (disch := omega) only [orc_cons, a1, go_sem]
    refine wp_ls oEs_ok mixed ?_
    simp (maxSteps := 1000000) (disch := omega) only [go_sem]
    refine wp_ls oEs_ok mixed ?_
    simp (maxSteps := 1000000) (disch := omega) only [go_sem]
    cases hp1 : c.put
    all_goals
      simp only [opS, hp1, Bool.false_eq_true, if_false, if_true, Chg.sub, Pol.enc] at a3 hcC hcS hrC
      refine wp_ls oEs_ok mixed ?_
      simp (maxSteps := 1000000) (disch := omega) only [hcC, hcS, hrC, orc_cons, a3, go_sem]
      refine wp_ls oEs_ok mixed ?_
      simp (maxSteps := 1000000) (disch := omega) only [rb3, orc_cons, ev1, one_retX, one_ret2Y, List.replicate, Bool.and_self, go_sem]
      rw [← hM5]
      refine wp_ls oEs_ok mixed ?_
      simp (maxSteps := 1000000) (disch := omega) only [rb5, orc_cons, ev2, one_retX, one_ret2Y, List.replicate, Bool.and_self, go_sem]
      refine wp_ls oEs_ok mixed ?_
      simp (maxSteps := 1000000) (disch := omega) only [orc_cons, hlen, lst_len hx6, r12, hsame, un_not_b, Bool.not_true, eq_self, go_sem]
      refine W_sound oEs_ok mixed _ _ _ _ _ ?_
      simp (maxSteps := 1000000) (disch := omega) only [go_sem]
      refine W_sound oEs_ok mixed _ _ _ _ _ ?_
      simp (maxSteps := 1000000) (disch := omega) only [wrapSucc hkl (show l.length ≤ 1000 by omega), go_sem]
      have hMf := hM36.trans (ext_app [Blk.cells [.i .i64 ev.kind, .i .i64 ev.sub, retX false M5 ev.puts, ret2Y polE M5 ev.puts ev.drops, .i .u64 ev.granted, .i .u64 ev.period] 0 none true])
      refine ⟨l.length - (k + 1), by omega, k + 1, j', i', x', rfl, hkl, a7.trans hMf, ?_, ?_, a8, ?_, rfl, rfl⟩
      · rw [← hm']; exact a4.ext hMf
      · rw [← hm']; exact a6.ext hMf
      · rw [← hm']; exact a9
  · have hkI : ¬ (k : Int) < l.length := by omega
    refine W_sound oEs_ok mixed _ _ _ _ _ ?_
    simp (maxSteps := 1000000) (disch := omega) only [c3, c3l0, h5, h2, h30, h31, h32, h6, hkI, go_sem]
    first | exact wkv_dropP (hSS1.trans hSM) rfl | (refine W_sound oEs_ok mixed _ _ _ _ _ ?_; simp (maxSteps := 1000000) (disch := omega) only [c3, go_sem]; exact wkv_dropP (hSS1.trans hSM) rfl)
end Go.Proofs.YtmdnohpolepcoaaGreat

namespace Go.Proofs.YtmdnohpolepcoaaGreat
open Go.RowKit
set_option linter.unusedVariables false
set_option maxRecDepth 100000
section
variable {H : Type} {enc : TypeId × Value → H}
theorem walkTxnEvents (W : World) (v0 v1 : Value) {base : Nat} (o0 : Value.okWide Tryz.prog W .any base 25 v0) (o1 : Value.okWide Tryz.prog W .any base 26 v1) {d0 d1 : DataW H} {p0 p1 : List MemPlace}
    (h0 : DataW.Trod enc Tryz.prog W 0 (fun _ => true) true 25 v0 d0 p0) (h1 : DataW.Trod enc Tryz.prog W 0 (fun _ => true) true 26 v1 d1 p1) :
    Calls Tryz.prog 3 #[v0, v1] W fun e w' => e = .returned (.bool true) ∧ Below W.heap.size W w' := by
  obtain ⟨p, s, l, e0, hl, hf, hp⟩ := argBook o0 h0
  obtain ⟨c, hc, hg, ho⟩ := argChgs o1 h1
  refine calls_of_fnOK (S' := absS W) ?_
  show FnOK Tryz.prog _ [absA W v0, absA W v1] _ _ _
  rw [e0]
  exact events_ok _ p s _ l c hl hf hc hg
end
end Go.Proofs.YtmdnohpolepcoaaGreat

