/- Proved here: what the law of this claim leans on (an evaluator of the model's code, contracts of functions). No condition. -/
import Derived.Test.YtapgkaecamljbaaMd
namespace Go.Proofs.Ytapgkaecamljbaa
open Go.RowKit
set_option linter.unusedSimpArgs false
set_option linter.unusedVariables false
set_option maxRecDepth 10000

theorem oCo_ok : OK Try.prog (lamOf Try.prog) (orcOf [(41, placeS), (53, delS), (54, sortS)]) := orc_ok (by simpa using ⟨place_ok, del_ok, sort_ok⟩)
theorem commit_walk {S : Mem} {x : AV} {ce : List AV} {md : Option Nat} {c0 : Cf} {ev : Evt} {rx : AV} {rS : Mem} (hK : Kx S S md x c0) (hn : md = none → c0.l = []) (hev : evtOf (bs md S) ce = some ev) (hok : commitOk c0.l ev)
    (hF : (dropC ev.drops c0).2 = false → ∀ x' c M, Kx S M md x' c → c.v = c0.v → WkV S rx rS (.tu [.sn, .b false]) M)
    (hT : (dropC ev.drops c0).2 = true → ∀ x' M, Kx S M md x' (putC ev.puts (dropC ev.drops c0).1) → ∃ M', sortS [x', .f (.func 55) [] []] M = some (.tu [], M') ∧ WkV S rx rS (.tu [x', .b true]) M') :
    FnOK Try.prog 29 [x, .ag ce] S rx rS := by
  obtain ⟨xp, xd, rfl, hp, hd⟩ := evtOf_ok hev
  obtain ⟨k0, s0, ps, ds, g0, q0⟩ := ev
  obtain ⟨ho, hdn, hpn, hlim, hlim2⟩ := hok
  simp only at hp hd hF hT ho hdn hpn hlim hlim2
  refine fn_of_wp f29 rfl (W_sound oCo_ok mixed _ _ _ _ _ ?_)
  simp (maxSteps := 1000000) (disch := omega) only [c29, lst_cells hp, lst_cells hd, lst_len hd, List.replicate, go_sem, Option.map_none, Option.map_some, ↓reduceIte, Nat.reduceBEq, Nat.reduceAdd, Nat.reduceSub, Nat.reduceEqDiff, Nat.reduceLeDiff, Nat.reduceMul, Nat.reduceLT, Int.reduceLT, Int.reduceLE, Int.reduceAdd, Int.reduceSub, Int.reduceMul, Int.reduceNeg, Int.reduceEq, Int.reduceNe, Int.reduceToNat, decide_true, decide_false, iaddr_i, iaddr_sl_i, not_true_eq_false, not_false_eq_true, reduceCtorEq, ne_eq, forall_const, false_imp_iff, true_imp_iff, implies_true, Int.cast_ofNat_Int, Int.natCast_zero, Int.natCast_one, Int.add_zero, Int.zero_add]
  obtain ⟨evb, hevb⟩ : ∃ evb : Blk, evb = .cells [.i .i64 k0, .i .i64 s0, xp, xd, .i .u64 g0, .i .u64 q0] 0 none true := ⟨_, rfl⟩
  refine wp_loop (fun j e M dl => dl = [] ∧ ∃ (t : Nat) (c : Cf) (x' : AV), j = ds.length - t ∧ t ≤ ds.length ∧ Kx S M md x' c ∧ M[S.length]? = some evb ∧ dropC (ds.drop t) c = dropC ds c0 ∧ c.v = c0.v ∧ c.l.length ≤ c0.l.length ∧ (md = none → c.l = []) ∧
    e.get 13 = xd ∧ e.get 3 = .p S.length 0 0 ∧ e.get 14 = .i .i64 ds.length ∧ e.get 15 = .i .i64 t ∧ e.get 0 = x') (j := ds.length)
    ⟨rfl, 0, c0, x, rfl, Nat.zero_le _, hK.grow _, by rw [hevb, at_app0]; rfl, by rw [List.drop_zero], rfl, Nat.le_refl _, hn, rfl, rfl, rfl, rfl, rfl⟩ ?_
  rintro j e M d' ⟨rfl, t, c, x', rfl, ht, hKx, hE, hdc, hv, hcl, hmn, e13, e3, e14, e15, e0⟩
  refine W_sound oCo_ok mixed _ _ _ _ _ ?_
  have hpl := fun (n : Int) => place_eq hKx.lst n (by omega)
  have hbdE := hKx.ext
  have hpM := lst_ext hp hbdE
  have hdM := lst_ext hd hbdE
  by_cases htl : t < ds.length
  · obtain ⟨bi, o, v, cap, ex, rfl⟩ := lst_sl hd htl
    have hc := lstV_cell hdM rfl (fun a => rfl) htl []
    rw [List.append_nil] at hc
    have htI : (t : Int) < ds.length := by omega
    have hw1 : wrapV .i64 ((t : Int) + 1) = ((t + 1 : Nat) : Int) := by rw [wrap_i64 (by omega) (by omega)]; omega
    have hdr : ds.drop t = ds[t] :: ds.drop (t + 1) := List.drop_eq_getElem_cons htl
    rw [hdr] at hdc
    cases hi : c.l.findIdx? (hasSub ds[t]) with
    | none =>
      rw [dropC_none hi] at hdc
      simp (maxSteps := 1000000) (disch := omega) only [c29l0, e13, e3, e14, e15, e0, htI, Int.toNat_natCast, Nat.mul_one, hc, orc_cons, hpl, idx_eq_none hi, go_sem, Option.map_none, Option.map_some, ↓reduceIte, Nat.reduceBEq, Nat.reduceAdd, Nat.reduceSub, Nat.reduceEqDiff, Nat.reduceLeDiff, Nat.reduceMul, Nat.reduceLT, Int.reduceLT, Int.reduceLE, Int.reduceAdd, Int.reduceSub, Int.reduceMul, Int.reduceNeg, Int.reduceEq, Int.reduceNe, Int.reduceToNat, decide_true, decide_false, iaddr_i, iaddr_sl_i, not_true_eq_false, not_false_eq_true, reduceCtorEq, ne_eq, forall_const, false_imp_iff, true_imp_iff, implies_true, Int.cast_ofNat_Int, Int.natCast_zero, Int.natCast_one, Int.add_zero, Int.zero_add]
      exact hF (by rw [← hdc]) _ _ _ hKx hv
    | some k =>
      obtain ⟨hk, _, _⟩ := List.findIdx?_eq_some_iff_getElem.1 hi
      rw [dropC_some hi] at hdc
      have hk0 : ¬ ((k : Int) < 0) := by omega
      have hwk : wrapV .i64 ((k : Int) + 1) = (k : Int) + 1 := by rw [wrap_i64 (by omega) (by omega)]
      cases md with
      | none => rw [hmn rfl] at hk; cases hk
      | some i =>
        obtain ⟨x2, M2, hde, hK2, hM2⟩ := hKx.del hk (by omega)
        have hiS : i < S.length := hKx.2.2.1
        have hE2 : M2[S.length]? = some evb := by rw [hM2, at_set_ne (by omega)]; exact hE
        simp (maxSteps := 1000000) (disch := omega) only [c29l0, e13, e3, e14, e15, e0, htI, Int.toNat_natCast, Nat.mul_one, hc, orc_cons, hpl, idx_eq_some hi, hk0, hwk, hde, hw1, go_sem, Option.map_none, Option.map_some, ↓reduceIte, Nat.reduceBEq, Nat.reduceAdd, Nat.reduceSub, Nat.reduceEqDiff, Nat.reduceLeDiff, Nat.reduceMul, Nat.reduceLT, Int.reduceLT, Int.reduceLE, Int.reduceAdd, Int.reduceSub, Int.reduceMul, Int.reduceNeg, Int.reduceEq, Int.reduceNe, Int.reduceToNat, decide_true, decide_false, iaddr_i, iaddr_sl_i, not_true_eq_false, not_false_eq_true, reduceCtorEq, ne_eq, forall_const, false_imp_iff, true_imp_iff, implies_true, Int.cast_ofNat_Int, Int.natCast_zero, Int.natCast_one, Int.add_zero, Int.zero_add]
        refine ⟨ds.length - (t + 1), by omega, t + 1, c.del k, x2, rfl, htl, hK2, hE2, hdc, hv, ?_, rfl, rfl⟩
        have : (c.l.eraseIdx k).length ≤ c.l.length := List.length_eraseIdx_le ..
        exact Nat.le_trans this hcl
  · have htI : ¬ (t : Int) < ds.length := by omega
    obtain rfl : t = ds.length := by omega
    rw [List.drop_length] at hdc
    have hc1 : (dropC ds c0).2 = true ∧ (dropC ds c0).1 = c := by rw [← hdc]; exact ⟨rfl, rfl⟩
    rw [hc1.2] at hT
    have hT := hT hc1.1
    rw [hevb] at hE
    simp (maxSteps := 1000000) (disch := omega) only [c29l0, e13, e3, e14, e15, e0, htI, hE, lst_len hp, go_sem, Option.map_none, Option.map_some, ↓reduceIte, Nat.reduceBEq, Nat.reduceAdd, Nat.reduceSub, Nat.reduceEqDiff, Nat.reduceLeDiff, Nat.reduceMul, Nat.reduceLT, Int.reduceLT, Int.reduceLE, Int.reduceAdd, Int.reduceSub, Int.reduceMul, Int.reduceNeg, Int.reduceEq, Int.reduceNe, Int.reduceToNat, decide_true, decide_false, iaddr_i, iaddr_sl_i, not_true_eq_false, not_false_eq_true, reduceCtorEq, ne_eq, forall_const, false_imp_iff, true_imp_iff, implies_true, Int.cast_ofNat_Int, Int.natCast_zero, Int.natCast_one, Int.add_zero, Int.zero_add]
    refine wp_loop (fun j e M dl => dl = [] ∧ ∃ (t : Nat) (c1 : Cf) (x1 : AV), j = ps.length - t ∧ t ≤ ps.length ∧ Kx S M md x1 c1 ∧ putC (ps.drop t) c1 = putC ps c ∧ c1.l.length ≤ c.l.length + t ∧ e.get 0 = x1 ∧ e.get 31 = xp ∧ e.get 32 = .i .i64 ps.length ∧ e.get 33 = .i .i64 t) (j := ps.length)
      ⟨rfl, 0, c, x', rfl, Nat.zero_le _, hKx, by rw [List.drop_zero], Nat.le_refl _, rfl, rfl, rfl, rfl⟩ ?_
    clear hE hpl hbdE hpM hdM e13 e3 e14 e0 e15 hKx
    rintro j2 e2 M2 d2 ⟨rfl, t, c1, x1, rfl, ht2, hK1, hpc, hl1, g0', g31, g32, g33⟩
    refine W_sound oCo_ok mixed _ _ _ _ _ ?_
    have hpM := lst_ext hp hK1.ext
    have hpl := fun (L : Mem) (n : Int) => place_eq (hK1.grow L).lst n (by omega)
    by_cases htl : t < ps.length
    · obtain ⟨bi, o, v, cap, ex, rfl⟩ := lst_sl hp htl
      have hr := lstV_row hpM htl []
      rw [List.append_nil] at hr
      have hdr : ps.drop t = ps[t] :: ps.drop (t + 1) := List.drop_eq_getElem_cons htl
      rw [hdr] at hpc
      generalize ps[t] = p at hr hpc
      have hr : rowB (M2[bi]?) (o + t * 13) v 13 = some p.enc := hr
      have htI : (t : Int) < ps.length := by omega
      have hw1 : wrapV .i64 ((t : Int) + 1) = ((t + 1 : Nat) : Int) := by rw [wrap_i64 (by omega) (by omega)]; omega
      cases hi : c1.l.findIdx? (hasSub p.sub) with
      | none =>
        rw [putC_app hi] at hpc
        obtain ⟨x2, M3, ha, hK2⟩ := (hK1.grow [.cells p.enc 0 none true, .cells (entE.enc ⟨p, 0⟩) 0 none true]).app ⟨p, 0⟩ (by omega)
        simp only [entE, Ent.enc, Pol.enc] at ha hr
        simp (maxSteps := 1000000) (disch := omega) only [c29l1, g0', g31, g32, g33, htI, Int.toNat_natCast, hr, orc_cons, hpl, idx_eq_none hi, hw1, ha, go_sem, Option.map_none, Option.map_some, ↓reduceIte, Nat.reduceBEq, Nat.reduceAdd, Nat.reduceSub, Nat.reduceEqDiff, Nat.reduceLeDiff, Nat.reduceMul, Nat.reduceLT, Int.reduceLT, Int.reduceLE, Int.reduceAdd, Int.reduceSub, Int.reduceMul, Int.reduceNeg, Int.reduceEq, Int.reduceNe, Int.reduceToNat, decide_true, decide_false, iaddr_i, iaddr_sl_i, not_true_eq_false, not_false_eq_true, reduceCtorEq, ne_eq, forall_const, false_imp_iff, true_imp_iff, implies_true, Int.cast_ofNat_Int, Int.natCast_zero, Int.natCast_one, Int.add_zero, Int.zero_add]
        refine ⟨ps.length - (t + 1), by omega, t + 1, c1.app ⟨p, 0⟩, x2, rfl, htl, hK2, hpc, ?_, rfl, rfl⟩
        rw [Cf.app_l, List.length_append]
        show c1.l.length + 1 ≤ _
        omega
      | some k =>
        obtain ⟨hk, _, _⟩ := List.findIdx?_eq_some_iff_getElem.1 hi
        rw [putC_pol hi] at hpc
        have hk0 : (k : Int) ≥ 0 := by omega
        obtain ⟨i, cs, v', cap', rfl, hB, hcs, hK2⟩ := (hK1.grow [.cells p.enc 0 none true]).pol hk p
        simp only [Pol.enc] at hr hK2 hB
        simp (maxSteps := 1000000) (disch := omega) only [c29l1, g0', g31, g32, g33, htI, Int.toNat_natCast, hr, orc_cons, hpl, idx_eq_some hi, hw1, hk0, go_sem, Option.map_none, Option.map_some, ↓reduceIte, Nat.reduceBEq, Nat.reduceAdd, Nat.reduceSub, Nat.reduceEqDiff, Nat.reduceLeDiff, Nat.reduceMul, Nat.reduceLT, Int.reduceLT, Int.reduceLE, Int.reduceAdd, Int.reduceSub, Int.reduceMul, Int.reduceNeg, Int.reduceEq, Int.reduceNe, Int.reduceToNat, decide_true, decide_false, iaddr_i, iaddr_sl_i, not_true_eq_false, not_false_eq_true, reduceCtorEq, ne_eq, forall_const, false_imp_iff, true_imp_iff, implies_true, Int.cast_ofNat_Int, Int.natCast_zero, Int.natCast_one, Int.add_zero, Int.zero_add]
        rw [hB]
        simp only [stB, splice]
        rw [if_pos ⟨trivial, rfl, hcs, rfl⟩]
        simp only [List.append_assoc, List.length_cons, List.length_nil]
        simp (maxSteps := 1000000) (disch := omega) only [go_sem, Option.map_none, Option.map_some, ↓reduceIte, Nat.reduceBEq, Nat.reduceAdd, Nat.reduceSub, Nat.reduceEqDiff, Nat.reduceLeDiff, Nat.reduceMul, Nat.reduceLT, Int.reduceLT, Int.reduceLE, Int.reduceAdd, Int.reduceSub, Int.reduceMul, Int.reduceNeg, Int.reduceEq, Int.reduceNe, Int.reduceToNat, decide_true, decide_false, iaddr_i, iaddr_sl_i, not_true_eq_false, not_false_eq_true, reduceCtorEq, ne_eq, forall_const, false_imp_iff, true_imp_iff, implies_true, Int.cast_ofNat_Int, Int.natCast_zero, Int.natCast_one, Int.add_zero, Int.zero_add]
        refine ⟨ps.length - (t + 1), by omega, t + 1, c1.pol k p, _, rfl, htl, hK2, hpc, ?_, rfl, rfl⟩
        have : (c1.pol k p).l.length = c1.l.length := List.length_set ..
        omega
    · have htI : ¬ (t : Int) < ps.length := by omega
      obtain rfl : t = ps.length := by omega
      rw [List.drop_length] at hpc
      have hpc : c1 = putC ps c := hpc
      subst hpc
      obtain ⟨M', hs, hwk⟩ := hT x1 M2 hK1
      simp (maxSteps := 1000000) (disch := omega) only [c29l1, g0', g31, g32, g33, htI, orc_cons, hs, go_sem, Option.map_none, Option.map_some, ↓reduceIte, Nat.reduceBEq, Nat.reduceAdd, Nat.reduceSub, Nat.reduceEqDiff, Nat.reduceLeDiff, Nat.reduceMul, Nat.reduceLT, Int.reduceLT, Int.reduceLE, Int.reduceAdd, Int.reduceSub, Int.reduceMul, Int.reduceNeg, Int.reduceEq, Int.reduceNe, Int.reduceToNat, decide_true, decide_false, iaddr_i, iaddr_sl_i, not_true_eq_false, not_false_eq_true, reduceCtorEq, ne_eq, forall_const, false_imp_iff, true_imp_iff, implies_true, Int.cast_ofNat_Int, Int.natCast_zero, Int.natCast_one, Int.add_zero, Int.zero_add]
      exact hwk
end Go.Proofs.Ytapgkaecamljbaa

namespace Go.Proofs.Ytapgkaecamljbaa
open Go.RowKit
set_option linter.unusedSimpArgs false
set_option linter.unusedVariables false
set_option maxRecDepth 10000

noncomputable def endX (i v : Nat) (d : List Ent) : AV := open Classical in if d = [] then .se else .sl i 0 v d.length d.length false
noncomputable def commitR (i : Nat) (c0 : Cf) (e : Evt) (S : Mem) : AV × Mem :=
  if (dropC e.drops c0).2 = true then
    (.tu [endX i (putC e.puts (dropC e.drops c0).1).v (sortE (putC e.puts (dropC e.drops c0).1).l), .b true], S.set i (.cells ((sortE (putC e.puts (dropC e.drops c0).1).l).flatMap entE.enc) (putC e.puts (dropC e.drops c0).1).v (some 14) true))
  else (.tu [.sn, .b false], S.set i (.cells [] c0.v (some 14) true))
noncomputable def commitR0 (e : Evt) (S : Mem) : AV × Mem := match e.drops with
  | [] => (.tu [retX false S (sortE (putAll e.puts [])), .b true], retM false entE S (sortE (putAll e.puts [])))
  | _ :: _ => (.tu [.sn, .b false], S)
noncomputable def commitS : Spec := fun args S => match args with
  | [x, .ag ce] => open Classical in if noX S x = true then match evtOf S ce with
      | some e => if commitOk [] e ∧ (e.drops ≠ [] ∨ e.puts ≠ []) then some (commitR0 e S) else none
      | none => none
    else match x with
      | .sl i 0 v n cap false => match ownV entE S (.sl i 0 v n cap false), evtOf (S.take i) ce with
        | some l, some e => if commitOk l e ∧ ∃ cs, S[i]? = some (.cells cs v (some 14) true) then some (commitR i ⟨v, n, [], l⟩ e S) else none
        | _, _ => none
      | _ => none
  | _ => none
theorem putC_len : ∀ (ps : List Pol) (c : Cf), (putC ps c).l.length ≤ c.l.length + ps.length
  | [], c => Nat.le_refl _
  | p :: ps, c => by
    cases h : c.l.findIdx? (hasSub p.sub) with
    | none =>
      have := putC_len ps (c.app ⟨p, 0⟩)
      rw [Cf.app_l, List.length_append] at this
      simp only [putC, h, List.length_cons, List.length_nil] at this ⊢; omega
    | some k =>
      have := putC_len ps (c.pol k p)
      have h2 : (c.pol k p).l.length = c.l.length := List.length_set ..
      simp only [putC, h, List.length_cons]; omega
theorem dropC_len : ∀ (ds : List Int) (c : Cf), (dropC ds c).1.l.length ≤ c.l.length
  | [], c => Nat.le_refl _
  | id :: ds, c => by
    cases h : c.l.findIdx? (hasSub id) with
    | none => simp only [dropC, h]; exact Nat.le_refl _
    | some k =>
      have := dropC_len ds (c.del k)
      have h2 : (c.del k).l.length ≤ c.l.length := List.length_eraseIdx_le ..
      simp only [dropC, h]; omega
theorem once_drop {c : Cf} {ds : List Int} (ho : Once c.l) (hn : ds.Nodup) (h : (dropC ds c).2 = true) : Once (dropC ds c).1.l := by
  have h1 := dropAll_ok ds c.l hn ho
  rw [dropC_all, if_pos h] at h1
  exact h1.1
theorem once_put {c : Cf} {ps : List Pol} (ho : Once c.l) (hn : ps.Pairwise fun p q => p.sub ≠ q.sub) : Once (putC ps c).l := by
  rw [putC_all]; exact (putAll_ok ps c.l hn ho).1
theorem putAll_ne : ∀ (ps : List Pol) (l : List Ent), l ≠ [] → putAll ps l ≠ []
  | [], l, h => h
  | p :: ps, l, h => by
    simp only [putAll]
    split
    · exact putAll_ne ps _ (by simpa using h)
    · exact putAll_ne ps _ (by simp)
theorem sortE_ne {l : List Ent} (ho : Once l) (h : l ≠ []) : sortE l ≠ [] := by
  have := (sortE_ok ho).2.2
  intro q
  rw [q] at this
  exact h (List.eq_nil_of_length_eq_zero this.symm)
theorem set_flat {S : Mem} {i : Nat} {d : List Ent} {v : Nat} {j : Nat} {B : Blk} (h : (S.set i (.cells (d.flatMap entE.enc) v (some 14) true))[j]? = some B) : S[j]? = some B ∨ BFlat S.length B := by
  by_cases hij : i = j
  · subst hij
    right
    by_cases hi : i < S.length
    · rw [set_at hi] at h
      injection h with h
      rw [← h]
      exact bflat_list entE_flat d v (some 14) true
    · rw [List.getElem?_eq_none (by rw [List.length_set]; omega)] at h; cases h
  · rw [at_set_ne hij] at h
    exact .inl h
theorem commit_ok : SpecOK Try.prog 29 commitS := by
  intro args S x S' h
  unfold commitS at h
  split at h
  · rename_i x0 ce
    split at h
    · rename_i hno
      split at h
      · rename_i e he
        split at h
        · rename_i hc
          obtain ⟨hok, hne⟩ := hc
          refine commit_walk (md := none) (c0 := ⟨0, 0, [], []⟩) ⟨ext_refl, .inl ⟨rfl, hno⟩⟩ (fun _ => rfl) he hok (fun hd x' c M hK _ => ?_) (fun hd x' M hK => ?_)
          · cases hds : e.drops with
            | nil => rw [hds] at hd; cases hd
            | cons a ds =>
              simp only [commitR0, hds, Option.some.injEq, Prod.mk.injEq] at h
              obtain ⟨rfl, rfl⟩ := h
              exact wkv_dropP hK.1 rfl
          · cases hds : e.drops with
            | cons a ds => rw [hds] at hd; cases hd
            | nil =>
              simp only [commitR0, hds, Option.some.injEq, Prod.mk.injEq] at h
              obtain ⟨rfl, rfl⟩ := h
              rw [hds] at hK hne
              have hps : e.puts ≠ [] := by rcases hne with q | q; exact absurd rfl q; exact q
              have hK : Kx S M none x' (putC e.puts ⟨0, 0, [], []⟩) := hK
              have hl : (putC e.puts ⟨0, 0, [], []⟩).l = putAll e.puts [] := putC_all _ _
              have ho : Once (putC e.puts ⟨0, 0, [], []⟩).l := once_put hok.1 hok.2.2.1
              have hn := putC_len e.puts ⟨0, 0, [], []⟩
              have hlen := hok.2.2.2.1
              simp only [List.length_nil, Nat.zero_add] at hn hlen
              obtain ⟨hSM, ⟨h1, h2⟩ | ⟨p, c', h1, h2, h3, h4⟩⟩ := hK
              · exfalso
                rw [hl] at h1
                cases hp : e.puts with
                | nil => exact hps hp
                | cons a r =>
                  rw [hp] at h1
                  exact putAll_ne r [⟨a, 0⟩] (by simp) h1
              · obtain ⟨T, rfl⟩ := hSM
                rw [← h1] at ho hn
                have hso := sortE_ok ho
                refine ⟨_, by rw [h3]; exact sort_eq h2 ho (by omega) h4, ?_⟩
                have hx : x' = .sl (S.length + p) 0 c'.v (sortE c'.l).length c'.cap false := by rw [h3, hso.2.2]; rfl
                have hTp : p < T.length := by
                  rw [at_app] at h4
                  exact (List.getElem?_eq_some_iff.1 h4).1
                rw [hx, ← hl, ← h1]
                refine wkv_less (cs := (sortE c'.l).flatMap entE.enc) (junk := c'.junk) (sz := 14) (rw' := true) (at_set h4) ?_
                rw [List.set_set, set_app]
                have hA : Acc false entE S (S ++ T.set p (.cells ((sortE c'.l).flatMap entE.enc) c'.v (some 14) true)) (.sl (S.length + p) 0 c'.v (sortE c'.l).length (sortE c'.l).length false) (sortE c'.l) :=
                  ⟨_, rfl, .inr (.inr ⟨sortE_ne ho (by
                    rw [h1, hl]
                    cases hp : e.puts with
                    | nil => exact absurd hp hps
                    | cons a r => exact putAll_ne r [⟨a, 0⟩] (by simp)), p, c'.v, rfl, by simp only [List.getElem?_set_self hTp]; rfl⟩)⟩
                exact Acc.ret2 entE_flat hA Flat_b
        · cases h
      · cases h
    · rename_i hno
      split at h
      · rename_i i v n cap
        split at h
        · rename_i l e hl he
          split at h
          · rename_i hc
            obtain ⟨hok, cs, hB⟩ := hc
            obtain ⟨b, v2, ex, op, hx, hB2⟩ := ownV_ok hl
            injection hx with z1 z2 z3 z4 z5 z6
            subst z1 z3 z4 z5 z6
            rw [hB] at hB2
            injection hB2 with hB2
            injection hB2 with y1 y2 y3 y4
            subst y1 y3
            simp only [Option.some.injEq, Prod.mk.injEq] at h
            have hi : i < S.length := (List.getElem?_eq_some_iff.1 hB).1
            have hB0 : S[i]? = some (Cf.blk ⟨v, l.length, [], l⟩) := by rw [hB]; show _ = some (Blk.cells (l.flatMap entE.enc ++ []) v (some 14) true); rw [List.append_nil]
            have hK : Kx S S (some i) (.sl i 0 v l.length l.length false) ⟨v, l.length, [], l⟩ := ⟨rfl, ⟨by simp, Nat.le_refl _, rfl⟩, hi, [], by rw [List.append_nil, set_self hB0]⟩
            refine commit_walk (md := some i) hK (fun q => by cases q) he hok (fun hd x' c M hK hv => ?_) (fun hd x' M hK => ?_)
            · unfold commitR at h
              rw [if_neg (by rw [hd]; exact Bool.false_ne_true)] at h
              simp only [Option.some.injEq, Prod.mk.injEq] at h
              obtain ⟨rfl, rfl⟩ := h
              have hb := hK.blk
              obtain ⟨_, _, _, L, rfl⟩ := hK
              have hv : c.v = v := hv
              refine wkv_shr (i := i) (cs := []) (junk := c.l.flatMap entE.enc ++ c.junk) (v := c.v) (sz := 14) (rw' := true) hb ?_
              rw [set_old (set_at hi), List.set_set, hv]
              exact wkv_drop' (List.length_set ..) (fun j B hj => set_flat (d := []) hj) (fun g => rfl)
            · unfold commitR at h
              rw [if_pos hd] at h
              simp only [Option.some.injEq, Prod.mk.injEq] at h
              obtain ⟨rfl, rfl⟩ := h
              have ho : Once (putC e.puts (dropC e.drops ⟨v, l.length, [], l⟩).1).l := once_put (once_drop hok.1 hok.2.1 hd) hok.2.2.1
              have hn1 := putC_len e.puts (dropC e.drops ⟨v, l.length, [], l⟩).1
              have hn2 := dropC_len e.drops ⟨v, l.length, [], l⟩
              have hlen := hok.2.2.2.1
              simp only at hn2
              generalize putC e.puts (dropC e.drops ⟨v, l.length, [], l⟩).1 = c2 at ho hn1 hK ⊢
              have hb := hK.blk
              obtain ⟨rfl, hw, _, L, rfl⟩ := hK
              have hso := sortE_ok ho
              refine ⟨_, sort_eq hw ho (by omega) hb, ?_⟩
              rw [set_old (set_at hi), List.set_set]
              have hb2 : (S.set i c2.sort.blk ++ L)[i]? = some c2.sort.blk := at_old (set_at hi)
              have hx : c2.x i = .sl i 0 c2.v (sortE c2.l).length c2.cap false := by rw [hso.2.2]; rfl
              rw [hx]
              by_cases hd0 : sortE c2.l = []
              · have hbe : c2.sort.blk = .cells c2.junk c2.v (some 14) true := by
                  show Blk.cells ((sortE c2.l).flatMap entE.enc ++ c2.junk) c2.v (some 14) true = _
                  rw [hd0]; rfl
                rw [hbe] at hb2 ⊢
                unfold endX
                rw [if_pos hd0, hd0]
                refine wkv_se (sz := 14) (rw' := true) hb2 ?_
                rw [set_old (set_at hi), List.set_set]
                exact wkv_drop' (List.length_set ..) (fun j B hj => set_flat (d := []) hj) (fun g => rfl)
              · unfold endX
                rw [if_neg hd0]
                refine wkv_less (cs := (sortE c2.l).flatMap entE.enc) (junk := c2.junk) (sz := 14) (rw' := true) hb2 ?_
                rw [set_old (set_at hi), List.set_set]
                refine wkv_drop' (List.length_set ..) (fun j B hj => set_flat hj) (Flat_tu fun y hy => ?_)
                simp only [List.mem_cons, List.not_mem_nil, or_false] at hy
                rcases hy with rfl | rfl
                · exact Flat_sl hi
                · exact Flat_b
          · cases h
        · cases h
      · cases h
  · cases h
end Go.Proofs.Ytapgkaecamljbaa

namespace Go.Proofs.Ytapgkaecamljbaa
open Go.RowKit
set_option linter.unusedSimpArgs false
set_option linter.unusedVariables false

theorem fin_some {b : Bk} (h : b.ok) : Bk.fin (some b) = some b := by simp only [Bk.fin, if_pos h]
theorem quota_le {p : Int} {l : List Ent} (ho : (Bk.mk p l).ok) {k : Nat} (hk : k < l.length) : l[k].pol.quota ≤ 281474976710656 := by
  have h := (ho.2.2.1.2 k (by unfold polsOf; simpa using hk) (by unfold polsOf; simpa using hk)).1
  have h1 : l[k].pol.right := by simpa [polsOf] using h
  exact h1.2.2.2.1 _ (by simp [Pol.nums])
theorem leased_ok {p : Int} {l l' : List Ent} {s g : Int} (ho : (Bk.mk p l).ok) (h : leased l s g = some l') : (Bk.mk p l').ok := by
  obtain ⟨k, hk, rfl, _, h1, h2⟩ := leased_some h
  have hp : polsOf (l.set k (l[k].grant g)) = polsOf l := by
    unfold polsOf
    rw [List.map_set]
    have : (l[k].grant g).pol = (l.map (·.pol))[k]'(by simpa using hk) := by simp [Ent.grant]
    rw [this, List.set_getElem_self]
  refine ⟨ho.1, ho.2.1, by show Pols (polsOf (l.set k (l[k].grant g))); rw [hp]; exact ho.2.2.1, fun x hx => ?_⟩
  rcases List.mem_or_eq_of_mem_set hx with hx | rfl
  · exact ho.2.2.2 x hx
  · have := quota_le ho hk
    show g ≤ _
    omega
theorem zeroed_ok {p q : Int} {l : List Ent} (ho : (Bk.mk p l).ok) (h1 : 1 ≤ q) (h2 : q ≤ 281474976710656) : (Bk.mk q (l.map (·.grant 0))).ok := by
  refine ⟨h1, h2, ?_, fun x hx => ?_⟩
  · have hp : polsOf (l.map (·.grant 0)) = polsOf l := by unfold polsOf; rw [List.map_map]; rfl
    show Pols (polsOf (l.map (·.grant 0)))
    rw [hp]; exact ho.2.2.1
  · obtain ⟨y, _, rfl⟩ := List.mem_map.1 hx
    show (0 : Int) ≤ _
    omega
/-- The kinds 2 and 3. -/
theorem turned_eq {b : Bk} {e : Evt} (hk : ¬ (b.ok ∧ e.right ∧ e.kind = 1)) : b.turned e = b.rapplied e := by
  unfold Bk.turned Bk.rapplied
  by_cases h : b.ok ∧ e.right
  · rw [if_pos h, if_pos h]
    obtain ⟨p, l⟩ := b
    obtain ⟨k, s, ps, ds, g, q⟩ := e
    have hk1 : ¬ k = 1 := fun z => hk ⟨h.1, h.2, z⟩
    rw [if_neg hk1]
    unfold Bk.turn
    by_cases hk2 : k = 2
    · rw [if_pos hk2]; first | rw [if_pos hk2] | skip
      simp only
      cases hl : leased l s g with
      | none => rfl
      | some l' => exact fin_some (leased_ok h.1 hl)
    · rw [if_neg hk2]; first | rw [if_neg hk2] | skip
      simp only
      by_cases hq : q = p + 1
      · rw [if_pos hq]; first | rw [if_pos hq] | skip
        have hv : valOk q := by
          rcases h.2 with z | z | z
          · exact absurd z.1 hk1
          · exact absurd z.1 hk2
          · exact z.2.1
        exact fin_some (zeroed_ok h.1 hv.1 hv.2)
      · rw [if_neg hq]; first | rfl | (rw [if_neg hq]; rfl)
  · rw [if_neg h, if_neg h]
end Go.Proofs.Ytapgkaecamljbaa

namespace Go.Proofs.Ytapgkaecamljbaa
open Go.RowKit
set_option linter.unusedSimpArgs false
set_option linter.unusedVariables false
set_option maxRecDepth 10000

theorem commit_eq {S : Mem} {i v : Nat} {l : List Ent} {ce : List AV} {e : Evt} (hB : S[i]? = some (.cells (l.flatMap entE.enc) v (some 14) true)) (he : evtOf (S.take i) ce = some e) (hok : commitOk l e) :
    commitS [.sl i 0 v l.length l.length false, .ag ce] S = some (commitR i ⟨v, l.length, [], l⟩ e S) := by
  have hno : ¬ noX S (.sl i 0 v l.length l.length false) = true := by
    intro h
    rcases noX_cases h with h | ⟨j, h, _⟩
    · cases h
    · injection h with _ _ _ _ _ h; cases h
  simp only [commitS]
  rw [if_neg hno]
  simp only [ownV_mk hB, he]
  rw [if_pos ⟨hok, _, hB⟩]
theorem commit_eq0 {S : Mem} {x : AV} {ce : List AV} {e : Evt} (hx : noX S x = true) (he : evtOf S ce = some e) (hok : commitOk [] e) (hne : e.drops ≠ [] ∨ e.puts ≠ []) : commitS [x, .ag ce] S = some (commitR0 e S) := by
  simp only [commitS]
  rw [if_pos hx]
  simp only [he]
  rw [if_pos ⟨hok, hne⟩]
theorem commit_okk {p : Int} {l : List Ent} {ps : List Pol} {ds : List Int} (ho : (Bk.mk p l).ok) (hr : Evt.right ⟨1, 0, ps, ds, 0, 0⟩) (hd : ds.length ≤ 1000000) : commitOk l ⟨1, 0, ps, ds, 0, 0⟩ ∧ (ds ≠ [] ∨ ps ≠ []) := by
  have h := right1.1 hr
  have hP := h.2.2.2.2.1
  have hri := h.2.2.2.2.2.1
  refine ⟨⟨ok_once ho, rise_nodup hri, pols_once hP, ?_, hd⟩, ?_⟩
  · have h1 : (polsOf l).length ≤ 8 := ho.2.2.1.1
    have h2 : ps.length ≤ 8 := hP.1
    have h3 : (polsOf l).length = l.length := List.length_map ..
    show l.length + ps.length ≤ 1000000
    omega
  · rcases hr with ⟨_, h0, _⟩ | ⟨h0, _⟩ | ⟨h0, _⟩
    · simp only at h0
      by_cases hd0 : ds = []
      · right
        intro hp0
        rw [hd0, hp0] at h0
        exact absurd h0 (by decide)
      · exact .inl hd0
    · exact absurd h0 (by decide : ¬ (1 : Int) = 2)
    · exact absurd h0 (by decide : ¬ (1 : Int) = 3)
theorem commitR_f {i : Nat} {c : Cf} {e : Evt} {S : Mem} (h : (dropC e.drops c).2 = false) : commitR i c e S = (.tu [.sn, .b false], S.set i (.cells [] c.v (some 14) true)) := by
  unfold commitR; rw [if_neg (by rw [h]; exact Bool.false_ne_true)]
theorem commitR_t {i : Nat} {c : Cf} {e : Evt} {S : Mem} {d : List Ent} (h : (dropC e.drops c).2 = true) (hd : sortE (putC e.puts (dropC e.drops c).1).l = d) : commitR i c e S = (.tu [endX i (putC e.puts (dropC e.drops c).1).v d, .b true], S.set i (.cells (d.flatMap entE.enc) (putC e.puts (dropC e.drops c).1).v (some 14) true)) := by
  unfold commitR; rw [if_pos h, hd]
theorem commitR0_f {e : Evt} {S : Mem} {v cap : Nat} {junk : List AV} (h : (dropC e.drops ⟨v, cap, junk, []⟩).2 = false) : commitR0 e S = (.tu [.sn, .b false], S) := by
  unfold commitR0
  split
  · rename_i hd; rw [hd] at h; cases h
  · rfl
theorem commitR0_t {e : Evt} {S : Mem} {d : List Ent} {v cap : Nat} {junk : List AV} (h : (dropC e.drops ⟨v, cap, junk, []⟩).2 = true) (hd : sortE (putC e.puts (dropC e.drops ⟨v, cap, junk, []⟩).1).l = d) (hne : e.drops ≠ [] ∨ e.puts ≠ []) (hp : e.puts.Pairwise fun p q => p.sub ≠ q.sub) :
    d ≠ [] ∧ commitR0 e S = (.tu [retX false S d, .b true], retM false entE S d) := by
  unfold commitR0
  cases hds : e.drops with
  | nil =>
    rw [hds] at hd hne
    have hd : sortE (putC e.puts ⟨v, cap, junk, []⟩).l = d := hd
    rw [putC_all] at hd
    have hd : sortE (putAll e.puts []) = d := hd
    refine ⟨?_, by rw [hd]⟩
    rw [← hd]
    refine sortE_ne (putAll_ok e.puts [] hp List.Pairwise.nil).1 ?_
    cases hp : e.puts with
    | nil => rw [hp] at hne; simp at hne
    | cons a r => exact putAll_ne r [⟨a, 0⟩] (by simp)
  | cons a ds => rw [hds] at h; cases h
noncomputable def commitB (z : Bool) (S : Mem) (b : Bk) (r : Option Bk) : AV × Mem := match r with
  | some b' => open Classical in if b'.entries = [] then (.tu [.ag [.i .u64 b'.period, .se], .i .i64 0], S) else bookR true S b' 0
  | none => bookR z S b 131
/-- What a commit leaves, said with the document's words. -/
theorem rapplied1 {p : Int} {l : List Ent} {ps : List Pol} {ds : List Int} (ho : (Bk.mk p l).ok) (hr : Evt.right ⟨1, 0, ps, ds, 0, 0⟩) :
    Bk.rapplied ⟨p, l⟩ ⟨1, 0, ps, ds, 0, 0⟩ = if ∃ i : Nat, i < 255 ∧ refBad l ⟨1, 0, ps, ds, 0, 0⟩ ((i : Int) + 1) then none else Bk.fin (some ⟨p, refEnts l ⟨1, 0, ps, ds, 0, 0⟩ 255⟩) := by
  unfold Bk.rapplied
  rw [if_pos ⟨ho, hr⟩, if_pos rfl]
/-- The program's list behind a commit. -/
theorem commit_list {p : Int} {l : List Ent} {ps : List Pol} {ds : List Int} {c : Cf} (hc : c.l = l) (ho : (Bk.mk p l).ok) (hr : Evt.right ⟨1, 0, ps, ds, 0, 0⟩) :
    ((dropC ds c).2 = false ∧ Bk.rapplied ⟨p, l⟩ ⟨1, 0, ps, ds, 0, 0⟩ = none) ∨
    ((dropC ds c).2 = true ∧ ∃ d, sortE (putC ps (dropC ds c).1).l = d ∧ d = refEnts l ⟨1, 0, ps, ds, 0, 0⟩ 255 ∧ Bk.rapplied ⟨p, l⟩ ⟨1, 0, ps, ds, 0, 0⟩ = Bk.fin (some ⟨p, d⟩)) := by
  subst hc
  rw [rapplied1 ho hr]
  have hda := dropC_all ds c
  have h := right1.1 hr
  cases hb : (dropC ds c).2 with
  | false =>
    rw [if_neg (by rw [hb]; exact Bool.false_ne_true)] at hda
    exact .inl ⟨rfl, by rw [if_pos (commit_none ho hr hda)]⟩
  | true =>
    rw [if_pos hb] at hda
    have hon : Once (putC ps (dropC ds c).1).l := once_put (once_drop (ok_once ho) (rise_nodup h.2.2.2.2.2.1) hb) (pols_once h.2.2.2.2.1)
    have hs := sortE_ok hon
    obtain ⟨h1, h2⟩ := commit_some ho hr hda hs.1 (fun x => by rw [← putC_all]; exact hs.2.1 x)
    exact .inr ⟨rfl, _, rfl, h2, by rw [if_neg h1, h2]⟩
end Go.Proofs.Ytapgkaecamljbaa

namespace Go.Proofs.Ytapgkaecamljbaa
open Go.RowKit
set_option linter.unusedSimpArgs false
set_option linter.unusedVariables false
set_option maxRecDepth 10000

theorem oA1_ok : OK Try.prog (lamOf Try.prog) (orcOf [(27, cloneES), (16, brightS), (28, erightS), (29, commitS)]) := orc_ok (by simpa using ⟨cloneE_ok, bright_ok, eright_ok, commit_ok⟩)
set_option maxHeartbeats 1000000 in
theorem apply1 {S : Mem} {s xp xd : AV} {p : Int} {l : List Ent} {ps : List Pol} {ds : List Int} (hl : lstV entE S s = some l) (hp : lstV polE S xp = some ps) (hd : lstV (intE .i64) S xd = some ds) (hbf : Bk.fits ⟨p, l⟩) (hef : Evt.fits ⟨1, 0, ps, ds, 0, 0⟩) (ho : Bk.ok ⟨p, l⟩) (hr : Evt.right ⟨1, 0, ps, ds, 0, 0⟩) :
    FnOK Try.prog 13 [.ag [.i .u64 p, s], .ag [.i .i64 1, .i .i64 0, xp, xd, .i .u64 0, .i .u64 0]] S (commitB (nz s) S ⟨p, l⟩ (Bk.rapplied ⟨p, l⟩ ⟨1, 0, ps, ds, 0, 0⟩)).1 (commitB (nz s) S ⟨p, l⟩ (Bk.rapplied ⟨p, l⟩ ⟨1, 0, ps, ds, 0, 0⟩)).2 := by
  have b1 := fun L => bright_eq (bookOf_mk (p := p) (lstV_grow hl L)) hbf
  have e1 := fun L => eright_eq (evtOf_mk (k := 1) (s := 0) (g := 0) (p := 0) (lstV_grow hp L) (lstV_grow hd L)) hef
  have c1 := fun L => cloneE_eq (lstV_grow hl L) hbf.1
  rw [decide_eq_true ho] at b1
  rw [decide_eq_true hr] at e1
  obtain ⟨hok, hne0⟩ := commit_okk ho hr hef.2.1
  have hdf : ∀ d : List Ent, d = refEnts l ⟨1, 0, ps, ds, 0, 0⟩ 255 → Bk.fits ⟨p, d⟩ := fun d hd => by
    subst hd
    exact ⟨Nat.le_trans (refEnts_len _ _ _) (by omega), refEnts_fits hbf.2 hef.2.2⟩
  refine fn_of_wp f13 rfl (W_sound oA1_ok mixed _ _ _ _ _ ?_)
  by_cases hne : l = []
  · subst hne
    have hc0 : ∀ (x : AV) (L : Mem), noX (S ++ L) x = true → commitS [x, .ag [.i .i64 1, .i .i64 0, xp, xd, .i .u64 0, .i .u64 0]] (S ++ L) = some (commitR0 ⟨1, 0, ps, ds, 0, 0⟩ (S ++ L)) := fun x L hx =>
      commit_eq0 hx (evtOf_mk (lstV_grow hp L) (lstV_grow hd L)) hok hne0
    cases hz : nz s with
    | false =>
      have c1 : ∀ L, cloneES [s] (S ++ L) = some (.sn, S ++ L) := fun L => by rw [c1 L, hz]; rfl
      have cm := fun L => hc0 .sn L rfl
      rcases commit_list (c := ⟨0, 0, [], []⟩) rfl ho hr with ⟨hF, hrn⟩ | ⟨hT, d, hs, hde, hrn⟩
      · rw [hrn]
        have cm := fun L => (cm L).trans (congrArg some (commitR0_f hF))
        simp (maxSteps := 1000000) (disch := omega) only [c13, orc_cons, lst_cells hl, c1, b1, e1, cm, go_sem, Option.map_none, Option.map_some, ↓reduceIte, Nat.reduceBEq, Nat.reduceAdd, Nat.reduceSub, Nat.reduceEqDiff, Nat.reduceLeDiff, Nat.reduceMul, Nat.reduceLT, Int.reduceLT, Int.reduceLE, Int.reduceAdd, Int.reduceSub, Int.reduceMul, Int.reduceNeg, Int.reduceEq, Int.reduceNe, Int.reduceToNat, decide_true, decide_false, iaddr_i, iaddr_sl_i, not_true_eq_false, not_false_eq_true, reduceCtorEq, ne_eq, forall_const, false_imp_iff, true_imp_iff, implies_true, Int.cast_ofNat_Int, Int.natCast_zero, Int.natCast_one, Int.add_zero, Int.zero_add]
        exact wkv_drop rfl
      · rw [hrn]
        have hd0 := (commitR0_t (S := S) hT hs hne0 hok.2.2.1).1
        have cm : ∀ L, _ = some (AV.tu [.sl (S ++ L).length 0 0 d.length d.length false, .b true], (S ++ L) ++ [.cells (d.flatMap entE.enc) 0 (some 14) true]) := fun L => (cm L).trans (by rw [(commitR0_t hT hs hne0 hok.2.2.1).2, retX_ne hd0, retM_ne hd0]; rfl)
        have hdf := hdf d hde
        have b2 : ∀ B0 B1 B2 B3 B4 : Blk, brightS [.ag [.i .u64 p, .sl (S.length + 5) 0 0 d.length d.length false]] (S ++ [B0, B1, B2, B3, B4, .cells (d.flatMap entE.enc) 0 (some 14) true]) = some (.b (decide (Bk.ok ⟨p, d⟩)), S ++ [B0, B1, B2, B3, B4, .cells (d.flatMap entE.enc) 0 (some 14) true]) := fun B0 B1 B2 B3 B4 => bright_eq (bookOf_mk (own_lst (ownV_mk (by rw [at_app]; rfl)))) hdf
        simp (maxSteps := 1000000) (disch := omega) only [c13, orc_cons, lst_cells hl, c1, b1, e1, cm, b2, go_sem, Option.map_none, Option.map_some, ↓reduceIte, Nat.reduceBEq, Nat.reduceAdd, Nat.reduceSub, Nat.reduceEqDiff, Nat.reduceLeDiff, Nat.reduceMul, Nat.reduceLT, Int.reduceLT, Int.reduceLE, Int.reduceAdd, Int.reduceSub, Int.reduceMul, Int.reduceNeg, Int.reduceEq, Int.reduceNe, Int.reduceToNat, decide_true, decide_false, iaddr_i, iaddr_sl_i, not_true_eq_false, not_false_eq_true, reduceCtorEq, ne_eq, forall_const, false_imp_iff, true_imp_iff, implies_true, Int.cast_ofNat_Int, Int.natCast_zero, Int.natCast_one, Int.add_zero, Int.zero_add]
        refine ⟨fun h1 => ?_, fun h1 => ?_⟩
        · rw [show Bk.fin (some ⟨p, d⟩) = none by simp only [Bk.fin, if_neg h1]]
          exact wkv_drop rfl
        · rw [show Bk.fin (some ⟨p, d⟩) = some ⟨p, d⟩ by simp only [Bk.fin, if_pos (Decidable.not_not.1 h1)]]
          unfold commitB
          simp only
          rw [if_neg hd0]
          exact Acc.retB entE_flat ⟨_, rfl, .inr (.inr ⟨hd0, 5, 0, rfl, rfl⟩)⟩ Flat_i Flat_i
    | true =>
      have c1 : ∀ L, cloneES [s] (S ++ L) = some (.sl (S ++ L).length 0 0 0 0 true, (S ++ L) ++ [.cells [] 0 none true]) := fun L => by rw [c1 L, hz]; rfl
      have cm := fun B0 B1 B2 B3 B4 B6 : Blk => hc0 (.sl (S.length + 5) 0 0 0 0 true) [B0, B1, B2, B3, B4, .cells [] 0 none true, B6] (by simp only [noX]; rw [at_app]; rfl)
      rcases commit_list (c := ⟨0, 0, [], []⟩) rfl ho hr with ⟨hF, hrn⟩ | ⟨hT, d, hs, hde, hrn⟩
      · rw [hrn]
        have cm := fun B0 B1 B2 B3 B4 B6 => (cm B0 B1 B2 B3 B4 B6).trans (congrArg some (commitR0_f hF))
        simp (maxSteps := 1000000) (disch := omega) only [c13, orc_cons, lst_cells hl, c1, b1, e1, cm, go_sem, Option.map_none, Option.map_some, ↓reduceIte, Nat.reduceBEq, Nat.reduceAdd, Nat.reduceSub, Nat.reduceEqDiff, Nat.reduceLeDiff, Nat.reduceMul, Nat.reduceLT, Int.reduceLT, Int.reduceLE, Int.reduceAdd, Int.reduceSub, Int.reduceMul, Int.reduceNeg, Int.reduceEq, Int.reduceNe, Int.reduceToNat, decide_true, decide_false, iaddr_i, iaddr_sl_i, not_true_eq_false, not_false_eq_true, reduceCtorEq, ne_eq, forall_const, false_imp_iff, true_imp_iff, implies_true, Int.cast_ofNat_Int, Int.natCast_zero, Int.natCast_one, Int.add_zero, Int.zero_add]
        exact Acc.retB entE_flat ⟨_, rfl, .inr (.inl ⟨rfl, rfl, 3, rfl, rfl⟩)⟩ Flat_i Flat_i
      · rw [hrn]
        have hd0 := (commitR0_t (S := S) hT hs hne0 hok.2.2.1).1
        have cm : ∀ B0 B1 B2 B3 B4 B6 : Blk, _ = some (AV.tu [.sl (S.length + 7) 0 0 d.length d.length false, .b true], S ++ [B0, B1, B2, B3, B4, .cells [] 0 none true, B6, .cells (d.flatMap entE.enc) 0 (some 14) true]) := fun B0 B1 B2 B3 B4 B6 => (cm B0 B1 B2 B3 B4 B6).trans (by rw [(commitR0_t hT hs hne0 hok.2.2.1).2, retX_ne hd0, retM_ne hd0, List.length_append, List.append_assoc]; rfl)
        have hdf := hdf d hde
        have b2 : ∀ B0 B1 B2 B3 B4 B5 B6 : Blk, brightS [.ag [.i .u64 p, .sl (S.length + 7) 0 0 d.length d.length false]] (S ++ [B0, B1, B2, B3, B4, B5, B6, .cells (d.flatMap entE.enc) 0 (some 14) true]) = some (.b (decide (Bk.ok ⟨p, d⟩)), S ++ [B0, B1, B2, B3, B4, B5, B6, .cells (d.flatMap entE.enc) 0 (some 14) true]) := fun B0 B1 B2 B3 B4 B5 B6 => bright_eq (bookOf_mk (own_lst (ownV_mk (by rw [at_app]; rfl)))) hdf
        simp (maxSteps := 1000000) (disch := omega) only [c13, orc_cons, lst_cells hl, c1, b1, e1, cm, b2, go_sem, Option.map_none, Option.map_some, ↓reduceIte, Nat.reduceBEq, Nat.reduceAdd, Nat.reduceSub, Nat.reduceEqDiff, Nat.reduceLeDiff, Nat.reduceMul, Nat.reduceLT, Int.reduceLT, Int.reduceLE, Int.reduceAdd, Int.reduceSub, Int.reduceMul, Int.reduceNeg, Int.reduceEq, Int.reduceNe, Int.reduceToNat, decide_true, decide_false, iaddr_i, iaddr_sl_i, not_true_eq_false, not_false_eq_true, reduceCtorEq, ne_eq, forall_const, false_imp_iff, true_imp_iff, implies_true, Int.cast_ofNat_Int, Int.natCast_zero, Int.natCast_one, Int.add_zero, Int.zero_add]
        refine ⟨fun h1 => ?_, fun h1 => ?_⟩
        · rw [show Bk.fin (some ⟨p, d⟩) = none by simp only [Bk.fin, if_neg h1]]
          exact Acc.retB entE_flat ⟨_, rfl, .inr (.inl ⟨rfl, rfl, 3, rfl, rfl⟩)⟩ Flat_i Flat_i
        · rw [show Bk.fin (some ⟨p, d⟩) = some ⟨p, d⟩ by simp only [Bk.fin, if_pos (Decidable.not_not.1 h1)]]
          unfold commitB
          simp only
          rw [if_neg hd0]
          exact Acc.retB entE_flat ⟨_, rfl, .inr (.inr ⟨hd0, 7, 0, rfl, rfl⟩)⟩ Flat_i Flat_i
  · obtain ⟨i, o, v, cap, ex, rfl⟩ := lst_sl hl (List.length_pos_iff.2 hne)
    have c1 : ∀ L, cloneES [.sl i o v l.length cap ex] (S ++ L) = some (.sl (S ++ L).length 0 0 l.length l.length false, (S ++ L) ++ [.cells (l.flatMap entE.enc) 0 (some 14) true]) := fun L => by
      rw [c1 L, retX_ne hne, retM_ne hne]; rfl
    have cm : ∀ B0 B1 B2 B3 B4 B6 : Blk, commitS [.sl (S.length + 5) 0 0 l.length l.length false, .ag [.i .i64 1, .i .i64 0, xp, xd, .i .u64 0, .i .u64 0]] (S ++ [B0, B1, B2, B3, B4, .cells (l.flatMap entE.enc) 0 (some 14) true, B6]) = some (commitR (S.length + 5) ⟨0, l.length, [], l⟩ ⟨1, 0, ps, ds, 0, 0⟩ (S ++ [B0, B1, B2, B3, B4, .cells (l.flatMap entE.enc) 0 (some 14) true, B6])) := fun B0 B1 B2 B3 B4 B6 => by
      refine commit_eq (by rw [at_app]; rfl) ?_ hok
      have ht : (S ++ [B0, B1, B2, B3, B4, .cells (l.flatMap entE.enc) 0 (some 14) true, B6]).take (S.length + 5) = S ++ [B0, B1, B2, B3, B4] := by
        rw [List.take_append, List.take_of_length_le (by omega), Nat.add_sub_cancel_left]; rfl
      rw [ht]
      exact evtOf_mk (lstV_grow hp _) (lstV_grow hd _)
    have own : ∀ (A : Mem) (err : Int), WkV S (bookR (nz (.sl i o v l.length cap ex)) S ⟨p, l⟩ err).1 (bookR (nz (.sl i o v l.length cap ex)) S ⟨p, l⟩ err).2 (.tu [.ag [.i .u64 p, .sl (S.length + 3) 0 0 l.length l.length false], .i .i64 err])
      (S ++ (.cells [.i .u64 p, .sl i o v l.length cap ex] 0 none true :: .cells [.i .i64 1, .i .i64 0, xp, xd, .i .u64 0, .i .u64 0] 0 none true :: .cells [.i .u64 p, .sl (S.length + 3) 0 0 l.length l.length false] 0 none true :: .cells (l.flatMap entE.enc) 0 (some 14) true :: A)) := fun A err =>
      Acc.retB entE_flat ⟨_, rfl, .inr (.inr ⟨hne, 3, 0, rfl, rfl⟩)⟩ Flat_i Flat_i
    rcases commit_list (c := ⟨0, l.length, [], l⟩) rfl ho hr with ⟨hF, hrn⟩ | ⟨hT, d, hs, hde, hrn⟩
    · rw [hrn]
      have cm := fun B0 B1 B2 B3 B4 B6 => (cm B0 B1 B2 B3 B4 B6).trans (congrArg some (commitR_f hF))
      simp (maxSteps := 1000000) (disch := omega) only [c13, orc_cons, lst_cells hl, c1, b1, e1, cm, go_sem, Option.map_none, Option.map_some, ↓reduceIte, Nat.reduceBEq, Nat.reduceAdd, Nat.reduceSub, Nat.reduceEqDiff, Nat.reduceLeDiff, Nat.reduceMul, Nat.reduceLT, Int.reduceLT, Int.reduceLE, Int.reduceAdd, Int.reduceSub, Int.reduceMul, Int.reduceNeg, Int.reduceEq, Int.reduceNe, Int.reduceToNat, decide_true, decide_false, iaddr_i, iaddr_sl_i, not_true_eq_false, not_false_eq_true, reduceCtorEq, ne_eq, forall_const, false_imp_iff, true_imp_iff, implies_true, Int.cast_ofNat_Int, Int.natCast_zero, Int.natCast_one, Int.add_zero, Int.zero_add]
      exact own _ _
    · rw [hrn]
      have cm := fun B0 B1 B2 B3 B4 B6 => (cm B0 B1 B2 B3 B4 B6).trans (congrArg some (commitR_t hT hs))
      simp only at cm
      generalize (putC ps (dropC ds ⟨0, l.length, [], l⟩).1).v = v2 at cm
      have hdf := hdf d hde
      by_cases hd0 : d = []
      · subst hd0
        have cm : ∀ B0 B1 B2 B3 B4 B6 : Blk, _ = some (AV.tu [.se, .b true], List.set (S ++ [B0, B1, B2, B3, B4, .cells (l.flatMap entE.enc) 0 (some 14) true, B6]) (S.length + 5) (.cells [] v2 (some 14) true)) := fun B0 B1 B2 B3 B4 B6 => (cm B0 B1 B2 B3 B4 B6).trans (by unfold endX; rw [if_pos rfl]; rfl)
        have b2 : ∀ M : Mem, brightS [.ag [.i .u64 p, .se]] M = some (.b (decide (Bk.ok ⟨p, []⟩)), M) := fun M => bright_eq (bookOf_mk rfl) hdf
        simp (maxSteps := 1000000) (disch := omega) only [c13, orc_cons, lst_cells hl, c1, b1, e1, cm, b2, go_sem, Option.map_none, Option.map_some, ↓reduceIte, Nat.reduceBEq, Nat.reduceAdd, Nat.reduceSub, Nat.reduceEqDiff, Nat.reduceLeDiff, Nat.reduceMul, Nat.reduceLT, Int.reduceLT, Int.reduceLE, Int.reduceAdd, Int.reduceSub, Int.reduceMul, Int.reduceNeg, Int.reduceEq, Int.reduceNe, Int.reduceToNat, decide_true, decide_false, iaddr_i, iaddr_sl_i, not_true_eq_false, not_false_eq_true, reduceCtorEq, ne_eq, forall_const, false_imp_iff, true_imp_iff, implies_true, Int.cast_ofNat_Int, Int.natCast_zero, Int.natCast_one, Int.add_zero, Int.zero_add]
        refine ⟨fun h1 => ?_, fun h1 => ?_⟩
        · rw [show Bk.fin (some ⟨p, []⟩) = none by simp only [Bk.fin, if_neg h1]]
          exact own _ _
        · rw [show Bk.fin (some ⟨p, []⟩) = some ⟨p, []⟩ by simp only [Bk.fin, if_pos (Decidable.not_not.1 h1)]]
          unfold commitB
          simp only
          rw [if_pos trivial]
          exact wkv_drop rfl
      · have cm : ∀ B0 B1 B2 B3 B4 B6 : Blk, _ = some (AV.tu [.sl (S.length + 5) 0 v2 d.length d.length false, .b true], List.set (S ++ [B0, B1, B2, B3, B4, .cells (l.flatMap entE.enc) 0 (some 14) true, B6]) (S.length + 5) (.cells (d.flatMap entE.enc) v2 (some 14) true)) := fun B0 B1 B2 B3 B4 B6 => (cm B0 B1 B2 B3 B4 B6).trans (by unfold endX; rw [if_neg hd0])
        have b2 : ∀ B0 B1 B2 B3 B4 B6 : Blk, brightS [.ag [.i .u64 p, .sl (S.length + 5) 0 v2 d.length d.length false]] (S ++ [B0, B1, B2, B3, B4, .cells (d.flatMap entE.enc) v2 (some 14) true, B6]) = some (.b (decide (Bk.ok ⟨p, d⟩)), S ++ [B0, B1, B2, B3, B4, .cells (d.flatMap entE.enc) v2 (some 14) true, B6]) := fun B0 B1 B2 B3 B4 B6 => bright_eq (bookOf_mk (own_lst (ownV_mk (by rw [at_app]; rfl)))) hdf
        simp (maxSteps := 1000000) (disch := omega) only [c13, orc_cons, lst_cells hl, c1, b1, e1, cm, b2, go_sem, Option.map_none, Option.map_some, ↓reduceIte, Nat.reduceBEq, Nat.reduceAdd, Nat.reduceSub, Nat.reduceEqDiff, Nat.reduceLeDiff, Nat.reduceMul, Nat.reduceLT, Int.reduceLT, Int.reduceLE, Int.reduceAdd, Int.reduceSub, Int.reduceMul, Int.reduceNeg, Int.reduceEq, Int.reduceNe, Int.reduceToNat, decide_true, decide_false, iaddr_i, iaddr_sl_i, not_true_eq_false, not_false_eq_true, reduceCtorEq, ne_eq, forall_const, false_imp_iff, true_imp_iff, implies_true, Int.cast_ofNat_Int, Int.natCast_zero, Int.natCast_one, Int.add_zero, Int.zero_add]
        refine ⟨fun h1 => ?_, fun h1 => ?_⟩
        · rw [show Bk.fin (some ⟨p, d⟩) = none by simp only [Bk.fin, if_neg h1]]
          exact own _ _
        · rw [show Bk.fin (some ⟨p, d⟩) = some ⟨p, d⟩ by simp only [Bk.fin, if_pos (Decidable.not_not.1 h1)]]
          unfold commitB
          simp only
          rw [if_neg hd0]
          exact Acc.retB entE_flat ⟨_, rfl, .inr (.inr ⟨hd0, 5, v2, rfl, rfl⟩)⟩ Flat_i Flat_i
end Go.Proofs.Ytapgkaecamljbaa

namespace Go.Proofs.Ytapgkaecamljbaa
open Go.RowKit
set_option linter.unusedSimpArgs false
set_option linter.unusedVariables false
set_option maxRecDepth 10000

noncomputable def applyR (z : Bool) (S : Mem) (b : Bk) (e : Evt) : AV × Mem := if e.kind = 1 then commitB z S b (b.rapplied e) else match b.rapplied e with
  | some b' => bookR z S b' 0
  | none => bookR z S b 131
noncomputable def applyS : Spec := fun args S => match args with
  | [.ag cb, .ag ce] => match bookOf S cb, evtOf S ce with
    | some b, some e => if b.fits ∧ e.fits then some (applyR (nzB cb) S b e) else none
    | _, _ => none
  | _ => none
theorem right_eq {e : Evt} (hr : e.right) (hk : e.kind = 1) : e = ⟨1, 0, e.puts, e.drops, 0, 0⟩ := by
  rcases hr with ⟨_, _, _, _, h⟩ | ⟨h, _⟩ | ⟨h, _⟩
  · rw [hk] at h; exact h
  · rw [hk] at h; exact absurd h (by decide)
  · rw [hk] at h; exact absurd h (by decide)
theorem apply_ok : SpecOK Try.prog 13 applyS := by
  intro args S x S' h
  simp only [applyS] at h
  split at h
  · rename_i cb ce
    split at h
    · rename_i b e hb he
      split at h
      · rename_i hf
        obtain ⟨hbf, hef⟩ := hf
        by_cases hc : b.ok ∧ e.right ∧ e.kind = 1
        · obtain ⟨ho, hr, hk⟩ := hc
          obtain ⟨s, rfl, hl⟩ := bookOf_ok hb
          obtain ⟨xp, xd, rfl, hp, hd⟩ := evtOf_ok he
          have hre := right_eq hr hk
          obtain ⟨k, sub, ps, ds, g, q⟩ := e
          simp only at hk
          subst hk
          simp only [Evt.mk.injEq, true_and, and_true] at hre
          obtain ⟨rfl, rfl, rfl⟩ := hre
          obtain ⟨p, l⟩ := b
          simp only [Option.some.injEq] at h
          have hz : nzB [AV.i .u64 (Bk.mk p l).period, s] = nz s := rfl
          rw [hz] at h
          have hx := congrArg Prod.fst h
          have hm := congrArg Prod.snd h
          simp only at hx hm
          have h1 := apply1 hl hp hd hbf hef ho hr
          unfold applyR at hx hm
          rw [if_pos rfl] at hx hm
          rw [hx, hm] at h1
          exact h1
        · refine turn_ok _ _ _ _ ?_
          simp only [turnS, hb, he]
          have hc' : ¬ (b.ok ∧ e.right ∧ e.kind = 1) := hc
          rw [if_pos ⟨hbf, hef, hc'⟩, turned_eq hc']
          rw [← h]
          unfold applyR
          by_cases hk : e.kind = 1
          · have hn : b.rapplied e = none := by
              unfold Bk.rapplied
              rw [if_neg fun z => hc ⟨z.1, z.2, hk⟩]
            rw [hn, if_pos hk]; rfl
          · rw [if_neg hk]
            cases b.rapplied e <;> rfl
      · cases h
    · cases h
  · cases h
/-- The book behind an event. -/
noncomputable def Bk.after (b : Bk) (e : Evt) : Bk := (b.rapplied e).getD b
noncomputable def Bk.err (b : Bk) (e : Evt) : Int := if (b.rapplied e).isSome then 0 else 131
theorem apply_call {S : Mem} {cb ce : List AV} {b : Bk} {e : Evt} (hb : bookOf S cb = some b) (he : evtOf S ce = some e) (hbf : b.fits) (hef : e.fits) :
    ∃ Y M, applyS [.ag cb, .ag ce] S = some (.tu [.ag [.i .u64 (b.after e).period, Y], .i .i64 (b.err e)], M) ∧ lstV entE M Y = some (b.after e).entries ∧ S <+: M := by
  simp only [applyS, hb, he]
  rw [if_pos ⟨hbf, hef⟩]
  unfold applyR commitB Bk.after Bk.err
  cases b.rapplied e with
  | none => split <;> exact ⟨_, _, rfl, retX_lst, retM_ext⟩
  | some b' =>
    split
    · simp only
      split
      · rename_i h0
        exact ⟨_, _, rfl, by simp only [Option.getD_some]; rw [h0]; rfl, ext_refl⟩
      · exact ⟨_, _, rfl, retX_lst, retM_ext⟩
    · exact ⟨_, _, rfl, retX_lst, retM_ext⟩
end Go.Proofs.Ytapgkaecamljbaa

namespace Go.Proofs.Ytapgkaecamljbaa
open Go.RowKit
set_option linter.unusedSimpArgs false
set_option linter.unusedVariables false
set_option maxRecDepth 10000

def Evt.subs (e : Evt) : List Int := e.drops ++ e.puts.map (·.sub)
def subsS : Spec := fun args S => match args with
  | [.ag ce] => match evtOf S ce with
    | some e => if e.fits then some (retX true S e.subs, retM true (intE .i64) S e.subs) else none
    | none => none
  | _ => none
theorem intE_one (a : Int) : ((intE .i64).enc a).all AV.one = true := rfl
theorem intE_flat : ∀ n a, ∀ c ∈ (intE .i64).enc a, AV.Flat n c := by
  intro n a c hc
  simp only [intE, List.mem_singleton] at hc
  rw [hc]; exact Flat_i
theorem subs_ok : SpecOK Try.prog 23 subsS := by
  intro args S x S' h
  simp only [subsS] at h
  split at h
  · rename_i ce
    split at h
    · rename_i ev he
      split at h
      · rename_i hf
        obtain ⟨xp, xd, rfl, hp, hd⟩ := evtOf_ok he
        obtain ⟨k, sub, ps, ds, g, q⟩ := ev
        obtain ⟨hf1, hf2, hf3⟩ := hf
        simp only at hp hd hf1 hf2
        simp only [Evt.subs] at h
        cases h
        obtain ⟨M0, hM0⟩ : ∃ M0, M0 = S ++ [Blk.cells [.i .i64 k, .i .i64 sub, xp, xd, .i .u64 g, .i .u64 q] 0 none true] := ⟨_, rfl⟩
        have hM0l : M0.length = S.length + 1 := by rw [hM0]; simp
        have hS0 : S <+: M0 := by rw [hM0]; exact ext_app _
        have z0 : M0[S.length]? = some (.cells [.i .i64 k, .i .i64 sub, xp, xd, .i .u64 g, .i .u64 q] 0 none true) := by rw [hM0, at_app0]; rfl
        obtain ⟨Y, M1, hap, hY⟩ := (acc_lit (E := intE .i64) (S := M0) (M := M0) ext_refl).apps (bytes := 8) intE_one ds (by simp only [List.length_nil]; omega) (by simp only [List.length_nil]; omega)
        rw [List.nil_append] at hY
        have hap : appV (S ++ [Blk.cells [.i .i64 k, .i .i64 sub, xp, xd, .i .u64 g, .i .u64 q] 0 none true, .cells [] 0 none true]) 1 8 (.sl (S.length + 1) 0 0 0 0 true) (ds.flatMap (intE .i64).enc) ds.length = some (Y, M1) := by
          have hap : appV (M0 ++ [.cells [] 0 none true]) 1 8 (.sl M0.length 0 0 0 0 true) (ds.flatMap (intE .i64).enc) ds.length = some (Y, M1) := hap
          rw [hM0l, hM0, List.append_assoc] at hap
          exact hap
        have hsrc : ∀ L, srcV (S ++ L) 1 xd = some (ds.flatMap (intE .i64).enc, ds.length) := fun L => src_lst (lstV_grow hd L)
        have m0 := at_pre hY.ext z0
        refine fn_of_wp f23 rfl (W_sound none_ok mixed _ _ _ _ _ ?_)
        simp (maxSteps := 1000000) (disch := omega) only [c23, lst_cells hp, lst_cells hd, List.replicate, hsrc, hap, m0, lst_len hp, go_sem, Option.map_none, Option.map_some, ↓reduceIte, Nat.reduceBEq, Nat.reduceAdd, Nat.reduceSub, Nat.reduceEqDiff, Nat.reduceLeDiff, Nat.reduceMul, Nat.reduceLT, Int.reduceLT, Int.reduceLE, Int.reduceAdd, Int.reduceSub, Int.reduceMul, Int.reduceNeg, Int.reduceEq, Int.reduceNe, Int.reduceToNat, decide_true, decide_false, iaddr_i, iaddr_sl_i, not_true_eq_false, not_false_eq_true, reduceCtorEq, ne_eq, forall_const, false_imp_iff, true_imp_iff, implies_true, Int.cast_ofNat_Int, Int.natCast_zero, Int.natCast_one, Int.add_zero, Int.zero_add]
        have hY0 : Acc true (intE .i64) S M1 Y ds := hY.base hS0
        refine wp_loop (fun j e M dl => dl = [] ∧ ∃ (t : Nat) (y : AV), j = ps.length - t ∧ t ≤ ps.length ∧ Acc true (intE .i64) S M y (ds ++ (ps.take t).map (·.sub)) ∧ e.get 11 = xp ∧ e.get 12 = .i .i64 ps.length ∧ e.get 13 = .i .i64 t ∧ e.get 3 = y) (j := ps.length)
          ⟨rfl, 0, Y, rfl, Nat.zero_le _, by simpa using hY0, rfl, rfl, rfl, rfl⟩ ?_
        rintro j e M d' ⟨rfl, t, y, rfl, ht, hA, e11, e12, e13, e3⟩
        refine W_sound none_ok mixed _ _ _ _ _ ?_
        by_cases htl : t < ps.length
        · obtain ⟨bi, o, v, cap, ex, rfl⟩ := lst_sl hp htl
          have hr := lstV_row (lst_ext hp hA.ext) htl []
          rw [List.append_nil] at hr
          have htk : ps.take (t + 1) = ps.take t ++ [ps[t]] := List.take_succ_eq_append_getElem htl
          have hr : rowB (M[bi]?) (o + t * 13) v 13 = some (ps[t]).enc := hr
          generalize ps[t] = p at hr htk
          have htI : (t : Int) < ps.length := by omega
          have hw1 : wrapV .i64 ((t : Int) + 1) = ((t + 1 : Nat) : Int) := by rw [wrap_i64 (by omega) (by omega)]; omega
          have hln : (ds ++ (ps.take t).map (·.sub)).length ≤ 2000000 := by rw [List.length_append, List.length_map, List.length_take]; omega
          obtain ⟨y2, M2, ha, hA2⟩ := (hA.grow [.cells p.enc 0 none true, .cells [.i .i64 p.sub] 0 none true]).app (bytes := 8) intE_one p.sub (by omega) (by omega)
          have ha : appV (M ++ [.cells p.enc 0 none true, .cells [.i .i64 p.sub] 0 none true]) 1 8 y [.i .i64 p.sub] 1 = some (y2, M2) := ha
          simp only [Pol.enc] at hr ha
          simp (maxSteps := 1000000) (disch := omega) only [c23l0, e11, e12, e13, e3, htI, Int.toNat_natCast, hr, hw1, ha, go_sem, Option.map_none, Option.map_some, ↓reduceIte, Nat.reduceBEq, Nat.reduceAdd, Nat.reduceSub, Nat.reduceEqDiff, Nat.reduceLeDiff, Nat.reduceMul, Nat.reduceLT, Int.reduceLT, Int.reduceLE, Int.reduceAdd, Int.reduceSub, Int.reduceMul, Int.reduceNeg, Int.reduceEq, Int.reduceNe, Int.reduceToNat, decide_true, decide_false, iaddr_i, iaddr_sl_i, not_true_eq_false, not_false_eq_true, reduceCtorEq, ne_eq, forall_const, false_imp_iff, true_imp_iff, implies_true, Int.cast_ofNat_Int, Int.natCast_zero, Int.natCast_one, Int.add_zero, Int.zero_add]
          refine ⟨ps.length - (t + 1), by omega, t + 1, y2, rfl, htl, ?_, rfl, rfl⟩
          rw [htk, List.map_append, ← List.append_assoc]
          exact hA2
        · have htI : ¬ (t : Int) < ps.length := by omega
          rw [List.take_of_length_le (by omega)] at hA
          simp (maxSteps := 1000000) (disch := omega) only [c23l0, e11, e12, e13, e3, htI, go_sem, Option.map_none, Option.map_some, ↓reduceIte, Nat.reduceBEq, Nat.reduceAdd, Nat.reduceSub, Nat.reduceEqDiff, Nat.reduceLeDiff, Nat.reduceMul, Nat.reduceLT, Int.reduceLT, Int.reduceLE, Int.reduceAdd, Int.reduceSub, Int.reduceMul, Int.reduceNeg, Int.reduceEq, Int.reduceNe, Int.reduceToNat, decide_true, decide_false, iaddr_i, iaddr_sl_i, not_true_eq_false, not_false_eq_true, reduceCtorEq, ne_eq, forall_const, false_imp_iff, true_imp_iff, implies_true, Int.cast_ofNat_Int, Int.natCast_zero, Int.natCast_one, Int.add_zero, Int.zero_add]
          exact hA.ret intE_flat
      · cases h
    · cases h
  · cases h
end Go.Proofs.Ytapgkaecamljbaa

namespace Go.Proofs.Ytapgkaecamljbaa
open Go.RowKit
set_option linter.unusedSimpArgs false
set_option linter.unusedVariables false
set_option maxRecDepth 100000

theorem alive_run : isTrue ((evAll tab 100000 100).fn 11 [] []) = true := by kernel_rfl
def aliveS : Spec := fun args S => match args with
  | [] => some (.b true, S)
  | _ => none
theorem alive_ok : SpecOK Try.prog 11 aliveS := by
  intro args S x S' h
  unfold aliveS at h
  split at h
  · cases h
    exact fnOK_of_below (by kernel_rfl) (fun w => calls_of_ev mixed tab_ok alive_run w) S
  · cases h

end Go.Proofs.Ytapgkaecamljbaa

namespace Go.Proofs.Ytapgkaecamljbaa
open Go.RowKit
set_option linter.unusedSimpArgs false
set_option linter.unusedVariables false
set_option maxRecDepth 100000

def greatS : Spec := fun args S => match args with
  | [.ag cb, .ag ce] => match bookOf S cb, evtOf S ce with
    | some b, some e => some (.b (decide (30 < b.entries.length ∨ 30 < e.puts.length ∨ 30 < e.drops.length)), S)
    | _, _ => none
  | _ => none
theorem great_ok : SpecOK Try.prog 12 greatS := by
  intro args S x S' h
  simp only [greatS] at h
  split at h
  · rename_i cb ce
    split at h
    · rename_i b ev hb hev
      cases h
      obtain ⟨s, rfl, hl⟩ := bookOf_ok hb
      obtain ⟨xp, xd, rfl, hp, hd⟩ := evtOf_ok hev
      refine fn_of_wp f12 rfl (W_sound none_ok mixed _ _ _ _ _ ?_)
      simp (maxSteps := 1000000) (disch := omega) only [c12, lst_len hl, lst_len hp, lst_len hd, go_sem, Option.map_none, Option.map_some, ↓reduceIte, Nat.reduceBEq, Nat.reduceAdd, Nat.reduceSub, Nat.reduceEqDiff, Nat.reduceLeDiff, Nat.reduceMul, Nat.reduceLT, Int.reduceLT, Int.reduceLE, Int.reduceAdd, Int.reduceSub, Int.reduceMul, Int.reduceNeg, Int.reduceEq, Int.reduceNe, Int.reduceToNat, decide_true, decide_false, iaddr_i, iaddr_sl_i, not_true_eq_false, not_false_eq_true, reduceCtorEq, ne_eq, forall_const, false_imp_iff, true_imp_iff, implies_true, Int.cast_ofNat_Int, Int.natCast_zero, Int.natCast_one, Int.add_zero, Int.zero_add]
      refine ⟨fun h1 => ⟨fun h2 => wkv_b ?_, fun h2 => ?_⟩, fun h1 => ?_⟩
      · constructor
        · rintro (z | z | z) <;> omega
        · intro z; omega
      · rw [decide_eq_true (by omega)]; exact wkv_drop rfl
      · rw [decide_eq_true (by omega)]; exact wkv_drop rfl
    · cases h
  · cases h
theorem great_eq {S : Mem} {cb ce : List AV} {b : Bk} {e : Evt} (hb : bookOf S cb = some b) (he : evtOf S ce = some e) : greatS [.ag cb, .ag ce] S = some (.b (decide (30 < b.entries.length ∨ 30 < e.puts.length ∨ 30 < e.drops.length)), S) := by
  simp only [greatS, hb, he]
end Go.Proofs.Ytapgkaecamljbaa

namespace Go.Proofs.Ytapgkaecamljbaa
open Go.RowKit
set_option linter.unusedSimpArgs false
set_option linter.unusedVariables false
set_option maxRecDepth 10000

theorem after_len {b : Bk} {e : Evt} (hb : b.fits) : (b.after e).entries.length ≤ 1000000 := by
  unfold Bk.after
  cases h : b.rapplied e with
  | none => exact hb.1
  | some b' =>
    show b'.entries.length ≤ 1000000
    unfold Bk.rapplied at h
    split at h
    · split at h
      · split at h
        · cases h
        · simp only [Bk.fin] at h
          split at h
          · cases h
            exact Nat.le_trans (refEnts_len _ _ _) (by omega)
          · cases h
      · split at h
        · cases hl : leased b.entries e.sub e.granted with
          | none => rw [hl] at h; cases h
          | some l' =>
            rw [hl] at h
            cases h
            show l'.length ≤ _
            rw [← leased_len hl]; exact hb.1
        · split at h
          · cases h
            show (b.entries.map _).length ≤ _
            rw [List.length_map]; exact hb.1
          · cases h
    · cases h
end Go.Proofs.Ytapgkaecamljbaa

namespace Go.Proofs.Ytapgkaecamljbaa
open Go.RowKit
set_option linter.unusedSimpArgs false
set_option linter.unusedVariables false
set_option maxRecDepth 10000

theorem rapplied_one {b c : Bk} {e : Evt} (hk : e.kind = 1) (h : b.rapplied e = some c) : b.ok ∧ e.right ∧ c = ⟨b.period, refEnts b.entries e 255⟩ ∧ c.ok := by
  unfold Bk.rapplied at h
  split at h
  · rename_i hc
    first | rw [if_pos hk] at h | skip
    split at h
    · cases h
    · simp only [Bk.fin] at h
      split at h
      · rename_i ho
        cases h
        exact ⟨hc.1, hc.2, rfl, ho⟩
      · cases h
  · cases h
theorem look_ref {l : List Ent} {e : Evt} {id : Int} (h1 : 1 ≤ id) (h2 : id ≤ 255) : ofSub (refEnts l e 255) id = refOne l e id := by
  have ho : Once (refEnts l e 255) := (rises_range refOne_sub 255).once
  have hm : ∀ x, x ∈ refEnts l e 255 ↔ refOne l e x.pol.sub = some x ∧ 1 ≤ x.pol.sub ∧ x.pol.sub ≤ (255 : Nat) := fun x => mem_range_look refOne_sub
  cases h : refOne l e id with
  | some x =>
    have hs := refOne_sub id x h
    refine (ofSub_iff ho).2 ⟨(hm x).2 ⟨by rw [hs]; exact h, by omega, by omega⟩, hs⟩
  | none =>
    cases h3 : ofSub (refEnts l e 255) id with
    | none => rfl
    | some y =>
      obtain ⟨h4, h5⟩ := ofSub_some h3
      have := ((hm y).1 h4).1
      rw [h5, h] at this; cases this
theorem refOne_congr {a b : List Ent} {e : Evt} {id : Int} (h : ofSub a id = ofSub b id) : refOne a e id = refOne b e id := by
  unfold refOne
  have h : a.find? (hasSub id) = b.find? (hasSub id) := h
  rw [h]
theorem refOne_out {l : List Ent} {e : Evt} {id : Int} (h : id ∉ e.subs) : refOne l e id = ofSub l id := by
  unfold Evt.subs at h
  rw [List.mem_append, not_or] at h
  have hf : e.puts.find? (subIsP id) = none := by
    rw [List.find?_eq_none]
    intro p hp
    simp only [subIsP, decide_eq_true_eq]
    exact fun q => h.2 (List.mem_map.2 ⟨p, hp, q⟩)
  unfold refOne
  rw [if_neg h.1, hf]
  show _ = l.find? (hasSub id)
  cases l.find? (hasSub id) <;> rfl
theorem fm_congr {α β : Type} {f g : α → Option β} : ∀ (l : List α), (∀ a ∈ l, f a = g a) → l.filterMap f = l.filterMap g
  | [], _ => rfl
  | a :: l, h => by
    rw [List.filterMap_cons, List.filterMap_cons, h a (by simp), fm_congr l fun x hx => h x (by simp [hx])]
/-- Either way comes to the same. -/
theorem ref_order {l : List Ent} {x y : Evt} (h : ∀ n ∈ x.subs, n ∉ y.subs) : refEnts (refEnts l x 255) y 255 = refEnts (refEnts l y 255) x 255 := by
  have key : ∀ i : Nat, i < 255 → refOne (refEnts l x 255) y ((i : Int) + 1) = refOne (refEnts l y 255) x ((i : Int) + 1) := fun i hi => by
    have h1 : (1 : Int) ≤ (i : Int) + 1 := by omega
    have h2 : (i : Int) + 1 ≤ 255 := by omega
    by_cases hx : ((i : Int) + 1) ∈ x.subs
    · have hy := h _ hx
      rw [refOne_out hy, look_ref h1 h2]
      exact (refOne_congr (by rw [look_ref h1 h2, refOne_out hy])).symm
    · rw [refOne_out (l := refEnts l y 255) hx, look_ref h1 h2]
      exact refOne_congr (by rw [look_ref h1 h2, refOne_out hx])
  show (List.range 255).filterMap (fun i : Nat => refOne (refEnts l x 255) y ((i : Int) + 1)) = (List.range 255).filterMap fun i : Nat => refOne (refEnts l y 255) x ((i : Int) + 1)
  exact fm_congr _ fun i hi => key i (List.mem_range.1 hi)
theorem apply_order {b c d g k : Bk} {x y : Evt} (hx : x.kind = 1) (hy : y.kind = 1) (h : ∀ n ∈ x.subs, n ∉ y.subs) (h1 : b.rapplied x = some c) (h2 : c.rapplied y = some d) (h3 : b.rapplied y = some g) (h4 : g.rapplied x = some k) : d = k := by
  obtain ⟨_, _, rfl, _⟩ := rapplied_one hx h1
  obtain ⟨_, _, rfl, _⟩ := rapplied_one hy h2
  obtain ⟨_, _, rfl, _⟩ := rapplied_one hy h3
  obtain ⟨_, _, rfl, _⟩ := rapplied_one hx h4
  simp only [Bk.mk.injEq, true_and]
  exact ref_order h
/-- What is behind an event can be looked at. -/
theorem after_fits {b : Bk} {e : Evt} (hb : b.fits) (he : e.fits) : (b.after e).fits := by
  refine ⟨after_len hb, ?_⟩
  unfold Bk.after
  cases h : b.rapplied e with
  | none => exact hb.2
  | some b' =>
    show ∀ x ∈ b'.entries, x.pol.fits
    unfold Bk.rapplied at h
    split at h
    · split at h
      · split at h
        · cases h
        · simp only [Bk.fin] at h
          split at h
          · cases h
            exact refEnts_fits hb.2 he.2.2
          · cases h
      · split at h
        · cases hl : leased b.entries e.sub e.granted with
          | none => rw [hl] at h; cases h
          | some l' =>
            rw [hl] at h
            cases h
            exact leased_fits hl hb.2
        · split at h
          · cases h
            intro x hx
            obtain ⟨y, hy, rfl⟩ := List.mem_map.1 hx
            exact hb.2 y hy
          · cases h
    · cases h
theorem err_zero {b : Bk} {e : Evt} (h : b.err e = 0) : b.rapplied e = some (b.after e) := by
  unfold Bk.err at h
  unfold Bk.after
  cases hr : b.rapplied e with
  | none => rw [hr] at h; exact absurd h (by decide)
  | some c => rfl
theorem order_after {b : Bk} {x y : Evt} (hx : x.kind = 1) (hy : y.kind = 1) (h : ∀ n ∈ x.subs, n ∉ y.subs) (h1 : b.err x = 0) (h2 : (b.after x).err y = 0) (h3 : b.err y = 0) (h4 : (b.after y).err x = 0) : (b.after x).after y = (b.after y).after x :=
  apply_order hx hy h (err_zero h1) (err_zero h2) (err_zero h3) (err_zero h4)
end Go.Proofs.Ytapgkaecamljbaa

namespace Go.Proofs.Ytapgkaecamljbaa
open Go.RowKit
set_option linter.unusedSimpArgs false
set_option linter.unusedVariables false
set_option maxRecDepth 10000

theorem wrapS {t : Nat} (h : t < 1000000) : wrapV .i64 ((t : Int) + 1) = ((t + 1 : Nat) : Int) := by rw [wrap_i64 (by omega) (by omega)]; omega
theorem err_or (b : Bk) (e : Evt) : b.err e = 0 ∨ b.err e = 131 := by unfold Bk.err; split <;> simp
theorem oBor_ok : OK Try.prog (lamOf Try.prog) (orcOf [(11, aliveS), (12, greatS), (23, subsS), (13, applyS), (22, bsameS)]) := orc_ok (by simpa using ⟨alive_ok, great_ok, subs_ok, apply_ok, bsame_ok⟩)
set_option maxHeartbeats 1000000 in
theorem order_ok (S : Mem) (p : Int) (s : AV) (l : List Ent) (kx sx gx qx ky sy gy qy : Int) (xp xd yp yd : AV) (px py : List Pol) (dx dy : List Int) (hl : lstV entE S s = some l) (hgl : ∀ x ∈ l, x.good)
    (hxp : lstV polE S xp = some px) (hgx : ∀ x ∈ px, x.good) (hxd : lstV (intE .i64) S xd = some dx) (hyp : lstV polE S yp = some py) (hgy : ∀ x ∈ py, x.good) (hyd : lstV (intE .i64) S yd = some dy) :
    FnOK Try.prog 7 [.ag [.i .u64 p, s], .ag [.i .i64 kx, .i .i64 sx, xp, xd, .i .u64 gx, .i .u64 qx], .ag [.i .i64 ky, .i .i64 sy, yp, yd, .i .u64 gy, .i .u64 qy]] S (.b true) S := by
  have g1 := fun L => great_eq (bookOf_mk (p := p) (lstV_grow hl L)) (evtOf_mk (k := kx) (s := sx) (g := gx) (p := qx) (lstV_grow hxp L) (lstV_grow hxd L))
  have g2 := fun L => great_eq (bookOf_mk (p := p) (lstV_grow hl L)) (evtOf_mk (k := ky) (s := sy) (g := gy) (p := qy) (lstV_grow hyp L) (lstV_grow hyd L))
  refine fn_of_wp f7 rfl (W_sound oBor_ok mixed _ _ _ _ _ ?_)
  by_cases h1 : 30 < (Bk.mk p l).entries.length ∨ 30 < (Evt.mk kx sx px dx gx qx).puts.length ∨ 30 < (Evt.mk kx sx px dx gx qx).drops.length
  · rw [decide_eq_true h1] at g1
    simp (maxSteps := 1000000) (disch := omega) only [c7, orc_cons, lst_cells hl, lst_cells hxp, lst_cells hxd, lst_cells hyp, lst_cells hyd, List.replicate, aliveS, g1, go_sem, Option.map_none, Option.map_some, ↓reduceIte, Nat.reduceBEq, Nat.reduceAdd, Nat.reduceSub, Nat.reduceEqDiff, Nat.reduceLeDiff, Nat.reduceMul, Nat.reduceLT, Int.reduceLT, Int.reduceLE, Int.reduceAdd, Int.reduceSub, Int.reduceMul, Int.reduceNeg, Int.reduceEq, Int.reduceNe, Int.reduceToNat, decide_true, decide_false, iaddr_i, iaddr_sl_i, not_true_eq_false, not_false_eq_true, reduceCtorEq, ne_eq, forall_const, false_imp_iff, true_imp_iff, implies_true, Int.cast_ofNat_Int, Int.natCast_zero, Int.natCast_one, Int.add_zero, Int.zero_add]
    exact wkv_drop rfl
  rw [decide_eq_false h1] at g1
  by_cases h2 : 30 < (Bk.mk p l).entries.length ∨ 30 < (Evt.mk ky sy py dy gy qy).puts.length ∨ 30 < (Evt.mk ky sy py dy gy qy).drops.length
  · rw [decide_eq_true h2] at g2
    simp (maxSteps := 1000000) (disch := omega) only [c7, orc_cons, lst_cells hl, lst_cells hxp, lst_cells hxd, lst_cells hyp, lst_cells hyd, List.replicate, aliveS, g1, g2, go_sem, Option.map_none, Option.map_some, ↓reduceIte, Nat.reduceBEq, Nat.reduceAdd, Nat.reduceSub, Nat.reduceEqDiff, Nat.reduceLeDiff, Nat.reduceMul, Nat.reduceLT, Int.reduceLT, Int.reduceLE, Int.reduceAdd, Int.reduceSub, Int.reduceMul, Int.reduceNeg, Int.reduceEq, Int.reduceNe, Int.reduceToNat, decide_true, decide_false, iaddr_i, iaddr_sl_i, not_true_eq_false, not_false_eq_true, reduceCtorEq, ne_eq, forall_const, false_imp_iff, true_imp_iff, implies_true, Int.cast_ofNat_Int, Int.natCast_zero, Int.natCast_one, Int.add_zero, Int.zero_add]
    exact wkv_drop rfl
  rw [decide_eq_false h2] at g2
  by_cases h3 : kx = 1
  rotate_left
  · simp (maxSteps := 1000000) (disch := omega) only [c7, orc_cons, lst_cells hl, lst_cells hxp, lst_cells hxd, lst_cells hyp, lst_cells hyd, List.replicate, aliveS, g1, g2, h3, go_sem, Option.map_none, Option.map_some, ↓reduceIte, Nat.reduceBEq, Nat.reduceAdd, Nat.reduceSub, Nat.reduceEqDiff, Nat.reduceLeDiff, Nat.reduceMul, Nat.reduceLT, Int.reduceLT, Int.reduceLE, Int.reduceAdd, Int.reduceSub, Int.reduceMul, Int.reduceNeg, Int.reduceEq, Int.reduceNe, Int.reduceToNat, decide_true, decide_false, iaddr_i, iaddr_sl_i, not_true_eq_false, not_false_eq_true, reduceCtorEq, ne_eq, forall_const, false_imp_iff, true_imp_iff, implies_true, Int.cast_ofNat_Int, Int.natCast_zero, Int.natCast_one, Int.add_zero, Int.zero_add]
    exact wkv_drop rfl
  subst h3
  by_cases h4 : ky = 1
  rotate_left
  · simp (maxSteps := 1000000) (disch := omega) only [c7, orc_cons, lst_cells hl, lst_cells hxp, lst_cells hxd, lst_cells hyp, lst_cells hyd, List.replicate, aliveS, g1, g2, h4, go_sem, Option.map_none, Option.map_some, ↓reduceIte, Nat.reduceBEq, Nat.reduceAdd, Nat.reduceSub, Nat.reduceEqDiff, Nat.reduceLeDiff, Nat.reduceMul, Nat.reduceLT, Int.reduceLT, Int.reduceLE, Int.reduceAdd, Int.reduceSub, Int.reduceMul, Int.reduceNeg, Int.reduceEq, Int.reduceNe, Int.reduceToNat, decide_true, decide_false, iaddr_i, iaddr_sl_i, not_true_eq_false, not_false_eq_true, reduceCtorEq, ne_eq, forall_const, false_imp_iff, true_imp_iff, implies_true, Int.cast_ofNat_Int, Int.natCast_zero, Int.natCast_one, Int.add_zero, Int.zero_add]
    exact wkv_drop rfl
  subst h4
  simp only [not_or, Nat.not_lt] at h1 h2
  obtain ⟨h11, h12, h13⟩ := h1
  have h11 : l.length ≤ 30 := h11
  have h12 : px.length ≤ 30 := h12
  have h13 : dx.length ≤ 30 := h13
  obtain ⟨_, h22, h23⟩ := h2
  have h22 : py.length ≤ 30 := h22
  have h23 : dy.length ≤ 30 := h23
  have hbf : (Bk.mk p l).fits := ⟨by show l.length ≤ _; omega, fun x hx => (hgl x hx).1.fits⟩
  obtain ⟨ex, hex⟩ : ∃ ex, ex = Evt.mk 1 sx px dx gx qx := ⟨_, rfl⟩
  obtain ⟨ey, hey⟩ : ∃ ey, ey = Evt.mk 1 sy py dy gy qy := ⟨_, rfl⟩
  have hxf : ex.fits := by rw [hex]; exact ⟨by show px.length ≤ _; omega, by show dx.length ≤ _; omega, fun x hx => (hgx x hx).fits⟩
  have hyf : ey.fits := by rw [hey]; exact ⟨by show py.length ≤ _; omega, by show dy.length ≤ _; omega, fun x hx => (hgy x hx).fits⟩
  obtain ⟨M0, hM0⟩ : ∃ M0, M0 = S ++ [Blk.cells [.i .u64 p, s] 0 none true, .cells [.i .i64 1, .i .i64 sx, xp, xd, .i .u64 gx, .i .u64 qx] 0 none true, .cells [.i .i64 1, .i .i64 sy, yp, yd, .i .u64 gy, .i .u64 qy] 0 none true] := ⟨_, rfl⟩
  have hS0 : S <+: M0 := by rw [hM0]; exact ext_app _
  have z0 : M0[S.length]? = some (.cells [.i .u64 p, s] 0 none true) := by rw [hM0, at_app0]; rfl
  have z1 : M0[S.length + 1]? = some (.cells [.i .i64 1, .i .i64 sx, xp, xd, .i .u64 gx, .i .u64 qx] 0 none true) := by rw [hM0, at_app]; rfl
  have z2 : M0[S.length + 2]? = some (.cells [.i .i64 1, .i .i64 sy, yp, yd, .i .u64 gy, .i .u64 qy] 0 none true) := by rw [hM0, at_app]; rfl
  have ex0 : evtOf S [.i .i64 1, .i .i64 sx, xp, xd, .i .u64 gx, .i .u64 qx] = some ex := by rw [hex]; exact evtOf_mk hxp hxd
  have ey0 : evtOf S [.i .i64 1, .i .i64 sy, yp, yd, .i .u64 gy, .i .u64 qy] = some ey := by rw [hey]; exact evtOf_mk hyp hyd
  have sux : subsS [.ag [.i .i64 1, .i .i64 sx, xp, xd, .i .u64 gx, .i .u64 qx]] M0 = some (retX true M0 ex.subs, retM true (intE .i64) M0 ex.subs) := by
    simp only [subsS, evtOf_ext ex0 hS0]; rw [if_pos hxf]
  have hX := retX_lst (z := true) (E := intE .i64) (S := M0) (l := ex.subs)
  have hXM : M0 <+: retM true (intE .i64) M0 ex.subs := retM_ext
  generalize retX true M0 ex.subs = X0 at sux hX
  generalize retM true (intE .i64) M0 ex.subs = M1 at sux hX hXM
  have hkx : ex.kind = 1 := by rw [hex]
  have hky : ey.kind = 1 := by rw [hey]
  have hxl : ex.subs.length ≤ 60 := by rw [hex]; show (dx ++ px.map (·.sub)).length ≤ 60; rw [List.length_append, List.length_map]; omega
  have hyl : ey.subs.length ≤ 60 := by rw [hey]; show (dy ++ py.map (·.sub)).length ≤ 60; rw [List.length_append, List.length_map]; omega
  rw [hM0] at sux
  simp (maxSteps := 1000000) (disch := omega) only [c7, orc_cons, lst_cells hl, lst_cells hxp, lst_cells hxd, lst_cells hyp, lst_cells hyd, List.replicate, aliveS, g1, g2, sux, lst_len hX, go_sem, Option.map_none, Option.map_some, ↓reduceIte, Nat.reduceBEq, Nat.reduceAdd, Nat.reduceSub, Nat.reduceEqDiff, Nat.reduceLeDiff, Nat.reduceMul, Nat.reduceLT, Int.reduceLT, Int.reduceLE, Int.reduceAdd, Int.reduceSub, Int.reduceMul, Int.reduceNeg, Int.reduceEq, Int.reduceNe, Int.reduceToNat, decide_true, decide_false, iaddr_i, iaddr_sl_i, not_true_eq_false, not_false_eq_true, reduceCtorEq, ne_eq, forall_const, false_imp_iff, true_imp_iff, implies_true, Int.cast_ofNat_Int, Int.natCast_zero, Int.natCast_one, Int.add_zero, Int.zero_add]
  refine wp_loop (fun j e M dl => dl = [] ∧ ∃ (t : Nat), j = ex.subs.length - t ∧ t ≤ ex.subs.length ∧ M1 <+: M ∧ (∀ n ∈ ex.subs.take t, n ∉ ey.subs) ∧ e.get 5 = .p (S.length + 2) 0 0 ∧ e.get 40 = X0 ∧ e.get 4 = .p (S.length + 1) 0 0 ∧ e.get 3 = .p S.length 0 0 ∧ e.get 41 = .i .i64 ex.subs.length ∧ e.get 42 = .i .i64 t) (j := ex.subs.length)
    ⟨rfl, 0, rfl, Nat.zero_le _, ext_refl, by simp, rfl, rfl, rfl, rfl, rfl, rfl⟩ ?_
  rintro j e M d' ⟨rfl, t, rfl, ht, hM, hdj, e5, e40, e4, e3, e41, e42⟩
  refine W_sound oBor_ok mixed _ _ _ _ _ ?_
  have hXl := lst_ext hX hM
  have w0 := at_pre (hXM.trans hM) z0
  have w1 := at_pre (hXM.trans hM) z1
  have w2 := at_pre (hXM.trans hM) z2
  have hSM := hS0.trans (hXM.trans hM)
  by_cases htl : t < ex.subs.length
  · obtain ⟨bi, o, v, cap, exx, rfl⟩ := lst_sl hX htl
    have hc := lstV_cell hXl rfl (fun a => rfl) htl []
    rw [List.append_nil] at hc
    have htI : (t : Int) < ex.subs.length := by omega
    have ht6 : t < 1000000 := by omega
    have htk : ex.subs.take (t + 1) = ex.subs.take t ++ [ex.subs[t]] := List.take_succ_eq_append_getElem htl
    generalize ex.subs[t] = n at hc htk
    have suy : subsS [.ag [.i .i64 1, .i .i64 sy, yp, yd, .i .u64 gy, .i .u64 qy]] M = some (retX true M ey.subs, retM true (intE .i64) M ey.subs) := by
      simp only [subsS, evtOf_ext ey0 hSM]; rw [if_pos hyf]
    have hY := retX_lst (z := true) (E := intE .i64) (S := M) (l := ey.subs)
    have hYM : M <+: retM true (intE .i64) M ey.subs := retM_ext
    generalize retX true M ey.subs = Y0 at suy hY
    generalize retM true (intE .i64) M ey.subs = M2 at suy hY hYM
    simp (maxSteps := 1000000) (disch := omega) only [c7l1, e5, e40, e4, e3, e41, e42, htI, Int.toNat_natCast, Nat.mul_one, hc, w2, orc_cons, suy, lst_len hY, go_sem, Option.map_none, Option.map_some, ↓reduceIte, Nat.reduceBEq, Nat.reduceAdd, Nat.reduceSub, Nat.reduceEqDiff, Nat.reduceLeDiff, Nat.reduceMul, Nat.reduceLT, Int.reduceLT, Int.reduceLE, Int.reduceAdd, Int.reduceSub, Int.reduceMul, Int.reduceNeg, Int.reduceEq, Int.reduceNe, Int.reduceToNat, decide_true, decide_false, iaddr_i, iaddr_sl_i, not_true_eq_false, not_false_eq_true, reduceCtorEq, ne_eq, forall_const, false_imp_iff, true_imp_iff, implies_true, Int.cast_ofNat_Int, Int.natCast_zero, Int.natCast_one, Int.add_zero, Int.zero_add]
    refine wp_loop (fun j e M' dl => dl = [] ∧ M' = M2 ∧ ∃ (u : Nat), j = ey.subs.length - u ∧ u ≤ ey.subs.length ∧ n ∉ ey.subs.take u ∧ e.get 8 = .i .i64 n ∧ e.get 47 = Y0 ∧ e.get 5 = .p (S.length + 2) 0 0 ∧ e.get 40 = .sl bi o v ex.subs.length cap exx ∧ e.get 4 = .p (S.length + 1) 0 0 ∧ e.get 3 = .p S.length 0 0 ∧ e.get 41 = .i .i64 ex.subs.length ∧ e.get 42 = .i .i64 t ∧ e.get 48 = .i .i64 ey.subs.length ∧ e.get 49 = .i .i64 u) (j := ey.subs.length) ?_ ?_
    · exact ⟨rfl, rfl, 0, rfl, Nat.zero_le _, by simp, rfl, rfl, rfl, rfl, rfl, rfl, rfl, rfl, rfl, rfl⟩
    rintro j2 e2 M3 d2 ⟨rfl, rfl, u, rfl, hu, hnu, f8, f47, f5, f40, f4, f3, f41, f42, f48, f49⟩
    refine W_sound oBor_ok mixed _ _ _ _ _ ?_
    by_cases hul : u < ey.subs.length
    · obtain ⟨bj, oj, vj, capj, exj, rfl⟩ := lst_sl hY hul
      have hcj := lstV_cell hY rfl (fun a => rfl) hul []
      rw [List.append_nil] at hcj
      have huI : (u : Int) < ey.subs.length := by omega
      have hu6 : u < 1000000 := by omega
      have huk : ey.subs.take (u + 1) = ey.subs.take u ++ [ey.subs[u]] := List.take_succ_eq_append_getElem hul
      generalize ey.subs[u] = m at hcj huk
      by_cases hnm : n = m
      · simp (maxSteps := 1000000) (disch := omega) only [c7l0, f8, f47, f5, f40, f4, f3, f41, f42, f48, f49, huI, Int.toNat_natCast, Nat.mul_one, hcj, hnm, go_sem, Option.map_none, Option.map_some, ↓reduceIte, Nat.reduceBEq, Nat.reduceAdd, Nat.reduceSub, Nat.reduceEqDiff, Nat.reduceLeDiff, Nat.reduceMul, Nat.reduceLT, Int.reduceLT, Int.reduceLE, Int.reduceAdd, Int.reduceSub, Int.reduceMul, Int.reduceNeg, Int.reduceEq, Int.reduceNe, Int.reduceToNat, decide_true, decide_false, iaddr_i, iaddr_sl_i, not_true_eq_false, not_false_eq_true, reduceCtorEq, ne_eq, forall_const, false_imp_iff, true_imp_iff, implies_true, Int.cast_ofNat_Int, Int.natCast_zero, Int.natCast_one, Int.add_zero, Int.zero_add]
        exact wkv_dropP (hSM.trans hYM) rfl
      · simp (maxSteps := 1000000) (disch := omega) only [c7l0, f8, f47, f5, f40, f4, f3, f41, f42, f48, f49, huI, Int.toNat_natCast, Nat.mul_one, hcj, hnm, wrapS hu6, go_sem, Option.map_none, Option.map_some, ↓reduceIte, Nat.reduceBEq, Nat.reduceAdd, Nat.reduceSub, Nat.reduceEqDiff, Nat.reduceLeDiff, Nat.reduceMul, Nat.reduceLT, Int.reduceLT, Int.reduceLE, Int.reduceAdd, Int.reduceSub, Int.reduceMul, Int.reduceNeg, Int.reduceEq, Int.reduceNe, Int.reduceToNat, decide_true, decide_false, iaddr_i, iaddr_sl_i, not_true_eq_false, not_false_eq_true, reduceCtorEq, ne_eq, forall_const, false_imp_iff, true_imp_iff, implies_true, Int.cast_ofNat_Int, Int.natCast_zero, Int.natCast_one, Int.add_zero, Int.zero_add]
        refine ⟨ey.subs.length - (u + 1), by omega, u + 1, rfl, hul, ?_, rfl⟩
        rw [huk, List.mem_append, not_or]
        exact ⟨hnu, fun q => hnm (List.mem_singleton.1 q)⟩
    · have huI : ¬ (u : Int) < ey.subs.length := by omega
      rw [List.take_of_length_le (by omega)] at hnu
      simp (maxSteps := 1000000) (disch := omega) only [c7l0, f8, f47, f5, f40, f4, f3, f41, f42, f48, f49, huI, wrapS ht6, go_sem, Option.map_none, Option.map_some, ↓reduceIte, Nat.reduceBEq, Nat.reduceAdd, Nat.reduceSub, Nat.reduceEqDiff, Nat.reduceLeDiff, Nat.reduceMul, Nat.reduceLT, Int.reduceLT, Int.reduceLE, Int.reduceAdd, Int.reduceSub, Int.reduceMul, Int.reduceNeg, Int.reduceEq, Int.reduceNe, Int.reduceToNat, decide_true, decide_false, iaddr_i, iaddr_sl_i, not_true_eq_false, not_false_eq_true, reduceCtorEq, ne_eq, forall_const, false_imp_iff, true_imp_iff, implies_true, Int.cast_ofNat_Int, Int.natCast_zero, Int.natCast_one, Int.add_zero, Int.zero_add]
      refine ⟨ex.subs.length - (t + 1), by omega, t + 1, rfl, htl, hM.trans hYM, ?_, rfl⟩
      rw [htk]
      intro a ha
      rcases List.mem_append.1 ha with h | h
      · exact hdj a h
      · rw [List.mem_singleton.1 h]; exact hnu
  · have htI : ¬ (t : Int) < ex.subs.length := by omega
    rw [List.take_of_length_le (by omega)] at hdj
    obtain ⟨C, M3, hc1, hC, hM3⟩ := apply_call (bookOf_mk (p := p) (lst_ext hl hSM)) (evtOf_ext ex0 hSM) hbf hxf
    have hS3 := (hSM.trans hM3).trans (ext_app [Blk.cells [.i .u64 ((Bk.mk p l).after ex).period, C] 0 none true])
    have hcf := after_fits hbf hxf
    obtain ⟨D, M4, hc2, hD, hM4⟩ := apply_call (b := (Bk.mk p l).after ex) (bookOf_mk (p := ((Bk.mk p l).after ex).period) (lstV_grow hC [Blk.cells [.i .u64 ((Bk.mk p l).after ex).period, C] 0 none true])) (evtOf_ext ey0 hS3) hcf hyf
    have hS4 := (hS3.trans hM4).trans (ext_app [Blk.cells [.i .u64 (((Bk.mk p l).after ex).after ey).period, D] 0 none true])
    obtain ⟨G, M5, hc3, hG, hM5⟩ := apply_call (bookOf_mk (p := p) (lst_ext hl hS4)) (evtOf_ext ey0 hS4) hbf hyf
    have hS5 := (hS4.trans hM5).trans (ext_app [Blk.cells [.i .u64 ((Bk.mk p l).after ey).period, G] 0 none true])
    have hgf := after_fits hbf hyf
    obtain ⟨Q, M6, hc4, hQ, hM6⟩ := apply_call (b := (Bk.mk p l).after ey) (bookOf_mk (p := ((Bk.mk p l).after ey).period) (lstV_grow hG [Blk.cells [.i .u64 ((Bk.mk p l).after ey).period, G] 0 none true])) (evtOf_ext ex0 hS5) hgf hxf
    have hS6 := hS5.trans hM6
    have hkf := after_fits hgf hxf
    have hdf := after_fits hcf hyf
    have hord := order_after (b := ⟨p, l⟩) hkx hky hdj
    have M35 := (ext_app (S := M3) [Blk.cells [.i .u64 ((Bk.mk p l).after ex).period, C] 0 none true]).trans hM4
    have M46 := (ext_app (S := M4) [Blk.cells [.i .u64 (((Bk.mk p l).after ex).after ey).period, D] 0 none true]).trans hM5
    have M57 := (ext_app (S := M5) [Blk.cells [.i .u64 ((Bk.mk p l).after ey).period, G] 0 none true]).trans hM6
    have u0 := fun L => at_old (L := L) (at_pre hM3 w0)
    have u1 := fun L => at_old (L := L) (at_pre hM3 w1)
    have u2 := fun L => at_old (L := L) (at_pre hM3 w2)
    have v0 := fun L => at_old (L := L) (at_pre M35 (at_pre hM3 w0))
    have v1 := fun L => at_old (L := L) (at_pre M35 (at_pre hM3 w1))
    have v2 := fun L => at_old (L := L) (at_pre M35 (at_pre hM3 w2))
    have x1 := fun L => at_old (L := L) (at_pre M46 (at_pre M35 (at_pre hM3 w1)))
    have hDb : ∀ L, (M6 ++ L)[M4.length]? = some (.cells [.i .u64 (((Bk.mk p l).after ex).after ey).period, D] 0 none true) := fun L => at_old (at_pre M57 (at_pre hM5 (by rw [at_app0]; rfl)))
    have hD6 := lst_ext hD (M46.trans M57)
    have hS7 := fun L => hS6.trans (ext_app L)
    have hsm : (((Bk.mk p l).after ex).after ey) = (((Bk.mk p l).after ey).after ex) → ∀ L, bsameS [.ag [.i .u64 (((Bk.mk p l).after ex).after ey).period, D], .ag [.i .u64 (((Bk.mk p l).after ey).after ex).period, Q]] (M6 ++ L) = some (.b true, M6 ++ L) := fun he L => by
      simp only [bsameS, bookOf_mk (p := (((Bk.mk p l).after ex).after ey).period) (lstV_grow hD6 L), bookOf_mk (p := (((Bk.mk p l).after ey).after ex).period) (lstV_grow hQ L)]
      rw [if_pos hdf.1, he]; simp
    rcases err_or (Bk.mk p l) ex with q0 | q0
    rotate_left
    · rw [q0] at hc1
      simp (maxSteps := 1000000) (disch := omega) only [c7l1, e5, e40, e4, e3, e41, e42, htI, w0, w1, orc_cons, hc1, hc2, hc3, hc4, List.replicate, lst_cells hC, lst_one hC, lst_cells hD, lst_one hD, lst_cells hG, lst_one hG, lst_cells hQ, lst_one hQ, u0, u1, u2, v0, v1, v2, x1, hDb, go_sem, Option.map_none, Option.map_some, ↓reduceIte, Nat.reduceBEq, Nat.reduceAdd, Nat.reduceSub, Nat.reduceEqDiff, Nat.reduceLeDiff, Nat.reduceMul, Nat.reduceLT, Int.reduceLT, Int.reduceLE, Int.reduceAdd, Int.reduceSub, Int.reduceMul, Int.reduceNeg, Int.reduceEq, Int.reduceNe, Int.reduceToNat, decide_true, decide_false, iaddr_i, iaddr_sl_i, not_true_eq_false, not_false_eq_true, reduceCtorEq, ne_eq, forall_const, false_imp_iff, true_imp_iff, implies_true, Int.cast_ofNat_Int, Int.natCast_zero, Int.natCast_one, Int.add_zero, Int.zero_add]
      exact wkv_dropP (hS7 _) rfl
    rw [q0] at hc1
    rcases err_or ((Bk.mk p l).after ex) ey with q1 | q1
    rotate_left
    · rw [q1] at hc2
      simp (maxSteps := 1000000) (disch := omega) only [c7l1, e5, e40, e4, e3, e41, e42, htI, w0, w1, orc_cons, hc1, hc2, hc3, hc4, List.replicate, lst_cells hC, lst_one hC, lst_cells hD, lst_one hD, lst_cells hG, lst_one hG, lst_cells hQ, lst_one hQ, u0, u1, u2, v0, v1, v2, x1, hDb, go_sem, Option.map_none, Option.map_some, ↓reduceIte, Nat.reduceBEq, Nat.reduceAdd, Nat.reduceSub, Nat.reduceEqDiff, Nat.reduceLeDiff, Nat.reduceMul, Nat.reduceLT, Int.reduceLT, Int.reduceLE, Int.reduceAdd, Int.reduceSub, Int.reduceMul, Int.reduceNeg, Int.reduceEq, Int.reduceNe, Int.reduceToNat, decide_true, decide_false, iaddr_i, iaddr_sl_i, not_true_eq_false, not_false_eq_true, reduceCtorEq, ne_eq, forall_const, false_imp_iff, true_imp_iff, implies_true, Int.cast_ofNat_Int, Int.natCast_zero, Int.natCast_one, Int.add_zero, Int.zero_add]
      exact wkv_dropP (hS7 _) rfl
    rw [q1] at hc2
    rcases err_or (Bk.mk p l) ey with q2 | q2
    rotate_left
    · rw [q2] at hc3
      simp (maxSteps := 1000000) (disch := omega) only [c7l1, e5, e40, e4, e3, e41, e42, htI, w0, w1, orc_cons, hc1, hc2, hc3, hc4, List.replicate, lst_cells hC, lst_one hC, lst_cells hD, lst_one hD, lst_cells hG, lst_one hG, lst_cells hQ, lst_one hQ, u0, u1, u2, v0, v1, v2, x1, hDb, go_sem, Option.map_none, Option.map_some, ↓reduceIte, Nat.reduceBEq, Nat.reduceAdd, Nat.reduceSub, Nat.reduceEqDiff, Nat.reduceLeDiff, Nat.reduceMul, Nat.reduceLT, Int.reduceLT, Int.reduceLE, Int.reduceAdd, Int.reduceSub, Int.reduceMul, Int.reduceNeg, Int.reduceEq, Int.reduceNe, Int.reduceToNat, decide_true, decide_false, iaddr_i, iaddr_sl_i, not_true_eq_false, not_false_eq_true, reduceCtorEq, ne_eq, forall_const, false_imp_iff, true_imp_iff, implies_true, Int.cast_ofNat_Int, Int.natCast_zero, Int.natCast_one, Int.add_zero, Int.zero_add]
      exact wkv_dropP (hS7 _) rfl
    rw [q2] at hc3
    rcases err_or ((Bk.mk p l).after ey) ex with q3 | q3
    rotate_left
    · rw [q3] at hc4
      simp (maxSteps := 1000000) (disch := omega) only [c7l1, e5, e40, e4, e3, e41, e42, htI, w0, w1, orc_cons, hc1, hc2, hc3, hc4, List.replicate, lst_cells hC, lst_one hC, lst_cells hD, lst_one hD, lst_cells hG, lst_one hG, lst_cells hQ, lst_one hQ, u0, u1, u2, v0, v1, v2, x1, hDb, go_sem, Option.map_none, Option.map_some, ↓reduceIte, Nat.reduceBEq, Nat.reduceAdd, Nat.reduceSub, Nat.reduceEqDiff, Nat.reduceLeDiff, Nat.reduceMul, Nat.reduceLT, Int.reduceLT, Int.reduceLE, Int.reduceAdd, Int.reduceSub, Int.reduceMul, Int.reduceNeg, Int.reduceEq, Int.reduceNe, Int.reduceToNat, decide_true, decide_false, iaddr_i, iaddr_sl_i, not_true_eq_false, not_false_eq_true, reduceCtorEq, ne_eq, forall_const, false_imp_iff, true_imp_iff, implies_true, Int.cast_ofNat_Int, Int.natCast_zero, Int.natCast_one, Int.add_zero, Int.zero_add]
      exact wkv_dropP (hS7 _) rfl
    rw [q3] at hc4
    have hsm := hsm (hord q0 q1 q2 q3)
    simp (maxSteps := 1000000) (disch := omega) only [c7l1, e5, e40, e4, e3, e41, e42, htI, w0, w1, orc_cons, hc1, hc2, hc3, hc4, List.replicate, lst_cells hC, lst_one hC, lst_cells hD, lst_one hD, lst_cells hG, lst_one hG, lst_cells hQ, lst_one hQ, u0, u1, u2, v0, v1, v2, x1, hDb, hsm, go_sem, Option.map_none, Option.map_some, ↓reduceIte, Nat.reduceBEq, Nat.reduceAdd, Nat.reduceSub, Nat.reduceEqDiff, Nat.reduceLeDiff, Nat.reduceMul, Nat.reduceLT, Int.reduceLT, Int.reduceLE, Int.reduceAdd, Int.reduceSub, Int.reduceMul, Int.reduceNeg, Int.reduceEq, Int.reduceNe, Int.reduceToNat, decide_true, decide_false, iaddr_i, iaddr_sl_i, not_true_eq_false, not_false_eq_true, reduceCtorEq, ne_eq, forall_const, false_imp_iff, true_imp_iff, implies_true, Int.cast_ofNat_Int, Int.natCast_zero, Int.natCast_one, Int.add_zero, Int.zero_add]
    exact wkv_dropP (hS7 _) rfl
end Go.Proofs.Ytapgkaecamljbaa

namespace Go.Proofs.Ytapgkaecamljbaa
open Go.RowKit
set_option linter.unusedVariables false
set_option maxRecDepth 100000

section
variable {H : Type} {enc : TypeId × Value → H} {W : World}

theorem wf_u8 {n : Int} (h : (Lit.int .u8 n).wf = true) : u8 n := by
  simp only [Lit.wf, IntKind.min, IntKind.max, IntKind.signed, IntKind.bits, Bool.and_eq_true] at h
  unfold u8
  simpa using h
theorem wf_u64 {n : Int} (h : (Lit.int .u64 n).wf = true) : u64 n := by
  simp only [Lit.wf, IntKind.min, IntKind.max, IntKind.signed, IntKind.bits, Bool.and_eq_true] at h
  unfold u64
  simpa using h
theorem wf_i64 {n : Int} (h : (Lit.int .i64 n).wf = true) : i64 n := by
  simp only [Lit.wf, IntKind.min, IntKind.max, IntKind.signed, IntKind.bits, Bool.and_eq_true] at h
  unfold i64
  simpa using h

theorem enc_inj {α : Type} {E : Enc α} {a b : α} (h : E.enc a = E.enc b) : a = b := by
  have h1 := E.de a
  rw [h, E.de] at h1
  injection h1 with h1; exact h1.symm

end
end Go.Proofs.Ytapgkaecamljbaa

namespace Go.Proofs.Ytapgkaecamljbaa
open Go.RowKit
set_option linter.unusedVariables false
set_option maxRecDepth 100000

section
variable {H : Type} {enc : TypeId × Value → H} {W : World}

abbrev polSh : List CS := [.int .i64, .int .u8, .int .u8, .int .u8, .int .u8, .int .i64, .int .u64, .int .u64, .int .u64, .int .u64, .int .u64, .int .u64, .int .u64]
theorem rowPol {cs : List Value} (h : RowIs enc Try.prog W polSh cs) : ∃ a : Pol, cs.map (absV W) = a.enc ∧ a.good := by
  obtain ⟨h1, h2⟩ := h
  match cs, h1 with
  | [x0, x1, x2, x3, x4, x5, x6, x7, x8, x9, x10, x11, x12], _ =>
    obtain ⟨a0, rfl, w0⟩ := h2 0 (by simp) (by simp)
    obtain ⟨a1, rfl, w1⟩ := h2 1 (by simp) (by simp)
    obtain ⟨a2, rfl, w2⟩ := h2 2 (by simp) (by simp)
    obtain ⟨a3, rfl, w3⟩ := h2 3 (by simp) (by simp)
    obtain ⟨a4, rfl, w4⟩ := h2 4 (by simp) (by simp)
    obtain ⟨a5, rfl, w5⟩ := h2 5 (by simp) (by simp)
    obtain ⟨a6, rfl, w6⟩ := h2 6 (by simp) (by simp)
    obtain ⟨a7, rfl, w7⟩ := h2 7 (by simp) (by simp)
    obtain ⟨a8, rfl, w8⟩ := h2 8 (by simp) (by simp)
    obtain ⟨a9, rfl, w9⟩ := h2 9 (by simp) (by simp)
    obtain ⟨a10, rfl, w10⟩ := h2 10 (by simp) (by simp)
    obtain ⟨a11, rfl, w11⟩ := h2 11 (by simp) (by simp)
    obtain ⟨a12, rfl, w12⟩ := h2 12 (by simp) (by simp)
    exact ⟨⟨a0, a1, a2, a3, a4, a5, a6, a7, a8, a9, a10, a11, a12⟩, rfl, wf_i64 w0, ⟨wf_u8 w1, wf_u8 w2, wf_u8 w3, wf_u8 w4⟩, wf_i64 w5, wf_u64 w6, wf_u64 w7, wf_u64 w8, wf_u64 w9, wf_u64 w10, wf_u64 w11, wf_u64 w12⟩
abbrev entSh : List CS := [.int .i64, .int .u8, .int .u8, .int .u8, .int .u8, .int .i64, .int .u64, .int .u64, .int .u64, .int .u64, .int .u64, .int .u64, .int .u64, .int .u64]
theorem rowEnt {cs : List Value} (h : RowIs enc Try.prog W entSh cs) : ∃ a : Ent, cs.map (absV W) = a.enc ∧ a.good := by
  obtain ⟨h1, h2⟩ := h
  match cs, h1 with
  | [x0, x1, x2, x3, x4, x5, x6, x7, x8, x9, x10, x11, x12, x13], _ =>
    obtain ⟨a0, rfl, w0⟩ := h2 0 (by simp) (by simp)
    obtain ⟨a1, rfl, w1⟩ := h2 1 (by simp) (by simp)
    obtain ⟨a2, rfl, w2⟩ := h2 2 (by simp) (by simp)
    obtain ⟨a3, rfl, w3⟩ := h2 3 (by simp) (by simp)
    obtain ⟨a4, rfl, w4⟩ := h2 4 (by simp) (by simp)
    obtain ⟨a5, rfl, w5⟩ := h2 5 (by simp) (by simp)
    obtain ⟨a6, rfl, w6⟩ := h2 6 (by simp) (by simp)
    obtain ⟨a7, rfl, w7⟩ := h2 7 (by simp) (by simp)
    obtain ⟨a8, rfl, w8⟩ := h2 8 (by simp) (by simp)
    obtain ⟨a9, rfl, w9⟩ := h2 9 (by simp) (by simp)
    obtain ⟨a10, rfl, w10⟩ := h2 10 (by simp) (by simp)
    obtain ⟨a11, rfl, w11⟩ := h2 11 (by simp) (by simp)
    obtain ⟨a12, rfl, w12⟩ := h2 12 (by simp) (by simp)
    obtain ⟨a13, rfl, w13⟩ := h2 13 (by simp) (by simp)
    exact ⟨⟨⟨a0, a1, a2, a3, a4, a5, a6, a7, a8, a9, a10, a11, a12⟩, a13⟩, rfl, ⟨wf_i64 w0, ⟨wf_u8 w1, wf_u8 w2, wf_u8 w3, wf_u8 w4⟩, wf_i64 w5, wf_u64 w6, wf_u64 w7, wf_u64 w8, wf_u64 w9, wf_u64 w10, wf_u64 w11, wf_u64 w12⟩, wf_u64 w13⟩
/-- A slice's cell, as a list. -/
theorem cellEnts {v : Value} (h : CellIs enc Try.prog W (.slice 46) v) : ∃ l : List Ent, lstV entE (absS W) (absV W v) = some l ∧ ∀ x ∈ l, x.good := by
  have s2 : shapes Try.prog 20 46 = some entSh := by kernel_rfl
  have c2 : Try.prog.cellsOf 46 = 14 := by kernel_rfl
  obtain ⟨l, hl, hf, _⟩ := lst_of (e := Ent.enc) (sz := 14) c2 (by omega) h (fun cs fuel x ht => let ⟨a, h1, h2⟩ := rowEnt (shapes_ok 20 fuel 46 cs x _ ht s2); ⟨a, h1, rfl⟩)
    (good := Ent.good) (fun cs fuel x a ht he => let ⟨a', h1, h2⟩ := rowEnt (shapes_ok 20 fuel 46 cs x _ ht s2); enc_inj (E := entE) (h1.symm.trans he) ▸ h2)
  exact ⟨l, lst_lstV (E := entE) hl, hf⟩
theorem cellPols {v : Value} (h : CellIs enc Try.prog W (.slice 44) v) : ∃ l : List Pol, lstV polE (absS W) (absV W v) = some l ∧ ∀ x ∈ l, x.good := by
  have s2 : shapes Try.prog 20 44 = some polSh := by kernel_rfl
  have c2 : Try.prog.cellsOf 44 = 13 := by kernel_rfl
  obtain ⟨l, hl, hf, _⟩ := lst_of (e := Pol.enc) (sz := 13) c2 (by omega) h (fun cs fuel x ht => let ⟨a, h1, h2⟩ := rowPol (shapes_ok 20 fuel 44 cs x _ ht s2); ⟨a, h1, rfl⟩)
    (good := Pol.good) (fun cs fuel x a ht he => let ⟨a', h1, h2⟩ := rowPol (shapes_ok 20 fuel 44 cs x _ ht s2); enc_inj (E := polE) (h1.symm.trans he) ▸ h2)
  exact ⟨l, lst_lstV (E := polE) hl, hf⟩
theorem cellInts {v : Value} (h : CellIs enc Try.prog W (.slice 3) v) : ∃ l : List Int, lstV (intE .i64) (absS W) (absV W v) = some l ∧ ∀ x ∈ l, i64 x := by
  have s2 : shapes Try.prog 20 3 = some [.int .i64] := by kernel_rfl
  have c2 : Try.prog.cellsOf 3 = 1 := by kernel_rfl
  have row : ∀ cs : List Value, RowIs enc Try.prog W [.int .i64] cs → ∃ a : Int, cs.map (absV W) = [AV.i .i64 a] ∧ i64 a := fun cs h => by
    obtain ⟨h1, h2⟩ := h
    match cs, h1 with
    | [x], _ =>
      obtain ⟨a, rfl, w⟩ := h2 0 (by simp) (by simp)
      exact ⟨a, rfl, wf_i64 w⟩
  obtain ⟨l, hl, hf, _⟩ := lst_of (e := fun n => [AV.i .i64 n]) (sz := 1) c2 (by omega) h (fun cs fuel x ht => let ⟨a, h1, h2⟩ := row _ (shapes_ok 20 fuel 3 cs x _ ht s2); ⟨a, h1, rfl⟩)
    (good := i64) (fun cs fuel x a ht he => let ⟨a', h1, h2⟩ := row _ (shapes_ok 20 fuel 3 cs x _ ht s2); enc_inj (E := intE .i64) (h1.symm.trans he) ▸ h2)
  exact ⟨l, lst_lstV (E := intE .i64) hl, hf⟩

theorem argBook {v : Value} {base : Nat} {d : DataW H} {ps : List MemPlace} (o : Value.okWide Try.prog W .any base 25 v) (h : DataW.Trod enc Try.prog W 0 (fun _ => true) true 25 v d ps) :
    ∃ p s l, absA W v = .ag [.i .u64 p, s] ∧ lstV entE (absS W) s = some l ∧ (∀ x ∈ l, x.good) ∧ u64 p := by
  have s0 : shapes Try.prog 20 25 = some [.int .u64, .slice 46] := by kernel_rfl
  obtain ⟨cs, rfl⟩ : ∃ cs, v = .agg cs := by
    unfold Value.okWide at o
    rw [Try.underlying25] at o
    obtain ⟨cs, h, _⟩ := o
    exact ⟨cs, h⟩
  obtain ⟨h1, h2⟩ := arg_row h s0
  have h1 : cs.toList.length = 2 := h1
  have h2 : ∀ (i : Nat) (h : i < 2) (h' : i < cs.toList.length), CellIs enc Try.prog W ([CS.int .u64, CS.slice 46][i]) cs.toList[i] := fun i h h' => h2 i h h'
  generalize hcs : cs.toList = cl at h1 h2
  match cl, h1 with
  | [x, y], _ =>
    obtain ⟨p, rfl, wp⟩ := h2 0 (by omega) (by simp)
    obtain ⟨l, hl, hf⟩ := cellEnts (h2 1 (by omega) (by simp))
    refine ⟨p, absV W y, l, ?_, hl, hf, wf_u64 wp⟩
    show AV.ag (cs.toList.map (absV W)) = _
    rw [hcs]; rfl
end
end Go.Proofs.Ytapgkaecamljbaa

namespace Go.Proofs.Ytapgkaecamljbaa
open Go.RowKit
set_option linter.unusedVariables false
set_option maxRecDepth 100000

section
variable {H : Type} {enc : TypeId × Value → H} {W : World}
theorem cellOpen {e : TypeId} {n : Nat} {v : Value} (h : CellIs enc Try.prog W (.slice e) v) : openQ (absS W) n (absV W v) = true := by
  rcases h with rfl | ⟨a, len, cap, rfl, hl, _, _⟩
  · rfl
  · obtain ⟨b, o, sp⟩ := a
    simp only [absV]
    split
    · rfl
    · cases numOf W b with
      | none => rfl
      | some i => cases sp with
        | none => simp [openQ, hl]
        | some q => rfl
end
end Go.Proofs.Ytapgkaecamljbaa

namespace Go.Proofs.Ytapgkaecamljbaa
open Go.RowKit
set_option linter.unusedVariables false
set_option maxRecDepth 100000

section
variable {H : Type} {enc : TypeId × Value → H} {W : World}
theorem argEvtP {v : Value} {base : Nat} {d : DataW H} {ps : List MemPlace} (o : Value.okWide Try.prog W .any base 29 v) (h : DataW.Trod enc Try.prog W 0 (fun _ => true) true 29 v d ps) :
    ∃ k s xp xd g q l2 l3, absA W v = .ag [.i .i64 k, .i .i64 s, xp, xd, .i .u64 g, .i .u64 q] ∧ lstV polE (absS W) xp = some l2 ∧ lstV (intE .i64) (absS W) xd = some l3 ∧ (∀ x ∈ l2, x.good) ∧ (∀ x ∈ l3, i64 x) ∧ i64 k ∧ i64 s ∧ u64 g ∧ u64 q ∧ openQ (absS W) 13 xp = true := by
  have s0 : shapes Try.prog 20 29 = some [.int .i64, .int .i64, .slice 44, .slice 3, .int .u64, .int .u64] := by kernel_rfl
  obtain ⟨cs, rfl⟩ : ∃ cs, v = .agg cs := by
    unfold Value.okWide at o
    rw [Try.underlying29] at o
    obtain ⟨cs, h, _⟩ := o
    exact ⟨cs, h⟩
  obtain ⟨h1, h2⟩ := arg_row h s0
  have h1 : cs.toList.length = 6 := h1
  have h2 : ∀ (i : Nat) (h : i < 6) (h' : i < cs.toList.length), CellIs enc Try.prog W ([CS.int .i64, CS.int .i64, CS.slice 44, CS.slice 3, CS.int .u64, CS.int .u64][i]) cs.toList[i] := fun i h h' => h2 i h h'
  generalize hcs : cs.toList = cl at h1 h2
  match cl, h1 with
  | [x0, x1, x2, x3, x4, x5], _ =>
    obtain ⟨a0, rfl, w0⟩ := h2 0 (by omega) (by simp)
    obtain ⟨a1, rfl, w1⟩ := h2 1 (by omega) (by simp)
    have hc2 := h2 2 (by omega) (by simp)
    obtain ⟨l2, hl2, hf2⟩ := cellPols hc2
    obtain ⟨l3, hl3, hf3⟩ := cellInts (h2 3 (by omega) (by simp))
    obtain ⟨a4, rfl, w4⟩ := h2 4 (by omega) (by simp)
    obtain ⟨a5, rfl, w5⟩ := h2 5 (by omega) (by simp)
    refine ⟨a0, a1, absV W x2, absV W x3, a4, a5, l2, l3, ?_, hl2, hl3, hf2, hf3, wf_i64 w0, wf_i64 w1, wf_u64 w4, wf_u64 w5, cellOpen hc2⟩
    show AV.ag (cs.toList.map (absV W)) = _
    rw [hcs]; rfl
end
end Go.Proofs.Ytapgkaecamljbaa

namespace Go.Proofs.Ytapgkaecamljbaa
open Go.RowKit
set_option linter.unusedVariables false
set_option maxRecDepth 100000
section
variable {H : Type} {enc : TypeId × Value → H}
theorem walkBookOrder (W : World) (v0 v1 v2 : Value) {base : Nat} (o0 : Value.okWide Try.prog W .any base 25 v0) (o1 : Value.okWide Try.prog W .any base 29 v1) (o2 : Value.okWide Try.prog W .any base 29 v2) {d0 d1 d2 : DataW H} {p0 p1 p2 : List MemPlace}
    (h0 : DataW.Trod enc Try.prog W 0 (fun _ => true) true 25 v0 d0 p0) (h1 : DataW.Trod enc Try.prog W 0 (fun _ => true) true 29 v1 d1 p1) (h2 : DataW.Trod enc Try.prog W 0 (fun _ => true) true 29 v2 d2 p2) :
    Calls Try.prog 7 #[v0, v1, v2] W fun e w' => e = .returned (.bool true) ∧ Below W.heap.size W w' := by
  obtain ⟨p, s, l, e0, hl, hf, hp⟩ := argBook o0 h0
  obtain ⟨k, sub, xp, xd, g, q, ps, ds, e1, hps, hds, hgp, _, _, _, _, _, ho⟩ := argEvtP o1 h1
  obtain ⟨k2, sub2, xp2, xd2, g2, q2, ps2, ds2, e2, hps2, hds2, hgp2, _, _, _, _, _, _⟩ := argEvtP o2 h2
  refine calls_of_fnOK (S' := absS W) ?_
  show FnOK Try.prog _ [absA W v0, absA W v1, absA W v2] _ _ _
  rw [e0, e1, e2]
  exact order_ok _ p s l k sub g q k2 sub2 g2 q2 xp xd xp2 xd2 ps ps2 ds ds2 hl hf hps hgp hds hps2 hgp2 hds2
end
end Go.Proofs.Ytapgkaecamljbaa

