/- Proved here: what the law of this claim leans on (an evaluator of the model's code, contracts of functions). No condition. -/
import Derived.Test.YtapgkaecamljbaaMd
namespace Go.Proofs.Ytapgkaecamljbaa
open Go.RowKit
set_option linter.unusedSimpArgs false
set_option linter.unusedVariables false
set_option maxRecDepth 10000

theorem oCo_ok : OK Try.prog (lamOf Try.prog) (orcOf [(41, placeS), (53, delS), (54, sortS)]) := orc_ok (by simpa using ⟨place_ok, del_ok, sort_ok⟩)
theorem commit_walk {S : Mem} {x : AV} {ce : List AV} {md : Option Nat} {c0 : Cf} {ev : Evt} {rx : AV} {rS : Mem} (hK : Kx S S md x c0) (hn : md = none → c0.l = []) (hev : evtOf (bs md S) ce = some ev) (hok : commitOk c0.l ev)
    (hF : (dropC ev.drops c0).2 = false → ∀ x' c M, Kx S M md x' c → c.v = c0.v → WkV S rx rS (.tu [.sn, .b false]) M)
    (hT : (dropC ev.drops c0).2 = true → ∀ x' M, Kx S M md x' (putC ev.puts (dropC ev.drops c0).1) → ∃ M', sortS [x', .f (.func 55) [] []] M = some (.tu [], M') ∧ WkV S rx rS (.tu [x', .b true]) M') :
    FnOK Try.prog 29 [x, .ag ce] S rx rS := by
  obtain ⟨xp, xd, rfl, hp, hd⟩ := evtOf_ok hev
  obtain ⟨k0, s0, ps, ds, g0, q0⟩ := ev
  obtain ⟨ho, hdn, hpn, hlim, hlim2⟩ := hok
  simp only at hp hd hF hT ho hdn hpn hlim hlim2
  refine fn_of_wp f29 rfl (W_sound oCo_ok mixed _ _ _ _ _ ?_)
  simp (maxSteps := 1000000) (disch := omega) only [c29, lst_cells hp, lst_cells hd, lst_len hd, List.replicate, go_sem, Option.map_none, Option.map_some, ↓reduceIte, Nat.reduceBEq, Nat.reduceAdd, Nat.reduceSub, Nat.reduceEqDiff, Nat.reduceLeDiff, Nat.reduceMul, Nat.reduceLT, Int.reduceLT, Int.reduceLE, Int.reduceAdd, Int.reduceSub, Int.reduceMul, Int.reduceNeg, Int.reduceEq, Int.reduceNe, Int.reduceToNat, decide_true, decide_false, iaddr_i, iaddr_sl_i, not_true_eq_false, not_false_eq_true, reduceCtorEq, ne_eq, forall_const, false_imp_iff, true_imp_iff, implies_true, Int.cast_ofNat_Int, Int.natCast_zero, Int.natCast_one, Int.add_zero, Int.zero_add]
  obtain ⟨evb, hevb⟩ : ∃ evb : Blk, evb = .cells [.i .i64 k0, .i .i64 s0, xp, xd, .i .u64 g0, .i .u64 q0] 0 none true := ⟨_, rfl⟩
  refine wp_loop (fun j e M dl => dl = [] ∧ ∃ (t : Nat) (c : Cf) (x' : AV), j = ds.length - t ∧ t ≤ ds.length ∧ Kx S M md x' c ∧ M[S.length]? = some evb ∧ dropC (ds.drop t) c = dropC ds c0 ∧ c.v = c0.v ∧ c.l.length ≤ c0.l.length ∧ (md = none → c.l = []) ∧
    e.get 13 = xd ∧ e.get 3 = .p S.length 0 0 ∧ e.get 14 = .i .i64 ds.length ∧ e.get 15 = .i .i64 t ∧ e.get 0 = x') (j := ds.length)
    ⟨rfl, 0, c0, x, rfl, Nat.zero_le _, hK.grow _, by rw [hevb, at_app0]; rfl, by rw [List.drop_zero], rfl, Nat.le_refl _, hn, rfl, rfl, rfl, rfl, rfl⟩ ?_
  rintro j e M d' ⟨rfl, t, c, x', rfl, ht, hKx, hE, hdc, hv, hcl, hmn, e13, e3, e14, e15, e0⟩
  refine W_sound oCo_ok mixed _ _ _ _ _ ?_
  have hpl := fun (n : Int) => place_eq hKx.lst n (by omega)
  have hbdE := hKx.ext
  have hpM := lst_ext hp hbdE
  have hdM := lst_ext hd hbdE
  by_cases htl : t < ds.length
  · obtain ⟨bi, o, v, cap, ex, rfl⟩ := lst_sl hd htl
    have hc := lstV_cell hdM rfl (fun a => rfl) htl []
    rw [List.append_nil] at hc
    have htI : (t : Int) < ds.length := by omega
    have hw1 : wrapV .i64 ((t : Int) + 1) = ((t + 1 : Nat) : Int) := by rw [wrap_i64 (by omega) (by omega)]; omega
    have hdr : ds.drop t = ds[t] :: ds.drop (t + 1) := List.drop_eq_getElem_cons htl
    rw [hdr] at hdc
    cases hi : c.l.findIdx? (hasSub ds[t]) with
    | none =>
      rw [dropC_none hi] at hdc
      simp (maxSteps := 1000000) (disch := omega) only [c29l0, e13, e3, e14, e15, e0, htI, Int.toNat_natCast, Nat.mul_one, hc, orc_cons, hpl, idx_eq_none hi, go_sem, Option.map_none, Option.map_some, ↓reduceIte, Nat.reduceBEq, Nat.reduceAdd, Nat.reduceSub, Nat.reduceEqDiff, Nat.reduceLeDiff, Nat.reduceMul, Nat.reduceLT, Int.reduceLT, Int.reduceLE, Int.reduceAdd, Int.reduceSub, Int.reduceMul, Int.reduceNeg, Int.reduceEq, Int.reduceNe, Int.reduceToNat, decide_true, decide_false, iaddr_i, iaddr_sl_i, not_true_eq_false, not_false_eq_true, reduceCtorEq, ne_eq, forall_const, false_imp_iff, true_imp_iff, implies_true, Int.cast_ofNat_Int, Int.natCast_zero, Int.natCast_one, Int.add_zero, Int.zero_add]
      exact hF (by rw [← hdc]) _ _ _ hKx hv
    | some k =>
      obtain ⟨hk, _, _⟩ := List.findIdx?_eq_some_iff_getElem.1 hi
      rw [dropC_some hi] at hdc
      have hk0 : ¬ ((k : Int) < 0) := by omega
      have hwk : wrapV .i64 ((k : Int) + 1) = (k : Int) + 1 := by rw [wrap_i64 (by omega) (by omega)]
      cases md with
      | none => rw [hmn rfl] at hk; cases hk
      | some i =>
        obtain ⟨x2, M2, hde, hK2, hM2⟩ := hKx.del hk (by omega)
        have hiS : i < S.length := hKx.2.2.1
        have hE2 : M2[S.length]? = some evb := by rw [hM2, at_set_ne (by omega)]; exact hE
        simp (maxSteps := 1000000) (disch := omega) only [c29l0, e13, e3, e14, e15, e0, htI, Int.toNat_natCast, Nat.mul_one, hc, orc_cons, hpl, idx_eq_some hi, hk0, hwk, hde, hw1, go_sem, Option.map_none, Option.map_some, ↓reduceIte, Nat.reduceBEq, Nat.reduceAdd, Nat.reduceSub, Nat.reduceEqDiff, Nat.reduceLeDiff, Nat.reduceMul, Nat.reduceLT, Int.reduceLT, Int.reduceLE, Int.reduceAdd, Int.reduceSub, Int.reduceMul, Int.reduceNeg, Int.reduceEq, Int.reduceNe, Int.reduceToNat, decide_true, decide_false, iaddr_i, iaddr_sl_i, not_true_eq_false, not_false_eq_true, reduceCtorEq, ne_eq, forall_const, false_imp_iff, true_imp_iff, implies_true, Int.cast_ofNat_Int, Int.natCast_zero, Int.natCast_one, Int.add_zero, Int.zero_add]
        refine ⟨ds.length - (t + 1), by omega, t + 1, c.del k, x2, rfl, htl, hK2, hE2, hdc, hv, ?_, rfl, rfl⟩
        have : (c.l.eraseIdx k).length ≤ c.l.length := List.length_eraseIdx_le ..
        exact Nat.le_trans this hcl
  · have htI : ¬ (t : Int) < ds.length := by omega
    obtain rfl : t = ds.length := by omega
    rw [List.drop_length] at hdc
    have hc1 : (dropC ds c0).2 = true ∧ (dropC ds c0).1 = c := by rw [← hdc]; exact ⟨rfl, rfl⟩
    rw [hc1.2] at hT
    have hT := hT hc1.1
    rw [hevb] at hE
    simp (maxSteps := 1000000) (disch := omega) only [c29l0, e13, e3, e14, e15, e0, htI, hE, lst_len hp, go_sem, Option.map_none, Option.map_some, ↓reduceIte, Nat.reduceBEq, Nat.reduceAdd, Nat.reduceSub, Nat.reduceEqDiff, Nat.reduceLeDiff, Nat.reduceMul, Nat.reduceLT, Int.reduceLT, Int.reduceLE, Int.reduceAdd, Int.reduceSub, Int.reduceMul, Int.reduceNeg, Int.reduceEq, Int.reduceNe, Int.reduceToNat, decide_true, decide_false, iaddr_i, iaddr_sl_i, not_true_eq_false, not_false_eq_true, reduceCtorEq, ne_eq, forall_const, false_imp_iff, true_imp_iff, implies_true, Int.cast_ofNat_Int, Int.natCast_zero, Int.natCast_one, Int.add_zero, Int.zero_add]
    refine wp_loop (fun j e M dl => dl = [] ∧ ∃ (t : Nat) (c1 : Cf) (x1 : AV), j = ps.length - t ∧ t ≤ ps.length ∧ Kx S M md x1 c1 ∧ putC (ps.drop t) c1 = putC ps c ∧ c1.l.length ≤ c.l.length + t ∧ e.get 0 = x1 ∧ e.get 31 = xp ∧ e.get 32 = .i .i64 ps.length ∧ e.get 33 = .i .i64 t) (j := ps.length)
      ⟨rfl, 0, c, x', rfl, Nat.zero_le _, hKx, by rw [List.drop_zero], Nat.le_refl _, rfl, rfl, rfl, rfl⟩ ?_
    clear hE hpl hbdE hpM hdM e13 e3 e14 e0 e15 hKx
    rintro j2 e2 M2 d2 ⟨rfl, t, c1, x1, rfl, ht2, hK1, hpc, hl1, g0', g31, g32, g33⟩
    refine W_sound oCo_ok mixed _ _ _ _ _ ?_
    have hpM := lst_ext hp hK1.ext
    have hpl := fun (L : Mem) (n : Int) => place_eq (hK1.grow L).lst n (by omega)
    by_cases htl : t < ps.length
    · obtain ⟨bi, o, v, cap, ex, rfl⟩ := lst_sl hp htl
      have hr := lstV_row hpM htl []
      rw [List.append_nil] at hr
      have hdr : ps.drop t = ps[t] :: ps.drop (t + 1) := List.drop_eq_getElem_cons htl
      rw [hdr] at hpc
      generalize ps[t] = p at hr hpc
      have hr : rowB (M2[bi]?) (o + t * 13) v 13 = some p.enc := hr
      have htI : (t : Int) < ps.length := by omega
      have hw1 : wrapV .i64 ((t : Int) + 1) = ((t + 1 : Nat) : Int) := by rw [wrap_i64 (by omega) (by omega)]; omega
      cases hi : c1.l.findIdx? (hasSub p.sub) with
      | none =>
        rw [putC_app hi] at hpc
        obtain ⟨x2, M3, ha, hK2⟩ := (hK1.grow [.cells p.enc 0 none true, .cells (entE.enc ⟨p, 0⟩) 0 none true]).app ⟨p, 0⟩ (by omega)
        simp only [entE, Ent.enc, Pol.enc] at ha hr
        simp (maxSteps := 1000000) (disch := omega) only [c29l1, g0', g31, g32, g33, htI, Int.toNat_natCast, hr, orc_cons, hpl, idx_eq_none hi, hw1, ha, go_sem, Option.map_none, Option.map_some, ↓reduceIte, Nat.reduceBEq, Nat.reduceAdd, Nat.reduceSub, Nat.reduceEqDiff, Nat.reduceLeDiff, Nat.reduceMul, Nat.reduceLT, Int.reduceLT, Int.reduceLE, Int.reduceAdd, Int.reduceSub, Int.reduceMul, Int.reduceNeg, Int.reduceEq, Int.reduceNe, Int.reduceToNat, decide_true, decide_false, iaddr_i, iaddr_sl_i, not_true_eq_false, not_false_eq_true, reduceCtorEq, ne_eq, forall_const, false_imp_iff, true_imp_iff, implies_true, Int.cast_ofNat_Int, Int.natCast_zero, Int.natCast_one, Int.add_zero, Int.zero_add]
        refine ⟨ps.length - (t + 1), by omega, t + 1, c1.app ⟨p, 0⟩, x2, rfl, htl, hK2, hpc, ?_, rfl, rfl⟩
        rw [Cf.app_l, List.length_append]
        show c1.l.length + 1 ≤ _
        omega
      | some k =>
        obtain ⟨hk, _, _⟩ := List.findIdx?_eq_some_iff_getElem.1 hi
        rw [putC_pol hi] at hpc
        have hk0 : (k : Int) ≥ 0 := by omega
        obtain ⟨i, cs, v', cap', rfl, hB, hcs, hK2⟩ := (hK1.grow [.cells p.enc 0 none true]).pol hk p
        simp only [Pol.enc] at hr hK2 hB
        simp (maxSteps := 1000000) (disch := omega) only [c29l1, g0', g31, g32, g33, htI, Int.toNat_natCast, hr, orc_cons, hpl, idx_eq_some hi, hw1, hk0, go_sem, Option.map_none, Option.map_some, ↓reduceIte, Nat.reduceBEq, Nat.reduceAdd, Nat.reduceSub, Nat.reduceEqDiff, Nat.reduceLeDiff, Nat.reduceMul, Nat.reduceLT, Int.reduceLT, Int.reduceLE, Int.reduceAdd, Int.reduceSub, Int.reduceMul, Int.reduceNeg, Int.reduceEq, Int.reduceNe, Int.reduceToNat, decide_true, decide_false, iaddr_i, iaddr_sl_i, not_true_eq_false, not_false_eq_true, reduceCtorEq, ne_eq, forall_const, false_imp_iff, true_imp_iff, implies_true, Int.cast_ofNat_Int, Int.natCast_zero, Int.natCast_one, Int.add_zero, Int.zero_add]
        rw [hB]
        simp only [stB, splice]
        rw [if_pos ⟨trivial, rfl, hcs, rfl⟩]
        simp only [List.append_assoc, List.length_cons, List.length_nil]
        simp (maxSteps := 1000000) (disch := omega) only [go_sem, Option.map_none, Option.map_some, ↓reduceIte, Nat.reduceBEq, Nat.reduceAdd, Nat.reduceSub, Nat.reduceEqDiff, Nat.reduceLeDiff, Nat.reduceMul, Nat.reduceLT, Int.reduceLT, Int.reduceLE, Int.reduceAdd, Int.reduceSub, Int.reduceMul, Int.reduceNeg, Int.reduceEq, Int.reduceNe, Int.reduceToNat, decide_true, decide_false, iaddr_i, iaddr_sl_i, not_true_eq_false, not_false_eq_true, reduceCtorEq, ne_eq, forall_const, false_imp_iff, true_imp_iff, implies_true, Int.cast_ofNat_Int, Int.natCast_zero, Int.natCast_one, Int.add_zero, Int.zero_add]
        refine ⟨ps.length - (t + 1), by omega, t + 1, c1.pol k p, _, rfl, htl, hK2, hpc, ?_, rfl, rfl⟩
        have : (c1.pol k p).l.length = c1.l.length := List.length_set ..
        omega
    · have htI : ¬ (t : Int) < ps.length := by omega
      obtain rfl : t = ps.length := by omega
      rw [List.drop_length] at hpc
      have hpc : c1 = putC ps c := hpc
      subst hpc
      obtain ⟨M', hs, hwk⟩ := hT x1 M2 hK1
      simp (maxSteps := 1000000) (disch := omega) only [c29l1, g0', g31, g32, g33, htI, orc_cons, hs, go_sem, Option.map_none, Option.map_some, ↓reduceIte, Nat.reduceBEq, Nat.reduceAdd, Nat.reduceSub, Nat.reduceEqDiff, Nat.reduceLeDiff, Nat.reduceMul, Nat.reduceLT, Int.reduceLT, Int.reduceLE, Int.reduceAdd, Int.reduceSub, Int.reduceMul, Int.reduceNeg, Int.reduceEq, Int.reduceNe, Int.reduceToNat, decide_true, decide_false, iaddr_i, iaddr_sl_i, not_true_eq_false, not_false_eq_true, reduceCtorEq, ne_eq, forall_const, false_imp_iff, true_imp_iff, implies_true, Int.cast_ofNat_Int, Int.natCast_zero, Int.natCast_one, Int.add_zero, Int.zero_add]
      exact hwk
end Go.Proofs.Ytapgkaecamljbaa

namespace Go.Proofs.Ytapgkaecamljbaa
open Go.RowKit
set_option linter.unusedSimpArgs false
set_option linter.unusedVariables false
set_option maxRecDepth 10000

noncomputable def endX (i v : Nat) (d : List Ent) : AV := open Classical in if d = [] then .se else .sl i 0 v d.length d.length false
noncomputable def commitR (i : Nat) (c0 : Cf) (e : Evt) (S : Mem) : AV × Mem :=
  if (dropC e.drops c0).2 = true then
    (.tu [endX i (putC e.puts (dropC e.drops c0).1).v (sortE (putC e.puts (dropC e.drops c0).1).l), .b true], S.set i (.cells ((sortE (putC e.puts (dropC e.drops c0).1).l).flatMap entE.enc) (putC e.puts (dropC e.drops c0).1).v (some 14) true))
  else (.tu [.sn, .b false], S.set i (.cells [] c0.v (some 14) true))
noncomputable def commitR0 (e : Evt) (S : Mem) : AV × Mem := match e.drops with
  | [] => (.tu [retX false S (sortE (putAll e.puts [])), .b true], retM false entE S (sortE (putAll e.puts [])))
  | _ :: _ => (.tu [.sn, .b false], S)
noncomputable def commitS : Spec := fun args S => match args with
  | [x, .ag ce] => open Classical in if noX S x = true then match evtOf S ce with
      | some e => if commitOk [] e ∧ (e.drops ≠ [] ∨ e.puts ≠ []) then some (commitR0 e S) else none
      | none => none
    else match x with
      | .sl i 0 v n cap false => match ownV entE S (.sl i 0 v n cap false), evtOf (S.take i) ce with
        | some l, some e => if commitOk l e ∧ ∃ cs, S[i]? = some (.cells cs v (some 14) true) then some (commitR i ⟨v, n, [], l⟩ e S) else none
        | _, _ => none
      | _ => none
  | _ => none
theorem putC_len : ∀ (ps : List Pol) (c : Cf), (putC ps c).l.length ≤ c.l.length + ps.length
  | [], c => Nat.le_refl _
  | p :: ps, c => by
    cases h : c.l.findIdx? (hasSub p.sub) with
    | none =>
      have := putC_len ps (c.app ⟨p, 0⟩)
      rw [Cf.app_l, List.length_append] at this
      simp only [putC, h, List.length_cons, List.length_nil] at this ⊢; omega
    | some k =>
      have := putC_len ps (c.pol k p)
      have h2 : (c.pol k p).l.length = c.l.length := List.length_set ..
      simp only [putC, h, List.length_cons]; omega
theorem dropC_len : ∀ (ds : List Int) (c : Cf), (dropC ds c).1.l.length ≤ c.l.length
  | [], c => Nat.le_refl _
  | id :: ds, c => by
    cases h : c.l.findIdx? (hasSub id) with
    | none => simp only [dropC, h]; exact Nat.le_refl _
    | some k =>
      have := dropC_len ds (c.del k)
      have h2 : (c.del k).l.length ≤ c.l.length := List.length_eraseIdx_le ..
      simp only [dropC, h]; omega
theorem once_drop {c : Cf} {ds : List Int} (ho : Once c.l) (hn : ds.Nodup) (h : (dropC ds c).2 = true) : Once (dropC ds c).1.l := by
  have h1 := dropAll_ok ds c.l hn ho
  rw [dropC_all, if_pos h] at h1
  exact h1.1
theorem once_put {c : Cf} {ps : List Pol} (ho : Once c.l) (hn : ps.Pairwise fun p q => p.sub ≠ q.sub) : Once (putC ps c).l := by
  rw [putC_all]; exact (putAll_ok ps c.l hn ho).1
theorem putAll_ne : ∀ (ps : List Pol) (l : List Ent), l ≠ [] → putAll ps l ≠ []
  | [], l, h => h
  | p :: ps, l, h => by
    simp only [putAll]
    split
    · exact putAll_ne ps _ (by simpa using h)
    · exact putAll_ne ps _ (by simp)
theorem sortE_ne {l : List Ent} (ho : Once l) (h : l ≠ []) : sortE l ≠ [] := by
  have := (sortE_ok ho).2.2
  intro q
  rw [q] at this
  exact h (List.eq_nil_of_length_eq_zero this.symm)
theorem set_flat {S : Mem} {i : Nat} {d : List Ent} {v : Nat} {j : Nat} {B : Blk} (h : (S.set i (.cells (d.flatMap entE.enc) v (some 14) true))[j]? = some B) : S[j]? = some B ∨ BFlat S.length B := by
  by_cases hij : i = j
  · subst hij
    right
    by_cases hi : i < S.length
    · rw [set_at hi] at h
      injection h with h
      rw [← h]
      exact bflat_list entE_flat d v (some 14) true
    · rw [List.getElem?_eq_none (by rw [List.length_set]; omega)] at h; cases h
  · rw [at_set_ne hij] at h
    exact .inl h
theorem commit_ok : SpecOK Try.prog 29 commitS := by
  intro args S x S' h
  unfold commitS at h
  split at h
  · rename_i x0 ce
    split at h
    · rename_i hno
      split at h
      · rename_i e he
        split at h
        · rename_i hc
          obtain ⟨hok, hne⟩ := hc
          refine commit_walk (md := none) (c0 := ⟨0, 0, [], []⟩) ⟨ext_refl, .inl ⟨rfl, hno⟩⟩ (fun _ => rfl) he hok (fun hd x' c M hK _ => ?_) (fun hd x' M hK => ?_)
          · cases hds : e.drops with
            | nil => rw [hds] at hd; cases hd
            | cons a ds =>
              simp only [commitR0, hds, Option.some.injEq, Prod.mk.injEq] at h
              obtain ⟨rfl, rfl⟩ := h
              exact wkv_dropP hK.1 rfl
          · cases hds : e.drops with
            | cons a ds => rw [hds] at hd; cases hd
            | nil =>
              simp only [commitR0, hds, Option.some.injEq, Prod.mk.injEq] at h
              obtain ⟨rfl, rfl⟩ := h
              rw [hds] at hK hne
              have hps : e.puts ≠ [] := by rcases hne with q | q; exact absurd rfl q; exact q
              have hK : Kx S M none x' (putC e.puts ⟨0, 0, [], []⟩) := hK
              have hl : (putC e.puts ⟨0, 0, [], []⟩).l = putAll e.puts [] := putC_all _ _
              have ho : Once (putC e.puts ⟨0, 0, [], []⟩).l := once_put hok.1 hok.2.2.1
              have hn := putC_len e.puts ⟨0, 0, [], []⟩
              have hlen := hok.2.2.2.1
              simp only [List.length_nil, Nat.zero_add] at hn hlen
              obtain ⟨hSM, ⟨h1, h2⟩ | ⟨p, c', h1, h2, h3, h4⟩⟩ := hK
              · exfalso
                rw [hl] at h1
                cases hp : e.puts with
                | nil => exact hps hp
                | cons a r =>
                  rw [hp] at h1
                  exact putAll_ne r [⟨a, 0⟩] (by simp) h1
              · obtain ⟨T, rfl⟩ := hSM
                rw [← h1] at ho hn
                have hso := sortE_ok ho
                refine ⟨_, by rw [h3]; exact sort_eq h2 ho (by omega) h4, ?_⟩
                have hx : x' = .sl (S.length + p) 0 c'.v (sortE c'.l).length c'.cap false := by rw [h3, hso.2.2]; rfl
                have hTp : p < T.length := by
                  rw [at_app] at h4
                  exact (List.getElem?_eq_some_iff.1 h4).1
                rw [hx, ← hl, ← h1]
                refine wkv_less (cs := (sortE c'.l).flatMap entE.enc) (junk := c'.junk) (sz := 14) (rw' := true) (at_set h4) ?_
                rw [List.set_set, set_app]
                have hA : Acc false entE S (S ++ T.set p (.cells ((sortE c'.l).flatMap entE.enc) c'.v (some 14) true)) (.sl (S.length + p) 0 c'.v (sortE c'.l).length (sortE c'.l).length false) (sortE c'.l) :=
                  ⟨_, rfl, .inr (.inr ⟨sortE_ne ho (by
                    rw [h1, hl]
                    cases hp : e.puts with
                    | nil => exact absurd hp hps
                    | cons a r => exact putAll_ne r [⟨a, 0⟩] (by simp)), p, c'.v, rfl, by simp only [List.getElem?_set_self hTp]; rfl⟩)⟩
                exact Acc.ret2 entE_flat hA Flat_b
        · cases h
      · cases h
    · rename_i hno
      split at h
      · rename_i i v n cap
        split at h
        · rename_i l e hl he
          split at h
          · rename_i hc
            obtain ⟨hok, cs, hB⟩ := hc
            obtain ⟨b, v2, ex, op, hx, hB2⟩ := ownV_ok hl
            injection hx with z1 z2 z3 z4 z5 z6
            subst z1 z3 z4 z5 z6
            rw [hB] at hB2
            injection hB2 with hB2
            injection hB2 with y1 y2 y3 y4
            subst y1 y3
            simp only [Option.some.injEq, Prod.mk.injEq] at h
            have hi : i < S.length := (List.getElem?_eq_some_iff.1 hB).1
            have hB0 : S[i]? = some (Cf.blk ⟨v, l.length, [], l⟩) := by rw [hB]; show _ = some (Blk.cells (l.flatMap entE.enc ++ []) v (some 14) true); rw [List.append_nil]
            have hK : Kx S S (some i) (.sl i 0 v l.length l.length false) ⟨v, l.length, [], l⟩ := ⟨rfl, ⟨by simp, Nat.le_refl _, rfl⟩, hi, [], by rw [List.append_nil, set_self hB0]⟩
            refine commit_walk (md := some i) hK (fun q => by cases q) he hok (fun hd x' c M hK hv => ?_) (fun hd x' M hK => ?_)
            · unfold commitR at h
              rw [if_neg (by rw [hd]; exact Bool.false_ne_true)] at h
              simp only [Option.some.injEq, Prod.mk.injEq] at h
              obtain ⟨rfl, rfl⟩ := h
              have hb := hK.blk
              obtain ⟨_, _, _, L, rfl⟩ := hK
              have hv : c.v = v := hv
              refine wkv_shr (i := i) (cs := []) (junk := c.l.flatMap entE.enc ++ c.junk) (v := c.v) (sz := 14) (rw' := true) hb ?_
              rw [set_old (set_at hi), List.set_set, hv]
              exact wkv_drop' (List.length_set ..) (fun j B hj => set_flat (d := []) hj) (fun g => rfl)
            · unfold commitR at h
              rw [if_pos hd] at h
              simp only [Option.some.injEq, Prod.mk.injEq] at h
              obtain ⟨rfl, rfl⟩ := h
              have ho : Once (putC e.puts (dropC e.drops ⟨v, l.length, [], l⟩).1).l := once_put (once_drop hok.1 hok.2.1 hd) hok.2.2.1
              have hn1 := putC_len e.puts (dropC e.drops ⟨v, l.length, [], l⟩).1
              have hn2 := dropC_len e.drops ⟨v, l.length, [], l⟩
              have hlen := hok.2.2.2.1
              simp only at hn2
              generalize putC e.puts (dropC e.drops ⟨v, l.length, [], l⟩).1 = c2 at ho hn1 hK ⊢
              have hb := hK.blk
              obtain ⟨rfl, hw, _, L, rfl⟩ := hK
              have hso := sortE_ok ho
              refine ⟨_, sort_eq hw ho (by omega) hb, ?_⟩
              rw [set_old (set_at hi), List.set_set]
              have hb2 : (S.set i c2.sort.blk ++ L)[i]? = some c2.sort.blk := at_old (set_at hi)
              have hx : c2.x i = .sl i 0 c2.v (sortE c2.l).length c2.cap false := by rw [hso.2.2]; rfl
              rw [hx]
              by_cases hd0 : sortE c2.l = []
              · have hbe : c2.sort.blk = .cells c2.junk c2.v (some 14) true := by
                  show Blk.cells ((sortE c2.l).flatMap entE.enc ++ c2.junk) c2.v (some 14) true = _
                  rw [hd0]; rfl
                rw [hbe] at hb2 ⊢
                unfold endX
                rw [if_pos hd0, hd0]
                refine wkv_se (sz := 14) (rw' := true) hb2 ?_
                rw [set_old (set_at hi), List.set_set]
                exact wkv_drop' (List.length_set ..) (fun j B hj => set_flat (d := []) hj) (fun g => rfl)
              · unfold endX
                rw [if_neg hd0]
                refine wkv_less (cs := (sortE c2.l).flatMap entE.enc) (junk := c2.junk) (sz := 14) (rw' := true) hb2 ?_
                rw [set_old (set_at hi), List.set_set]
                refine wkv_drop' (List.length_set ..) (fun j B hj => set_flat hj) (Flat_tu fun y hy => ?_)
                simp only [List.mem_cons, List.not_mem_nil, or_false] at hy
                rcases hy with rfl | rfl
                · exact Flat_sl hi
                · exact Flat_b
          · cases h
        · cases h
      · cases h
  · cases h
end Go.Proofs.Ytapgkaecamljbaa

namespace Go.Proofs.Ytapgkaecamljbaa
open Go.RowKit
set_option linter.unusedSimpArgs false
set_option linter.unusedVariables false

theorem fin_some {b : Bk} (h : b.ok) : Bk.fin (some b) = some b := by simp only [Bk.fin, if_pos h]
theorem quota_le {p : Int} {l : List Ent} (ho : (Bk.mk p l).ok) {k : Nat} (hk : k < l.length) : l[k].pol.quota ≤ 281474976710656 := by
  have h := (ho.2.2.1.2 k (by unfold polsOf; simpa using hk) (by unfold polsOf; simpa using hk)).1
  have h1 : l[k].pol.right := by simpa [polsOf] using h
  exact h1.2.2.2.1 _ (by simp [Pol.nums])
theorem leased_ok {p : Int} {l l' : List Ent} {s g : Int} (ho : (Bk.mk p l).ok) (h : leased l s g = some l') : (Bk.mk p l').ok := by
  obtain ⟨k, hk, rfl, _, h1, h2⟩ := leased_some h
  have hp : polsOf (l.set k (l[k].grant g)) = polsOf l := by
    unfold polsOf
    rw [List.map_set]
    have : (l[k].grant g).pol = (l.map (·.pol))[k]'(by simpa using hk) := by simp [Ent.grant]
    rw [this, List.set_getElem_self]
  refine ⟨ho.1, ho.2.1, by show Pols (polsOf (l.set k (l[k].grant g))); rw [hp]; exact ho.2.2.1, fun x hx => ?_⟩
  rcases List.mem_or_eq_of_mem_set hx with hx | rfl
  · exact ho.2.2.2 x hx
  · have := quota_le ho hk
    show g ≤ _
    omega
theorem zeroed_ok {p q : Int} {l : List Ent} (ho : (Bk.mk p l).ok) (h1 : 1 ≤ q) (h2 : q ≤ 281474976710656) : (Bk.mk q (l.map (·.grant 0))).ok := by
  refine ⟨h1, h2, ?_, fun x hx => ?_⟩
  · have hp : polsOf (l.map (·.grant 0)) = polsOf l := by unfold polsOf; rw [List.map_map]; rfl
    show Pols (polsOf (l.map (·.grant 0)))
    rw [hp]; exact ho.2.2.1
  · obtain ⟨y, _, rfl⟩ := List.mem_map.1 hx
    show (0 : Int) ≤ _
    omega
/-- The kinds 2 and 3. -/
theorem turned_eq {b : Bk} {e : Evt} (hk : ¬ (b.ok ∧ e.right ∧ e.kind = 1)) : b.turned e = b.rapplied e := by
  unfold Bk.turned Bk.rapplied
  by_cases h : b.ok ∧ e.right
  · rw [if_pos h, if_pos h]
    obtain ⟨p, l⟩ := b
    obtain ⟨k, s, ps, ds, g, q⟩ := e
    have hk1 : ¬ k = 1 := fun z => hk ⟨h.1, h.2, z⟩
    rw [if_neg hk1]
    unfold Bk.turn
    by_cases hk2 : k = 2
    · rw [if_pos hk2]; first | rw [if_pos hk2] | skip
      simp only
      cases hl : leased l s g with
      | none => rfl
      | some l' => exact fin_some (leased_ok h.1 hl)
    · rw [if_neg hk2]; first | rw [if_neg hk2] | skip
      simp only
      by_cases hq : q = p + 1
      · rw [if_pos hq]; first | rw [if_pos hq] | skip
        have hv : valOk q := by
          rcases h.2 with z | z | z
          · exact absurd z.1 hk1
          · exact absurd z.1 hk2
          · exact z.2.1
        exact fin_some (zeroed_ok h.1 hv.1 hv.2)
      · rw [if_neg hq]; first | rfl | (rw [if_neg hq]; rfl)
  · rw [if_neg h, if_neg h]
end Go.Proofs.Ytapgkaecamljbaa

namespace Go.Proofs.Ytapgkaecamljbaa
open Go.RowKit
set_option linter.unusedSimpArgs false
set_option linter.unusedVariables false
set_option maxRecDepth 10000

theorem commit_eq {S : Mem} {i v : Nat} {l : List Ent} {ce : List AV} {e : Evt} (hB : S[i]? = some (.cells (l.flatMap entE.enc) v (some 14) true)) (he : evtOf (S.take i) ce = some e) (hok : commitOk l e) :
    commitS [.sl i 0 v l.length l.length false, .ag ce] S = some (commitR i ⟨v, l.length, [], l⟩ e S) := by
  have hno : ¬ noX S (.sl i 0 v l.length l.length false) = true := by
    intro h
    rcases noX_cases h with h | ⟨j, h, _⟩
    · cases h
    · injection h with _ _ _ _ _ h; cases h
  simp only [commitS]
  rw [if_neg hno]
  simp only [ownV_mk hB, he]
  rw [if_pos ⟨hok, _, hB⟩]
theorem commit_eq0 {S : Mem} {x : AV} {ce : List AV} {e : Evt} (hx : noX S x = true) (he : evtOf S ce = some e) (hok : commitOk [] e) (hne : e.drops ≠ [] ∨ e.puts ≠ []) : commitS [x, .ag ce] S = some (commitR0 e S) := by
  simp only [commitS]
  rw [if_pos hx]
  simp only [he]
  rw [if_pos ⟨hok, hne⟩]
theorem commit_okk {p : Int} {l : List Ent} {ps : List Pol} {ds : List Int} (ho : (Bk.mk p l).ok) (hr : Evt.right ⟨1, 0, ps, ds, 0, 0⟩) (hd : ds.length ≤ 1000000) : commitOk l ⟨1, 0, ps, ds, 0, 0⟩ ∧ (ds ≠ [] ∨ ps ≠ []) := by
  have h := right1.1 hr
  have hP := h.2.2.2.2.1
  have hri := h.2.2.2.2.2.1
  refine ⟨⟨ok_once ho, rise_nodup hri, pols_once hP, ?_, hd⟩, ?_⟩
  · have h1 : (polsOf l).length ≤ 8 := ho.2.2.1.1
    have h2 : ps.length ≤ 8 := hP.1
    have h3 : (polsOf l).length = l.length := List.length_map ..
    show l.length + ps.length ≤ 1000000
    omega
  · rcases hr with ⟨_, h0, _⟩ | ⟨h0, _⟩ | ⟨h0, _⟩
    · simp only at h0
      by_cases hd0 : ds = []
      · right
        intro hp0
        rw [hd0, hp0] at h0
        exact absurd h0 (by decide)
      · exact .inl hd0
    · exact absurd h0 (by decide : ¬ (1 : Int) = 2)
    · exact absurd h0 (by decide : ¬ (1 : Int) = 3)
theorem commitR_f {i : Nat} {c : Cf} {e : Evt} {S : Mem} (h : (dropC e.drops c).2 = false) : commitR i c e S = (.tu [.sn, .b false], S.set i (.cells [] c.v (some 14) true)) := by
  unfold commitR; rw [if_neg (by rw [h]; exact Bool.false_ne_true)]
theorem commitR_t {i : Nat} {c : Cf} {e : Evt} {S : Mem} {d : List Ent} (h : (dropC e.drops c).2 = true) (hd : sortE (putC e.puts (dropC e.drops c).1).l = d) : commitR i c e S = (.tu [endX i (putC e.puts (dropC e.drops c).1).v d, .b true], S.set i (.cells (d.flatMap entE.enc) (putC e.puts (dropC e.drops c).1).v (some 14) true)) := by
  unfold commitR; rw [if_pos h, hd]
theorem commitR0_f {e : Evt} {S : Mem} {v cap : Nat} {junk : List AV} (h : (dropC e.drops ⟨v, cap, junk, []⟩).2 = false) : commitR0 e S = (.tu [.sn, .b false], S) := by
  unfold commitR0
  split
  · rename_i hd; rw [hd] at h; cases h
  · rfl
theorem commitR0_t {e : Evt} {S : Mem} {d : List Ent} {v cap : Nat} {junk : List AV} (h : (dropC e.drops ⟨v, cap, junk, []⟩).2 = true) (hd : sortE (putC e.puts (dropC e.drops ⟨v, cap, junk, []⟩).1).l = d) (hne : e.drops ≠ [] ∨ e.puts ≠ []) (hp : e.puts.Pairwise fun p q => p.sub ≠ q.sub) :
    d ≠ [] ∧ commitR0 e S = (.tu [retX false S d, .b true], retM false entE S d) := by
  unfold commitR0
  cases hds : e.drops with
  | nil =>
    rw [hds] at hd hne
    have hd : sortE (putC e.puts ⟨v, cap, junk, []⟩).l = d := hd
    rw [putC_all] at hd
    have hd : sortE (putAll e.puts []) = d := hd
    refine ⟨?_, by rw [hd]⟩
    rw [← hd]
    refine sortE_ne (putAll_ok e.puts [] hp List.Pairwise.nil).1 ?_
    cases hp : e.puts with
    | nil => rw [hp] at hne; simp at hne
    | cons a r => exact putAll_ne r [⟨a, 0⟩] (by simp)
  | cons a ds => rw [hds] at h; cases h
noncomputable def commitB (z : Bool) (S : Mem) (b : Bk) (r : Option Bk) : AV × Mem := match r with
  | some b' => open Classical in if b'.entries = [] then (.tu [.ag [.i .u64 b'.period, .se], .i .i64 0], S) else bookR true S b' 0
  | none => bookR z S b 131
/-- What a commit leaves, said with the document's words. -/
theorem rapplied1 {p : Int} {l : List Ent} {ps : List Pol} {ds : List Int} (ho : (Bk.mk p l).ok) (hr : Evt.right ⟨1, 0, ps, ds, 0, 0⟩) :
    Bk.rapplied ⟨p, l⟩ ⟨1, 0, ps, ds, 0, 0⟩ = if ∃ i : Nat, i < 255 ∧ refBad l ⟨1, 0, ps, ds, 0, 0⟩ ((i : Int) + 1) then none else Bk.fin (some ⟨p, refEnts l ⟨1, 0, ps, ds, 0, 0⟩ 255⟩) := by
  unfold Bk.rapplied
  rw [if_pos ⟨ho, hr⟩, if_pos rfl]
/-- The program's list behind a commit. -/
theorem commit_list {p : Int} {l : List Ent} {ps : List Pol} {ds : List Int} {c : Cf} (hc : c.l = l) (ho : (Bk.mk p l).ok) (hr : Evt.right ⟨1, 0, ps, ds, 0, 0⟩) :
    ((dropC ds c).2 = false ∧ Bk.rapplied ⟨p, l⟩ ⟨1, 0, ps, ds, 0, 0⟩ = none) ∨
    ((dropC ds c).2 = true ∧ ∃ d, sortE (putC ps (dropC ds c).1).l = d ∧ d = refEnts l ⟨1, 0, ps, ds, 0, 0⟩ 255 ∧ Bk.rapplied ⟨p, l⟩ ⟨1, 0, ps, ds, 0, 0⟩ = Bk.fin (some ⟨p, d⟩)) := by
  subst hc
  rw [rapplied1 ho hr]
  have hda := dropC_all ds c
  have h := right1.1 hr
  cases hb : (dropC ds c).2 with
  | false =>
    rw [if_neg (by rw [hb]; exact Bool.false_ne_true)] at hda
    exact .inl ⟨rfl, by rw [if_pos (commit_none ho hr hda)]⟩
  | true =>
    rw [if_pos hb] at hda
    have hon : Once (putC ps (dropC ds c).1).l := once_put (once_drop (ok_once ho) (rise_nodup h.2.2.2.2.2.1) hb) (pols_once h.2.2.2.2.1)
    have hs := sortE_ok hon
    obtain ⟨h1, h2⟩ := commit_some ho hr hda hs.1 (fun x => by rw [← putC_all]; exact hs.2.1 x)
    exact .inr ⟨rfl, _, rfl, h2, by rw [if_neg h1, h2]⟩
end Go.Proofs.Ytapgkaecamljbaa

namespace Go.Proofs.Ytapgkaecamljbaa
open Go.RowKit
set_option linter.unusedSimpArgs false
set_option linter.unusedVariables false
set_option maxRecDepth 10000

theorem oA1_ok : OK Try.prog (lamOf Try.prog) (orcOf [(27, cloneES), (16, brightS), (28, erightS), (29, commitS)]) := orc_ok (by simpa using ⟨cloneE_ok, bright_ok, eright_ok, commit_ok⟩)
set_option maxHeartbeats 1000000 in
theorem apply1 {S : Mem} {s xp xd : AV} {p : Int} {l : List Ent} {ps : List Pol} {ds : List Int} (hl : lstV entE S s = some l) (hp : lstV polE S xp = some ps) (hd : lstV (intE .i64) S xd = some ds) (hbf : Bk.fits ⟨p, l⟩) (hef : Evt.fits ⟨1, 0, ps, ds, 0, 0⟩) (ho : Bk.ok ⟨p, l⟩) (hr : Evt.right ⟨1, 0, ps, ds, 0, 0⟩) :
    FnOK Try.prog 13 [.ag [.i .u64 p, s], .ag [.i .i64 1, .i .i64 0, xp, xd, .i .u64 0, .i .u64 0]] S (commitB (nz s) S ⟨p, l⟩ (Bk.rapplied ⟨p, l⟩ ⟨1, 0, ps, ds, 0, 0⟩)).1 (commitB (nz s) S ⟨p, l⟩ (Bk.rapplied ⟨p, l⟩ ⟨1, 0, ps, ds, 0, 0⟩)).2 := by
  have b1 := fun L => bright_eq (bookOf_mk (p := p) (lstV_grow hl L)) hbf
  have e1 := fun L => eright_eq (evtOf_mk (k := 1) (s := 0) (g := 0) (p := 0) (lstV_grow hp L) (lstV_grow hd L)) hef
  have c1 := fun L => cloneE_eq (lstV_grow hl L) hbf.1
  rw [decide_eq_true ho] at b1
  rw [decide_eq_true hr] at e1
  obtain ⟨hok, hne0⟩ := commit_okk ho hr hef.2.1
  have hdf : ∀ d : List Ent, d = refEnts l ⟨1, 0, ps, ds, 0, 0⟩ 255 → Bk.fits ⟨p, d⟩ := fun d hd => by
    subst hd
    exact ⟨Nat.le_trans (refEnts_len _ _ _) (by omega), refEnts_fits hbf.2 hef.2.2⟩
  refine fn_of_wp f13 rfl (W_sound oA1_ok mixed _ _ _ _ _ ?_)
  by_cases hne : l = []
  · subst hne
    have hc0 : ∀ (x : AV) (L : Mem), noX (S ++ L) x = true → commitS [x, .ag [.i .i64 1, .i .i64 0, xp, xd, .i .u64 0, .i .u64 0]] (S ++ L) = some (commitR0 ⟨1, 0, ps, ds, 0, 0⟩ (S ++ L)) := fun x L hx =>
      commit_eq0 hx (evtOf_mk (lstV_grow hp L) (lstV_grow hd L)) hok hne0
    cases hz : nz s with
    | false =>
      have c1 : ∀ L, cloneES [s] (S ++ L) = some (.sn, S ++ L) := fun L => by rw [c1 L, hz]; rfl
      have cm := fun L => hc0 .sn L rfl
      rcases commit_list (c := ⟨0, 0, [], []⟩) rfl ho hr with ⟨hF, hrn⟩ | ⟨hT, d, hs, hde, hrn⟩
      · rw [hrn]
        have cm := fun L => (cm L).trans (congrArg some (commitR0_f hF))
        simp (maxSteps := 1000000) (disch := omega) only [c13, orc_cons, lst_cells hl, c1, b1, e1, cm, go_sem, Option.map_none, Option.map_some, ↓reduceIte, Nat.reduceBEq, Nat.reduceAdd, Nat.reduceSub, Nat.reduceEqDiff, Nat.reduceLeDiff, Nat.reduceMul, Nat.reduceLT, Int.reduceLT, Int.reduceLE, Int.reduceAdd, Int.reduceSub, Int.reduceMul, Int.reduceNeg, Int.reduceEq, Int.reduceNe, Int.reduceToNat, decide_true, decide_false, iaddr_i, iaddr_sl_i, not_true_eq_false, not_false_eq_true, reduceCtorEq, ne_eq, forall_const, false_imp_iff, true_imp_iff, implies_true, Int.cast_ofNat_Int, Int.natCast_zero, Int.natCast_one, Int.add_zero, Int.zero_add]
        exact wkv_drop rfl
      · rw [hrn]
        have hd0 := (commitR0_t (S := S) hT hs hne0 hok.2.2.1).1
        have cm : ∀ L, _ = some (AV.tu [.sl (S ++ L).length 0 0 d.length d.length false, .b true], (S ++ L) ++ [.cells (d.flatMap entE.enc) 0 (some 14) true]) := fun L => (cm L).trans (by rw [(commitR0_t hT hs hne0 hok.2.2.1).2, retX_ne hd0, retM_ne hd0]; rfl)
        have hdf := hdf d hde
        have b2 : ∀ B0 B1 B2 B3 B4 : Blk, brightS [.ag [.i .u64 p, .sl (S.length + 5) 0 0 d.length d.length false]] (S ++ [B0, B1, B2, B3, B4, .cells (d.flatMap entE.enc) 0 (some 14) true]) = some (.b (decide (Bk.ok ⟨p, d⟩)), S ++ [B0, B1, B2, B3, B4, .cells (d.flatMap entE.enc) 0 (some 14) true]) := fun B0 B1 B2 B3 B4 => bright_eq (bookOf_mk (own_lst (ownV_mk (by rw [at_app]; rfl)))) hdf
        simp (maxSteps := 1000000) (disch := omega) only [c13, orc_cons, lst_cells hl, c1, b1, e1, cm, b2, go_sem, Option.map_none, Option.map_some, ↓reduceIte, Nat.reduceBEq, Nat.reduceAdd, Nat.reduceSub, Nat.reduceEqDiff, Nat.reduceLeDiff, Nat.reduceMul, Nat.reduceLT, Int.reduceLT, Int.reduceLE, Int.reduceAdd, Int.reduceSub, Int.reduceMul, Int.reduceNeg, Int.reduceEq, Int.reduceNe, Int.reduceToNat, decide_true, decide_false, iaddr_i, iaddr_sl_i, not_true_eq_false, not_false_eq_true, reduceCtorEq, ne_eq, forall_const, false_imp_iff, true_imp_iff, implies_true, Int.cast_ofNat_Int, Int.natCast_zero, Int.natCast_one, Int.add_zero, Int.zero_add]
        refine ⟨fun h1 => ?_, fun h1 => ?_⟩
        · rw [show Bk.fin (some ⟨p, d⟩) = none by simp only [Bk.fin, if_neg h1]]
          exact wkv_drop rfl
        · rw [show Bk.fin (some ⟨p, d⟩) = some ⟨p, d⟩ by simp only [Bk.fin, if_pos (Decidable.not_not.1 h1)]]
          unfold commitB
          simp only
          rw [if_neg hd0]
          exact Acc.retB entE_flat ⟨_, rfl, .inr (.inr ⟨hd0, 5, 0, rfl, rfl⟩)⟩ Flat_i Flat_i
    | true =>
      have c1 : ∀ L, cloneES [s] (S ++ L) = some (.sl (S ++ L).length 0 0 0 0 true, (S ++ L) ++ [.cells [] 0 none true]) := fun L => by rw [c1 L, hz]; rfl
      have cm := fun B0 B1 B2 B3 B4 B6 : Blk => hc0 (.sl (S.length + 5) 0 0 0 0 true) [B0, B1, B2, B3, B4, .cells [] 0 none true, B6] (by simp only [noX]; rw [at_app]; rfl)
      rcases commit_list (c := ⟨0, 0, [], []⟩) rfl ho hr with ⟨hF, hrn⟩ | ⟨hT, d, hs, hde, hrn⟩
      · rw [hrn]
        have cm := fun B0 B1 B2 B3 B4 B6 => (cm B0 B1 B2 B3 B4 B6).trans (congrArg some (commitR0_f hF))
        simp (maxSteps := 1000000) (disch := omega) only [c13, orc_cons, lst_cells hl, c1, b1, e1, cm, go_sem, Option.map_none, Option.map_some, ↓reduceIte, Nat.reduceBEq, Nat.reduceAdd, Nat.reduceSub, Nat.reduceEqDiff, Nat.reduceLeDiff, Nat.reduceMul, Nat.reduceLT, Int.reduceLT, Int.reduceLE, Int.reduceAdd, Int.reduceSub, Int.reduceMul, Int.reduceNeg, Int.reduceEq, Int.reduceNe, Int.reduceToNat, decide_true, decide_false, iaddr_i, iaddr_sl_i, not_true_eq_false, not_false_eq_true, reduceCtorEq, ne_eq, forall_const, false_imp_iff, true_imp_iff, implies_true, Int.cast_ofNat_Int, Int.natCast_zero, Int.natCast_one, Int.add_zero, Int.zero_add]
        exact Acc.retB entE_flat ⟨_, rfl, .inr (.inl ⟨rfl, rfl, 3, rfl, rfl⟩)⟩ Flat_i Flat_i
      · rw [hrn]
        have hd0 := (commitR0_t (S := S) hT hs hne0 hok.2.2.1).1
        have cm : ∀ B0 B1 B2 B3 B4 B6 : Blk, _ = some (AV.tu [.sl (S.length + 7) 0 0 d.length d.length false, .b true], S ++ [B0, B1, B2, B3, B4, .cells [] 0 none true, B6, .cells (d.flatMap entE.enc) 0 (some 14) true]) := fun B0 B1 B2 B3 B4 B6 => (cm B0 B1 B2 B3 B4 B6).trans (by rw [(commitR0_t hT hs hne0 hok.2.2.1).2, retX_ne hd0, retM_ne hd0, List.length_append, List.append_assoc]; rfl)
        have hdf := hdf d hde
        have b2 : ∀ B0 B1 B2 B3 B4 B5 B6 : Blk, brightS [.ag [.i .u64 p, .sl (S.length + 7) 0 0 d.length d.length false]] (S ++ [B0, B1, B2, B3, B4, B5, B6, .cells (d.flatMap entE.enc) 0 (some 14) true]) = some (.b (decide (Bk.ok ⟨p, d⟩)), S ++ [B0, B1, B2, B3, B4, B5, B6, .cells (d.flatMap entE.enc) 0 (some 14) true]) := fun B0 B1 B2 B3 B4 B5 B6 => bright_eq (bookOf_mk (own_lst (ownV_mk (by rw [at_app]; rfl)))) hdf
        simp (maxSteps := 1000000) (disch := omega) only [c13, orc_cons, lst_cells hl, c1, b1, e1, cm, b2, go_sem, Option.map_none, Option.map_some, ↓reduceIte, Nat.reduceBEq, Nat.reduceAdd, Nat.reduceSub, Nat.reduceEqDiff, Nat.reduceLeDiff, Nat.reduceMul, Nat.reduceLT, Int.reduceLT, Int.reduceLE, Int.reduceAdd, Int.reduceSub, Int.reduceMul, Int.reduceNeg, Int.reduceEq, Int.reduceNe, Int.reduceToNat, decide_true, decide_false, iaddr_i, iaddr_sl_i, not_true_eq_false, not_false_eq_true, reduceCtorEq, ne_eq, forall_const, false_imp_iff, true_imp_iff, implies_true, Int.cast_ofNat_Int, Int.natCast_zero, Int.natCast_one, Int.add_zero, Int.zero_add]
        refine ⟨fun h1 => ?_, fun h1 => ?_⟩
        · rw [show Bk.fin (some ⟨p, d⟩) = none by simp only [Bk.fin, if_neg h1]]
          exact Acc.retB entE_flat ⟨_, rfl, .inr (.inl ⟨rfl, rfl, 3, rfl, rfl⟩)⟩ Flat_i Flat_i
        · rw [show Bk.fin (some ⟨p, d⟩) = some ⟨p, d⟩ by simp only [Bk.fin, if_pos (Decidable.not_not.1 h1)]]
          unfold commitB
          simp only
          rw [if_neg hd0]
          exact Acc.retB entE_flat ⟨_, rfl, .inr (.inr ⟨hd0, 7, 0, rfl, rfl⟩)⟩ Flat_i Flat_i
  · obtain ⟨i, o, v, cap, ex, rfl⟩ := lst_sl hl (List.length_pos_iff.2 hne)
    have c1 : ∀ L, cloneES [.sl i o v l.length cap ex] (S ++ L) = some (.sl (S ++ L).length 0 0 l.length l.length false, (S ++ L) ++ [.cells (l.flatMap entE.enc) 0 (some 14) true]) := fun L => by
      rw [c1 L, retX_ne hne, retM_ne hne]; rfl
    have cm : ∀ B0 B1 B2 B3 B4 B6 : Blk, commitS [.sl (S.length + 5) 0 0 l.length l.length false, .ag [.i .i64 1, .i .i64 0, xp, xd, .i .u64 0, .i .u64 0]] (S ++ [B0, B1, B2, B3, B4, .cells (l.flatMap entE.enc) 0 (some 14) true, B6]) = some (commitR (S.length + 5) ⟨0, l.length, [], l⟩ ⟨1, 0, ps, ds, 0, 0⟩ (S ++ [B0, B1, B2, B3, B4, .cells (l.flatMap entE.enc) 0 (some 14) true, B6])) := fun B0 B1 B2 B3 B4 B6 => by
      refine commit_eq (by rw [at_app]; rfl) ?_ hok
      have ht : (S ++ [B0, B1, B2, B3, B4, .cells (l.flatMap entE.enc) 0 (some 14) true, B6]).take (S.length + 5) = S ++ [B0, B1, B2, B3, B4] := by
        rw [List.take_append, List.take_of_length_le (by omega), Nat.add_sub_cancel_left]; rfl
      rw [ht]
      exact evtOf_mk (lstV_grow hp _) (lstV_grow hd _)
    have own : ∀ (A : Mem) (err : Int), WkV S (bookR (nz (.sl i o v l.length cap ex)) S ⟨p, l⟩ err).1 (bookR (nz (.sl i o v l.length cap ex)) S ⟨p, l⟩ err).2 (.tu [.ag [.i .u64 p, .sl (S.length + 3) 0 0 l.length l.length false], .i .i64 err])
      (S ++ (.cells [.i .u64 p, .sl i o v l.length cap ex] 0 none true :: .cells [.i .i64 1, .i .i64 0, xp, xd, .i .u64 0, .i .u64 0] 0 none true :: .cells [.i .u64 p, .sl (S.length + 3) 0 0 l.length l.length false] 0 none true :: .cells (l.flatMap entE.enc) 0 (some 14) true :: A)) := fun A err =>
      Acc.retB entE_flat ⟨_, rfl, .inr (.inr ⟨hne, 3, 0, rfl, rfl⟩)⟩ Flat_i Flat_i
    rcases commit_list (c := ⟨0, l.length, [], l⟩) rfl ho hr with ⟨hF, hrn⟩ | ⟨hT, d, hs, hde, hrn⟩
    · rw [hrn]
      have cm := fun B0 B1 B2 B3 B4 B6 => (cm B0 B1 B2 B3 B4 B6).trans (congrArg some (commitR_f hF))
      simp (maxSteps := 1000000) (disch := omega) only [c13, orc_cons, lst_cells hl, c1, b1, e1, cm, go_sem, Option.map_none, Option.map_some, ↓reduceIte, Nat.reduceBEq, Nat.reduceAdd, Nat.reduceSub, Nat.reduceEqDiff, Nat.reduceLeDiff, Nat.reduceMul, Nat.reduceLT, Int.reduceLT, Int.reduceLE, Int.reduceAdd, Int.reduceSub, Int.reduceMul, Int.reduceNeg, Int.reduceEq, Int.reduceNe, Int.reduceToNat, decide_true, decide_false, iaddr_i, iaddr_sl_i, not_true_eq_false, not_false_eq_true, reduceCtorEq, ne_eq, forall_const, false_imp_iff, true_imp_iff, implies_true, Int.cast_ofNat_Int, Int.natCast_zero, Int.natCast_one, Int.add_zero, Int.zero_add]
      exact own _ _
    · rw [hrn]
      have cm := fun B0 B1 B2 B3 B4 B6 => (cm B0 B1 B2 B3 B4 B6).trans (congrArg some (commitR_t hT hs))
      simp only at cm
      generalize (putC ps (dropC ds ⟨0, l.length, [], l⟩).1).v = v2 at cm
      have hdf := hdf d hde
      by_cases hd0 : d = []
      · subst hd0
        have cm : ∀ B0 B1 B2 B3 B4 B6 : Blk, _ = some (AV.tu [.se, .b true], List.set (S ++ [B0, B1, B2, B3, B4, .cells (l.flatMap entE.enc) 0 (some 14) true, B6]) (S.length + 5) (.cells [] v2 (some 14) true)) := fun B0 B1 B2 B3 B4 B6 => (cm B0 B1 B2 B3 B4 B6).trans (by unfold endX; rw [if_pos rfl]; rfl)
        have b2 : ∀ M : Mem, brightS [.ag [.i .u64 p, .se]] M = some (.b (decide (Bk.ok ⟨p, []⟩)), M) := fun M => bright_eq (bookOf_mk rfl) hdf
        simp (maxSteps := 1000000) (disch := omega) only [c13, orc_cons, lst_cells hl, c1, b1, e1, cm, b2, go_sem, Option.map_none, Option.map_some, ↓reduceIte, Nat.reduceBEq, Nat.reduceAdd, Nat.reduceSub, Nat.reduceEqDiff, Nat.reduceLeDiff, Nat.reduceMul, Nat.reduceLT, Int.reduceLT, Int.reduceLE, Int.reduceAdd, Int.reduceSub, Int.reduceMul, Int.reduceNeg, Int.reduceEq, Int.reduceNe, Int.reduceToNat, decide_true, decide_false, iaddr_i, iaddr_sl_i, not_true_eq_false, not_false_eq_true, reduceCtorEq, ne_eq, forall_const, false_imp_iff, true_imp_iff, implies_true, Int.cast_ofNat_Int, Int.natCast_zero, Int.natCast_one, Int.add_zero, Int.zero_add]
        refine ⟨fun h1 => ?_, fun h1 => ?_⟩
        · rw [show Bk.fin (some ⟨p, []⟩) = none by simp only [Bk.fin, if_neg h1]]
          exact own _ _
        · rw [show Bk.fin (some ⟨p, []⟩) = some ⟨p, []⟩ by simp only [Bk.fin, if_pos (Decidable.not_not.1 h1)]]
          unfold commitB
          simp only
          rw [if_pos trivial]
          exact wkv_drop rfl
      · have cm : ∀ B0 B1 B2 B3 B4 B6 : Blk, _ = some (AV.tu [.sl (S.length + 5) 0 v2 d.length d.length false, .b true], List.set (S ++ [B0, B1, B2, B3, B4, .cells (l.flatMap entE.enc) 0 (some 14) true, B6]) (S.length + 5) (.cells (d.flatMap entE.enc) v2 (some 14) true)) := fun B0 B1 B2 B3 B4 B6 => (cm B0 B1 B2 B3 B4 B6).trans (by unfold endX; rw [if_neg hd0])
        have b2 : ∀ B0 B1 B2 B3 B4 B6 : Blk, brightS [.ag [.i .u64 p, .sl (S.length + 5) 0 v2 d.length d.length false]] (S ++ [B0, B1, B2, B3, B4, .cells (d.flatMap entE.enc) v2 (some 14) true, B6]) = some (.b (decide (Bk.ok ⟨p, d⟩)), S ++ [B0, B1, B2, B3, B4, .cells (d.flatMap entE.enc) v2 (some 14) true, B6]) := fun B0 B1 B2 B3 B4 B6 => bright_eq (bookOf_mk (own_lst (ownV_mk (by rw [at_app]; rfl)))) hdf
        simp (maxSteps := 1000000) (disch := omega) only [c13, orc_cons, lst_cells hl, c1, b1, e1, cm, b2, go_sem, Option.map_none, Option.map_some, ↓reduceIte, Nat.reduceBEq, Nat.reduceAdd, Nat.reduceSub, Nat.reduceEqDiff, Nat.reduceLeDiff, Nat.reduceMul, Nat.reduceLT, Int.reduceLT, Int.reduceLE, Int.reduceAdd, Int.reduceSub, Int.reduceMul, Int.reduceNeg, Int.reduceEq, Int.reduceNe, Int.reduceToNat, decide_true, decide_false, iaddr_i, iaddr_sl_i, not_true_eq_false, not_false_eq_true, reduceCtorEq, ne_eq, forall_const, false_imp_iff, true_imp_iff, implies_true, Int.cast_ofNat_Int, Int.natCast_zero, Int.natCast_one, Int.add_zero, Int.zero_add]
        refine ⟨fun h1 => ?_, fun h1 => ?_⟩
        · rw [show Bk.fin (some ⟨p, d⟩) = none by simp only [Bk.fin, if_neg h1]]
          exact own _ _
        · rw [show Bk.fin (some ⟨p, d⟩) = some ⟨p, d⟩ by simp only [Bk.fin, if_pos (Decidable.not_not.1 h1)]]
          unfold commitB
          simp only
          rw [if_neg hd0]
          exact Acc.retB entE_flat ⟨_, rfl, .inr (.inr ⟨hd0, 5, v2, rfl, rfl⟩)⟩ Flat_i Flat_i
end Go.Proofs.Ytapgkaecamljbaa

namespace Go.Proofs.Ytapgkaecamljbaa
open Go.RowKit
set_option linter.unusedSimpArgs false
set_option linter.unusedVariables false
set_option maxRecDepth 10000

noncomputable def applyR (z : Bool) (S : Mem) (b : Bk) (e : Evt) : AV × Mem := if e.kind = 1 then commitB z S b (b.rapplied e) else match b.rapplied e with
  | some b' => bookR z S b' 0
  | none => bookR z S b 131
noncomputable def applyS : Spec := fun args S => match args with
  | [.ag cb, .ag ce] => match bookOf S cb, evtOf S ce with
    | some b, some e => if b.fits ∧ e.fits then some (applyR (nzB cb) S b e) else none
    | _, _ => none
  | _ => none
theorem right_eq {e : Evt} (hr : e.right) (hk : e.kind = 1) : e = ⟨1, 0, e.puts, e.drops, 0, 0⟩ := by
  rcases hr with ⟨_, _, _, _, h⟩ | ⟨h, _⟩ | ⟨h, _⟩
  · rw [hk] at h; exact h
  · rw [hk] at h; exact absurd h (by decide)
  · rw [hk] at h; exact absurd h (by decide)
theorem apply_ok : SpecOK Try.prog 13 applyS := by
  intro args S x S' h
  simp only [applyS] at h
  split at h
  · rename_i cb ce
    split at h
    · rename_i b e hb he
      split at h
      · rename_i hf
        obtain ⟨hbf, hef⟩ := hf
        by_cases hc : b.ok ∧ e.right ∧ e.kind = 1
        · obtain ⟨ho, hr, hk⟩ := hc
          obtain ⟨s, rfl, hl⟩ := bookOf_ok hb
          obtain ⟨xp, xd, rfl, hp, hd⟩ := evtOf_ok he
          have hre := right_eq hr hk
          obtain ⟨k, sub, ps, ds, g, q⟩ := e
          simp only at hk
          subst hk
          simp only [Evt.mk.injEq, true_and, and_true] at hre
          obtain ⟨rfl, rfl, rfl⟩ := hre
          obtain ⟨p, l⟩ := b
          simp only [Option.some.injEq] at h
          have hz : nzB [AV.i .u64 (Bk.mk p l).period, s] = nz s := rfl
          rw [hz] at h
          have hx := congrArg Prod.fst h
          have hm := congrArg Prod.snd h
          simp only at hx hm
          have h1 := apply1 hl hp hd hbf hef ho hr
          unfold applyR at hx hm
          rw [if_pos rfl] at hx hm
          rw [hx, hm] at h1
          exact h1
        · refine turn_ok _ _ _ _ ?_
          simp only [turnS, hb, he]
          have hc' : ¬ (b.ok ∧ e.right ∧ e.kind = 1) := hc
          rw [if_pos ⟨hbf, hef, hc'⟩, turned_eq hc']
          rw [← h]
          unfold applyR
          by_cases hk : e.kind = 1
          · have hn : b.rapplied e = none := by
              unfold Bk.rapplied
              rw [if_neg fun z => hc ⟨z.1, z.2, hk⟩]
            rw [hn, if_pos hk]; rfl
          · rw [if_neg hk]
            cases b.rapplied e <;> rfl
      · cases h
    · cases h
  · cases h
/-- The book behind an event. -/
noncomputable def Bk.after (b : Bk) (e : Evt) : Bk := (b.rapplied e).getD b
noncomputable def Bk.err (b : Bk) (e : Evt) : Int := if (b.rapplied e).isSome then 0 else 131
theorem apply_call {S : Mem} {cb ce : List AV} {b : Bk} {e : Evt} (hb : bookOf S cb = some b) (he : evtOf S ce = some e) (hbf : b.fits) (hef : e.fits) :
    ∃ Y M, applyS [.ag cb, .ag ce] S = some (.tu [.ag [.i .u64 (b.after e).period, Y], .i .i64 (b.err e)], M) ∧ lstV entE M Y = some (b.after e).entries ∧ S <+: M := by
  simp only [applyS, hb, he]
  rw [if_pos ⟨hbf, hef⟩]
  unfold applyR commitB Bk.after Bk.err
  cases b.rapplied e with
  | none => split <;> exact ⟨_, _, rfl, retX_lst, retM_ext⟩
  | some b' =>
    split
    · simp only
      split
      · rename_i h0
        exact ⟨_, _, rfl, by simp only [Option.getD_some]; rw [h0]; rfl, ext_refl⟩
      · exact ⟨_, _, rfl, retX_lst, retM_ext⟩
    · exact ⟨_, _, rfl, retX_lst, retM_ext⟩
end Go.Proofs.Ytapgkaecamljbaa

namespace Go.Proofs.Ytapgkaecamljbaa
open Go.RowKit
set_option linter.unusedSimpArgs false
set_option linter.unusedVariables false
set_option maxRecDepth 10000

end Go.Proofs.Ytapgkaecamljbaa

namespace Go.Proofs.Ytapgkaecamljbaa
open Go.RowKit
set_option linter.unusedSimpArgs false
set_option linter.unusedVariables false
set_option maxRecDepth 100000

theorem alive_run : isTrue ((evAll tab 100000 100).fn 11 [] []) = true := by kernel_rfl
def aliveS : Spec := fun args S => match args with
  | [] => some (.b true, S)
  | _ => none
theorem alive_ok : SpecOK Try.prog 11 aliveS := by
  intro args S x S' h
  unfold aliveS at h
  split at h
  · cases h
    exact fnOK_of_below (by kernel_rfl) (fun w => calls_of_ev mixed tab_ok alive_run w) S
  · cases h

end Go.Proofs.Ytapgkaecamljbaa

namespace Go.Proofs.Ytapgkaecamljbaa
open Go.RowKit
set_option linter.unusedSimpArgs false
set_option linter.unusedVariables false
set_option maxRecDepth 100000

def greatS : Spec := fun args S => match args with
  | [.ag cb, .ag ce] => match bookOf S cb, evtOf S ce with
    | some b, some e => some (.b (decide (30 < b.entries.length ∨ 30 < e.puts.length ∨ 30 < e.drops.length)), S)
    | _, _ => none
  | _ => none
theorem great_ok : SpecOK Try.prog 12 greatS := by
  intro args S x S' h
  simp only [greatS] at h
  split at h
  · rename_i cb ce
    split at h
    · rename_i b ev hb hev
      cases h
      obtain ⟨s, rfl, hl⟩ := bookOf_ok hb
      obtain ⟨xp, xd, rfl, hp, hd⟩ := evtOf_ok hev
      refine fn_of_wp f12 rfl (W_sound none_ok mixed _ _ _ _ _ ?_)
      simp (maxSteps := 1000000) (disch := omega) only [c12, lst_len hl, lst_len hp, lst_len hd, go_sem, Option.map_none, Option.map_some, ↓reduceIte, Nat.reduceBEq, Nat.reduceAdd, Nat.reduceSub, Nat.reduceEqDiff, Nat.reduceLeDiff, Nat.reduceMul, Nat.reduceLT, Int.reduceLT, Int.reduceLE, Int.reduceAdd, Int.reduceSub, Int.reduceMul, Int.reduceNeg, Int.reduceEq, Int.reduceNe, Int.reduceToNat, decide_true, decide_false, iaddr_i, iaddr_sl_i, not_true_eq_false, not_false_eq_true, reduceCtorEq, ne_eq, forall_const, false_imp_iff, true_imp_iff, implies_true, Int.cast_ofNat_Int, Int.natCast_zero, Int.natCast_one, Int.add_zero, Int.zero_add]
      refine ⟨fun h1 => ⟨fun h2 => wkv_b ?_, fun h2 => ?_⟩, fun h1 => ?_⟩
      · constructor
        · rintro (z | z | z) <;> omega
        · intro z; omega
      · rw [decide_eq_true (by omega)]; exact wkv_drop rfl
      · rw [decide_eq_true (by omega)]; exact wkv_drop rfl
    · cases h
  · cases h
theorem great_eq {S : Mem} {cb ce : List AV} {b : Bk} {e : Evt} (hb : bookOf S cb = some b) (he : evtOf S ce = some e) : greatS [.ag cb, .ag ce] S = some (.b (decide (30 < b.entries.length ∨ 30 < e.puts.length ∨ 30 < e.drops.length)), S) := by
  simp only [greatS, hb, he]
end Go.Proofs.Ytapgkaecamljbaa

namespace Go.Proofs.Ytapgkaecamljbaa
open Go.RowKit
set_option linter.unusedSimpArgs false
set_option linter.unusedVariables false
set_option maxRecDepth 10000

theorem after_len {b : Bk} {e : Evt} (hb : b.fits) : (b.after e).entries.length ≤ 1000000 := by
  unfold Bk.after
  cases h : b.rapplied e with
  | none => exact hb.1
  | some b' =>
    show b'.entries.length ≤ 1000000
    unfold Bk.rapplied at h
    split at h
    · split at h
      · split at h
        · cases h
        · simp only [Bk.fin] at h
          split at h
          · cases h
            exact Nat.le_trans (refEnts_len _ _ _) (by omega)
          · cases h
      · split at h
        · cases hl : leased b.entries e.sub e.granted with
          | none => rw [hl] at h; cases h
          | some l' =>
            rw [hl] at h
            cases h
            show l'.length ≤ _
            rw [← leased_len hl]; exact hb.1
        · split at h
          · cases h
            show (b.entries.map _).length ≤ _
            rw [List.length_map]; exact hb.1
          · cases h
    · cases h
end Go.Proofs.Ytapgkaecamljbaa

namespace Go.Proofs.Ytapgkaecamljbaa
open Go.RowKit
set_option linter.unusedSimpArgs false
set_option linter.unusedVariables false
set_option maxRecDepth 10000

theorem rapplied_one {b c : Bk} {e : Evt} (hk : e.kind = 1) (h : b.rapplied e = some c) : b.ok ∧ e.right ∧ c = ⟨b.period, refEnts b.entries e 255⟩ ∧ c.ok := by
  unfold Bk.rapplied at h
  split at h
  · rename_i hc
    first | rw [if_pos hk] at h | skip
    split at h
    · cases h
    · simp only [Bk.fin] at h
      split at h
      · rename_i ho
        cases h
        exact ⟨hc.1, hc.2, rfl, ho⟩
      · cases h
  · cases h
/-- What is behind an event can be looked at. -/
theorem after_fits {b : Bk} {e : Evt} (hb : b.fits) (he : e.fits) : (b.after e).fits := by
  refine ⟨after_len hb, ?_⟩
  unfold Bk.after
  cases h : b.rapplied e with
  | none => exact hb.2
  | some b' =>
    show ∀ x ∈ b'.entries, x.pol.fits
    unfold Bk.rapplied at h
    split at h
    · split at h
      · split at h
        · cases h
        · simp only [Bk.fin] at h
          split at h
          · cases h
            exact refEnts_fits hb.2 he.2.2
          · cases h
      · split at h
        · cases hl : leased b.entries e.sub e.granted with
          | none => rw [hl] at h; cases h
          | some l' =>
            rw [hl] at h
            cases h
            exact leased_fits hl hb.2
        · split at h
          · cases h
            intro x hx
            obtain ⟨y, hy, rfl⟩ := List.mem_map.1 hx
            exact hb.2 y hy
          · cases h
    · cases h
theorem err_zero {b : Bk} {e : Evt} (h : b.err e = 0) : b.rapplied e = some (b.after e) := by
  unfold Bk.err at h
  unfold Bk.after
  cases hr : b.rapplied e with
  | none => rw [hr] at h; exact absurd h (by decide)
  | some c => rfl
end Go.Proofs.Ytapgkaecamljbaa

namespace Go.Proofs.Ytapgkaecamljbaa
open Go.RowKit
set_option linter.unusedSimpArgs false
set_option linter.unusedVariables false
set_option maxRecDepth 10000

structure SumOk (b c : Bk) (e : Evt) : Prop where
  okb : b.ok
  okc : c.ok
  per : c.period = b.period ∨ c.period = b.period + 1
  same : c.period = b.period → ∀ x ∈ c.entries, ∀ y, ofSub b.entries x.pol.sub = some y → y.granted ≤ x.granted
  zero : ∀ x ∈ c.entries, (b.period < c.period ∨ ofSub b.entries x.pol.sub = none) → x.granted = 0
  lease : e.kind = 2 → ∀ x ∈ c.entries, e.sub = x.pol.sub → x.granted ≤ x.pol.quota ∧ x.granted = e.granted
theorem once_inj {l : List Ent} (ho : Once l) {i j : Nat} (hi : i < l.length) (hj : j < l.length) (h : l[i].pol.sub = l[j].pol.sub) : i = j := by
  have h1 := List.pairwise_iff_getElem.1 ho
  by_cases e : i = j
  · exact e
  · by_cases hlt : i < j
    · exact absurd h (h1 i j hi hj hlt)
    · exact absurd h.symm (h1 j i hj hi (by omega))
theorem mem_set {l : List Ent} {k : Nat} {v x : Ent} (h : x ∈ l.set k v) : x = v ∧ k < l.length ∨ ∃ i, ∃ hi : i < l.length, i ≠ k ∧ x = l[i] := by
  obtain ⟨i, hi, rfl⟩ := List.getElem_of_mem h
  rw [List.length_set] at hi
  rw [List.getElem_set]
  by_cases e : k = i
  · rw [if_pos e]; exact .inl ⟨rfl, by omega⟩
  · rw [if_neg e]; exact .inr ⟨i, hi, fun q => e q.symm, rfl⟩
theorem rapplied_sums {b c : Bk} {e : Evt} (h : b.rapplied e = some c) : SumOk b c e := by
  by_cases hk1 : e.kind = 1
  · obtain ⟨h1, h2, rfl, h4⟩ := rapplied_one hk1 h
    have hm : ∀ x, x ∈ refEnts b.entries e 255 ↔ refOne b.entries e x.pol.sub = some x ∧ 1 ≤ x.pol.sub ∧ x.pol.sub ≤ (255 : Nat) := fun x => mem_range_look refOne_sub
    refine ⟨h1, h4, .inl rfl, fun _ x hx y hy => ?_, fun x hx hz => ?_, fun q => ?_⟩
    · have hr := ((hm x).1 hx).1
      unfold refOne at hr
      split at hr
      · cases hr
      · have hy : b.entries.find? (hasSub x.pol.sub) = some y := hy
        rw [hy] at hr
        split at hr
        · rename_i a p q1 q2
          cases q1
          rw [← Option.some.inj hr]; exact Int.le_refl _
        · rename_i a q1 q2
          cases q1
          rw [← Option.some.inj hr]; exact Int.le_refl _
        · rename_i q1 _; cases q1
        · cases hr
    · rcases hz with hz | hz
      · exact absurd hz (Int.lt_irrefl _)
      · have hr := ((hm x).1 hx).1
        unfold refOne at hr
        split at hr
        · cases hr
        · have hz : b.entries.find? (hasSub x.pol.sub) = none := hz
          rw [hz] at hr
          split at hr
          · rename_i q1 _; cases q1
          · rename_i q1 _; cases q1
          · rw [← Option.some.inj hr]
          · cases hr
    · rw [hk1] at q; exact absurd q (by decide)
  · unfold Bk.rapplied at h
    split at h
    · rename_i hc
      obtain ⟨ho, hr⟩ := hc
      first | rw [if_neg hk1] at h | skip
      have hon : Once b.entries := ok_once (p := b.period) ho
      by_cases hk2 : e.kind = 2
      · first | rw [if_pos hk2] at h | skip
        cases hl : leased b.entries e.sub e.granted with
        | none => rw [hl] at h; cases h
        | some l' =>
          rw [hl] at h
          cases h
          have hok : (Bk.mk b.period l').ok := leased_ok (p := b.period) ho hl
          obtain ⟨k, hk, rfl, hf, h1, h2⟩ := leased_some hl
          have hs : b.entries[k].pol.sub = e.sub := by
            obtain ⟨_, q, _⟩ := List.findIdx?_eq_some_iff_getElem.1 hf
            simpa [hasSub] using q
          refine ⟨ho, hok, .inl rfl, fun _ x hx y hy => ?_, fun x hx hz => ?_, fun _ x hx hx2 => ?_⟩
          · rcases mem_set hx with ⟨rfl, _⟩ | ⟨i, hi, hik, rfl⟩
            · have h3 : ofSub b.entries b.entries[k].pol.sub = some b.entries[k] := ofSub_mem hon (List.getElem_mem hk)
              have hy : ofSub b.entries b.entries[k].pol.sub = some y := hy
              rw [h3] at hy
              rw [← Option.some.inj hy]
              exact h1
            · have h3 := ofSub_mem hon (List.getElem_mem hi)
              rw [h3] at hy
              rw [← Option.some.inj hy]; exact Int.le_refl _
          · rcases hz with hz | hz
            · exact absurd hz (Int.lt_irrefl _)
            · exfalso
              rcases mem_set hx with ⟨rfl, _⟩ | ⟨i, hi, hik, rfl⟩
              · have h3 : ofSub b.entries b.entries[k].pol.sub = some b.entries[k] := ofSub_mem hon (List.getElem_mem hk)
                have hz : ofSub b.entries b.entries[k].pol.sub = none := hz
                rw [h3] at hz; cases hz
              · rw [ofSub_mem hon (List.getElem_mem hi)] at hz; cases hz
          · rcases mem_set hx with ⟨rfl, _⟩ | ⟨i, hi, hik, rfl⟩
            · exact ⟨h2, rfl⟩
            · exact absurd (once_inj hon hi hk (by rw [← hx2, hs])) hik
      · first | rw [if_neg hk2] at h | skip
        split at h
        · rename_i hq
          cases h
          have hv : valOk e.period := by
            rcases hr with z | z | z
            · exact absurd z.1 hk1
            · exact absurd z.1 hk2
            · exact z.2.1
          refine ⟨ho, zeroed_ok (p := b.period) ho hv.1 hv.2, .inr hq, fun q => ?_, fun x hx _ => ?_, fun q => absurd q hk2⟩
          · have q : e.period = b.period := q
            omega
          · obtain ⟨y, _, rfl⟩ := List.mem_map.1 hx
            rfl
        · cases h
    · cases h
/-- Rows of events, as cells. -/
structure EvR where
  kind : Int
  sub : Int
  xp : AV
  xd : AV
  granted : Int
  period : Int
def EvR.enc (a : EvR) : List AV := [.i .i64 a.kind, .i .i64 a.sub, a.xp, a.xd, .i .u64 a.granted, .i .u64 a.period]
def evrE : Enc EvR where
  enc := EvR.enc
  dec r := match r with
    | [.i .i64 k, .i .i64 s, xp, xd, .i .u64 g, .i .u64 q] => some ⟨k, s, xp, xd, g, q⟩
    | _ => none
  sz := 6
  pos := by decide
  len _ := rfl
  de _ := rfl
  ed r a h := by
    split at h
    · injection h with h; subst h; rfl
    · cases h
def EvR.good (S : Mem) (a : EvR) : Prop := ∃ e, evtOf S a.enc = some e ∧ (∀ x ∈ e.puts, x.good) ∧ openQ S 13 a.xp = true
/-- A box that is written again: lists are as they were. -/
theorem lst_setbox {α : Type} {E : Enc α} {M : Mem} {y : AV} {l : List α} {i v : Nat} {cs cs' : List AV} {op : Option Nat} {r : Bool} (h : lstV E M y = some l) (hB : M[i]? = some (.cells cs v op r)) (hl : cs'.length = cs.length) (hs : cs.length < E.sz) :
    lstV E (M.set i (.cells cs' v op r)) y = some l := by
  rcases lstV_lst h with ⟨rfl, rfl⟩ | ⟨rfl, rfl⟩ | ⟨j, o, v2, len, cap, ex, rfl, rfl, hr⟩
  · rfl
  · rfl
  · refine lst_lstV (.inr (.inr ⟨_, _, _, _, _, _, rfl, rfl, ?_⟩))
    rw [rowAt_B] at hr ⊢
    by_cases hij : i = j
    · subst hij
      rw [at_set hB]
      rw [hB] at hr
      cases l with
      | nil =>
        simp only [List.length_nil, Nat.zero_mul] at hr ⊢
        unfold rowB at hr ⊢
        simp only [List.take_zero] at hr ⊢
        rw [hl]; exact hr
      | cons a l =>
        exfalso
        unfold rowB at hr
        simp only at hr
        split at hr
        · rename_i hc
          have := hc.2
          rw [List.length_cons, Nat.add_mul] at this
          omega
        · cases hr
    · rw [at_set_ne hij]; exact hr
end Go.Proofs.Ytapgkaecamljbaa

namespace Go.Proofs.Ytapgkaecamljbaa
open Go.RowKit
set_option linter.unusedSimpArgs false
set_option linter.unusedVariables false
set_option maxRecDepth 10000

theorem wrapS {t : Nat} (h : t < 1000000) : wrapV .i64 ((t : Int) + 1) = ((t + 1 : Nat) : Int) := by rw [wrap_i64 (by omega) (by omega)]; omega
theorem err_or (b : Bk) (e : Evt) : b.err e = 0 ∨ b.err e = 131 := by unfold Bk.err; split <;> simp
end Go.Proofs.Ytapgkaecamljbaa

namespace Go.Proofs.Ytapgkaecamljbaa
open Go.RowKit
set_option linter.unusedSimpArgs false
set_option linter.unusedVariables false
set_option maxRecDepth 10000

theorem oBsu_ok : OK Try.prog (lamOf Try.prog) (orcOf [(11, aliveS), (12, greatS), (13, applyS), (22, bsameS), (16, brightS), (19, findS)]) := orc_ok (by simpa using ⟨alive_ok, great_ok, apply_ok, bsame_ok, bright_ok, bfind_ok⟩)
theorem err_none {b : Bk} {e : Evt} (h : b.err e = 131) : b.after e = b := by
  unfold Bk.err at h
  unfold Bk.after
  cases hr : b.rapplied e with
  | none => rfl
  | some c => rw [hr] at h; simp at h
set_option maxHeartbeats 1000000 in
theorem sums_ok (S : Mem) (x : AV) (evs : List EvR) (hx : lstV evrE S x = some evs) (hg : ∀ a ∈ evs, a.good S) : FnOK Try.prog 6 [x] S (.b true) S := by
  refine fn_of_wp f6 rfl (W_sound oBsu_ok mixed _ _ _ _ _ ?_)
  by_cases h60 : 60 < evs.length
  · have hI : (60 : Int) < evs.length := by omega
    simp (maxSteps := 1000000) (disch := omega) only [c6, orc_cons, aliveS, lst_len hx, hI, go_sem, Option.map_none, Option.map_some, ↓reduceIte, Nat.reduceBEq, Nat.reduceAdd, Nat.reduceSub, Nat.reduceEqDiff, Nat.reduceLeDiff, Nat.reduceMul, Nat.reduceLT, Int.reduceLT, Int.reduceLE, Int.reduceAdd, Int.reduceSub, Int.reduceMul, Int.reduceNeg, Int.reduceEq, Int.reduceNe, Int.reduceToNat, decide_true, decide_false, iaddr_i, iaddr_sl_i, not_true_eq_false, not_false_eq_true, reduceCtorEq, ne_eq, forall_const, false_imp_iff, true_imp_iff, implies_true, Int.cast_ofNat_Int, Int.natCast_zero, Int.natCast_one, Int.add_zero, Int.zero_add]
    exact wkv_same
  have hI : ¬ (60 : Int) < evs.length := by omega
  simp (maxSteps := 1000000) (disch := omega) only [c6, orc_cons, aliveS, lst_len hx, hI, List.replicate, go_sem, Option.map_none, Option.map_some, ↓reduceIte, Nat.reduceBEq, Nat.reduceAdd, Nat.reduceSub, Nat.reduceEqDiff, Nat.reduceLeDiff, Nat.reduceMul, Nat.reduceLT, Int.reduceLT, Int.reduceLE, Int.reduceAdd, Int.reduceSub, Int.reduceMul, Int.reduceNeg, Int.reduceEq, Int.reduceNe, Int.reduceToNat, decide_true, decide_false, iaddr_i, iaddr_sl_i, not_true_eq_false, not_false_eq_true, reduceCtorEq, ne_eq, forall_const, false_imp_iff, true_imp_iff, implies_true, Int.cast_ofNat_Int, Int.natCast_zero, Int.natCast_one, Int.add_zero, Int.zero_add]
  refine wp_loop (fun j e M dl => dl = [] ∧ ∃ (t : Nat) (p : Int) (y : AV) (l : List Ent), j = evs.length - t ∧ t ≤ evs.length ∧ S <+: M ∧ M[S.length]? = some (.cells [.i .u64 p, y] 0 none true) ∧ lstV entE M y = some l ∧ (Bk.mk p l).fits ∧
    e.get 3 = .p S.length 0 0 ∧ e.get 18 = x ∧ e.get 19 = .i .i64 evs.length ∧ e.get 20 = .i .i64 t) (j := evs.length) ?_ ?_
  · exact ⟨rfl, 0, 1, .sn, [], rfl, Nat.zero_le _, ext_app _, by rw [at_app0]; rfl, rfl, ⟨by simp, by simp⟩, rfl, rfl, rfl, rfl⟩
  rintro j e M d' ⟨rfl, t, p, y, l, rfl, ht, hSM, hB, hl, hbf, e3, e18, e19, e20⟩
  refine W_sound oBsu_ok mixed _ _ _ _ _ ?_
  by_cases htl : t < evs.length
  · obtain ⟨bi, o, v, cap, ex, rfl⟩ := lst_sl hx htl
    have hr := lstV_row (lst_ext hx hSM) htl []
    rw [List.append_nil] at hr
    have hga := hg _ (List.getElem_mem htl)
    have htI : (t : Int) < evs.length := by omega
    have ht6 : t < 1000000 := by omega
    have hr : rowB (M[bi]?) (o + t * 6) v 6 = some (evs[t]).enc := hr
    generalize evs[t] = a at hr hga
    obtain ⟨k, sub, xp, xd, g, q⟩ := a
    obtain ⟨ev, hev, hgp, hop⟩ := hga
    obtain ⟨xp', xd', hcs, hp, hd⟩ := evtOf_ok hev
    simp only [EvR.enc, List.cons.injEq, AV.i.injEq, true_and, and_true] at hcs
    obtain ⟨rfl, rfl, rfl, rfl, rfl, rfl⟩ := hcs
    simp only [EvR.enc] at hr hev
    have hevM := evtOf_ext hev hSM
    have gr := fun L => great_eq (bookOf_mk (p := 0) (x := .sn) (l := []) (S := M ++ L) rfl) (evtOf_ext hev (ext_more hSM L))
    by_cases h30 : 30 < (Bk.mk 0 []).entries.length ∨ 30 < ev.puts.length ∨ 30 < ev.drops.length
    · rw [decide_eq_true h30] at gr
      simp (maxSteps := 1000000) (disch := omega) only [c6l1, e3, e18, e19, e20, htI, Int.toNat_natCast, hr, List.replicate, orc_cons, gr, lst_cells hp, lst_cells hd, lst_one hp, lst_one hd, go_sem, Option.map_none, Option.map_some, ↓reduceIte, Nat.reduceBEq, Nat.reduceAdd, Nat.reduceSub, Nat.reduceEqDiff, Nat.reduceLeDiff, Nat.reduceMul, Nat.reduceLT, Int.reduceLT, Int.reduceLE, Int.reduceAdd, Int.reduceSub, Int.reduceMul, Int.reduceNeg, Int.reduceEq, Int.reduceNe, Int.reduceToNat, decide_true, decide_false, iaddr_i, iaddr_sl_i, not_true_eq_false, not_false_eq_true, reduceCtorEq, ne_eq, forall_const, false_imp_iff, true_imp_iff, implies_true, Int.cast_ofNat_Int, Int.natCast_zero, Int.natCast_one, Int.add_zero, Int.zero_add]
      exact wkv_dropP (ext_more hSM _) rfl
    rw [decide_eq_false h30] at gr
    simp only [not_or, Nat.not_lt] at h30
    have hef : ev.fits := ⟨by omega, by omega, fun x hx => (hgp x hx).fits⟩
    have hS1 := ext_more hSM [Blk.cells [.i .i64 ev.kind, .i .i64 ev.sub, xp, xd, .i .u64 ev.granted, .i .u64 ev.period] 0 none true]
    have hB1 := fun L => at_old (L := L) hB
    obtain ⟨C, M2, hc1, hC, hM2⟩ := apply_call (bookOf_mk (p := p) (lstV_grow hl [Blk.cells [.i .i64 ev.kind, .i .i64 ev.sub, xp, xd, .i .u64 ev.granted, .i .u64 ev.period] 0 none true])) (evtOf_ext hev hS1) hbf hef
    have hcf := after_fits hbf hef
    have hB2 := fun L => at_old (L := L) (at_pre hM2 (hB1 _))
    have hMM2 := (ext_app [Blk.cells [.i .i64 ev.kind, .i .i64 ev.sub, xp, xd, .i .u64 ev.granted, .i .u64 ev.period] 0 none true]).trans hM2
    have hl2 := lst_ext hl hMM2
    rcases err_or ⟨p, l⟩ ev with q0 | q0
    rotate_left
    · rw [q0] at hc1
      have hsm : ∀ L, bsameS [.ag [.i .u64 p, y], .ag [.i .u64 ((Bk.mk p l).after ev).period, C]] (M2 ++ L) = some (.b true, M2 ++ L) := fun L => by
        have hC' := lstV_grow hC L
        rw [err_none q0] at hC' ⊢
        simp only [bsameS, bookOf_mk (p := p) (lstV_grow hl2 L), bookOf_mk (p := p) hC']
        rw [if_pos hbf.1]; simp
      simp (maxSteps := 1000000) (disch := omega) only [c6l1, e3, e18, e19, e20, htI, Int.toNat_natCast, hr, List.replicate, orc_cons, gr, lst_cells hp, lst_cells hd, lst_one hp, lst_one hd, hB1, hc1, lst_cells hC, lst_one hC, hB2, hsm, wrapS ht6, go_sem, Option.map_none, Option.map_some, ↓reduceIte, Nat.reduceBEq, Nat.reduceAdd, Nat.reduceSub, Nat.reduceEqDiff, Nat.reduceLeDiff, Nat.reduceMul, Nat.reduceLT, Int.reduceLT, Int.reduceLE, Int.reduceAdd, Int.reduceSub, Int.reduceMul, Int.reduceNeg, Int.reduceEq, Int.reduceNe, Int.reduceToNat, decide_true, decide_false, iaddr_i, iaddr_sl_i, not_true_eq_false, not_false_eq_true, reduceCtorEq, ne_eq, forall_const, false_imp_iff, true_imp_iff, implies_true, Int.cast_ofNat_Int, Int.natCast_zero, Int.natCast_one, Int.add_zero, Int.zero_add]
      exact ⟨evs.length - (t + 1), by omega, t + 1, p, y, l, rfl, htl, (hSM.trans hMM2).trans (ext_app _), rfl, lstV_grow hl2 _, hbf, rfl⟩
    · rw [q0] at hc1
      have hsum := rapplied_sums (err_zero q0)
      generalize hc : (Bk.mk p l).after ev = c at hc1 hC hcf hsum
      obtain ⟨q, m⟩ := c
      simp only at hc1 hC
      have hRight : ∀ L, brightS [.ag [.i .u64 q, C]] (M2 ++ L) = some (.b true, M2 ++ L) := fun L => by
        rw [bright_eq (bookOf_mk (p := q) (lstV_grow hC L)) hcf, decide_eq_true hsum.okc]
      have hp48 : 1 ≤ p ∧ p ≤ 281474976710656 := ⟨hsum.okb.1, hsum.okb.2.1⟩
      have hw : wrapV .u64 (p + 1) = p + 1 := wrap_u64 (by omega) (by omega)
      have hq : q = p ∨ q = p + 1 := hsum.per
      have hq1 : ¬ q < p := by omega
      have hq2 : ¬ p + 1 < q := by omega
      simp (maxSteps := 1000000) (disch := omega) only [c6l1, e3, e18, e19, e20, htI, Int.toNat_natCast, hr, List.replicate, orc_cons, gr, lst_cells hp, lst_cells hd, lst_one hp, lst_one hd, hB1, hc1, lst_cells hC, lst_one hC, hB2, hRight, hw, hq1, hq2, lst_len hC, go_sem, Option.map_none, Option.map_some, ↓reduceIte, Nat.reduceBEq, Nat.reduceAdd, Nat.reduceSub, Nat.reduceEqDiff, Nat.reduceLeDiff, Nat.reduceMul, Nat.reduceLT, Int.reduceLT, Int.reduceLE, Int.reduceAdd, Int.reduceSub, Int.reduceMul, Int.reduceNeg, Int.reduceEq, Int.reduceNe, Int.reduceToNat, decide_true, decide_false, iaddr_i, iaddr_sl_i, not_true_eq_false, not_false_eq_true, reduceCtorEq, ne_eq, forall_const, false_imp_iff, true_imp_iff, implies_true, Int.cast_ofNat_Int, Int.natCast_zero, Int.natCast_one, Int.add_zero, Int.zero_add]
      obtain ⟨M3, hM3⟩ : ∃ M3, M3 = M2 ++ [Blk.cells [.i .u64 q, C] 0 none true] := ⟨_, rfl⟩
      have hM23 : M2 <+: M3 := by rw [hM3]; exact ext_app _
      have k0 : M3[S.length]? = some (.cells [.i .u64 p, y] 0 none true) := by rw [hM3]; exact hB2 _
      have k1 : M3[M.length]? = some (.cells [.i .i64 ev.kind, .i .i64 ev.sub, xp, xd, .i .u64 ev.granted, .i .u64 ev.period] 0 none true) := at_pre (hM2.trans hM23) (by rw [at_app0]; rfl)
      have k2 : M3[M2.length]? = some (.cells [.i .u64 q, C] 0 none true) := by rw [hM3, at_app0]; rfl
      have hS3 := (hSM.trans hMM2).trans hM23
      have hl3 := lst_ext hl2 hM23
      have hC3 := lst_ext hC hM23
      rw [← hM3]
      refine wp_loop (fun j e M' dl => dl = [] ∧ ∃ (u : Nat), j = m.length - u ∧ u ≤ m.length ∧ M3 <+: M' ∧ e.get 5 = .p M.length 0 0 ∧ e.get 3 = .p S.length 0 0 ∧ e.get 6 = .p M2.length 0 0 ∧ e.get 58 = C ∧ e.get 18 = .sl bi o v evs.length cap ex ∧ e.get 19 = .i .i64 evs.length ∧ e.get 20 = .i .i64 t ∧ e.get 59 = .i .i64 m.length ∧ e.get 60 = .i .i64 u) (j := m.length) ?_ ?_
      · exact ⟨rfl, 0, rfl, Nat.zero_le _, ext_refl, rfl, rfl, rfl, rfl, rfl, rfl, rfl, rfl, rfl⟩
      rintro j2 e2 M4 d2 ⟨rfl, u, rfl, hu, hM34, f5, f3, f6, f58, f18, f19, f20, f59, f60⟩
      refine W_sound oBsu_ok mixed _ _ _ _ _ ?_
      have w0 := at_pre hM34 k0
      have w1 := at_pre hM34 k1
      have w2 := at_pre hM34 k2
      have w0o := fun L => at_old (L := L) w0
      have w1o := fun L => at_old (L := L) w1
      have w2o := fun L => at_old (L := L) w2
      have hl4 := lst_ext hl3 hM34
      have hC4 := lst_ext hC3 hM34
      have hS4 := hS3.trans hM34
      have hml : m.length ≤ 1000000 := hcf.1
      by_cases hul : u < m.length
      · obtain ⟨bj, oj, vj, capj, exj, rfl⟩ := lst_sl hC hul
        have hrw := lstV_row hC4 hul []
        rw [List.append_nil] at hrw
        have hmem := List.getElem_mem hul
        have huI : (u : Int) < m.length := by omega
        have hu6 : u < 1000000 := by omega
        have hrw : rowB (M4[bj]?) (oj + u * 14) vj 14 = some (entE.enc m[u]) := hrw
        generalize m[u] = z at hrw hmem
        obtain ⟨w, ok, hfd, hcase⟩ := found_case (l.find? (hasSub z.pol.sub))
        have hfi : ∀ L, findS [.ag [.i .u64 p, y], .i .i64 z.pol.sub] (M4 ++ L) = some (.tu [.ag (entE.enc w), .b ok], M4 ++ L) := fun L => by
          rw [find_eq (bookOf_mk (p := p) (lstV_grow hl4 L)) _ hbf.1]
          exact congrArg (fun f => some (f, M4 ++ L)) hfd
        simp only [entE, Ent.enc] at hrw hfi
        have hsame := hsum.same
        have hzero := hsum.zero z hmem
        have hlease := fun hk => hsum.lease hk z hmem
        simp only at hsame hzero
        have fin : ∀ Bs : Mem, ∃ j', j' < m.length - u ∧ ∃ u_1, j' = m.length - u_1 ∧ u_1 ≤ m.length ∧ M3 <+: M4 ++ Bs ∧ AV.i .i64 ((u + 1 : Nat) : Int) = AV.i .i64 (u_1 : Int) := fun Bs =>
          ⟨m.length - (u + 1), by omega, u + 1, rfl, hul, hM34.trans (ext_app _), rfl⟩
        clear hw hp48
        rcases hq with hqp | hqp
        · subst hqp
          rcases hcase with ⟨rfl, hf⟩ | ⟨rfl, hf, rfl⟩
          · have hlt : ¬ z.granted < w.granted := Int.not_lt.2 (hsame rfl z hmem w hf)
            by_cases hk2 : ev.kind = 2
            rotate_left
            · simp (maxSteps := 1000000) (disch := omega) only [c6l0, f5, f3, f6, f58, f18, f19, f20, f59, f60, huI, Int.toNat_natCast, hrw, List.replicate, orc_cons, w0, w1, w2, w0o, w1o, w2o, hfi, wrapS hu6, hlt, Int.lt_irrefl, hk2, go_sem, Option.map_none, Option.map_some, ↓reduceIte, Nat.reduceBEq, Nat.reduceAdd, Nat.reduceSub, Nat.reduceEqDiff, Nat.reduceLeDiff, Nat.reduceMul, Nat.reduceLT, Int.reduceLT, Int.reduceLE, Int.reduceAdd, Int.reduceSub, Int.reduceMul, Int.reduceNeg, Int.reduceEq, Int.reduceNe, Int.reduceToNat, decide_true, decide_false, iaddr_i, iaddr_sl_i, not_true_eq_false, not_false_eq_true, reduceCtorEq, ne_eq, forall_const, false_imp_iff, true_imp_iff, implies_true, Int.cast_ofNat_Int, Int.natCast_zero, Int.natCast_one, Int.add_zero, Int.zero_add]
              (repeat' first | exact fin _ | refine And.intro ?_ ?_ | intro _) <;> (exfalso; omega)
            by_cases hks : ev.sub = z.pol.sub
            rotate_left
            · simp (maxSteps := 1000000) (disch := omega) only [c6l0, f5, f3, f6, f58, f18, f19, f20, f59, f60, huI, Int.toNat_natCast, hrw, List.replicate, orc_cons, w0, w1, w2, w0o, w1o, w2o, hfi, wrapS hu6, hlt, Int.lt_irrefl, hk2, hks, go_sem, Option.map_none, Option.map_some, ↓reduceIte, Nat.reduceBEq, Nat.reduceAdd, Nat.reduceSub, Nat.reduceEqDiff, Nat.reduceLeDiff, Nat.reduceMul, Nat.reduceLT, Int.reduceLT, Int.reduceLE, Int.reduceAdd, Int.reduceSub, Int.reduceMul, Int.reduceNeg, Int.reduceEq, Int.reduceNe, Int.reduceToNat, decide_true, decide_false, iaddr_i, iaddr_sl_i, not_true_eq_false, not_false_eq_true, reduceCtorEq, ne_eq, forall_const, false_imp_iff, true_imp_iff, implies_true, Int.cast_ofNat_Int, Int.natCast_zero, Int.natCast_one, Int.add_zero, Int.zero_add]
              (repeat' first | exact fin _ | refine And.intro ?_ ?_ | intro _) <;> (exfalso; omega)
            obtain ⟨hle, hge⟩ := hlease hk2 hks
            have hle' : ¬ z.pol.quota < z.granted := by omega
            have hge' : ¬ z.granted ≠ ev.granted := fun q => q hge
            simp (maxSteps := 1000000) (disch := omega) only [c6l0, f5, f3, f6, f58, f18, f19, f20, f59, f60, huI, Int.toNat_natCast, hrw, List.replicate, orc_cons, w0, w1, w2, w0o, w1o, w2o, hfi, wrapS hu6, hlt, Int.lt_irrefl, hk2, hks, hle', hge, go_sem, Option.map_none, Option.map_some, ↓reduceIte, Nat.reduceBEq, Nat.reduceAdd, Nat.reduceSub, Nat.reduceEqDiff, Nat.reduceLeDiff, Nat.reduceMul, Nat.reduceLT, Int.reduceLT, Int.reduceLE, Int.reduceAdd, Int.reduceSub, Int.reduceMul, Int.reduceNeg, Int.reduceEq, Int.reduceNe, Int.reduceToNat, decide_true, decide_false, iaddr_i, iaddr_sl_i, not_true_eq_false, not_false_eq_true, reduceCtorEq, ne_eq, forall_const, false_imp_iff, true_imp_iff, implies_true, Int.cast_ofNat_Int, Int.natCast_zero, Int.natCast_one, Int.add_zero, Int.zero_add]
            (repeat' first | exact fin _ | refine And.intro ?_ ?_ | intro _) <;> (exfalso; omega)
          · have hz : z.granted = 0 := hzero (.inr hf)
            by_cases hk2 : ev.kind = 2
            rotate_left
            · simp (maxSteps := 1000000) (disch := omega) only [c6l0, f5, f3, f6, f58, f18, f19, f20, f59, f60, huI, Int.toNat_natCast, hrw, List.replicate, orc_cons, w0, w1, w2, w0o, w1o, w2o, hfi, wrapS hu6, hz, Int.lt_irrefl, hk2, go_sem, Option.map_none, Option.map_some, ↓reduceIte, Nat.reduceBEq, Nat.reduceAdd, Nat.reduceSub, Nat.reduceEqDiff, Nat.reduceLeDiff, Nat.reduceMul, Nat.reduceLT, Int.reduceLT, Int.reduceLE, Int.reduceAdd, Int.reduceSub, Int.reduceMul, Int.reduceNeg, Int.reduceEq, Int.reduceNe, Int.reduceToNat, decide_true, decide_false, iaddr_i, iaddr_sl_i, not_true_eq_false, not_false_eq_true, reduceCtorEq, ne_eq, forall_const, false_imp_iff, true_imp_iff, implies_true, Int.cast_ofNat_Int, Int.natCast_zero, Int.natCast_one, Int.add_zero, Int.zero_add]
              (repeat' first | exact fin _ | refine And.intro ?_ ?_ | intro _) <;> (exfalso; omega)
            by_cases hks : ev.sub = z.pol.sub
            rotate_left
            · simp (maxSteps := 1000000) (disch := omega) only [c6l0, f5, f3, f6, f58, f18, f19, f20, f59, f60, huI, Int.toNat_natCast, hrw, List.replicate, orc_cons, w0, w1, w2, w0o, w1o, w2o, hfi, wrapS hu6, hz, Int.lt_irrefl, hk2, hks, go_sem, Option.map_none, Option.map_some, ↓reduceIte, Nat.reduceBEq, Nat.reduceAdd, Nat.reduceSub, Nat.reduceEqDiff, Nat.reduceLeDiff, Nat.reduceMul, Nat.reduceLT, Int.reduceLT, Int.reduceLE, Int.reduceAdd, Int.reduceSub, Int.reduceMul, Int.reduceNeg, Int.reduceEq, Int.reduceNe, Int.reduceToNat, decide_true, decide_false, iaddr_i, iaddr_sl_i, not_true_eq_false, not_false_eq_true, reduceCtorEq, ne_eq, forall_const, false_imp_iff, true_imp_iff, implies_true, Int.cast_ofNat_Int, Int.natCast_zero, Int.natCast_one, Int.add_zero, Int.zero_add]
              (repeat' first | exact fin _ | refine And.intro ?_ ?_ | intro _) <;> (exfalso; omega)
            obtain ⟨hle, hge⟩ := hlease hk2 hks
            have hle' : ¬ z.pol.quota < z.granted := by omega
            have hge' : ¬ z.granted ≠ ev.granted := fun q => q hge
            simp (maxSteps := 1000000) (disch := omega) only [c6l0, f5, f3, f6, f58, f18, f19, f20, f59, f60, huI, Int.toNat_natCast, hrw, List.replicate, orc_cons, w0, w1, w2, w0o, w1o, w2o, hfi, wrapS hu6, hz, Int.lt_irrefl, hk2, hks, hle', hge, go_sem, Option.map_none, Option.map_some, ↓reduceIte, Nat.reduceBEq, Nat.reduceAdd, Nat.reduceSub, Nat.reduceEqDiff, Nat.reduceLeDiff, Nat.reduceMul, Nat.reduceLT, Int.reduceLT, Int.reduceLE, Int.reduceAdd, Int.reduceSub, Int.reduceMul, Int.reduceNeg, Int.reduceEq, Int.reduceNe, Int.reduceToNat, decide_true, decide_false, iaddr_i, iaddr_sl_i, not_true_eq_false, not_false_eq_true, reduceCtorEq, ne_eq, forall_const, false_imp_iff, true_imp_iff, implies_true, Int.cast_ofNat_Int, Int.natCast_zero, Int.natCast_one, Int.add_zero, Int.zero_add]
            (repeat' first | exact fin _ | refine And.intro ?_ ?_ | intro _) <;> (exfalso; omega)
        · have hz : z.granted = 0 := hzero (.inl (by rw [hqp]; omega))
          have hne : ¬ p + 1 = p := by omega
          have hlt : p < p + 1 := by omega
          subst hqp
          by_cases hk2 : ev.kind = 2
          rotate_left
          · simp (maxSteps := 1000000) (disch := omega) only [c6l0, f5, f3, f6, f58, f18, f19, f20, f59, f60, huI, Int.toNat_natCast, hrw, List.replicate, orc_cons, w0, w1, w2, w0o, w1o, w2o, hfi, wrapS hu6, hz, hne, hlt, hk2, go_sem, Option.map_none, Option.map_some, ↓reduceIte, Nat.reduceBEq, Nat.reduceAdd, Nat.reduceSub, Nat.reduceEqDiff, Nat.reduceLeDiff, Nat.reduceMul, Nat.reduceLT, Int.reduceLT, Int.reduceLE, Int.reduceAdd, Int.reduceSub, Int.reduceMul, Int.reduceNeg, Int.reduceEq, Int.reduceNe, Int.reduceToNat, decide_true, decide_false, iaddr_i, iaddr_sl_i, not_true_eq_false, not_false_eq_true, reduceCtorEq, ne_eq, forall_const, false_imp_iff, true_imp_iff, implies_true, Int.cast_ofNat_Int, Int.natCast_zero, Int.natCast_one, Int.add_zero, Int.zero_add]
            (repeat' first | exact fin _ | refine And.intro ?_ ?_ | intro _) <;> (exfalso; omega)
          by_cases hks : ev.sub = z.pol.sub
          rotate_left
          · simp (maxSteps := 1000000) (disch := omega) only [c6l0, f5, f3, f6, f58, f18, f19, f20, f59, f60, huI, Int.toNat_natCast, hrw, List.replicate, orc_cons, w0, w1, w2, w0o, w1o, w2o, hfi, wrapS hu6, hz, hne, hlt, hk2, hks, go_sem, Option.map_none, Option.map_some, ↓reduceIte, Nat.reduceBEq, Nat.reduceAdd, Nat.reduceSub, Nat.reduceEqDiff, Nat.reduceLeDiff, Nat.reduceMul, Nat.reduceLT, Int.reduceLT, Int.reduceLE, Int.reduceAdd, Int.reduceSub, Int.reduceMul, Int.reduceNeg, Int.reduceEq, Int.reduceNe, Int.reduceToNat, decide_true, decide_false, iaddr_i, iaddr_sl_i, not_true_eq_false, not_false_eq_true, reduceCtorEq, ne_eq, forall_const, false_imp_iff, true_imp_iff, implies_true, Int.cast_ofNat_Int, Int.natCast_zero, Int.natCast_one, Int.add_zero, Int.zero_add]
            (repeat' first | exact fin _ | refine And.intro ?_ ?_ | intro _) <;> (exfalso; omega)
          obtain ⟨hle, hge⟩ := hlease hk2 hks
          have hle' : ¬ z.pol.quota < z.granted := by omega
          have hge' : ¬ z.granted ≠ ev.granted := fun q => q hge
          simp (maxSteps := 1000000) (disch := omega) only [c6l0, f5, f3, f6, f58, f18, f19, f20, f59, f60, huI, Int.toNat_natCast, hrw, List.replicate, orc_cons, w0, w1, w2, w0o, w1o, w2o, hfi, wrapS hu6, hz, hne, hlt, hk2, hks, hle', hge, go_sem, Option.map_none, Option.map_some, ↓reduceIte, Nat.reduceBEq, Nat.reduceAdd, Nat.reduceSub, Nat.reduceEqDiff, Nat.reduceLeDiff, Nat.reduceMul, Nat.reduceLT, Int.reduceLT, Int.reduceLE, Int.reduceAdd, Int.reduceSub, Int.reduceMul, Int.reduceNeg, Int.reduceEq, Int.reduceNe, Int.reduceToNat, decide_true, decide_false, iaddr_i, iaddr_sl_i, not_true_eq_false, not_false_eq_true, reduceCtorEq, ne_eq, forall_const, false_imp_iff, true_imp_iff, implies_true, Int.cast_ofNat_Int, Int.natCast_zero, Int.natCast_one, Int.add_zero, Int.zero_add]
          (repeat' first | exact fin _ | refine And.intro ?_ ?_ | intro _) <;> (exfalso; omega)
      · have huI : ¬ (u : Int) < m.length := by omega
        simp (maxSteps := 1000000) (disch := omega) only [c6l0, f5, f3, f6, f58, f18, f19, f20, f59, f60, huI, w0, w2, lst_one hC, wrapS ht6, go_sem, Option.map_none, Option.map_some, ↓reduceIte, Nat.reduceBEq, Nat.reduceAdd, Nat.reduceSub, Nat.reduceEqDiff, Nat.reduceLeDiff, Nat.reduceMul, Nat.reduceLT, Int.reduceLT, Int.reduceLE, Int.reduceAdd, Int.reduceSub, Int.reduceMul, Int.reduceNeg, Int.reduceEq, Int.reduceNe, Int.reduceToNat, decide_true, decide_false, iaddr_i, iaddr_sl_i, not_true_eq_false, not_false_eq_true, reduceCtorEq, ne_eq, forall_const, false_imp_iff, true_imp_iff, implies_true, Int.cast_ofNat_Int, Int.natCast_zero, Int.natCast_one, Int.add_zero, Int.zero_add]
        exact ⟨evs.length - (t + 1), by omega, t + 1, q, C, m, rfl, htl, ext_set hS4 (Nat.le_refl _) _, at_set w0, lst_setbox hC4 w0 rfl (by show 2 < 14; omega), hcf, rfl⟩
  · have htI : ¬ (t : Int) < evs.length := by omega
    simp (maxSteps := 1000000) (disch := omega) only [c6l1, e3, e18, e19, e20, htI, go_sem, Option.map_none, Option.map_some, ↓reduceIte, Nat.reduceBEq, Nat.reduceAdd, Nat.reduceSub, Nat.reduceEqDiff, Nat.reduceLeDiff, Nat.reduceMul, Nat.reduceLT, Int.reduceLT, Int.reduceLE, Int.reduceAdd, Int.reduceSub, Int.reduceMul, Int.reduceNeg, Int.reduceEq, Int.reduceNe, Int.reduceToNat, decide_true, decide_false, iaddr_i, iaddr_sl_i, not_true_eq_false, not_false_eq_true, reduceCtorEq, ne_eq, forall_const, false_imp_iff, true_imp_iff, implies_true, Int.cast_ofNat_Int, Int.natCast_zero, Int.natCast_one, Int.add_zero, Int.zero_add]
    exact wkv_dropP hSM rfl
end Go.Proofs.Ytapgkaecamljbaa

namespace Go.Proofs.Ytapgkaecamljbaa
open Go.RowKit
set_option linter.unusedVariables false
set_option maxRecDepth 100000

section
variable {H : Type} {enc : TypeId × Value → H} {W : World}

theorem wf_u8 {n : Int} (h : (Lit.int .u8 n).wf = true) : u8 n := by
  simp only [Lit.wf, IntKind.min, IntKind.max, IntKind.signed, IntKind.bits, Bool.and_eq_true] at h
  unfold u8
  simpa using h
theorem wf_u64 {n : Int} (h : (Lit.int .u64 n).wf = true) : u64 n := by
  simp only [Lit.wf, IntKind.min, IntKind.max, IntKind.signed, IntKind.bits, Bool.and_eq_true] at h
  unfold u64
  simpa using h
theorem wf_i64 {n : Int} (h : (Lit.int .i64 n).wf = true) : i64 n := by
  simp only [Lit.wf, IntKind.min, IntKind.max, IntKind.signed, IntKind.bits, Bool.and_eq_true] at h
  unfold i64
  simpa using h

theorem enc_inj {α : Type} {E : Enc α} {a b : α} (h : E.enc a = E.enc b) : a = b := by
  have h1 := E.de a
  rw [h, E.de] at h1
  injection h1 with h1; exact h1.symm

end
end Go.Proofs.Ytapgkaecamljbaa

namespace Go.Proofs.Ytapgkaecamljbaa
open Go.RowKit
set_option linter.unusedVariables false
set_option maxRecDepth 100000

section
variable {H : Type} {enc : TypeId × Value → H} {W : World}

abbrev polSh : List CS := [.int .i64, .int .u8, .int .u8, .int .u8, .int .u8, .int .i64, .int .u64, .int .u64, .int .u64, .int .u64, .int .u64, .int .u64, .int .u64]
theorem rowPol {cs : List Value} (h : RowIs enc Try.prog W polSh cs) : ∃ a : Pol, cs.map (absV W) = a.enc ∧ a.good := by
  obtain ⟨h1, h2⟩ := h
  match cs, h1 with
  | [x0, x1, x2, x3, x4, x5, x6, x7, x8, x9, x10, x11, x12], _ =>
    obtain ⟨a0, rfl, w0⟩ := h2 0 (by simp) (by simp)
    obtain ⟨a1, rfl, w1⟩ := h2 1 (by simp) (by simp)
    obtain ⟨a2, rfl, w2⟩ := h2 2 (by simp) (by simp)
    obtain ⟨a3, rfl, w3⟩ := h2 3 (by simp) (by simp)
    obtain ⟨a4, rfl, w4⟩ := h2 4 (by simp) (by simp)
    obtain ⟨a5, rfl, w5⟩ := h2 5 (by simp) (by simp)
    obtain ⟨a6, rfl, w6⟩ := h2 6 (by simp) (by simp)
    obtain ⟨a7, rfl, w7⟩ := h2 7 (by simp) (by simp)
    obtain ⟨a8, rfl, w8⟩ := h2 8 (by simp) (by simp)
    obtain ⟨a9, rfl, w9⟩ := h2 9 (by simp) (by simp)
    obtain ⟨a10, rfl, w10⟩ := h2 10 (by simp) (by simp)
    obtain ⟨a11, rfl, w11⟩ := h2 11 (by simp) (by simp)
    obtain ⟨a12, rfl, w12⟩ := h2 12 (by simp) (by simp)
    exact ⟨⟨a0, a1, a2, a3, a4, a5, a6, a7, a8, a9, a10, a11, a12⟩, rfl, wf_i64 w0, ⟨wf_u8 w1, wf_u8 w2, wf_u8 w3, wf_u8 w4⟩, wf_i64 w5, wf_u64 w6, wf_u64 w7, wf_u64 w8, wf_u64 w9, wf_u64 w10, wf_u64 w11, wf_u64 w12⟩
theorem cellPols {v : Value} (h : CellIs enc Try.prog W (.slice 44) v) : ∃ l : List Pol, lstV polE (absS W) (absV W v) = some l ∧ ∀ x ∈ l, x.good := by
  have s2 : shapes Try.prog 20 44 = some polSh := by kernel_rfl
  have c2 : Try.prog.cellsOf 44 = 13 := by kernel_rfl
  obtain ⟨l, hl, hf, _⟩ := lst_of (e := Pol.enc) (sz := 13) c2 (by omega) h (fun cs fuel x ht => let ⟨a, h1, h2⟩ := rowPol (shapes_ok 20 fuel 44 cs x _ ht s2); ⟨a, h1, rfl⟩)
    (good := Pol.good) (fun cs fuel x a ht he => let ⟨a', h1, h2⟩ := rowPol (shapes_ok 20 fuel 44 cs x _ ht s2); enc_inj (E := polE) (h1.symm.trans he) ▸ h2)
  exact ⟨l, lst_lstV (E := polE) hl, hf⟩
theorem cellInts {v : Value} (h : CellIs enc Try.prog W (.slice 3) v) : ∃ l : List Int, lstV (intE .i64) (absS W) (absV W v) = some l ∧ ∀ x ∈ l, i64 x := by
  have s2 : shapes Try.prog 20 3 = some [.int .i64] := by kernel_rfl
  have c2 : Try.prog.cellsOf 3 = 1 := by kernel_rfl
  have row : ∀ cs : List Value, RowIs enc Try.prog W [.int .i64] cs → ∃ a : Int, cs.map (absV W) = [AV.i .i64 a] ∧ i64 a := fun cs h => by
    obtain ⟨h1, h2⟩ := h
    match cs, h1 with
    | [x], _ =>
      obtain ⟨a, rfl, w⟩ := h2 0 (by simp) (by simp)
      exact ⟨a, rfl, wf_i64 w⟩
  obtain ⟨l, hl, hf, _⟩ := lst_of (e := fun n => [AV.i .i64 n]) (sz := 1) c2 (by omega) h (fun cs fuel x ht => let ⟨a, h1, h2⟩ := row _ (shapes_ok 20 fuel 3 cs x _ ht s2); ⟨a, h1, rfl⟩)
    (good := i64) (fun cs fuel x a ht he => let ⟨a', h1, h2⟩ := row _ (shapes_ok 20 fuel 3 cs x _ ht s2); enc_inj (E := intE .i64) (h1.symm.trans he) ▸ h2)
  exact ⟨l, lst_lstV (E := intE .i64) hl, hf⟩

end
end Go.Proofs.Ytapgkaecamljbaa

namespace Go.Proofs.Ytapgkaecamljbaa
open Go.RowKit
set_option linter.unusedVariables false
set_option maxRecDepth 100000

section
variable {H : Type} {enc : TypeId × Value → H} {W : World}
theorem cellOpen {e : TypeId} {n : Nat} {v : Value} (h : CellIs enc Try.prog W (.slice e) v) : openQ (absS W) n (absV W v) = true := by
  rcases h with rfl | ⟨a, len, cap, rfl, hl, _, _⟩
  · rfl
  · obtain ⟨b, o, sp⟩ := a
    simp only [absV]
    split
    · rfl
    · cases numOf W b with
      | none => rfl
      | some i => cases sp with
        | none => simp [openQ, hl]
        | some q => rfl
end
end Go.Proofs.Ytapgkaecamljbaa

namespace Go.Proofs.Ytapgkaecamljbaa
open Go.RowKit
set_option linter.unusedVariables false
set_option maxRecDepth 100000

section
variable {H : Type} {enc : TypeId × Value → H} {W : World}
end
end Go.Proofs.Ytapgkaecamljbaa

namespace Go.Proofs.Ytapgkaecamljbaa
open Go.RowKit
set_option linter.unusedVariables false
set_option maxRecDepth 100000
section
variable {H : Type} {enc : TypeId × Value → H} {W : World}
abbrev evSh : List CS := [.int .i64, .int .i64, .slice 44, .slice 3, .int .u64, .int .u64]
theorem rowEvt {cs : List Value} (h : RowIs enc Try.prog W evSh cs) : ∃ a : EvR, cs.map (absV W) = a.enc ∧ a.good (absS W) := by
  obtain ⟨h1, h2⟩ := h
  match cs, h1 with
  | [x0, x1, x2, x3, x4, x5], _ =>
    obtain ⟨a0, rfl, w0⟩ := h2 0 (by simp) (by simp)
    obtain ⟨a1, rfl, w1⟩ := h2 1 (by simp) (by simp)
    have hc2 := h2 2 (by simp) (by simp)
    obtain ⟨l2, hl2, hf2⟩ := cellPols hc2
    obtain ⟨l3, hl3, hf3⟩ := cellInts (h2 3 (by simp) (by simp))
    obtain ⟨a4, rfl, w4⟩ := h2 4 (by simp) (by simp)
    obtain ⟨a5, rfl, w5⟩ := h2 5 (by simp) (by simp)
    exact ⟨⟨a0, a1, absV W x2, absV W x3, a4, a5⟩, rfl, ⟨a0, a1, l2, l3, a4, a5⟩, evtOf_mk hl2 hl3, hf2, cellOpen hc2⟩
theorem cellEvts {v : Value} (h : CellIs enc Try.prog W (.slice 29) v) : ∃ l : List EvR, lstV evrE (absS W) (absV W v) = some l ∧ ∀ x ∈ l, x.good (absS W) := by
  have s2 : shapes Try.prog 20 29 = some evSh := by kernel_rfl
  have c2 : Try.prog.cellsOf 29 = 6 := by kernel_rfl
  obtain ⟨l, hl, hf, _⟩ := lst_of (e := EvR.enc) (sz := 6) c2 (by omega) h (fun cs fuel x ht => let ⟨a, h1, h2⟩ := rowEvt (shapes_ok 20 fuel 29 cs x _ ht s2); ⟨a, h1, rfl⟩)
    (good := EvR.good (absS W)) (fun cs fuel x a ht he => let ⟨a', h1, h2⟩ := rowEvt (shapes_ok 20 fuel 29 cs x _ ht s2); enc_inj (E := evrE) (h1.symm.trans he) ▸ h2)
  exact ⟨l, lst_lstV (E := evrE) hl, hf⟩
theorem argEvts {v : Value} {base : Nat} {d : DataW H} {ps : List MemPlace} (o : Value.okWide Try.prog W .any base 56 v) (h : DataW.Trod enc Try.prog W 0 (fun _ => true) true 56 v d ps) :
    ∃ l, lstV evrE (absS W) (absA W v) = some l ∧ ∀ c ∈ l, c.good (absS W) := by
  have s0 : shapes Try.prog 20 56 = some [.slice 29] := by kernel_rfl
  have hv : v.cells.toList = [v] ∧ absA W v = absV W v := by
    cases v with
    | agg cs =>
      unfold Value.okWide at o
      rw [Try.underlying56] at o
      unfold Cell.okWide at o
      rw [Try.underlying56] at o
      unfold Cell.ok at o
      rw [Try.underlying56] at o
      simp at o
    | _ => exact ⟨rfl, rfl⟩
  obtain ⟨h1, h2⟩ := arg_row h s0
  rw [hv.1] at h1 h2
  have hc := h2 0 (by simp) (by simp)
  simp only [List.getElem_cons_zero] at hc
  rw [hv.2]
  exact cellEvts hc
theorem walkBookSums (W : World) (v0 : Value) {base : Nat} (o0 : Value.okWide Try.prog W .any base 56 v0) {d0 : DataW H} {p0 : List MemPlace}
    (h0 : DataW.Trod enc Try.prog W 0 (fun _ => true) true 56 v0 d0 p0) :
    Calls Try.prog 6 #[v0] W fun e w' => e = .returned (.bool true) ∧ Below W.heap.size W w' := by
  obtain ⟨evs, hx, hg⟩ := argEvts o0 h0
  refine calls_of_fnOK (S' := absS W) ?_
  show FnOK Try.prog _ [absA W v0] _ _ _
  exact sums_ok _ _ evs hx hg
end
end Go.Proofs.Ytapgkaecamljbaa

