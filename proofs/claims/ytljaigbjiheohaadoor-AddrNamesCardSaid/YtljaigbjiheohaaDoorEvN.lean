/- Proved here: functions do what the evaluator says. No condition. -/
import Derived.Test.YtljaigbjiheohaaDoorEvM
namespace Go.Proofs.YtljaigbjiheohaaDoor
set_option linter.unusedSimpArgs false
set_option linter.unusedVariables false
open Go.RowKit

section
variable {P : Program} {base : Bs} {w0 : World} {K : Ctx} {S : Mem} {w : World} {O : Orc}

/-! ### What the compiler gives -/
theorem sub_append : ∀ (p r : List Bool) (c : Code), sub c (p ++ r) = (sub c p).bind fun d => sub d r
  | [], r, c => by simp [sub]
  | x :: p, r, c => by
    cases c <;> simp only [List.cons_append, sub, Option.bind_none] <;> first | rfl | exact sub_append p r _

theorem sub_snoc {root c : Code} {q : List Bool} (h : sub root q.reverse = some c) (x : Bool) : sub root (x :: q).reverse = sub c [x] := by
  rw [List.reverse_cons, sub_append, h]; rfl

theorem compCode_ok {f : Nat} {fn : Func} {root : Code} (hf : P.funcs[f]? = some fn) (hb : fn.body = some root) (c : Code) : ∀ (path : Option (List Bool)), (∀ q, path = some q → sub root q.reverse = some c) → CodeR P (lamOf P) fn.ntmps c (compCode P f fn.ntmps path c) := by
  have step : ∀ {c d : Code} {path : Option (List Bool)} (x : Bool), (∀ q, path = some q → sub root q.reverse = some c) → sub c [x] = some d → ∀ q, path.map (x :: ·) = some q → sub root q.reverse = some d := by
    intro c d path x h hd q hq
    obtain ⟨q', rfl, rfl⟩ := Option.map_eq_some_iff.1 hq
    rw [sub_snoc (h q' rfl), hd]
  induction c with
  | skip => intro path _; exact .skip
  | label l => intro path _; exact .label l
  | region id ops dr =>
    intro path _
    simp only [compCode]
    split
    · rename_i l hm
      cases dr with
      | true =>
        simp only [if_true]
        split
        · rename_i hp; exact .draw id ops l _ hm hp
        · exact .bad _
      | false =>
        simp only [Bool.false_eq_true, if_false]
        split
        · rename_i hd; exact .region id ops l hm hd
        · exact .bad _
    · exact .bad _
  | seq a b iha ihb =>
    intro path h
    exact .seq (iha _ (step false h (by simp [sub]))) (ihb _ (step true h (by simp [sub])))
  | cond c a b iha ihb =>
    intro path h
    simp only [compCode]
    split
    · rename_i x hx
      exact .cond hx (iha _ (step false h (by simp [sub]))) (ihb _ (step true h (by simp [sub])))
    · exact .bad _
  | block id a iha => intro path h; exact .block id (iha _ (step false h (by simp [sub])))
  | loop a iha => intro path h; exact .loop [] (iha _ (step false h (by simp [sub])))
  | exit id => intro path _; exact .exit id
  | ret => intro path _; exact .ret
  | goto l => intro path _; exact .goto l
  | rangeFunc g ps a b iha ihb =>
    intro path h
    simp only [compCode]
    split
    · rename_i x q hx
      have hq := h q rfl
      exact .rf f q.reverse _ hx (by simp [lamOf, hf, hb, hq])
    · exact .bad _
  | _ => intro path _; exact .bad _

theorem compTop_ok {f : Nat} {fn : Func} {root : Code} (hf : P.funcs[f]? = some fn) (hb : fn.body = some root) (c : Code) : ∀ (path : Option (List Bool)), (∀ q, path = some q → sub root q.reverse = some c) → CodeR P (lamOf P) fn.ntmps c (compTop P f fn.ntmps path c) := by
  have step : ∀ {c d : Code} {path : Option (List Bool)} (x : Bool), (∀ q, path = some q → sub root q.reverse = some c) → sub c [x] = some d → ∀ q, path.map (x :: ·) = some q → sub root q.reverse = some d := by
    intro c d path x h hd q hq
    obtain ⟨q', rfl, rfl⟩ := Option.map_eq_some_iff.1 hq
    rw [sub_snoc (h q' rfl), hd]
  induction c with
  | seq a b iha ihb =>
    intro path h
    exact .seq (iha _ (step false h (by simp [sub]))) (ihb _ (step true h (by simp [sub])))
  | block id a iha => intro path h; exact .block id (iha _ (step false h (by simp [sub])))
  | scope c _ =>
    intro path h
    simp only [compTop]
    split
    · rename_i lab hl
      split
      · rename_i k hk
        exact .scope [] lab hk (compCode_ok hf hb c none (fun q hq => by cases hq)) (compCode_ok hf hb k none (fun q hq => by cases hq))
      · exact .bad _
    · exact .bad _
  | _ => intro path h; exact compCode_ok hf hb _ path h

theorem strip_ok {Λ : Nat → List Bool → Option (Array Tmp × Code × Code × Nat)} {nt : Nat} : ∀ (ic : ICode) (c : Code), CodeR P Λ nt c (strip ic) → CodeR P Λ nt c ic := by
  intro ic
  induction ic with
  | seq a b iha ihb => intro c h; simp only [strip] at h; cases h with | seq ha hb => exact .seq (iha _ ha) (ihb _ hb)
  | cond x a b iha ihb => intro c h; simp only [strip] at h; cases h with | cond hc ha hb => exact .cond hc (iha _ ha) (ihb _ hb)
  | block id a iha => intro c h; simp only [strip] at h; cases h with | block _ ha => exact .block id (iha _ ha)
  | loop l a iha => intro c h; simp only [strip] at h; cases h with | loop _ ha => exact .loop l (iha _ ha)
  | scope l a lab b iha ihb => intro c h; simp only [strip] at h; cases h with | scope _ _ hf ha hb => exact .scope l lab hf (iha _ ha) (ihb _ hb)
  | live l a iha => intro c h; simp only [strip] at h; exact .live l (iha _ h)
  | _ => intro c h; exact h

/-- What is known of a compiled function. -/
structure FuncF (P : Program) (f : Nat) (F : IFunc) : Prop where
  out : ∃ fn c, P.funcs[f]? = some fn ∧ fn.body = some c ∧ enterable P f = true ∧ F.nparams ≤ fn.ntmps ∧ fn.results.toList.mapM (compRes P) = some F.results ∧ CodeR P (lamOf P) fn.ntmps c F.body ∧
    ∀ path ps ia ib, (path, ps, ia, ib) ∈ F.loops → ∃ qs a b, lamOf P f path = some (qs, a, b, fn.ntmps) ∧ qs.toList = ps ∧ (∀ t ∈ ps, t < fn.ntmps) ∧ CodeR P (lamOf P) fn.ntmps a ia ∧ CodeR P (lamOf P) fn.ntmps b ib

theorem compFunc_ok0 {f : Nat} {F : IFunc} (h : compFunc P f = some F) : FuncF P f F := by
  unfold compFunc at h
  split at h
  · cases h
  · rename_i fn hf
    split at h
    · cases h
    · rename_i c hb
      split at h
      · rename_i hen
        simp only [Bool.and_eq_true, decide_eq_true_eq] at hen
        split at h
        · rename_i rs hrs
          injection h with h
          subst h
          refine ⟨fn, c, hf, hb, hen.1, hen.2, hrs, compTop_ok hf hb c (some []) (fun q hq => by injection hq with hq; subst hq; rfl), fun path ps ia ib hm => ?_⟩
          simp only [List.mem_filterMap] at hm
          obtain ⟨p, _, hp⟩ := hm
          unfold compLoop at hp
          split at hp
          · rename_i g qs a b hs
            split at hp
            · rename_i hlt
              simp only [Option.some.injEq, Prod.mk.injEq] at hp
              obtain ⟨rfl, rfl, rfl, rfl⟩ := hp
              refine ⟨qs, a, b, by simp [lamOf, hf, hb, hs], rfl, fun t ht => by simpa using List.all_eq_true.1 hlt t ht, compCode_ok hf hb a none (fun q hq => by cases hq), compCode_ok hf hb b none (fun q hq => by cases hq)⟩
            · cases hp
          · cases hp
        · cases h
      · cases h

/-- Whatever is noted. -/
theorem compFunc_ok {f : Nat} {F : IFunc} (h : compFunc P f = some (stripF F)) : FuncF P f F := by
  obtain ⟨fn, c, h1, h2, h3, h4, h5, h6, h7⟩ := (compFunc_ok0 h).out
  refine ⟨fn, c, h1, h2, h3, h4, h5, strip_ok _ _ h6, fun path ps ia ib hm => ?_⟩
  obtain ⟨qs, a, b, g1, g2, g3, g4, g5⟩ := h7 path ps (strip ia) (strip ib) (List.mem_map.2 ⟨_, hm, rfl⟩)
  exact ⟨qs, a, b, g1, g2, g3, strip_ok _ _ g4, strip_ok _ _ g5⟩

/-! ### Results -/
theorem run_loadVar (h : Sim base w0 K S w) {t : TypeId} {n : Option Nat} {x y : AV} {v : Value} (hs : shapeOf P t = some n) (hx : VR K S x v) (hl : ldCells S n x = some y) : ∃ r, (do loadVar t (← asAddr v) : Sem Value).run P w = .ok r w ∧ VR K S y r := by
  unfold shapeOf at hs
  split at hs
  · rename_i d inf hd hinf
    injection hs with hs
    unfold ldCells at hl
    split at hl
    · rename_i i off ver
      split at hl
      · rename_i n'
        obtain ⟨xs, hxs, rfl⟩ := Option.map_eq_some_iff.1 hl
        obtain ⟨B, hB, hv⟩ := rowAt_ver hxs
        obtain rfl := hx.addr hB hv
        obtain ⟨hlen, g, hg, hV⟩ := rowAt_ok h hxs
        have hagg : aggB d = true := by
          cases e : aggB d with
          | true => rfl
          | false => rw [e] at hs; cases hs
        simp only [hagg, if_true, Option.some.injEq] at hs
        subst hs
        exact ⟨_, by simp [asAddr, loadVar, run_isAgg' hd, hagg, run_sizeOf' hinf, run_loadCells w _ _ g hg], VR.agg hlen hV⟩
      · have hagg : aggB d = false := by
          cases e : aggB d with
          | false => rfl
          | true => rw [e] at hs; cases hs
        split at hl
        · rename_i z hz
          injection hl with hl
          subst hl
          obtain ⟨B, hB, hv⟩ := rowAt_ver hz
          obtain rfl := hx.addr hB hv
          obtain ⟨hlen, g, hg, hV⟩ := rowAt_ok h hz
          have hg0 := hg 0 (by omega)
          have hV0 := hV 0 (by omega)
          have hadd : (⟨K.μ i, off, none⟩ : Addr).add 0 = ⟨K.μ i, off, none⟩ := rfl
          rw [hadd] at hg0
          exact ⟨g 0, by simp [asAddr, loadVar, run_isAgg' hd, hagg, hg0], by simpa using hV0⟩
        · cases hl
    · cases hl
  · cases hs

theorem run_results1 (h : Sim base w0 K S w) {nt : Nat} {e : Env} {a : Act} (hr : ER K S nt e a) (fm : ResultVar → Sem Value) (hfm : ∀ t, fm (.tmp t) = pure (a.tmps.getD t undef)) (hfc : ∀ c t, fm (.cell c t) = (do loadVar t (← asAddr (a.tmps.getD c undef)))) : ∀ (l : List ResultVar) (rs : List IR) (xs : List AV), l.mapM (compRes P) = some rs → evResults e S rs = some xs →
    ∃ vs, (l.mapM fm).run P w = .ok vs w ∧ ArgsR K S xs vs
  | [], rs, xs, hm, hv => by
    simp at hm; subst hm
    simp only [evResults, Option.some.injEq] at hv
    subst hv
    exact ⟨[], by simp, rfl, fun k hk => by simp at hk⟩
  | r :: l, rs, xs, hm, hv => by
    simp only [List.mapM_cons, Option.bind_eq_bind, Option.bind_eq_some_iff, Option.pure_def, Option.some.injEq] at hm
    obtain ⟨ir, hir, rs', hrs, rfl⟩ := hm
    simp only [evResults] at hv
    split at hv
    · rename_i x xs' hx hxs
      injection hv with hv; subst hv
      obtain ⟨vs, hvs, hA⟩ := run_results1 h hr fm hfm hfc l rs' xs' hrs hxs
      have one : ∃ v, (fm r).run P w = .ok v w ∧ VR K S x v := by
        cases r with
        | tmp t =>
          simp only [compRes, Option.some.injEq] at hir; subst hir
          simp only [evRes, Option.some.injEq] at hx; subst hx
          exact ⟨_, by rw [hfm]; simp, hr.slot t⟩
        | cell c t =>
          obtain ⟨n, hn, rfl⟩ := Option.map_eq_some_iff.1 hir
          simp only [evRes] at hx
          rw [hfc]
          exact run_loadVar h hn (hr.slot c) hx
      obtain ⟨v, hv1, hV⟩ := one
      refine ⟨v :: vs, ?_, ⟨by simp [hA.1], fun k hk hk' => ?_⟩⟩
      · rw [List.mapM_cons]
        simp only [Sem.run_bind, hv1, Result.andThen_ok, hvs, Sem.run_pure]
      · cases k with
        | zero => exact hV
        | succ k => exact hA.2 k (by simpa using hk) (by simpa using hk')
    · cases hv

theorem run_results (h : Sim base w0 K S w) {nt : Nat} {e : Env} {a : Act} (hr : ER K S nt e a) {fn : Func} {rs : List IR} {xs : List AV} (hm : fn.results.toList.mapM (compRes P) = some rs) (hv : evResults e S rs = some xs) :
    ∃ v, (results fn a.tmps).run P w = .ok v w ∧ VR K S (resV xs) v := by
  have key : ∀ fm : ResultVar → Sem Value, (∀ t, fm (.tmp t) = pure (a.tmps.getD t undef)) → (∀ c t, fm (.cell c t) = (do loadVar t (← asAddr (a.tmps.getD c undef)))) →
      ∃ v, (do let vs ← List.toArray <$> fn.results.toList.mapM fm; pure (if h : vs.size = 1 then vs[0] else .tuple vs) : Sem Value).run P w = .ok v w ∧ VR K S (resV xs) v := by
    intro fm h1 h2
    obtain ⟨vs, hvs, hA⟩ := run_results1 h hr fm h1 h2 fn.results.toList rs xs hm hv
    refine ⟨if h : vs.toArray.size = 1 then vs.toArray[0] else .tuple vs.toArray, by simp only [Sem.run_bind, map_eq_pure_bind, hvs, Result.andThen_ok, Sem.run_pure], ?_⟩
    have hl := hA.1
    by_cases h1 : vs.toArray.size = 1
    · rw [dif_pos h1]
      have h2 : vs.length = 1 := by simpa using h1
      obtain ⟨v, rfl⟩ := (two h2).1 rfl
      obtain ⟨x, rfl⟩ := (two hl).1 rfl
      exact hA.2 0 (by simp) (by simp)
    · rw [dif_neg h1]
      have h2 : xs.length ≠ 1 := by rw [hl]; simpa using h1
      have : resV xs = .tu xs := by
        match xs, h2 with
        | [], _ => rfl
        | _ :: _ :: _, _ => rfl
      rw [this]
      exact .tu _ _ (by simp [hl]) fun k => by
        have := hA.getD k
        rw [← toList_getD]; simpa using this
  unfold results
  rw [Array.mapM_eq_mapM_toList]
  exact key _ (fun _ => rfl) (fun _ _ => rfl)

theorem leave_ok {fn : Func} {tmps : Array Value} {R : Ending → World → Prop} : ∀ (d : List Nat) (ds : List Deferred) (S S' : Mem) (w : World), DR K S d ds → Sim base w0 K S w → evLeave d S = some S' →
    (∀ w', Sim base w0 K S' w' → Stp K S w K S' w' → ∃ v, (results fn tmps).run P w' = .ok v w' ∧ R (.returned v) w') → LeavesInM (FW none) 0 P fn tmps R ds .returning w
  | [], [], S, S', w, _, h, hv, hK => by
    simp only [evLeave, Option.some.injEq] at hv
    subst hv
    exact hK w h (.refl K S w)
  | i :: d, x :: ds, S, S', w, hD, h, hv, hK => by
    obtain ⟨⟨r, rfl, hV⟩, hD⟩ := hD
    simp only [evLeave] at hv
    split at hv
    · rename_i hB
      have hr := hV.m_at hB rfl
      obtain ⟨h1, h2⟩ := h.blk i _ hB
      obtain ⟨s1, t1⟩ := h.putObj (B' := .dfr false) (o := .deferred none) hB rfl rfl rfl fun S'' w'' hE he => ⟨he, h2⟩
      refine ⟨by simp, .inl ⟨r, w.putObj r (.deferred none), rfl, run_takeDeferred (by rw [hr]; exact h1), ?_⟩⟩
      rw [hr]
      exact leave_ok d ds _ S' _ (hD.mono t1.ext) s1 hv fun w' a b => hK w' a (t1.trans b)
    · cases hv
  | [], _ :: _, _, _, _, hD, _, _, _ => hD.elim
  | _ :: _, [], _, _, _, hD, _, _, _ => hD.elim

theorem argsE_get : ∀ (xs : List AV) (k t : Nat), (argsE k xs).get t = if k ≤ t then xs.getD (t - k) .u else .u
  | [], k, t => by simp [argsE, Env.get]
  | x :: xs, k, t => by
    rw [argsE]
    by_cases h : k = t
    · subst h
      rw [get_put_same]; simp
    · rw [get_put_ne _ _ h, argsE_get xs (k + 1) t]
      by_cases h1 : k ≤ t
      · rw [if_pos h1, if_pos (by omega)]
        obtain ⟨j, hj⟩ : ∃ j, t - k = j + 1 := ⟨t - k - 1, by omega⟩
        rw [hj, show t - (k + 1) = j by omega]
        simp
      · rw [if_neg h1, if_neg (by omega)]

theorem func_ok (hO : OK P (lamOf P) O) (hmix : P.follows .mixedOrders = true) {f : FuncId} {F : IFunc} (hF : compFunc P f = some (stripF F)) {m : Nat} {args : List AV} {S : Mem} {x : AV} {S' : Mem} (hv : evFunc O m F args S = some (x, S')) :
    enterable P f = true ∧ ∀ (base : Bs) (w0 : World) (K : Ctx) (w : World) (vs : Array Value), base.Λ = lamOf P → ArgsR K S args vs.toList → Sim base w0 K S w → Calls P f vs w (Post base w0 K S w x S') := by
  obtain ⟨fn, c, hf, hb, hen, hnp, hres, hcode, _⟩ := (compFunc_ok hF).out
  refine ⟨hen, fun base w0 K w vs hΛ hA h => ?_⟩
  unfold evFunc at hv
  split at hv
  · rename_i hl
    split at hv
    · rename_i ix e S1 d hc
      split at hv
      · rename_i hix
        split at hv
        · rename_i S2 hlv
          split at hv
          · rename_i xs hxs
            simp only [Option.some.injEq, Prod.mk.injEq] at hv
            obtain ⟨rfl, rfl⟩ := hv
            have hsz : vs.size = F.nparams := by have := hA.1; rw [hl] at this; simpa using this.symm
            have hr : ER K S fn.ntmps (argsE 0 args) { tmps := vs ++ Array.replicate (fn.ntmps - vs.size) undef, defers := [] } := by
              refine ⟨by show (vs ++ Array.replicate (fn.ntmps - vs.size) undef).size = fn.ntmps; simp; omega, fun t => ?_⟩
              show VR K S _ ((vs ++ Array.replicate (fn.ntmps - vs.size) undef).getD t undef)
              rw [argsE_get, if_pos (Nat.zero_le _), Nat.sub_zero]
              by_cases ht : t < args.length
              · have := hA.getD t
                rw [toList_getD] at this
                have e1 : (vs ++ Array.replicate (fn.ntmps - vs.size) undef).getD t undef = vs.getD t undef := by
                  simp only [Array.getD_eq_getD_getElem?]
                  rw [Array.getElem?_append_left (by omega)]
                rw [e1]; exact this
              · have : args.getD t .u = .u := by simp [List.getD_eq_getElem?_getD, List.getElem?_eq_none (show args.length ≤ t by omega)]
                rw [this]; exact .u _
            rw [← hΛ] at hO hcode
            have hwp := code_ok (rd := none) (n := 0) (w0 := w0) hO hmix m c F.body K S _ _ [] w ix e S1 d hcode h hr trivial hc
            refine (callsIn_wide (n := 0)).1 ?_
            show CallsIn (FW none) 0 P f vs w _
            refine callsIn_of_wp_marks hf hb trivial ?_ rfl
            refine Code.wpIn_mono (fun ex a1 w1 hq => ?_) hwp
            obtain ⟨rfl, K1, q1, q2, q3, q4⟩ := hq
            have key : LeavesInM (FW none) 0 P fn a1.tmps (Post base w0 K S w (resV xs) S2) a1.defers .returning w1 := by
              refine leave_ok d a1.defers S1 S2 w1 q2 q3 hlv fun w2 s2 t2 => ?_
              obtain ⟨v, hv1, hV⟩ := run_results s2 (q1.mono t2.ext) hres hxs
              exact ⟨v, hv1, K1, v, rfl, hV, s2, q4.trans t2⟩
            cases ix with
            | normal => exact key
            | ret => exact key
            | exit id => cases hix
            | goto l => cases hix
          · cases hv
        · cases hv
      · cases hv
    · cases hv
  · cases hv
end
end Go.Proofs.YtljaigbjiheohaaDoor
