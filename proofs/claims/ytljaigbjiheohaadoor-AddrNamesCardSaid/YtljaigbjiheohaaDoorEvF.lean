/- Proved here: operations and calls within the fenced logic; regions in the order of the text. No condition. -/
import Derived.Test.YtljaigbjiheohaaDoorEvE
import Derived.RangeFuncCalls
import Derived.RangeFuncRecord
import Derived.TacticsIn
namespace Go.Proofs.YtljaigbjiheohaaDoor
set_option linter.unusedSimpArgs false
set_option linter.unusedVariables false
open Go.RowKit

/-- No fence; 'rd': within a round of a loop over a function. -/
def FW (rd : Option Nat) : Fence := { fn := fun _ => True, depth := none, alive := false, round := rd }
theorem FW_none : FW none = Fence.wide := rfl
theorem FW_depth (rd : Option Nat) : (FW rd).depth.isSome = false := rfl

/-- What a call comes to. -/
def Post (base : Bs) (w0 : World) (K : Ctx) (S : Mem) (w : World) (x : AV) (S' : Mem) : Ending → World → Prop := fun e w' =>
  ∃ K' v, e = .returned v ∧ VR K' S' x v ∧ Sim base w0 K' S' w' ∧ Stp K S w K' S' w'

/-- What is known of calls is so. -/
structure OK (P : Program) (Λ : Nat → List Bool → Option (Array Tmp × Code × Code × Nat)) (O : Orc) : Prop where
  fn : ∀ f args S x S', O.fn f args S = some (x, S') → enterable P f = true ∧ ∀ (base : Bs) (w0 : World) (K : Ctx) (w : World) (vs : Array Value), base.Λ = Λ → ArgsR K S args vs.toList → Sim base w0 K S w →
    Calls P f vs w (Post base w0 K S w x S')
  y : ∀ i args S x S', O.y i args S = some (x, S') → ∀ (base : Bs) (w0 : World) (K : Ctx) (w : World) (l : Nat) (vs : Array Value), base.Λ = Λ → VR K S (.y i) (.func (.yield l) #[] #[]) → ArgsR K S args vs.toList → Sim base w0 K S w →
    ∃ f tmps assign body, (Instr.yield l vs).run P w = .ok (.round l f tmps assign body) w ∧ ∀ n, RoundIn Fence.wide n P l f tmps assign body w (Post base w0 K S w x S')

section
variable {P : Program} {base : Bs} {w0 : World} {K : Ctx} {S : Mem} {w : World} {O : Orc}

theorem run_callFunc {f : FuncId} (h : enterable P f = true) (args : Array Value) : (callFunc f args).run P w = .ok (.enter f args) w := by
  unfold enterable at h
  split at h
  · rename_i fn hfn
    simp only [Bool.and_eq_true, Bool.not_eq_true'] at h
    obtain ⟨h1, h2⟩ := h
    have h3 : fn.body ≠ none := by
      intro hb
      rw [hb] at h2; simp at h2
    have h4 : fn.name ≠ "runtime.NumGoroutine" := by simpa using h1
    simp [callFunc, hfn, h4, h3]
  · cases h

theorem ArgsR.append {xs ys : List AV} {us vs : List Value} (h : ArgsR K S xs us) (h' : ArgsR K S ys vs) : ArgsR K S (xs ++ ys) (us ++ vs) := by
  refine ⟨by simp [h.1, h'.1], fun k hk hk' => ?_⟩
  have hl := h.1
  by_cases e : k < xs.length
  · rw [List.getElem_append_left e, List.getElem_append_left (by omega)]
    exact h.2 k e (by omega)
  · rw [List.getElem_append_right (by omega), List.getElem_append_right (by omega)]
    simp only [List.length_append] at hk hk'
    have := h'.2 (k - xs.length) (by omega) (by omega)
    simpa [hl] using this

theorem ArgsR.of_arr {xs : List AV} {a : Array Value} (hl : xs.length = a.size) (h : ∀ k, VR K S (xs.getD k .u) (a.getD k undef)) : ArgsR K S xs a.toList := by
  refine ⟨by simpa using hl, fun k hk hk' => ?_⟩
  have := h k
  have e1 : xs.getD k .u = xs[k] := by simp [List.getD_eq_getElem?_getD, hk]
  have e2 : a.getD k undef = a.toList[k] := by
    have : k < a.size := by omega
    simp [Array.getD, this]
  rw [e1, e2] at this; exact this

theorem ArgsR.mono {K K' : Ctx} {S S' : Mem} {xs : List AV} {vs : List Value} (hE : Ext K S K' S') (h : ArgsR K S xs vs) : ArgsR K' S' xs vs := ⟨h.1, fun k a b => (h.2 k a b).mono hE⟩

theorem semAt_ok {rd : Option Nat} {ρ : Operand → Value} {o : Oper} (h : ∀ c, o.op ≠ .defer c) : Oper.semAt (FW rd).round ρ o = execOp ρ o := by
  cases rd with
  | none => exact Oper.semAt_none _ _
  | some l => exact Oper.semAt_some l _ _ h

theorem callsW {rd : Option Nat} {n : Nat} {f : FuncId} {args : Array Value} {R : Ending → World → Prop} (h : Calls P f args w R) : CallsIn (FW rd) n P f args w R := by
  cases rd with
  | none => exact callsIn_wide.2 h
  | some l => exact CallsIn.inRound l (callsIn_wide.2 h)

/-- One operation, with what may come behind it. -/
theorem oper_ok (hO : OK P base.Λ O) (h : Sim base w0 K S w) {nt : Nat} {e : Env} {a : Act} (hr : ER K S nt e a) {o : Oper} {x : AV} {S' : Mem} (hv : evOp O e S (compIO P o.op) = some (x, S')) {n : Nat} {rd : Option Nat} {Kont : Act → World → Prop} {Q : Exit → Act → World → Prop}
    (hK : ∀ K' w' v, VR K' S' x v → Sim base w0 K' S' w' → Stp K S w K' S' w' → Kont (a.put o.dst v) w') : o.wpIn (FW rd) n P a w Kont Q := by
  unfold Oper.wpIn
  refine ⟨fun _ _ => trivial, ?_⟩
  have post : ∀ {f : FuncId} {args : Array Value}, Calls P f args w (Post base w0 K S w x S') → o.uponIn (FW rd) n P a Kont Q (.ok (.enter f args) w) := by
    intro f args hc
    rw [Oper.uponIn_enter]
    refine ⟨fun e => (by cases e), CallsIn.mono (callsW hc) fun e w' hp => ?_⟩
    obtain ⟨K', v, rfl, hV, hS, hst⟩ := hp
    exact hK K' w' v hV hS hst
  unfold compIO at hv
  split at hv
  · rename_i io hio
    unfold compCall at hio
    split at hio
    · rename_i c hop
      have hsem : Oper.semAt (FW rd).round a.eval o = execOp a.eval o := semAt_ok (fun c' e => by rw [hop] at e; cases e)
      rw [hsem]
      split at hio
      · rename_i f xs hcal hxs
        split at hio
        · rename_i hen
          injection hio with hio; subst hio
          simp only [evOp] at hv
          obtain ⟨_, hcall⟩ := hO.fn _ _ _ _ _ hv
          have hA := compXs_ok (K := K) (S := S) hr hxs
          have hrun : (execOp a.eval o).run P w = .ok (.enter f (c.args.map a.eval)) w := by
            simp [execOp, hop, resolve, hcal, Act.eval, Deferred.ofValue, invoke, run_callFunc hen]
          rw [hrun]
          exact post (hcall base w0 K w _ rfl (by simpa using hA) h)
        · cases hio
      · rename_i y xs hne hcal hxs
        obtain ⟨y', hy', rfl⟩ := Option.map_eq_some_iff.1 hio
        simp only [evOp] at hv
        have hA := compXs_ok (K := K) (S := S) hr hxs
        have hY := compX_ok (K := K) (S := S) hy' hr
        split at hv
        · rename_i f fa fb hf
          rw [hf] at hY
          obtain ⟨hen, hcall⟩ := hO.fn _ _ _ _ _ hv
          generalize hvy : a.eval y = vy at hY
          cases hY with
          | f _ _ _ x' y'' hx hy h1 h2 =>
            have hrun : (execOp a.eval o).run P w = .ok (.enter f (x' ++ c.args.map a.eval ++ y'')) w := by
              simp [execOp, hop, resolve, hcal, hvy, Deferred.ofValue, invoke, run_callFunc hen]
            rw [hrun]
            refine post (hcall base w0 K w _ rfl ?_ h)
            simp only [Array.toList_append, Array.toList_map]
            exact ((ArgsR.of_arr hx h1).append hA).append (ArgsR.of_arr hy h2)
        · rename_i i hf
          rw [hf] at hY
          generalize hvy : a.eval y = vy at hY
          have hY' := hY
          cases hY with
          | y _ r B hB hr' =>
            obtain ⟨f, tmps, assign, body, hyr, hround⟩ := hO.y _ _ _ _ _ hv base w0 K w r (c.args.map a.eval) rfl hY' (by simpa using hA) h
            have hrun : (execOp a.eval o).run P w = .ok (.round r f tmps assign body) w := by
              simp [execOp, hop, resolve, hcal, hvy, Deferred.ofValue, invoke, hyr]
            rw [hrun, Oper.uponIn_round]
            refine ⟨fun e => (by cases e), RoundIn.mono (show RoundIn (FW rd) (n - 1) P r f tmps assign body w (Post base w0 K S w x S') from hround _) fun e w' hp => ?_⟩
            obtain ⟨K', v, rfl, hV, hS, hst⟩ := hp
            exact hK K' w' v hV hS hst
        · cases hv
      · cases hio
    · cases hio
  · split at hv
    · rename_i io hio
      have hnd : ∀ c, o.op ≠ .defer c := fun c e => by rw [e] at hio; simp [compOp] at hio
      rw [semAt_ok hnd]
      obtain ⟨K', w', v, hres, hV, hS, hst⟩ := op_ok h hr hio hv
      rcases hres with hres | ⟨hres, rfl⟩
      · rw [hres, Oper.uponIn_value]; exact hK K' w' v hV hS hst
      · rw [hres, Oper.uponIn_skip]; exact hK K' w' undef hV hS hst
    · simp [evOp, evIO] at hv

theorem want_ok {nt : Nat} {e : Env} {a : Act} {ops : Array Oper} {o : Oper} {r : ROp} (hr : ∀ t b, r.guard = some (t, b) → VR K S (e.get t) (a.tmps.getD t undef)) (hsz : a.tmps.size = nt) (hc : compOper P ops o = some r) {b : Bool} (hw : wantV e r.guard = some b) :
    Region.wanted o (yielded ops a.tmps) = b := by
  unfold compOper at hc
  split at hc
  · rename_i hg
    injection hc with hc; subst hc
    simp only [wantV, Option.some.injEq] at hw
    subst hw
    simp [Region.wanted, hg]
  · rename_i j want hg
    split at hc
    · rename_i t ht
      injection hc with hc; subst hc
      simp only [wantV] at hw
      have hV := hr t want rfl
      have hy : yielded ops a.tmps j = match a.tmps[t]? with | some (.bool b) => some b | _ => none := by
        unfold yielded
        rw [ht]; rfl
      have hg' : Region.wanted o (yielded ops a.tmps) = (yielded ops a.tmps j == some want) := by simp [Region.wanted, hg]
      rw [hg', hy]
      by_cases hts : t < a.tmps.size
      · have e1 : a.tmps[t]? = some (a.tmps.getD t undef) := by simp [Array.getD, hts]
        rw [e1]
        generalize a.tmps.getD t undef = v at hV
        split at hw
        · rename_i x hx
          rw [hx] at hV
          cases hV
          have hw := Option.some.inj hw
          rw [← hw]
          cases x <;> cases want <;> rfl
        · cases hw
        · rename_i hnb hnu
          have hw := Option.some.inj hw
          rw [← hw]
          generalize hgx : e.get t = y at hV hnb hnu
          cases hV <;> first | rfl | exact absurd rfl (hnb _) | exact absurd rfl hnu
      · have e1 : a.tmps[t]? = none := by simp at hts; simp [hts]
        have e2 : a.tmps.getD t undef = undef := by simp [Array.getD, hts]
        rw [e1]
        rw [e2] at hV
        split at hw
        · rename_i x hx
          rw [hx] at hV; cases hV
        · cases hw
        · have hw := Option.some.inj hw
          rw [← hw]; rfl
    · cases hc

theorem compOper_io {ops : Array Oper} {o : Oper} {r : ROp} (hc : compOper P ops o = some r) : r.io = compIO P o.op ∧ r.dst = o.dst := by
  unfold compOper at hc
  split at hc
  · injection hc with hc; subst hc; exact ⟨rfl, rfl⟩
  · split at hc
    · injection hc with hc; subst hc; exact ⟨rfl, rfl⟩
    · cases hc

theorem ER.putE {nt : Nat} {e : Env} {a : Act} {x : AV} {v : Value} (hr : ER K S nt e a) (hx : VR K S x v) {d : Option Nat} (hd : ∀ t, d = some t → t < nt) : ER K S nt (putE e d x) (a.put d v) := by
  cases d with
  | none => exact ⟨hr.size, fun k => by simpa [Act.put, Go.Proofs.YtljaigbjiheohaaDoor.putE] using hr.slot k⟩
  | some t => exact hr.put hx t (hd t rfl)

theorem put_defers (a : Act) (d : Option Tmp) (v : Value) : (a.put d v).defers = a.defers := by cases d <;> rfl

theorem list_ok (hO : OK P base.Λ O) {ops : Array Oper} {n : Nat} {rd : Option Nat} {Q : Exit → Act → World → Prop} {nt : Nat} : ∀ (l : List Oper) (rl : List ROp) (K : Ctx) (S : Mem) (e : Env) (a : Act) (w : World) (e' : Env) (S' : Mem), l.mapM (compOper P ops) = some rl → dstOk nt rl = true →
    Sim base w0 K S w → ER K S nt e a → evOps O rl e S = some (e', S') →
    (∀ K' a' w', ER K' S' nt e' a' → a'.defers = a.defers → Sim base w0 K' S' w' → Stp K S w K' S' w' → Q .normal a' w') → wpListIn (FW rd) n P ops Q l a w
  | [], rl, K, S, e, a, w, e', S', hm, _, h, hr, hv, hQ => by
    simp at hm; subst hm
    simp only [evOps, Option.some.injEq, Prod.mk.injEq] at hv
    obtain ⟨rfl, rfl⟩ := hv
    exact wpListIn_nil (hQ K a w hr rfl h (.refl K S w))
  | o :: l, rl, K, S, e, a, w, e', S', hm, hd, h, hr, hv, hQ => by
    simp only [List.mapM_cons, Option.bind_eq_bind, Option.bind_eq_some_iff, Option.pure_def, Option.some.injEq] at hm
    obtain ⟨r, hro, rl', hrl, rfl⟩ := hm
    obtain ⟨hio, hdst⟩ := compOper_io hro
    simp only [dstOk, List.all_cons, Bool.and_eq_true] at hd
    have hdt : ∀ t, o.dst = some t → t < nt := fun t ht => by
      have := hd.1
      rw [hdst, ht] at this
      simpa using this
    simp only [evOps, evOne] at hv
    cases hw : wantV e r.guard with
    | none => simp [hw] at hv
    | some b =>
      have hwant := want_ok (ops := ops) (o := o) (fun t _ _ => hr.slot t) hr.size hro hw
      refine wpListIn_step fun Kont hKont => ?_
      cases b with
      | false =>
        rw [hwant, if_neg (by simp)]
        simp only [hw] at hv
        refine ⟨fun _ _ => trivial, hKont _ _ ?_⟩
        refine list_ok hO l rl' K S _ _ w e' S' hrl hd.2 h ?_ hv fun K' a' w' q1 q2 q3 q4 => hQ K' a' w' q1 (by rw [q2, put_defers]) q3 q4
        rw [hdst]
        exact hr.putE .ud hdt
      | true =>
        rw [hwant, if_pos rfl]
        simp only [hw] at hv
        split at hv
        · cases hv
        · rename_i x S1 hx
          rw [hio] at hx
          refine oper_ok hO h hr hx fun K1 w1 v hV hS hst => hKont _ _ ?_
          refine list_ok hO l rl' K1 S1 _ _ w1 e' S' hrl hd.2 hS ?_ hv fun K' a' w' q1 q2 q3 q4 => hQ K' a' w' q1 (by rw [q2, put_defers]) q3 (hst.trans q4)
          rw [hdst]
          exact (hr.mono hst.ext).putE hV hdt
end
end Go.Proofs.YtljaigbjiheohaaDoor
