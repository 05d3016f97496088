/- Proved here: the evaluator is sound: what it says of a function without arguments is what the model does. No condition. -/
import Derived.Test.YtljaigbjiheohaaDoorEvN
namespace Go.Proofs.YtljaigbjiheohaaDoor
set_option linter.unusedSimpArgs false
set_option linter.unusedVariables false
open Go.RowKit

section
variable {P : Program} {K : Ctx} {S : Mem} {w : World} {O : Orc}

theorem ER.binds {K : Ctx} {S : Mem} {nt : Nat} : ∀ (ps : List Nat) (xs : List AV) (vs : List Value) (e : Env) (tmps : Array Value) (ds : List Deferred), ps.length = xs.length → ArgsR K S xs vs → (∀ t ∈ ps, t < nt) → ER K S nt e ⟨tmps, ds⟩ →
    ER K S nt (bindE ps xs e) ⟨(ps.zip vs).foldl (fun tmps p => tmps.setIfInBounds p.1 p.2) tmps, ds⟩
  | [], xs, vs, e, tmps, ds, hl, hA, _, hr => by
    have e1 : xs = [] := List.length_eq_zero_iff.1 (by simpa using hl.symm)
    subst e1
    simpa [bindE] using hr
  | p :: ps, x :: xs, v :: vs, e, tmps, ds, hl, hA, hlt, hr => by
    have hx : VR K S x v := hA.2 0 (by simp) (by simp)
    have := ER.binds ps xs vs ((p, x) :: e) (tmps.setIfInBounds p v) ds (by simpa using hl) ⟨by have := hA.1; simpa using this, fun k h1 h2 => hA.2 (k + 1) (by simp; omega) (by simp; omega)⟩ (fun t ht => hlt t (by simp [ht])) (hr.put hx p (hlt p (by simp)))
    simpa [bindE] using this
  | _ :: _, [], _, _, _, _, hl, _, _, _ => by simp at hl
  | _ :: _, _ :: _, [], _, _, _, _, hA, _, _ => by have := hA.1; simp at this

theorem round_ok (hO : OK P (lamOf P) O) (hmix : P.follows .mixedOrders = true) {T : FuncId → Option IFunc} (hT : ∀ f F, T f = some F → compFunc P f = some (stripF F)) {m i : Nat} {args : List AV} {S : Mem} {x : AV} {S' : Mem} (hv : evRound O m T i args S = some (x, S'))
    (base : Bs) (w0 : World) (K : Ctx) (w : World) (l : Nat) (vs : Array Value) (hΛ : base.Λ = lamOf P) (hy : VR K S (.y i) (.func (.yield l) #[] #[])) (hA : ArgsR K S args vs.toList) (h : Sim base w0 K S w) :
    ∃ f tmps assign body, (Instr.yield l vs).run P w = .ok (.round l f tmps assign body) w ∧ ∀ n, RoundIn Fence.wide n P l f tmps assign body w (Post base w0 K S w x S') := by
  unfold evRound at hv
  split at hv
  · rename_i f path env st0 pe0 hB
    split at hv
    · rename_i F hF
      split at hv
      · rename_i path' ps ia ib hfind
        split at hv
        · rename_i hlen
          split at hv
          · rename_i e1 S1 h1
            split at hv
            · rename_i f1 p1 env1 pe1 hB1
              split at hv
              · rename_i ix e2 S2 d2 h2
                split at hv
                · rename_i f2 p2 env2 st2 pe2 hB2
                  simp only [Option.some.injEq, Prod.mk.injEq] at hv
                  obtain ⟨rfl, rfl⟩ := hv
                  -- the record
                  have hl : l = K.μ i := by
                    cases hy with
                    | y _ _ B hB' hr => rw [hB] at hB'; obtain rfl := Option.some.inj hB'; exact hr rfl
                  obtain ⟨r, hh, hr1, hr2, hr3, hr4, hr5⟩ := h.blk _ _ hB
                  rw [← hl] at hh hr4
                  rw [hΛ] at hr1
                  obtain ⟨fn, c, _, _, _, _, _, _, hloops⟩ := (compFunc_ok (hT f F hF)).out
                  have hmem := List.mem_of_find?_eq_some hfind
                  have hpath : path' = path := by have := List.find?_some hfind; simpa using this
                  subst hpath
                  obtain ⟨qs, a, b, q1, q2, q3, q4, q5⟩ := hloops _ _ _ _ hmem
                  rw [q1] at hr1
                  simp only [Option.some.injEq, Prod.mk.injEq] at hr1
                  obtain ⟨rfl, rfl, rfl, hsz⟩ := hr1
                  have hvl : vs.size = r.params.size := by
                    have h1 := hA.1
                    have h2 : r.params.size = ps.length := by rw [← q2]; simp
                    rw [h2, ← hlen]; simpa using h1.symm
                  refine ⟨r.fn, _, r.assign, r.body, run_yield hh hvl, fun n => ?_⟩
                  have hr0 : ER K S fn.ntmps env ⟨r.tmps, []⟩ := ⟨hsz.symm, hr5⟩
                  have hr1 := ER.binds ps args vs.toList env r.tmps [] hlen.symm hA q3 hr0
                  have hz : (r.params.zip vs).foldl (fun tmps (t, a) => tmps.setIfInBounds t a) r.tmps = (ps.zip vs.toList).foldl (fun tmps p => tmps.setIfInBounds p.1 p.2) r.tmps := by
                    rw [← Array.foldl_toList, Array.toList_zip, q2]
                  rw [hz]
                  rw [← hΛ] at hO q4 q5
                  have w1 := code_ok (rd := some l) (n := n) (w0 := w0) hO hmix m r.assign ia K S _ _ [] w _ _ _ _ q4 h hr1 trivial h1
                  refine roundIn_of_wpIn (F := Fence.wide) trivial (Code.wpIn_mono (fun ex a1 w1 hq => ?_) w1)
                  obtain ⟨rfl, K1, g1, g2, g3, g4⟩ := hq
                  have hμ1 : K1.μ i = l := by
                    obtain ⟨B', hB', _, hs⟩ := g4.ext.blk _ _ hB
                    rw [hB1] at hB'; obtain rfl := Option.some.inj hB'
                    rw [(hs rfl).1, hl]
                  obtain ⟨r1, k1, k2, k3, k4, k5, k6⟩ := g3.blk _ _ hB1
                  rw [hμ1] at k1 k5
                  obtain ⟨s2, t2⟩ := g3.putObj (B' := .loop f1 p1 env1 .busy pe1) (o := .loop { r1 with state := .busy }) hB1 rfl rfl rfl fun S'' w'' hE he => ⟨{ r1 with state := .busy }, he, k2, rfl, k4, by rw [hμ1]; exact k5, fun t => (k6 t).mono hE⟩
                  rw [hμ1] at s2 t2
                  refine ⟨_, run_beginRound k1 k3, ?_⟩
                  have w2 := code_ok (rd := some l) (n := n) (w0 := w0) hO hmix m r.body ib K1 (S1.set i (.loop f1 p1 env1 .busy pe1)) e1 a1 [] _ _ _ _ _ q5 s2 (g1.mono t2.ext) (g2.mono t2.ext) h2
                  refine Code.wpIn_mono (fun ex a2 w3 hq => ?_) w2
                  obtain ⟨rfl, K2, j1, j2, j3, j4⟩ := hq
                  have hat2 : (S1.set i (.loop f1 p1 env1 .busy pe1))[i]? = some (.loop f1 p1 env1 .busy pe1) := by
                    have := (List.getElem?_eq_some_iff.1 hB1).1
                    simp [this]
                  have hμ2 : K2.μ i = l := by
                    obtain ⟨B', hB', _, hs⟩ := j4.ext.blk _ _ hat2
                    rw [hB2] at hB'; obtain rfl := Option.some.inj hB'
                    rw [(hs rfl).1, hμ1]
                  obtain ⟨r2, n1, n2, n3, n4, n5, n6⟩ := j3.blk _ _ hB2
                  rw [hμ2] at n1 n5
                  have fin : ∀ (jp : Option Jump) (cd : Option Code), cd = jp.map Jump.code → ixJump ix = jp → ∃ v w', (Instr.endRound l cd).run P w3 = .ok v w' ∧
                      Post base w0 K S w (.b (ixJump ix).isNone) (S2.set i (.loop f2 p2 env2 (if (ixJump ix).isNone then .ready else .done) (ixJump ix))) (.returned v) w' := by
                    intro jp cd hcd hjp
                    rw [hjp]
                    have hcn : cd.isNone = jp.isNone := by rw [hcd]; cases jp <;> rfl
                    obtain ⟨s3, t3⟩ := j3.putObj (B' := .loop f2 p2 env2 (if jp.isNone then .ready else .done) jp) (o := .loop { r2 with state := if cd.isNone then .ready else .done, pending := cd }) hB2 rfl rfl rfl fun S'' w'' hE he =>
                      ⟨{ r2 with state := if cd.isNone then .ready else .done, pending := cd }, he, n2, by simp only [hcn], hcd, by rw [hμ2]; exact n5, fun t => (n6 t).mono hE⟩
                    rw [hμ2] at s3 t3
                    refine ⟨_, _, run_endRound cd n1, K2, .bool cd.isNone, rfl, ?_, s3, ((g4.trans t2).trans j4).trans t3⟩
                    rw [hcn]; exact .b _
                  cases ix with
                  | normal => exact fin none none rfl rfl
                  | ret => exact fin (some .ret) (some .ret) rfl rfl
                  | exit id => exact fin (some (.exit id)) (some (.exit id)) rfl rfl
                  | goto g => exact fin (some (.goto g)) (some (.goto g)) rfl rfl
                · cases hv
              · cases hv
            · cases hv
          · cases hv
        · cases hv
      · cases hv
    · cases hv
  · cases hv

/-- The evaluator is sound. -/
theorem evAll_ok (hmix : P.follows .mixedOrders = true) {T : FuncId → Option IFunc} (hT : ∀ f F, T f = some F → compFunc P f = some (stripF F)) (m : Nat) : ∀ n, OK P (lamOf P) (evAll T m n)
  | 0 => ⟨fun f args S x S' h => by simp [evAll] at h, fun i args S x S' h => by simp [evAll] at h⟩
  | n + 1 => by
    have ih := evAll_ok hmix hT m n
    refine ⟨fun f args S x S' h => ?_, fun i args S x S' h base w0 K w l vs hΛ hy hA hS => round_ok ih hmix hT h base w0 K w l vs hΛ hy hA hS⟩
    cases hF : T f with
    | none => simp [evAll, hF] at h
    | some F =>
      simp only [evAll, hF] at h
      exact func_ok ih hmix (hT f F hF) h

/-- Nothing is known of the memory; it is not touched. -/
theorem Sim.start (Λ : Nat → List Bool → Option (Array Tmp × Code × Code × Nat)) (w : World) (hd : Door w.heap.size w) : Sim ⟨w.heap.size, Λ⟩ w ⟨fun _ => 0, fun _ => 0⟩ [] w :=
  ⟨fun i B h => by simp at h, fun i j h => by simp at h, Below.refl _ _, Nat.le_refl _, hd⟩

/-- It is 'true'. -/
def isTrue : Option (AV × Mem) → Bool
  | some (.b true, _) => true
  | _ => false

theorem calls_of_ev (hmix : P.follows .mixedOrders = true) {T : FuncId → Option IFunc} (hT : ∀ f F, T f = some F → compFunc P f = some (stripF F)) {m n : Nat} {f : FuncId} (hv : isTrue ((evAll T m n).fn f [] []) = true) (w : World) (hd : Door w.heap.size w := by exact Door.triv) :
    Calls P f #[] w fun e w' => e = .returned (.bool true) ∧ Below w.heap.size w w' := by
  have hO := evAll_ok (P := P) hmix (T := T) hT m n
  cases hr : (evAll T m n).fn f [] [] with
  | none => rw [hr] at hv; cases hv
  | some p =>
    obtain ⟨x, S'⟩ := p
    rw [hr] at hv
    have hx : x = .b true := by
      unfold isTrue at hv
      split at hv
      · rename_i h; simp only [Option.some.injEq, Prod.mk.injEq] at h; exact h.1
      · cases hv
    subst hx
    refine ((hO.fn _ _ _ _ _ hr).2 ⟨w.heap.size, lamOf P⟩ w _ w #[] rfl ⟨rfl, fun k hk => by simp at hk⟩ (Sim.start _ w hd)).mono fun e w' hp => ?_
    obtain ⟨K', v, rfl, hV, hS, _⟩ := hp
    cases hV
    exact ⟨rfl, hS.below⟩

/-- A table of functions. -/
def look : List (Nat × IFunc) → Nat → Option IFunc
  | [], _ => none
  | (k, F) :: r, f => bif Nat.beq k f then some F else look r f
theorem look_ok : ∀ (l : List (Nat × IFunc)), (∀ p ∈ l, compFunc P p.1 = some (stripF p.2)) → ∀ f F, look l f = some F → compFunc P f = some (stripF F)
  | [], _, f, F, h => by cases h
  | (k, G) :: r, hl, f, F, h => by
    simp only [look] at h
    cases hb : Nat.beq k f with
    | true =>
      rw [hb] at h
      simp only [cond_true, Option.some.injEq] at h
      have := Nat.eq_of_beq_eq_true hb
      subst this; subst h
      exact hl (k, G) List.mem_cons_self
    | false =>
      rw [hb] at h
      exact look_ok r (fun p hp => hl p (by simp [hp])) f F h
end
end Go.Proofs.YtljaigbjiheohaaDoor
