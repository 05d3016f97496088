/- Proved here: code does what the evaluator says. No condition. -/
import Derived.Test.YtljaigbjiheohaaDoorEvL
namespace Go.Proofs.YtljaigbjiheohaaDoor
set_option linter.unusedSimpArgs false
set_option linter.unusedVariables false
open Go.RowKit

/-- Where code leads. -/
def QR (base : Bs) (w0 : World) (nt : Nat) (K : Ctx) (S : Mem) (w : World) (x : IX) (e' : Env) (S' : Mem) (d' : List Nat) : Exit → Act → World → Prop := fun ex a' w' =>
  ex = x.out ∧ ∃ K', ER K' S' nt e' a' ∧ DR K' S' d' a'.defers ∧ Sim base w0 K' S' w' ∧ Stp K S w K' S' w'

theorem QR.trans {base : Bs} {w0 : World} {nt : Nat} {K K1 : Ctx} {S S1 : Mem} {w w1 : World} {x : IX} {e' : Env} {S' : Mem} {d' : List Nat} {ex : Exit} {a' : Act} {w' : World} (hst : Stp K S w K1 S1 w1) (h : QR base w0 nt K1 S1 w1 x e' S' d' ex a' w') : QR base w0 nt K S w x e' S' d' ex a' w' :=
  let ⟨h1, K', h2, h3, h4, h5⟩ := h
  ⟨h1, K', h2, h3, h4, hst.trans h5⟩

section
variable {P : Program} {base : Bs} {w0 : World} {O : Orc} {nt : Nat} {rd : Option Nat} {n : Nat}

theorem ER.keep {K : Ctx} {S : Mem} {e : Env} {a : Act} (h : ER K S nt e a) (l : List Nat) : ER K S nt (keepE e l) a := ER.kept h.size fun t _ => h.slot t

theorem scope_no_goto {b : Bool} : ∀ (m : Nat) (l : List Nat) (ia : ICode) (lab : Nat) (ib : ICode) (e : Env) (S : Mem) (d : List Nat) (x : IX) (e' : Env) (S' : Mem) (d' : List Nat), evCode O b m (.scope l ia lab ib) e S d = some (x, e', S', d') → ∀ g, x ≠ .goto g
  | 0, _, _, _, _, _, _, _, _, _, _, _, h => by simp [evCode] at h
  | m + 1, l, ia, lab, ib, e, S, d, x, e', S', d', h => by
    simp only [evCode] at h
    split at h
    · split at h
      · exact scope_no_goto m _ _ _ _ _ _ _ _ _ _ _ h
      · cases h
    · rename_i hne
      intro g hg
      subst hg
      exact hne _ _ _ _ h

theorem rf_ok (hO : OK P base.Λ O) {g : Operand} {xg : X} {ps : Array Tmp} {ca cb : Code} {f : Nat} {path : List Bool} {keep : List Nat} (hg : compX g = some xg) (hL : base.Λ f path = some (ps, ca, cb, nt)) {m : Nat} {K : Ctx} {S : Mem} {e : Env} {a : Act} {d : List Nat} {w : World} {x : IX} {e' : Env} {S' : Mem} {d' : List Nat}
    (h : Sim base w0 K S w) (hr : ER K S nt e a) (hd : DR K S d a.defers) (hv : evCode O rd.isSome (m + 1) (.rf xg f path keep) e S d = some (x, e', S', d')) : (Code.rangeFunc g ps ca cb).wpIn (FW rd) n P (QR base w0 nt K S w x e' S' d') a w := by
  simp only [evCode] at hv
  cases rd with
  | some l => simp at hv
  | none =>
    simp only [Option.isSome_none, Bool.false_eq_true, if_false] at hv
    split at hv
    · rename_i gf fa fb hf
      split at hv
      · rename_i y S2 hcall
        split at hv
        · rename_i f' path' env st pend hS2
          split at hv
          · cases hv
          · rename_i hbusy
            simp only [Option.some.injEq, Prod.mk.injEq] at hv
            obtain ⟨hx, rfl, rfl, rfl⟩ := hv
            have hG := compX_ok (K := K) (S := S) hg hr
            rw [hf] at hG
            generalize hvg : a.eval g = vg at hG
            cases hG with
            | f _ _ _ x' y' hxl hyl h1 h2 =>
              refine wpIn_rangeFunc fun fn _ => ?_
              -- the two blocks
              obtain ⟨s1, t1⟩ := h.alloc (.dfr true) (.deferred (some [])) 0 fun K' S' w' hE e1 e2 e3 hb => ⟨by rw [e1]; exact e3, by rw [e1]; exact hb⟩
              have hp1 := K.put_same S.length w.heap.size 0
              generalize hK1 : K.put S.length w.heap.size 0 = K1 at s1 t1 hp1
              have hr1 := hr.mono t1.ext
              obtain ⟨s2, t2⟩ := s1.alloc (.loop f path (keepE e keep) .ready none) (.loop { state := .ready, pending := none, fn := fn, tmps := a.tmps, params := ps, assign := ca, body := cb, defers := w.heap.size }) 0 fun K' S' w' hE e1 e2 e3 hb =>
                ⟨_, by rw [e1]; exact e3, by rw [hL, hr.size], rfl, rfl, by rw [e1]; exact hb, fun t => ((hr1.keep keep).slot t).mono hE⟩
              have hl1 : (S ++ [Blk.dfr true]).length = S.length + 1 := by simp
              have hw1 : (w.alloc (.deferred (some []))).heap.size = w.heap.size + 1 := by simp
              rw [hl1, hw1] at s2 t2
              have hp2 := K1.put_same (S.length + 1) (w.heap.size + 1) 0
              have hp3 := K1.put_other (w.heap.size + 1) 0 (show S.length ≠ S.length + 1 by omega)
              generalize hK2 : K1.put (S.length + 1) (w.heap.size + 1) 0 = K2 at s2 t2 hp2 hp3
              have happ : S ++ [Blk.dfr true] ++ [.loop f path (keepE e keep) .ready none] = S ++ [.dfr true, .loop f path (keepE e keep) .ready none] := by simp
              rw [happ] at s2 t2
              obtain ⟨W, hW⟩ : ∃ W, W = (w.alloc (.deferred (some []))).alloc (.loop { state := .ready, pending := none, fn := fn, tmps := a.tmps, params := ps, assign := ca, body := cb, defers := w.heap.size }) := ⟨_, rfl⟩
              rw [← hW] at s2 t2
              have hst := t1.trans t2
              have hat : (S ++ [Blk.dfr true, .loop f path (keepE e keep) .ready none])[S.length + 1]? = some (.loop f path (keepE e keep) .ready none) := by
                rw [List.getElem?_append_right (by omega)]; simp
              have hat0 : (S ++ [Blk.dfr true, .loop f path (keepE e keep) .ready none])[S.length]? = some (.dfr true) := by
                rw [List.getElem?_append_right (by omega)]; simp
              obtain ⟨hen, hcl⟩ := hO.fn _ _ _ _ _ hcall
              have hy1 : VR K2 (S ++ [.dfr true, .loop f path (keepE e keep) .ready none]) (.y (S.length + 1)) (.func (.yield (w.heap.size + 1)) #[] #[]) := .y _ _ _ hat fun _ => hp2.1.symm
              have hargs : ArgsR K2 (S ++ [.dfr true, .loop f path (keepE e keep) .ready none]) (fa ++ [.y (S.length + 1)] ++ fb) (x' ++ #[Value.func (.yield (w.heap.size + 1)) #[] #[]] ++ y').toList := by
                simp only [Array.toList_append]
                refine (((ArgsR.of_arr hxl h1).mono hst.ext).append ?_).append ((ArgsR.of_arr hyl h2).mono hst.ext)
                exact ⟨rfl, fun k hk hk' => by
                  obtain rfl : k = 0 := by simp at hk; omega
                  exact hy1⟩
              refine ⟨w.heap.size + 1, [{ target := .collected w.heap.size, args := #[] }], W, { target := .fn (.func gf) y', args := x' ++ #[Value.func (.yield (w.heap.size + 1)) #[] #[]] }, W, gf, x' ++ #[Value.func (.yield (w.heap.size + 1)) #[] #[]] ++ y', W, by rw [hW]; exact run_enterLoop_outer fn a.tmps ps ca cb, ?_, fun _ _ => trivial, ?_, fun e => (by cases e), ?_⟩
              · simp [resolve, rangeCall, hvg, Deferred.ofValue]; rfl
              · simp [invoke, run_callFunc hen]
              · refine CallsIn.mono (callsW (rd := none) (hcl base w0 K2 W _ rfl hargs s2)) fun en w3 hp => ?_
                obtain ⟨K3, v, rfl, hV, s3, t3⟩ := hp
                have hμ : K3.μ (S.length + 1) = w.heap.size + 1 := by
                  obtain ⟨B', hB', _, hs⟩ := t3.ext.blk _ _ hat
                  rw [hS2] at hB'; obtain rfl := Option.some.inj hB'
                  rw [(hs rfl).1, hp2.1]
                obtain ⟨r, hh, g1, g2, g3, g4, g5⟩ := s3.blk _ _ hS2
                rw [hμ] at hh g4
                refine ⟨pend.map Jump.code, w3.putObj (w.heap.size + 1) (.loop { r with state := .exhausted }), by rw [← g3]; exact run_endLoop hh (by rw [g2]; exact hbusy), ?_⟩
                obtain ⟨s4, t4⟩ := s3.putObj (B' := .loop f' path' env .exhausted pend) (o := .loop { r with state := .exhausted }) hS2 rfl rfl rfl fun S'' w'' hE he => ⟨{ r with state := .exhausted }, he, g1, rfl, g3, by rw [hμ]; exact g4, fun t => (g5 t).mono hE⟩
                rw [hμ] at s4 t4
                have hall := (hst.trans t3).trans t4
                have hER : ER K3 (S2.set (S.length + 1) (.loop f' path' env .exhausted pend)) nt e { a with defers := [{ target := .collected w.heap.size, args := #[] }] ++ a.defers } := ⟨hr.size, fun t => (hr.slot t).mono hall.ext⟩
                have hDR : DR K3 (S2.set (S.length + 1) (.loop f' path' env .exhausted pend)) (S.length :: d) ([{ target := .collected w.heap.size, args := #[] }] ++ a.defers) :=
                  ⟨⟨w.heap.size, rfl, (VR.m S.length w.heap.size _ hat0 (fun _ => by rw [hp3.1, hp1.1])).mono (t3.trans t4).ext⟩, hd.mono hall.ext⟩
                cases pend with
                | none => subst hx; exact ⟨rfl, K3, hER, hDR, s4, hall⟩
                | some j =>
                  subst hx
                  cases j with
                  | ret => exact wpIn_ret ⟨rfl, K3, hER, hDR, s4, hall⟩
                  | exit id => exact wpIn_exit ⟨rfl, K3, hER, hDR, s4, hall⟩
                  | goto l => exact wpIn_goto ⟨rfl, K3, hER, hDR, s4, hall⟩
        · cases hv
      · cases hv
    · cases hv

theorem code_ok (hO : OK P base.Λ O) (hmix : P.follows .mixedOrders = true) : ∀ (m : Nat) (c : Code) (ic : ICode) (K : Ctx) (S : Mem) (e : Env) (a : Act) (d : List Nat) (w : World) (x : IX) (e' : Env) (S' : Mem) (d' : List Nat), CodeR P base.Λ nt c ic → Sim base w0 K S w → ER K S nt e a → DR K S d a.defers →
    evCode O rd.isSome m ic e S d = some (x, e', S', d') → c.wpIn (FW rd) n P (QR base w0 nt K S w x e' S' d') a w := by
  intro m
  induction m using Nat.strongRecOn with
  | _ m ih =>
    intro c ic K S e a d w x e' S' d' hc h hr hd hv
    cases m with
    | zero => simp [evCode] at hv
    | succ m =>
      have one : ∀ {x1 x2 : IX} {e1 e2 : Env} {S1 S2 : Mem} {d1 d2 : List Nat}, some (x1, e1, S1, d1) = some (x2, e2, S2, d2) → x1 = x2 ∧ e1 = e2 ∧ S1 = S2 ∧ d1 = d2 := by
        intro x1 x2 e1 e2 S1 S2 d1 d2 h
        simpa using h
      cases hc with
      | bad => simp [evCode] at hv
      | skip =>
        obtain ⟨rfl, rfl, rfl, rfl⟩ := one hv
        exact wpIn_skip ⟨rfl, K, hr, hd, h, .refl K S w⟩
      | label l =>
        obtain ⟨rfl, rfl, rfl, rfl⟩ := one hv
        exact wpIn_label ⟨rfl, K, hr, hd, h, .refl K S w⟩
      | region id ops l hm hdst =>
        simp only [evCode] at hv
        split at hv
        · rename_i e1 S1 hops
          obtain ⟨rfl, rfl, rfl, rfl⟩ := one hv
          exact wpIn_region_list (list_ok hO ops.toList l K S e a w e1 S1 hm hdst h hr hops fun K' a' w' q1 q2 q3 q4 => ⟨rfl, K', q1, by rw [q2]; exact hd.mono q4.ext, q3, q4⟩)
        · cases hv
      | draw id ops l p hm hp =>
        simp only [evCode] at hv
        split at hv
        · rename_i e1 S1 hops
          obtain ⟨rfl, rfl, rfl, rfl⟩ := one hv
          exact draw_ok hO hmix hm hp h hr hops fun K' a' w' q1 q2 q3 q4 => ⟨rfl, K', q1, by rw [q2]; exact hd.mono q4.ext, q3, q4⟩
        · cases hv
      | seq ha hb =>
        simp only [evCode] at hv
        refine wpIn_seq ?_
        split at hv
        · rename_i e1 S1 d1 h1
          refine Code.wpIn_mono (fun ex a1 w1 hq => ?_) (ih m (by omega) _ _ K S e a d w _ _ _ _ ha h hr hd h1)
          obtain ⟨rfl, K1, q1, q2, q3, q4⟩ := hq
          exact Code.wpIn_mono (fun ex a2 w2 hq => hq.trans q4) (ih m (by omega) _ _ K1 S1 e1 a1 d1 w1 _ _ _ _ hb q3 q1 q2 hv)
        · rename_i hne
          refine Code.wpIn_mono (fun ex a1 w1 hq => ?_) (ih m (by omega) _ _ K S e a d w _ _ _ _ ha h hr hd hv)
          obtain ⟨rfl, hq⟩ := hq
          cases x with
          | normal => exact absurd hv (hne _ _ _)
          | exit id => exact ⟨rfl, hq⟩
          | ret => exact ⟨rfl, hq⟩
          | goto l => exact ⟨rfl, hq⟩
      | cond hcx ha hb =>
        have hC := compX_ok (K := K) (S := S) hcx hr
        simp only [evCode] at hv
        split at hv
        · rename_i hb1
          rw [hb1] at hC
          refine wpIn_cond_true ?_ (ih m (by omega) _ _ K S e a d w _ _ _ _ ha h hr hd hv)
          generalize a.eval _ = v at hC ⊢
          cases hC; rfl
        · rename_i hb1
          rw [hb1] at hC
          refine wpIn_cond_false ?_ (ih m (by omega) _ _ K S e a d w _ _ _ _ hb h hr hd hv)
          generalize a.eval _ = v at hC ⊢
          cases hC; rfl
        · cases hv
      | block id ha =>
        simp only [evCode] at hv
        refine wpIn_block ?_
        split at hv
        · rename_i id' e1 S1 d1 h1
          refine Code.wpIn_mono (fun ex a1 w1 hq => ?_) (ih m (by omega) _ _ K S e a d w _ _ _ _ ha h hr hd h1)
          obtain ⟨rfl, hq⟩ := hq
          simp only [IX.out, Exit.inBlock]
          split at hv
          · rename_i hid
            obtain ⟨rfl, rfl, rfl, rfl⟩ := one hv
            rw [if_pos hid]; exact ⟨rfl, hq⟩
          · rename_i hid
            obtain ⟨rfl, rfl, rfl, rfl⟩ := one hv
            rw [if_neg hid]; exact ⟨rfl, hq⟩
        · rename_i hne
          refine Code.wpIn_mono (fun ex a1 w1 hq => ?_) (ih m (by omega) _ _ K S e a d w _ _ _ _ ha h hr hd hv)
          obtain ⟨rfl, hq⟩ := hq
          cases x with
          | normal => exact ⟨rfl, hq⟩
          | exit id' => exact absurd hv (hne _ _ _ _)
          | ret => exact ⟨rfl, hq⟩
          | goto l => exact ⟨rfl, hq⟩
      | loop l ha =>
        rename_i ca ia
        refine wpIn_loop_idx (fun j a1 w1 => j ≤ m + 1 ∧ ∃ K1 S1 e1 d1, ER K1 S1 nt e1 a1 ∧ DR K1 S1 d1 a1.defers ∧ Sim base w0 K1 S1 w1 ∧ Stp K S w K1 S1 w1 ∧ evCode O rd.isSome j (.loop l ia) e1 S1 d1 = some (x, e', S', d')) (j := m + 1)
          ⟨Nat.le_refl _, K, S, e, d, hr, hd, h, .refl K S w, hv⟩ fun j a1 w1 hI => ?_
        obtain ⟨hj, K1, S1, e1, d1, q1, q2, q3, q4, q5⟩ := hI
        cases j with
        | zero => simp [evCode] at q5
        | succ j =>
          simp only [evCode] at q5
          split at q5
          · rename_i e2 S2 d2 h2
            refine Code.wpIn_mono (fun ex a2 w2 hq => ?_) (ih j (by omega) _ _ K1 S1 (keepE e1 l) a1 d1 w1 _ _ _ _ ha q3 (q1.keep l) q2 h2)
            obtain ⟨rfl, K2, r1, r2, r3, r4⟩ := hq
            exact ⟨j, by omega, by omega, K2, S2, e2, d2, r1, r2, r3, q4.trans r4, q5⟩
          · rename_i hne
            refine Code.wpIn_mono (fun ex a2 w2 hq => ?_) (ih j (by omega) _ _ K1 S1 (keepE e1 l) a1 d1 w1 _ _ _ _ ha q3 (q1.keep l) q2 q5)
            obtain ⟨hx1, hq2⟩ := hq.trans q4
            subst hx1
            cases x with
            | normal => exact absurd q5 (hne _ _ _)
            | exit id => exact ⟨rfl, hq2⟩
            | ret => exact ⟨rfl, hq2⟩
            | goto l => exact ⟨rfl, hq2⟩
      | exit id =>
        obtain ⟨rfl, rfl, rfl, rfl⟩ := one hv
        exact wpIn_exit ⟨rfl, K, hr, hd, h, .refl K S w⟩
      | ret =>
        obtain ⟨rfl, rfl, rfl, rfl⟩ := one hv
        exact wpIn_ret ⟨rfl, K, hr, hd, h, .refl K S w⟩
      | goto l =>
        obtain ⟨rfl, rfl, rfl, rfl⟩ := one hv
        exact wpIn_goto ⟨rfl, K, hr, hd, h, .refl K S w⟩
      | scope l lab hf ha hb =>
        rename_i ca cb ia ib
        have hng := scope_no_goto _ _ _ _ _ _ _ _ _ _ _ _ hv
        simp only [evCode] at hv
        refine wpIn_scope_idx lab hf (fun j a1 w1 => j ≤ m ∧ ∃ K1 S1 e1 d1, ER K1 S1 nt e1 a1 ∧ DR K1 S1 d1 a1.defers ∧ Sim base w0 K1 S1 w1 ∧ Stp K S w K1 S1 w1 ∧ evCode O rd.isSome j (.scope l ib lab ib) e1 S1 d1 = some (x, e', S', d')) ?_ (fun j a1 w1 hI => ?_) (fun g a1 w1 hq => ?_)
        · split at hv
          · rename_i g e1 S1 d1 h1
            split at hv
            · rename_i hg
              subst hg
              refine Code.wpIn_mono (fun ex a1 w1 hq => ?_) (ih m (by omega) _ _ K S e a d w _ _ _ _ ha h hr hd h1)
              obtain ⟨rfl, K1, q1, q2, q3, q4⟩ := hq
              exact ⟨rfl, m, Nat.le_refl _, K1, S1, keepE e1 l, d1, q1.keep l, q2, q3, q4, hv⟩
            · cases hv
          · rename_i hne
            refine Code.wpIn_mono (fun ex a1 w1 hq => ?_) (ih m (by omega) _ _ K S e a d w _ _ _ _ ha h hr hd hv)
            obtain ⟨rfl, hq⟩ := hq
            cases x with
            | normal => exact ⟨rfl, hq⟩
            | exit id => exact ⟨rfl, hq⟩
            | ret => exact ⟨rfl, hq⟩
            | goto g => exact absurd rfl (hng g)
        · obtain ⟨hj, K1, S1, e1, d1, q1, q2, q3, q4, q5⟩ := hI
          cases j with
          | zero => simp [evCode] at q5
          | succ j =>
            simp only [evCode] at q5
            split at q5
            · rename_i g e2 S2 d2 h2
              split at q5
              · rename_i hg
                subst hg
                refine Code.wpIn_mono (fun ex a2 w2 hq => ?_) (ih j (by omega) _ _ K1 S1 e1 a1 d1 w1 _ _ _ _ hb q3 q1 q2 h2)
                obtain ⟨rfl, K2, r1, r2, r3, r4⟩ := hq
                exact ⟨rfl, j, by omega, by omega, K2, S2, keepE e2 l, d2, r1.keep l, r2, r3, q4.trans r4, q5⟩
              · cases q5
            · rename_i hne
              refine Code.wpIn_mono (fun ex a2 w2 hq => ?_) (ih j (by omega) _ _ K1 S1 e1 a1 d1 w1 _ _ _ _ hb q3 q1 q2 q5)
              obtain ⟨hx1, hq2⟩ := hq.trans q4
              subst hx1
              cases x with
              | normal => exact ⟨rfl, hq2⟩
              | exit id => exact ⟨rfl, hq2⟩
              | ret => exact ⟨rfl, hq2⟩
              | goto g => exact absurd rfl (hng g)
        · have := hq.1
          cases x <;> first | (simp [IX.out] at this; done) | (rename_i g'; exact hng g' rfl)
      | live l hc =>
        simp only [evCode] at hv
        exact ih m (by omega) _ _ K S (keepE e l) a d w _ _ _ _ hc h (hr.keep l) hd hv
      | rf f path keep hg hL => exact rf_ok hO hg hL h hr hd hv
end
end Go.Proofs.YtljaigbjiheohaaDoor
