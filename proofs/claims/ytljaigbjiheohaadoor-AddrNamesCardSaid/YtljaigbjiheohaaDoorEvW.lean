/- Proved here: the evaluator beside functions of which a contract is known; strings.Join's contract as one of them. No condition. -/
import Derived.Test.YtljaigbjiheohaaDoorEvV
import Derived.Lib.Join
namespace Go.Proofs.YtljaigbjiheohaaDoor
open Go.RowKit
set_option linter.unusedSimpArgs false
set_option linter.unusedVariables false

section
variable {P : Program}

/-- The evaluator, some functions by their contracts. -/
def evMix (sp : List (FuncId × Spec)) (T : FuncId → Option IFunc) (m : Nat) : Nat → Orc
  | 0 => ⟨fun _ _ _ => none, fun _ _ _ => none⟩
  | n + 1 => ⟨fun f => match sp.find? (fun p => Nat.beq p.1 f) with
    | some p => p.2
    | none => match T f with
      | some F => evFunc (evMix sp T m n) m F
      | none => fun _ _ => none, evRound (evMix sp T m n) m T⟩

theorem evMix_ok (hmix : P.follows .mixedOrders = true) {sp : List (FuncId × Spec)} (hsp : ∀ p ∈ sp, SpecOK P p.1 p.2) {T : FuncId → Option IFunc} (hT : ∀ f F, T f = some F → compFunc P f = some (stripF F)) (m : Nat) : ∀ n, OK P (lamOf P) (evMix sp T m n)
  | 0 => ⟨fun f args S x S' h => by simp [evMix] at h, fun i args S x S' h => by simp [evMix] at h⟩
  | n + 1 => by
    have ih := evMix_ok hmix hsp hT m n
    refine ⟨fun f args S x S' h => ?_, fun i args S x S' h base w0 K w l vs hΛ hy hA hS => round_ok ih hmix hT h base w0 K w l vs hΛ hy hA hS⟩
    cases hq : sp.find? (fun p => Nat.beq p.1 f) with
    | some p =>
      simp only [evMix, hq] at h
      have hp := List.mem_of_find?_eq_some hq
      have he := List.find?_some hq
      have he := Nat.eq_of_beq_eq_true he
      subst he
      exact hsp p hp args S x S' h
    | none =>
      cases hF : T f with
      | none => simp [evMix, hq, hF] at h
      | some F =>
        simp only [evMix, hq, hF] at h
        exact func_ok ih hmix (hT f F hF) h

theorem calls_of_mix (hmix : P.follows .mixedOrders = true) {sp : List (FuncId × Spec)} (hsp : ∀ p ∈ sp, SpecOK P p.1 p.2) {T : FuncId → Option IFunc} (hT : ∀ f F, T f = some F → compFunc P f = some (stripF F)) {m n : Nat} {f : FuncId}
    (hv : isTrue ((evMix sp T m n).fn f [] []) = true) (w : World) (hd : Door w.heap.size w := by exact Door.triv) : Calls P f #[] w fun e w' => e = .returned (.bool true) ∧ Below w.heap.size w w' := by
  have hO := evMix_ok (P := P) hmix hsp (T := T) hT m n
  cases hr : (evMix sp T m n).fn f [] [] with
  | none => rw [hr] at hv; cases hv
  | some p =>
    obtain ⟨x, S'⟩ := p
    rw [hr] at hv
    have hx : x = .b true := by
      unfold isTrue at hv
      split at hv
      · rename_i h; simp only [Option.some.injEq, Prod.mk.injEq] at h; exact h.1
      · cases hv
    subst hx
    refine ((hO.fn _ _ _ _ _ hr).2 ⟨w.heap.size, lamOf P⟩ w _ w #[] rfl ⟨rfl, fun k hk => by simp at hk⟩ (Sim.start _ w hd)).mono fun e w' hp => ?_
    obtain ⟨K', v, rfl, hV, hS, _⟩ := hp
    cases hV
    exact ⟨rfl, hS.below⟩

/-- A call that changes nothing that was there, with whatever arguments. -/
theorem post_of_below {base : Bs} {w0 : World} {K : Ctx} {S : Mem} {w w' : World} {x : AV} {v : Value} (hS : Sim base w0 K S w) (hb : Below w.heap.size w w') (hv : VR K S x v) : Post base w0 K S w x S (.returned v) w' := by
  obtain ⟨h1, h2, h3, h4, h5⟩ := hb
  have hst : Stp K S w K S w' := ⟨.refl K S, h1, h2, h3, h4, fun b hb _ => h5 b hb, fun _ B' h => .inl ⟨B', h, id, rfl⟩⟩
  exact ⟨K, v, rfl, hv, ⟨fun i B hB => (hS.blk i B hB).mono (.refl K S) rfl rfl (h5 _ (hS.blk i B hB).lt), hS.inj, hS.step_below hst, Nat.le_trans hS.hb h4, hS.door⟩, hst⟩

/-! ### strings.Join -/
def strOf : AV → Option (List UInt8)
  | .s l => some l
  | _ => none
def strsOf : List AV → Option (List (List UInt8))
  | [] => some []
  | .s l :: r => (strsOf r).map (l :: ·)
  | _ => none
def joinS : Spec := fun args S => match args with
  | [.sl i o v len cap ex, .s sep] => match rowAt S i o v len with
    | some xs => match strsOf xs with
      | some ls => if (Lib.join ls sep).length ≤ 140737488355328 ∧ len ≤ 140737488355328 ∧ 0 < len then some (.s (Lib.join ls sep), S) else none
      | none => none
    | none => none
  | _ => none

theorem strsOf_ok : ∀ (xs : List AV) (ls : List (List UInt8)), strsOf xs = some ls → xs = ls.map .s
  | [], ls, h => by simp only [strsOf, Option.some.injEq] at h; subst h; rfl
  | x :: r, ls, h => by
    cases x <;> simp only [strsOf, reduceCtorEq] at h
    obtain ⟨l, hl, rfl⟩ := Option.map_eq_some_iff.1 h
    rw [strsOf_ok r l hl]; rfl

theorem joinS_ok {f : FuncId} (hen : enterable P f = true)
    (hJ : ∀ (bk o c : Nat) (xs : List ByteArray) (sep : ByteArray) (w : World), (∀ (j : Nat) x, xs[j]? = some x → w.cell? ⟨bk, o + j, none⟩ = some (.string x)) → bk < w.heap.size → xs.length ≤ 140737488355328 → xs.length ≤ c →
      (Lib.join (xs.map (·.data.toList)) sep.data.toList).length ≤ 140737488355328 → Calls P f #[.slice (some ⟨bk, o, none⟩) xs.length c, .string sep] w fun e w' => e = .returned (.string ⟨(Lib.join (xs.map (·.data.toList)) sep.data.toList).toArray⟩) ∧ Below w.heap.size w w') : SpecOK P f joinS := by
  intro args S x S' h
  unfold joinS at h
  split at h
  · rename_i i o v len cap ex sep
    split at h
    · rename_i xs hrow
      split at h
      · rename_i ls hls
        split at h
        · rename_i hc
          obtain ⟨hc1, hc2, hc3⟩ := hc
          simp only [Option.some.injEq, Prod.mk.injEq] at h
          obtain ⟨rfl, rfl⟩ := h
          have hxs := strsOf_ok _ _ hls
          refine ⟨hen, fun base w0 K w vs hΛ hA hS => ?_⟩
          obtain ⟨hlen, g, hg1, hg2⟩ := rowAt_ok hS hrow
          obtain ⟨v1, v2, hvs⟩ : ∃ v1 v2, vs.toList = [v1, v2] := by
            match hh : vs.toList, hA.1 with
            | [p, q], _ => exact ⟨p, q, rfl⟩
          rw [hvs] at hA
          have q1 : VR K S (.sl i o v len cap ex) v1 := hA.2 0 (by simp) (by simp)
          have q2 : VR K S (.s sep) v2 := hA.2 1 (by simp) (by simp)
          have hvs' : vs = #[v1, v2] := by rw [← Array.toArray_toList (xs := vs), hvs]
          subst hvs'
          have hB : ∃ cs ver op r, S[i]? = some (.cells cs ver op r) ∧ ver = v := by
            unfold rowAt at hrow
            split at hrow
            · rename_i cs ver op r hB
              split at hrow
              · rename_i hq; exact ⟨cs, ver, op, r, hB, hq.1⟩
              · cases hrow
            · cases hrow
          obtain ⟨cs, ver, op, r, hB, rfl⟩ := hB
          have hlt := (hS.blk i _ hB).lt
          cases q2
          cases q1 with
          | sl _ _ _ _ _ _ a c B' hB' hle' hl' hcc hex ha =>
            rw [hB] at hB'; obtain rfl := Option.some.inj hB'
            obtain ⟨rfl, _⟩ := ha rfl
            have hll : ls.length = len := by rw [← hlen, hxs]; simp
            have hm : (ls.map fun l => ByteArray.mk l.toArray).map (·.data.toList) = ls := by
              rw [List.map_map]; exact (List.map_congr_left fun l _ => rfl).trans (List.map_id ls)
            have := hJ (K.μ i) o c (ls.map fun l => ByteArray.mk l.toArray) ⟨sep.toArray⟩ w (fun j y hj => ?_) hlt (by simpa [hll] using hc2) (by simp [hll]; omega) (by rw [hm]; exact hc1)
            · rw [List.length_map, hll, hm] at this
              refine this.mono fun e w' ⟨he, hb⟩ => ?_
              subst he
              exact post_of_below hS hb (.s _)
            · rw [List.getElem?_map] at hj
              obtain ⟨l, hl, rfl⟩ := Option.map_eq_some_iff.1 hj
              have hjl : j < ls.length := (List.getElem?_eq_some_iff.1 hl).1
              have e1 := hg1 j (by omega)
              have e2 := hg2 j (by omega)
              have e3 : xs.getD j .u = .s l := by rw [hxs]; simp [List.getD_eq_getElem?_getD, List.getElem?_map, hl]
              rw [e3] at e2
              generalize hgj : g j = gj at *
              cases e2
              rw [← e1]
              unfold Addr.add
              by_cases h0 : j = 0
              · subst h0; rfl
              · rw [if_neg h0]
        · cases h
      · cases h
    · cases h
  · cases h
end
end Go.Proofs.YtljaigbjiheohaaDoor
