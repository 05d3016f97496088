/- Proved here: the evaluator's slice expressions, lengths, appends, copies and conversions of texts stand for the model's. No condition. -/
import Derived.Test.YtljaigbjiheohaaDoorEv6
import Derived.Laws.BytesString
namespace Go.Proofs.YtljaigbjiheohaaDoor
set_option linter.unusedSimpArgs false
set_option linter.unusedVariables false
open Go.RowKit

section
variable {P : Program} {base : Bs} {w0 : World} {K : Ctx} {S : Mem} {w : World}

/-- Where a part of a slice lies. -/
def cutAt (o l m size : Nat) : Nat := if m = l then o else o + l * size

def sliceV (S : Mem) (size : Nat) (x : AV) (lo hi mx : Option AV) : Option AV :=
  match x with
  | .sn => match bnds 0 0 lo hi mx with
    | some _ => some .sn
    | none => none
  | .se => if mx.isSome then none else match bnds 0 0 lo hi mx with
    | some _ => some .se
    | none => none
  | .sl i o v len cap ex => match bnds len cap lo hi mx with
    | none => none
    | some (l, h, m) =>
      if ex || mx.isSome then some (.sl i (cutAt o l m size) v (h - l) (m - l) true)
      else if l = m then some .se
      else match S[i]? with
        | some B => if B.opn = some size then some (.sl i (o + l * size) v (h - l) (m - l) false) else none
        | none => none
  | _ => none

theorem map_cut (a : Addr) (l m size : Nat) : (if m = l then some a else (some a).map (·.add (l * size))) = some (if m = l then a else a.add (l * size)) := by
  split <;> rfl

theorem good_slice (h : Sim base w0 K S w) {t e : TypeId} {inf : TypeInfo} (ht : P.underlying t = some (.slice e)) (hinf : P.info? e = some inf) {x y : AV} {vx : Value} {lo hi mx : Option AV} {vlo vhi vmx : Option Value} (hx : VR K S x vx)
    (hlo : OptR K S lo vlo) (hhi : OptR K S hi vhi) (hmx : OptR K S mx vmx) (hy : sliceV S inf.size x lo hi mx = some y) :
    Good base w0 K S w y S ((do let v ← Instr.sliceAt t vx vlo vhi vmx; pure (Next.value v) : Sem Next).run P w) := by
  have run : ∀ (a : Option Addr) (len c l h m : Nat), (Instr.sliceBounds true len c vlo vhi vmx).run P w = .ok (l, h, m) w →
      (do let v ← Instr.sliceAt t (.slice a len c) vlo vhi vmx; pure (Next.value v) : Sem Next).run P w = .ok (.value (.slice (if m = l then a else a.map (·.add (l * inf.size))) (h - l) (m - l))) w := by
    intro a len c l h m hb
    simp [Instr.sliceAt, run_underlying' ht, Instr.slice, hb, run_sizeOf' hinf]
  unfold sliceV at hy
  split at hy
  · split at hy
    · rename_i r hr
      injection hy with hy; subst hy
      obtain ⟨l, hh, m⟩ := r
      obtain ⟨h1, h2, h3, h4, h5⟩ := run_bnds (P := P) (w := w) (isS := true) hlo hhi hmx (Nat.le_refl 0) hr
      cases hx
      have hm : (if mx.isSome then m else 0) = 0 := by split <;> omega
      rw [hm] at h1
      obtain rfl : l = 0 := by omega
      obtain rfl : hh = 0 := by omega
      refine Good.same h (run none 0 0 0 0 0 h1) ?_
      simpa using VR.sn
    · cases hy
  · split at hy
    · cases hy
    · rename_i hns
      split at hy
      · rename_i r hr
        injection hy with hy; subst hy
        obtain ⟨l, hh, m⟩ := r
        cases hx with
        | se a c =>
          obtain ⟨h1, h2, h3, h4, h5⟩ := run_bnds (P := P) (w := w) (isS := true) hlo hhi hmx (Nat.zero_le c) hr
          simp only [hns, Bool.false_eq_true, if_false] at h1
          obtain rfl : l = 0 := by omega
          obtain rfl : hh = 0 := by omega
          refine Good.same h (run (some a) 0 c 0 0 c h1) ?_
          rw [map_cut]
          exact .se _ _
      · cases hy
  · rename_i i o v len cap ex
    split at hy
    · cases hy
    · rename_i l hh m hr
      cases hx with
      | sl _ _ _ _ _ _ a c B hB hv hle hcc hce ha =>
        obtain ⟨h1, h2, h3, h4, h5⟩ := run_bnds (P := P) (w := w) (isS := true) hlo hhi hmx hcc hr
        split at hy
        · rename_i hex
          injection hy with hy; subst hy
          have hM : (if mx.isSome then m else c) = m := by
            cases hmm : mx.isSome with
            | true => simp
            | false =>
              have hn : mx = none := by cases mx <;> simp at hmm ⊢
              have he : ex = true := by simpa [hmm] using hex
              simp [hce he, h5 hn]
          rw [hM] at h1
          refine Good.same h (run _ _ _ _ _ _ h1) ?_
          rw [map_cut]
          refine .sl _ _ _ _ _ _ _ _ B hB hv (by omega) (Nat.le_refl _) (fun _ => rfl) fun hcur => ⟨?_, fun e => by cases e⟩
          obtain ⟨rfl, hc3⟩ := ha hcur
          unfold cutAt
          split
          · rfl
          · rw [add_eq]
        · rename_i hex
          have hn : mx = none := by cases mx <;> simp at hex ⊢
          have hexf : ex = false := by cases ex <;> simp at hex ⊢
          have hmc := h5 hn
          subst hn
          simp only [Option.isSome_none, Bool.false_eq_true, if_false] at h1
          split at hy
          · rename_i hlm
            injection hy with hy; subst hy
            refine Good.same h (run _ _ _ _ _ _ h1) ?_
            rw [map_cut]
            have : hh - l = 0 := by omega
            rw [this]
            exact .se _ _
          · rename_i hlm
            split at hy
            · rename_i B' hB'
              split at hy
              · rename_i ho
                injection hy with hy; subst hy
                rw [hB] at hB'; obtain rfl := Option.some.inj hB'
                refine Good.same h (run _ _ _ _ _ _ h1) ?_
                rw [map_cut]
                have hcl : ¬ (c = l) := by omega
                rw [if_neg hcl]
                refine .sl _ _ _ _ _ _ _ _ B hB hv (by omega) (by omega) (fun e => (by cases e)) fun e => ?_
                obtain ⟨rfl, hc3⟩ := ha e
                obtain ⟨es, hes, hsz⟩ := hc3 hexf
                rw [ho] at hes; obtain rfl := Option.some.inj hes
                refine ⟨by rw [add_eq], fun _ => ⟨_, ho, ?_⟩⟩
                have : o + l * inf.size + (c - l) * inf.size = o + c * inf.size := by
                  rw [Nat.add_assoc, ← Nat.add_mul]; congr 2; omega
                omega
              · cases hy
            · cases hy
  · cases hy
end
end Go.Proofs.YtljaigbjiheohaaDoor
