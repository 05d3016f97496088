/- Proved here: the operations on maps stand for the model's. No condition. -/
import Derived.Test.YtljaigbjiheohaaDoorEvD3
namespace Go.Proofs.YtljaigbjiheohaaDoor
set_option linter.unusedSimpArgs false
set_option linter.unusedVariables false
open Go.RowKit

section
variable {P : Program} {base : Bs} {w0 : World} {K : Ctx} {S : Mem} {w : World}

/-- The entries of a map. -/
def EntR (K : Ctx) (S : Mem) (es : List (AV × AV × Nat)) (E : Array MapEntry) : Prop :=
  es.length = E.size ∧ ∀ k (h : k < es.length) (h' : k < E.size), VR K S (es[k]).1 (E[k]).key ∧ VR K S (es[k]).2.1 (E[k]).val ∧ (es[k]).2.2 = (E[k]).born

theorem keyInfo_ok {kt : TypeId} {ag : Bool} {ks : List TK} (h : keyInfo P kt = some (ag, ks)) : ∃ d, P.underlying kt = some d ∧ flatOf P 20 kt = some ks ∧ ag = aggB d := by
  unfold keyInfo at h
  split at h
  · rename_i d ks' hd hk
    simp only [Option.some.injEq, Prod.mk.injEq] at h
    obtain ⟨rfl, rfl⟩ := h
    exact ⟨d, hd, hk, rfl⟩
  · cases h

theorem find_ok {kt : TypeId} {ag : Bool} {ks : List TK} (h : keyInfo P kt = some (ag, ks)) {k : AV} {vk : Value} {xs : List AV} (hk : VR K S k vk) (hx : keyC ag ks k = some xs) {es : List (AV × AV × Nat)} {E : Array MapEntry} (hE : EntR K S es E) {r : Option Nat}
    (hr : findK ag ks xs es 0 = some r) : (∀ em, (Instr.checkKey em 10000 kt vk).run P w = .ok () w) ∧ ∃ o, (Instr.findKey kt vk E.toList).run P w = .ok o w ∧ Found ag ks xs es E.toList 0 r o := by
  obtain ⟨d, hd, hfl, rfl⟩ := keyInfo_ok h
  obtain ⟨hl, hf⟩ := keyC_ok hk hx
  have hfit : ∀ d', P.underlying kt = some d' → Fits K S (aggB d') xs vk := fun d' hd' => by rw [hd] at hd'; obtain rfl := Option.some.inj hd'; exact hf
  refine ⟨fun em => check_flat em 20 kt ks hfl K S w 9980 xs vk hl hfit, ?_⟩
  have hlen : es.length = E.toList.length := by simpa using hE.1
  have hV : ∀ j (h : j < es.length) (h' : j < E.toList.length), VR K S (es[j]).1 (E.toList[j]).key := fun j h1 h2 => by
    have := (hE.2 j h1 (by simpa using h2)).1
    simpa using this
  have now : (∃ o, Instr.findNow d vk E.toList 0 = some o ∧ Found (aggB d) ks xs es E.toList 0 r o) → ∃ o, (Instr.findKey kt vk E.toList).run P w = .ok o w ∧ Found (aggB d) ks xs es E.toList 0 r o := by
    rintro ⟨o, h1, h2⟩
    exact ⟨o, by simp [Instr.findKey, run_underlying' hd, h1], h2⟩
  have agg : aggB d = true → (∀ a b, Instr.sameNow d a b = none) → ∃ o, (Instr.findKey kt vk E.toList).run P w = .ok o w ∧ Found (aggB d) ks xs es E.toList 0 r o := by
    intro ha hs
    cases hE' : E.toList with
    | nil =>
      rw [hE'] at hlen
      have : es = [] := List.length_eq_zero_iff.1 hlen
      subst this
      simp only [findK, Option.some.injEq] at hr
      subst hr
      exact ⟨none, by simp [Instr.findKey, run_underlying' hd, Instr.findNow], .inl ⟨rfl, rfl⟩⟩
    | cons e l =>
      rw [hE'] at hlen hV
      obtain ⟨o, ho, hF⟩ := asking_ok (w := w) hfl hd hl hf es (e :: l) 0 r hlen hV hr
      exact ⟨o, by simp [Instr.findKey, run_underlying' hd, Instr.findNow, hs, ho], hF⟩
  have hfl' := hfl
  unfold flatOf at hfl'
  rw [hd] at hfl'
  cases d <;> simp only at hfl' <;> first | (cases hfl'; done) | skip
  · exact now (now_ok (.inl ⟨rfl, (Option.some.inj hfl').symm⟩) hf es E.toList 0 r hlen hV hr)
  · exact now (now_ok (.inr (.inl ⟨⟨_, rfl⟩, (Option.some.inj hfl').symm⟩)) hf es E.toList 0 r hlen hV hr)
  · exact now (now_ok (.inr (.inr ⟨rfl, (Option.some.inj hfl').symm⟩)) hf es E.toList 0 r hlen hV hr)
  · exact agg rfl fun a b => rfl
  · exact agg rfl fun a b => rfl

theorem zeroAV_ok {t : TypeId} {z : AV} (h : zeroAV P t = some z) : ∃ v, (∀ w : World, (zeroValue t).run P w = .ok v w) ∧ ∀ K S, VR K S z v := by
  unfold zeroAV at h
  split at h
  · rename_i i hi
    split at h
    · rename_i c hc
      obtain ⟨l, hl, rfl⟩ := Option.map_eq_some_iff.1 h
      refine ⟨.agg c, fun w => run_zeroValue' hi hc, fun K S => ?_⟩
      obtain ⟨h1, h2⟩ := mapM_ok hl
      refine .ag _ _ (by simpa using h1) fun k => ?_
      by_cases hk : k < l.length
      · have hk' : k < c.toList.length := by omega
        have := aconst_ok (K := K) (S := S) (h2 k hk' hk)
        have e1 : l.getD k .u = l[k] := by simp [List.getD_eq_getElem?_getD, hk]
        have e2 : c.getD k undef = c.toList[k] := by
          have : k < c.size := by simpa using hk'
          simp [Array.getD, this]
        rw [e1, e2]; exact this
      · have : l.getD k .u = .u := by simp [List.getD_eq_getElem?_getD, List.getElem?_eq_none (show l.length ≤ k by omega)]
        rw [this]; exact .u _
    · rename_i v hne hv
      exact ⟨v, fun w => run_zeroValue' hi hv, fun K S => aconst_ok h⟩
    · cases h
  · cases h

theorem good_mkmap (h : Sim base w0 K S w) {t kt el : TypeId} (ht : P.underlying t = some (.map kt el)) {r : Option Value} (hr : ∀ v, r = some v → ∃ k n, v = .int k n) :
    Good base w0 K S w (.m S.length) (S ++ [.map [] 0]) ((do let v ← Instr.makeMap t r; pure (Next.value v) : Sem Next).run P w) := by
  obtain ⟨s1, t1⟩ := h.alloc (.map [] 0) (.map #[] 0) 0 fun K' S' w' hE e1 e2 e3 hb => ⟨#[], by rw [e1]; exact e3, rfl, by rw [e1]; exact hb, fun k hk => by simp at hk⟩
  refine ⟨_, _, .map (some w.heap.size), .inl ?_, .m _ _ _ (new_at S _) fun _ => (K.put_same _ _ _).1.symm, s1, t1⟩
  cases r with
  | none => simp [Instr.makeMap]
  | some v =>
    obtain ⟨k, n, rfl⟩ := hr v rfl
    simp [Instr.makeMap, run_underlying' ht, asInt, asIntOf]
end
end Go.Proofs.YtljaigbjiheohaaDoor
