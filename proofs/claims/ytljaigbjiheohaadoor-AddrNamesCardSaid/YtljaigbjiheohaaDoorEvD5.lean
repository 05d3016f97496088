/- Proved here: lookups in maps, and what turns maps. No condition. -/
import Derived.Test.YtljaigbjiheohaaDoorEvD4
namespace Go.Proofs.YtljaigbjiheohaaDoor
set_option linter.unusedSimpArgs false
set_option linter.unusedVariables false
open Go.RowKit

section
variable {P : Program} {base : Bs} {w0 : World} {K : Ctx} {S : Mem} {w : World}

theorem EntR.mono {K K' : Ctx} {S S' : Mem} {es : List (AV × AV × Nat)} {E : Array MapEntry} (hE : Ext K S K' S') (h : EntR K S es E) : EntR K' S' es E :=
  ⟨h.1, fun k a b => ⟨(h.2 k a b).1.mono hE, (h.2 k a b).2.1.mono hE, (h.2 k a b).2.2⟩⟩

theorem EntR.set {es : List (AV × AV × Nat)} {E : Array MapEntry} (h : EntR K S es E) {j : Nat} {a : AV × AV × Nat} {e e' : MapEntry} {f : MapEntry → MapEntry} (he : E[j]? = some e) (hf : f e = e') (h1 : VR K S a.1 e'.key) (h2 : VR K S a.2.1 e'.val) (h3 : a.2.2 = e'.born) :
    EntR K S (es.set j a) (E.modify j f) := by
  obtain ⟨hj, hej⟩ := Array.getElem?_eq_some_iff.1 he
  refine ⟨by simp [h.1], fun k hk hk' => ?_⟩
  simp only [List.length_set] at hk
  simp only [Array.size_modify] at hk'
  by_cases e1 : k = j
  · subst e1
    have q1 : (es.set k a)[k]'(by simpa using hk) = a := by simp
    have q2 : (E.modify k f)[k]'(by simpa using hk') = e' := by rw [Array.getElem_modify]; simp [hej, hf]
    rw [q1, q2]; exact ⟨h1, h2, h3⟩
  · have q1 : (es.set j a)[k]'(by simpa using hk) = es[k] := by rw [List.getElem_set_ne (Ne.symm e1)]
    have q2 : (E.modify j f)[k]'(by simpa using hk') = E[k] := by rw [Array.getElem_modify]; simp [Ne.symm e1]
    rw [q1, q2]; exact h.2 k hk hk'

theorem EntR.push {es : List (AV × AV × Nat)} {E : Array MapEntry} (h : EntR K S es E) {a : AV × AV × Nat} {e : MapEntry} (h1 : VR K S a.1 e.key) (h2 : VR K S a.2.1 e.val) (h3 : a.2.2 = e.born) : EntR K S (es ++ [a]) (E.push e) := by
  refine ⟨by simp [h.1], fun k hk hk' => ?_⟩
  have hl := h.1
  simp only [List.length_append, List.length_singleton] at hk
  by_cases e1 : k < es.length
  · have q2 : (E.push e)[k] = E[k]'(by omega) := Array.getElem_push_lt (by omega)
    rw [List.getElem_append_left e1, q2]; exact h.2 k e1 (by omega)
  · obtain rfl : k = es.length := by omega
    have q1 : (es ++ [a])[es.length]'(by simp) = a := by simp
    have q2 : (E.push e)[es.length]'(by simp; omega) = e := by simp [hl]
    rw [q1, q2]; exact ⟨h1, h2, h3⟩

theorem EntR.erase {es : List (AV × AV × Nat)} {E : Array MapEntry} (h : EntR K S es E) (j : Nat) : EntR K S (es.eraseIdx j) (E.eraseIdxIfInBounds j) := by
  have hl := h.1
  by_cases hj : j < E.size
  · have hE : E.eraseIdxIfInBounds j = (E.toList.eraseIdx j).toArray := by
      rw [Array.eraseIdxIfInBounds, dif_pos hj]
      apply Array.ext'
      simp
    rw [hE]
    refine ⟨by simp [List.length_eraseIdx, hl], fun k hk hk' => ?_⟩
    simp only [List.getElem_toArray, List.getElem_eraseIdx]
    have hk1 : k < es.length - 1 := by simp [List.length_eraseIdx, hl, hj] at hk; omega
    by_cases e : k < j
    · simp only [e, dif_pos]
      simpa using h.2 k (by omega) (by omega)
    · simp only [e, dif_neg, not_false_eq_true]
      simpa using h.2 (k + 1) (by omega) (by omega)
  · have h1 : es.eraseIdx j = es := List.eraseIdx_of_length_le (by omega)
    have h2 : E.eraseIdxIfInBounds j = E := by simp [Array.eraseIdxIfInBounds, hj]
    rw [h1, h2]; exact h

/-- The map that a value names. -/
theorem map_at (h : Sim base w0 K S w) {i : Nat} {es : List (AV × AV × Nat)} {cl : Nat} (hB : S[i]? = some (.map es cl)) : ∃ E, w.heap[K.μ i]? = some (.map E cl) ∧ EntR K S es E := by
  obtain ⟨E, h1, h2, _, h3⟩ := h.blk i _ hB
  exact ⟨E, h1, h2, h3⟩

theorem run_getMap {r : Nat} {E : Array MapEntry} {cl : Nat} (h : w.heap[r]? = some (.map E cl)) : (getObj r).run P w = .ok (.map E cl) w := by simp [getObj, Sem.run, h]
theorem run_setMap {r : Nat} {E : Array MapEntry} {cl : Nat} (o : Obj) (h : w.heap[r]? = some (.map E cl)) : (setObj r o).run P w = .ok () (w.putObj r o) := by simp [setObj, Sem.run, h, World.putObj]

theorem put_map (h : Sim base w0 K S w) {i : Nat} {es es' : List (AV × AV × Nat)} {cl cl' : Nat} {E' : Array MapEntry} (hB : S[i]? = some (.map es cl)) (hE : EntR K S es' E') :
    Sim base w0 K (S.set i (.map es' cl')) (w.putObj (K.μ i) (.map E' cl')) ∧ Stp K S w K (S.set i (.map es' cl')) (w.putObj (K.μ i) (.map E' cl')) := by
  have hge := (h.blk i _ hB).ge rfl
  exact h.putObj hB rfl rfl rfl fun S' w' hx he => ⟨E', he, (hE.mono hx).1, hge, (hE.mono hx).2⟩

theorem good_mlook (h : Sim base w0 K S w) {t kt el : TypeId} {ag : Bool} {ks : List TK} {z : AV} {ok : Bool} (ht : P.underlying t = some (.map kt el)) (hq : keyInfo P kt = some (ag, ks)) (hz : zeroAV P el = some z) {x k y : AV} {vx vk : Value} (hx : VR K S x vx) (hk : VR K S k vk)
    (hv : mlookV S ag ks z ok x k = some y) : Good base w0 K S w y S ((do let v ← Instr.lookup t vx vk ok; pure (Next.value v) : Sem Next).run P w) := by
  obtain ⟨zv, hzr, hzV⟩ := zeroAV_ok hz
  unfold mlookV at hv
  split at hv
  · rename_i xs es hxs hes
    split at hv
    · rename_i r hr
      injection hv with hv
      unfold mapOf at hes
      split at hes
      · injection hes with hes; subst hes
        cases hx
        obtain ⟨hchk, o, ho, hF⟩ := find_ok (w := w) (E := #[]) hq hk hxs ⟨rfl, fun k hk => by simp at hk⟩ hr
        rcases hF with ⟨rfl, rfl⟩ | ⟨j, e, a, ys, _, _, h3, _⟩
        · subst hv
          cases ok
          · exact Good.same (v := zv) h (by simp [Instr.lookup, run_underlying' ht, hchk, ho, hzr]) (hzV K S)
          · refine Good.same (v := .tuple #[zv, .bool false]) h (by simp [Instr.lookup, run_underlying' ht, hchk, ho, hzr]) (.tu _ _ rfl fun k => ?_)
            match k with
            | 0 => exact hzV K S
            | 1 => exact .b false
            | k + 2 => simp; exact .u _
        · simp at h3
      · rename_i i
        split at hes
        · rename_i es' cl hB
          injection hes with hes; subst hes
          obtain ⟨E, hh, hE⟩ := map_at h hB
          generalize hvx : vx = u at hx
          cases hx with
          | m _ r B hB' hr' =>
            rw [hB] at hB'; obtain rfl := Option.some.inj hB'
            obtain rfl := hr' rfl
            obtain ⟨hchk, o, ho, hF⟩ := find_ok (w := w) hq hk hxs hE hr
            rcases hF with ⟨rfl, rfl⟩ | ⟨j, e, a, ys, rfl, rfl, h3, h4, _, _⟩
            · subst hv
              cases ok
              · exact Good.same (v := zv) h (by simp [Instr.lookup, run_underlying' ht, run_getMap hh, hchk, ho, hzr]) (hzV K S)
              · refine Good.same (v := .tuple #[zv, .bool false]) h (by simp [Instr.lookup, run_underlying' ht, run_getMap hh, hchk, ho, hzr]) (.tu _ _ rfl fun k => ?_)
                match k with
                | 0 => exact hzV K S
                | 1 => exact .b false
                | k + 2 => simp; exact .u _
            · subst hv
              obtain ⟨hj, hej⟩ := List.getElem?_eq_some_iff.1 h3
              obtain ⟨hj', haj⟩ := List.getElem?_eq_some_iff.1 h4
              have hva : VR K S (valAt es' z (some (0 + j))) e.val := by
                have := (hE.2 j hj' (by simpa using hj)).2.1
                simp only [valAt, Nat.zero_add, h4]
                rw [haj] at this
                rw [← hej]; simpa using this
              cases ok
              · exact Good.same (v := e.val) h (by simp [Instr.lookup, run_underlying' ht, run_getMap hh, hchk, ho]) hva
              · refine Good.same (v := .tuple #[e.val, .bool true]) h (by simp [Instr.lookup, run_underlying' ht, run_getMap hh, hchk, ho]) (.tu _ _ rfl fun k => ?_)
                match k with
                | 0 => exact hva
                | 1 => exact .b true
                | k + 2 => simp; exact .u _
        · cases hes
      · cases hes
    · cases hv
  · cases hv
end
end Go.Proofs.YtljaigbjiheohaaDoor
