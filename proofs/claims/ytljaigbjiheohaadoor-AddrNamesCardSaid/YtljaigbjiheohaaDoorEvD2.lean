/- Proved here: the operations on maps whose keys are scalars, or structs or arrays of such. No condition. -/
import Derived.Test.YtljaigbjiheohaaDoorEvD
import Derived.RangeFuncRecord
namespace Go.Proofs.YtljaigbjiheohaaDoor
set_option linter.unusedSimpArgs false
set_option linter.unusedVariables false
open Go.RowKit

section
variable {P : Program} {base : Bs} {w0 : World} {K : Ctx} {S : Mem} {w : World}

/-- A block that is rewritten where it lies. -/
theorem Sim.putObj {K : Ctx} {S : Mem} {w : World} (h : Sim base w0 K S w) {i : Nat} {B B' : Blk} {o : Obj} (hB : S[i]? = some B) (hv : B'.ver = B.ver) (hop : B'.opn = B.opn) (hrw : B.rw = true)
    (hbr : ∀ S' w', Ext K S K S' → w'.heap[K.μ i]? = some o → BRel base K S' w' i B') : Sim base w0 K (S.set i B') (w.putObj (K.μ i) o) ∧ Stp K S w K (S.set i B') (w.putObj (K.μ i) o) := by
  have hil : i < S.length := (List.getElem?_eq_some_iff.1 hB).1
  have hE : Ext K S K (S.set i B') := Ext.set K S i B B' hB hv hop
  have hlt := (h.blk i B hB).lt
  have hs : Stp K S w K (S.set i B') (w.putObj (K.μ i) o) := by
    refine ⟨hE, rfl, rfl, rfl, by simp, fun b hb hn => World.putObj_heap_other fun e => hn i B hB hrw e.symm, fun j C hC => ?_⟩
    by_cases e : j = i
    · subst e; exact .inl ⟨B, hB, fun _ => hrw, rfl⟩
    · rw [List.getElem?_set_ne (Ne.symm e)] at hC
      exact .inl ⟨C, hC, id, rfl⟩
  refine ⟨⟨fun j C hC => ?_, fun x y hx hy e => ?_, h.step_below hs, Nat.le_trans h.hb hs.size, h.door⟩, hs⟩
  · by_cases e : j = i
    · subst e
      simp only [List.getElem?_set_self hil, Option.some.injEq] at hC
      subst hC
      exact hbr _ _ hE (World.putObj_heap_same hlt)
    · rw [List.getElem?_set_ne (Ne.symm e)] at hC
      have hjl : j < S.length := (List.getElem?_eq_some_iff.1 hC).1
      exact (h.blk j C hC).mono hE rfl rfl (World.putObj_heap_other fun e' => e (h.inj j i hjl hil e'))
  · simp only [List.length_set] at hx hy
    exact h.inj x y hx hy e

theorem VR.m_at {K : Ctx} {S : Mem} {i r : Nat} {B : Blk} (h : VR K S (.m i) (.map (some r))) (hB : S[i]? = some B) (hv : B.ver = 0) : r = K.μ i := by
  cases h with
  | m _ _ B' hB' hr =>
    rw [hB] at hB'; obtain rfl := Option.some.inj hB'
    exact hr hv

/-! ### Keys -/
theorem keyC_ok {ag : Bool} {ks : List TK} {x : AV} {v : Value} {xs : List AV} (hx : VR K S x v) (h : keyC ag ks x = some xs) : xs.length = ks.length ∧ Fits K S ag xs v := by
  cases ag with
  | true =>
    cases x with
    | ag ys =>
      simp only [keyC] at h
      split at h
      · rename_i hl
        injection h with h; subst h
        cases hx with
        | ag _ c hl' hv => exact ⟨hl, by simp only [Fits, if_true]; exact ⟨c, rfl, hl', hv⟩⟩
      · cases h
    | _ => simp [keyC] at h
  | false =>
    have one : ∀ {y : AV}, (if ks.length = 1 then some [y] else none) = some xs → VR K S y v → xs.length = ks.length ∧ Fits K S false xs v := by
      intro y h hy
      split at h
      · rename_i h1
        injection h with h; subst h
        exact ⟨by simp [h1], by simp only [Fits, Bool.false_eq_true, if_false]; exact ⟨y, rfl, hy⟩⟩
      · cases h
    cases x <;> simp only [keyC] at h <;> first | (cases h; done) | exact one h hx

/-- Two cells of one kind that are surely alike. -/
theorem eqCell_true {k : TK} {x y : AV} {vx vy : Value} (hx : VR K S x vx) (hy : VR K S y vy) (h : eqCell k x y = some true) : vx = vy ∧ ∀ n, Instr.sameBits n vx vx = true := by
  unfold eqCell at h
  split at h
  · cases hx; cases hy
    split at h
    · rename_i e; subst e
      simp only [Option.some.injEq, beq_iff_eq] at h
      subst h
      exact ⟨rfl, fun n => by simp [Instr.sameBits]⟩
    · cases h
  · cases hx; cases hy
    simp only [Option.some.injEq, beq_iff_eq] at h
    subst h
    exact ⟨rfl, fun n => by simp [Instr.sameBits]⟩
  · cases hx; cases hy
    simp only [Option.some.injEq, beq_iff_eq] at h
    subst h
    exact ⟨rfl, fun n => by simp [Instr.sameBits, beq_toListBytes]⟩
  · cases h

theorem eqCells_true : ∀ (ks : List TK) (xs ys : List AV), xs.length = ks.length → ys.length = ks.length → eqCells ks xs ys = some true → ∀ k (hk : k < ks.length) (h1 : k < xs.length) (h2 : k < ys.length), eqCell ks[k] xs[k] ys[k] = some true
  | [], _, _, _, _, _, k, hk, _, _ => by simp at hk
  | t :: ks, x :: xs, y :: ys, hx, hy, h, k, hk, h1, h2 => by
    simp only [eqCells] at h
    split at h
    · rename_i a b ha hb
      simp only [Option.some.injEq, Bool.and_eq_true] at h
      obtain ⟨rfl, rfl⟩ := h
      cases k with
      | zero => exact ha
      | succ k => exact eqCells_true ks xs ys (by simpa using hx) (by simpa using hy) hb k (by simpa using hk) (by simpa using h1) (by simpa using h2)
    · cases h
  | _ :: _, [], _, hx, _, _, _, _, _, _ => by simp at hx
  | _ :: _, _ :: _, [], _, hy, _, _, _, _, _ => by simp at hy

theorem key_same {ag : Bool} {ks : List TK} {xs ys : List AV} {vx vy : Value} (hx : xs.length = ks.length) (hy : ys.length = ks.length) (fx : Fits K S ag xs vx) (fy : Fits K S ag ys vy) (h : eqCells ks xs ys = some true) : vx = vy ∧ Instr.sameBits 10000 vx vx = true := by
  have hk := eqCells_true ks xs ys hx hy h
  cases ag with
  | false =>
    simp only [Fits, Bool.false_eq_true, if_false] at fx fy
    obtain ⟨x, rfl, hVx⟩ := fx
    obtain ⟨y, rfl, hVy⟩ := fy
    have := hk 0 (by simp at hx; omega) (by simp) (by simp)
    obtain ⟨e, hs⟩ := eqCell_true hVx hVy this
    exact ⟨e, hs _⟩
  | true =>
    simp only [Fits, if_true] at fx fy
    obtain ⟨c, rfl, hlx, hVx⟩ := fx
    obtain ⟨d, rfl, hly, hVy⟩ := fy
    have each : ∀ k (h1 : k < c.size) (h2 : k < d.size), c[k] = d[k] ∧ ∀ n, Instr.sameBits n c[k] c[k] = true := by
      intro k h1 h2
      have a1 := hVx k
      have a2 := hVy k
      have e1 : xs.getD k .u = xs[k]'(by omega) := by simp [List.getD_eq_getElem?_getD, show k < xs.length by omega]
      have e2 : ys.getD k .u = ys[k]'(by omega) := by simp [List.getD_eq_getElem?_getD, show k < ys.length by omega]
      have e3 : c.getD k undef = c[k] := by simp [Array.getD, h1]
      have e4 : d.getD k undef = d[k] := by simp [Array.getD, h2]
      rw [e1, e3] at a1
      rw [e2, e4] at a2
      exact eqCell_true a1 a2 (hk k (by omega) (by omega) (by omega))
    have hcd : c = d := by
      apply Array.ext
      · omega
      · intro k h1 h2; exact (each k h1 h2).1
    subst hcd
    refine ⟨rfl, ?_⟩
    show Instr.sameBits (9999 + 1) (.agg c) (.agg c) = true
    simp only [Instr.sameBits, beq_self_eq_true, Bool.true_and, List.all_eq_true]
    intro p hp
    obtain ⟨k, hk1, hk2⟩ := List.mem_iff_getElem.1 hp
    have hk3 : k < c.size := by simp at hk1; omega
    simp only [List.getElem_zip] at hk2
    rw [← hk2]
    exact (each k hk3 hk3).2 _
end
end Go.Proofs.YtljaigbjiheohaaDoor
