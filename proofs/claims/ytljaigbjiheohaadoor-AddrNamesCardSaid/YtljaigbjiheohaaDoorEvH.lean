/- Proved here: a new row that is laid early; what a plan for a drawn region says. No condition. -/
import Derived.Test.YtljaigbjiheohaaDoorEvG
namespace Go.Proofs.YtljaigbjiheohaaDoor
set_option linter.unusedSimpArgs false
set_option linter.unusedVariables false
open Go.RowKit

section
variable {P : Program} {base : Bs} {w0 : World} {K : Ctx} {S : Mem} {w : World}

/-- The value of a new row that lies in block b, number n of the abstract memory. -/
def NewV (x : AV) (v : Value) (b n : Nat) : Prop :=
  (x = .p n 0 0 ∧ v = .pointer (some ⟨b, 0, none⟩)) ∨ ∃ l, x = .sl n 0 0 l l true ∧ v = .slice (some ⟨b, 0, none⟩) l l

theorem early_ok {nt : Nat} {e : Env} {a : Act} (hr : ER K S nt e a) {o : Oper} {io : IO'} {x : AV} {S1 S2 : Mem} (hc : compOp P o.op = some io) (hl : io.laying = true) (hv : evIO e S1 io = some (x, S2)) :
    ∃ (cs : List AV) (arr : Array Value) (et : TypeId) (v : Value), S2 = S1 ++ [.cells cs 0 none true] ∧ RowR K S cs arr ∧ (execOp a.eval o).run P w = .ok (.value v) (w.alloc (.cells arr et)) ∧ NewV x v w.heap.size S1.length := by
  obtain ⟨dst, op, ty, pos, aft, grd⟩ := o
  cases op
  case alloc t =>
    obtain ⟨z, hz, rfl⟩ := Option.map_eq_some_iff.1 hc
    simp only [evIO, Option.some.injEq, Prod.mk.injEq] at hv
    obtain ⟨rfl, rfl⟩ := hv
    obtain ⟨i, v, hi, hz2, hz3⟩ := zeroOf_row hz
    refine ⟨z, v.cells, t, .pointer (some ⟨w.heap.size, 0, none⟩), rfl, hz3 K S, ?_, .inl ⟨rfl, rfl⟩⟩
    simp [execOp, Instr.alloc, run_zeroValue' hi hz2, newVar, newRow]
  case buildSlice t len ps =>
    simp only [compOp] at hc
    split at hc
    · rename_i el hu
      split at hc
      · rename_i z i hz hi
        split at hc
        · rename_i hcond
          obtain ⟨r, hp, rfl⟩ := Option.map_eq_some_iff.1 hc
          simp only [evIO] at hv
          split at hv
          · rename_i rr hf
            simp only [Option.some.injEq, Prod.mk.injEq] at hv
            obtain ⟨rfl, rfl⟩ := hv
            obtain ⟨q1, q2⟩ := compParts_ok (K := K) (S := S) hr hp
            obtain ⟨hc1, hc2⟩ := hcond
            simp only [execOp]
            generalize hvs : Array.map _ ps = vs
            have e1 : vs.toList = evPs a ps.toList := by rw [← hvs]; simp [evPs]
            have e2 : (evParts e r).length = vs.size := by rw [← hvs]; simpa using q1
            obtain ⟨c', hR, hrun⟩ := run_bslice (w := w) (K := K) (S := S) hu hz hi hc1 hc2 e2 (fun k hk hk' => by
              have := q2 k hk (by rw [← e1]; exact hk')
              simp only [e1]; exact ⟨Option.some.inj this.1, this.2⟩) hf
            exact ⟨rr, c', el, _, rfl, hR, hrun, .inr ⟨len, rfl, rfl⟩⟩
          · cases hv
        · cases hc
      · cases hc
    · cases hc
  all_goals (simp only [compOp] at hc; exfalso; (repeat' split at hc) <;> first | (cases hc; done) | (injection hc with hc; subst hc; cases hl; done) | (obtain ⟨y, hy, rfl⟩ := Option.map_eq_some_iff.1 hc; cases hl; done) | skip)
  all_goals (first | unfold compBuiltin at hc | unfold compExtern at hc); all_goals ((repeat' split at hc) <;> first | (cases hc; done) | (injection hc with hc; subst hc; cases hl; done) | (obtain ⟨y, hy, rfl⟩ := Option.map_eq_some_iff.1 hc; cases hl; done))

/-- An early row is taken into the abstract memory. -/
theorem Sim.adopt (h : Sim base w0 K S w) {b : Nat} {cs : List AV} {arr : Array Value} {et : TypeId} (hb : base ≤ b) (hh : w.heap[b]? = some (.cells arr et)) (hf : ∀ q, q < S.length → K.μ q ≠ b) (hR : RowR K S cs arr) :
    Sim base w0 (K.put S.length b arr.size) (S ++ [.cells cs 0 none true]) w ∧ Ext K S (K.put S.length b arr.size) (S ++ [.cells cs 0 none true]) := by
  have hE : Ext K S (K.put S.length b arr.size) (S ++ [.cells cs 0 none true]) := Ext.push K S _ _ _
  have hp := K.put_same S.length b arr.size
  refine ⟨⟨fun i B hB => ?_, fun i j hi hj e => ?_, h.below, h.hb, h.door⟩, hE⟩
  · rcases Nat.lt_or_ge i S.length with hi | hi
    · rw [List.getElem?_append_left hi] at hB
      have hq := K.put_other b arr.size (show i ≠ S.length by omega)
      exact (h.blk i B hB).mono hE hq.1 hq.2 rfl
    · have : i = S.length := by
        have := (List.getElem?_eq_some_iff.1 hB).1
        simp at this; omega
      subst this
      simp at hB
      subst hB
      exact ⟨arr, et, (0, 0), by rw [hp.1]; exact hh, by rw [hp.2], by rw [hR.1]; exact Nat.le_refl _, fun _ => hR.1.symm, fun k _ => (hR.2 k).mono hE, fun _ => ⟨by rw [hp.1]; exact hb, fun o _ => by simp⟩⟩
  · simp only [List.length_append, List.length_singleton] at hi hj
    rcases Nat.lt_or_ge i S.length with hi' | hi' <;> rcases Nat.lt_or_ge j S.length with hj' | hj'
    · rw [(K.put_other _ _ (by omega)).1, (K.put_other _ _ (by omega)).1] at e
      exact h.inj i j hi' hj' e
    · have : j = S.length := by omega
      subst this
      rw [(K.put_other _ _ (by omega)).1, hp.1] at e
      exact absurd e (hf i hi')
    · have : i = S.length := by omega
      subst this
      rw [(K.put_other _ _ (show j ≠ S.length by omega)).1, hp.1] at e
      exact absurd e.symm (hf j hj')
    · omega

theorem NewV.vr {x : AV} {v : Value} {b n : Nat} {cs : List AV} (h : NewV x v b S.length) : VR (K.put S.length b n) (S ++ [.cells cs 0 none true]) x v := by
  have hp := K.put_same S.length b n
  rcases h with ⟨rfl, rfl⟩ | ⟨l, rfl, rfl⟩
  · exact .p _ _ _ _ _ (new_at S _) (Nat.le_refl _) fun _ => by rw [hp.1]
  · exact .sl _ _ _ _ _ _ _ _ _ (new_at S _) (Nat.le_refl _) (Nat.le_refl _) (Nat.le_refl _) (fun _ => rfl) fun _ => ⟨by rw [hp.1], fun e => by cases e⟩
end

/-! ### What a plan says -/
def dflt : ROp := ⟨none, none, .op .bad⟩

structure PF (ops : List Oper) (rs : List ROp) (nt : Nat) (p : Plan) : Prop where
  dlt : ∀ i, i < rs.length → ∀ d ∈ directs (ops.getD i default), d < i
  anc : ∀ i, i < rs.length → ∀ j, p.isAnc i j = true → ∃ d ∈ directs (ops.getD i default), d = j ∨ p.isAnc d j = true
  ms : ∀ j, j < p.ms.length → p.ms.getD j 0 < rs.length ∧ p.cls.getD (p.ms.getD j 0) (.m rs.length) = .m j ∧ ∀ j', j' < j → p.isAnc (p.ms.getD j 0) (p.ms.getD j' 0) = true
  n : ∀ i, i < rs.length → ∀ lo hi, p.cls.getD i (.m rs.length) = .n lo hi → lo ≤ hi ∧ hi ≤ p.ms.length ∧ (lo = 0 ∨ p.isAnc i (p.ms.getD (lo - 1) 0) = true) ∧ (hi = p.ms.length ∨ p.isAnc (p.ms.getD hi 0) i = true) ∧ (rs.getD i dflt).io.still = true
  a : ∀ i, i < rs.length → ∀ c, p.cls.getD i (.m rs.length) = .a c → c ≤ p.ms.length ∧ (c = p.ms.length ∨ p.isAnc (p.ms.getD c 0) i = true) ∧ (rs.getD i dflt).io.laying = true ∧ (rs.getD i dflt).guard = none ∧ (∃ d, (rs.getD i dflt).dst = some d) ∧
    ∀ i', i' < rs.length → p.cls.getD i' (.m rs.length) = .a c → i' = i
  m : ∀ i, i < rs.length → ∀ j, p.cls.getD i (.m rs.length) = .m j → p.ms[j]? = some i
  late : ∀ i ∈ p.late, i < rs.length ∧ ∀ j, j < rs.length → p.isAnc j i = false
  use : ∀ i, i < rs.length → ∀ t ∈ (rs.getD i dflt).use, t < nt ∧ ∀ j, j < rs.length → (rs.getD j dflt).dst = some t → (j ∈ p.late ∧ p.isAnc j i = true) ∨
    (j ∉ p.late ∧ p.isAnc i j = true ∧ ∀ c, p.cls.getD j (.m rs.length) = .a c → ∃ jm, p.cls.getD i (.m rs.length) = .m jm ∧ c ≤ jm)
  dst : ∀ i, i < rs.length → ∀ t, (rs.getD i dflt).dst = some t → t < nt ∧ ∀ j, j < rs.length → (rs.getD j dflt).dst = some t → j = i

theorem dst_mem {r : ROp} {t : Nat} : t ∈ dstL r ↔ r.dst = some t := by
  unfold dstL
  cases r.dst with
  | none => simp
  | some d => simp [eq_comm]

theorem planOk_facts {ops : List Oper} {rs : List ROp} {nt : Nat} {p : Plan} (h : planOk ops rs nt p = true) : PF ops rs nt p := by
  unfold planOk at h
  simp only [Bool.and_eq_true, List.all_eq_true, List.mem_range] at h
  obtain ⟨⟨⟨⟨⟨⟨h1, h2⟩, h3⟩, h4⟩, h5⟩, h6⟩, h7⟩ := h
  refine ⟨fun i hi d hd => by simpa using h1 i hi d hd, fun i hi j hj => ?_, fun j hj => ?_, fun i hi lo hi' hc => ?_, fun i hi c hc => ?_, fun i hi j hc => ?_, fun i hi => ?_, fun i hi t ht => ?_, fun i hi t ht => ?_⟩
  · have := h2 i hi j (by unfold Plan.isAnc at hj; simpa using hj)
    simp only [List.any_eq_true, Bool.or_eq_true, beq_iff_eq] at this
    exact this
  · have := h3 j hj
    obtain ⟨⟨q1, q2⟩, q3⟩ := this
    refine ⟨by simpa using q1, ?_, fun j' hj' => q3 j' hj'⟩
    split at q2
    · rename_i j' hj'
      simp only [beq_iff_eq] at q2
      rw [q2] at hj'; exact hj'
    · cases q2
  · have := h4 i hi
    rw [hc] at this
    simp only [Bool.and_eq_true, Bool.or_eq_true, beq_iff_eq, decide_eq_true_eq] at this
    obtain ⟨⟨⟨⟨q1, q2⟩, q3⟩, q4⟩, q5⟩ := this
    exact ⟨q1, q2, q3, q4, q5⟩
  · have := h4 i hi
    rw [hc] at this
    simp only [Bool.and_eq_true, Bool.or_eq_true, beq_iff_eq, decide_eq_true_eq, List.all_eq_true, List.mem_range, Option.isNone_iff_eq_none] at this
    obtain ⟨⟨⟨⟨⟨q1, q2⟩, q3⟩, q4⟩, q5⟩, q6⟩ := this
    refine ⟨q1, q2, q3, q4, Option.isSome_iff_exists.1 q5, fun i' hi' hc' => ?_⟩
    have := q6 i' hi'
    rw [hc'] at this
    simpa using this
  · have := h4 i hi
    rw [hc] at this
    simpa using this
  · have := h5 i hi
    simp only [decide_eq_true_eq] at this
    refine ⟨this.1, fun j hj => by simpa using this.2 j hj⟩
  · have := h6 i hi t ht
    simp only [decide_eq_true_eq] at this
    refine ⟨this.1, fun j hj hd => ?_⟩
    have q := this.2 j hj
    simp only [Bool.or_eq_true, Bool.and_eq_true, Bool.not_eq_true', List.contains_eq_mem, decide_eq_true_eq, decide_eq_false_iff_not] at q
    rcases q with (q | q) | q
    · exact absurd (dst_mem.2 hd) q
    · exact .inl q
    · refine .inr ⟨q.1.1, q.1.2, fun c hc => ?_⟩
      have q2 := q.2
      rw [hc] at q2
      split at q2
      · rename_i c' jm e1 e2
        injection e1 with e1; subst e1
        exact ⟨jm, e2, by simpa using q2⟩
      · cases q2
      · rename_i hna _
        exact absurd rfl (hna c)
  · have := h7 i hi t (dst_mem.2 ht)
    simp only [decide_eq_true_eq] at this
    refine ⟨this.1, fun j hj hd => ?_⟩
    have q := this.2 j hj
    simp only [Bool.or_eq_true, beq_iff_eq, Bool.not_eq_true', List.contains_eq_mem, decide_eq_false_iff_not] at q
    rcases q with q | q
    · exact q
    · exact absurd (dst_mem.2 hd) q
end Go.Proofs.YtljaigbjiheohaaDoor
