/- Proved here: the call of the law of a ledger's runs, whatever comes in. No condition. -/
import Derived.Test.YtbggleijjoleiaaSd
namespace Go.Proofs.Ytbggleijjoleiaa
open Go.RowKit
set_option linter.unusedVariables false
set_option maxRecDepth 100000

section
variable {H : Type} {enc : TypeId × Value → H} {W : World}

theorem wf_u64 {n : Int} (h : (Lit.int .u64 n).wf = true) : u64 n := by
  simp only [Lit.wf, IntKind.min, IntKind.max, IntKind.signed, IntKind.bits, Bool.and_eq_true] at h
  unfold u64
  simpa using h

theorem row3 {cs : List Value} (h : RowIs enc Try.prog W [.int .u64, .int .u64, .int .u64] cs) : ∃ a b c, cs = [.int .u64 a, .int .u64 b, .int .u64 c] ∧ u64 a ∧ u64 b ∧ u64 c := by
  obtain ⟨h1, h2⟩ := h
  match cs, h1 with
  | [x, y, z], _ =>
    obtain ⟨a, rfl, wa⟩ := h2 0 (by simp) (by simp)
    obtain ⟨b, rfl, wb⟩ := h2 1 (by simp) (by simp)
    obtain ⟨c, rfl, wc⟩ := h2 2 (by simp) (by simp)
    exact ⟨a, b, c, rfl, wf_u64 wa, wf_u64 wb, wf_u64 wc⟩

theorem rowAct {cs : List Value} (h : RowIs enc Try.prog W [.int .i64, .int .u64, .int .u64] cs) : ∃ a : Act, cs.map (absV W) = a.enc ∧ a.fits := by
  obtain ⟨h1, h2⟩ := h
  match cs, h1 with
  | [x, y, z], _ =>
    obtain ⟨a, rfl, wa⟩ := h2 0 (by simp) (by simp)
    obtain ⟨b, rfl, wb⟩ := h2 1 (by simp) (by simp)
    obtain ⟨c, rfl, wc⟩ := h2 2 (by simp) (by simp)
    exact ⟨⟨a, b, c⟩, rfl, wf_u64 wb, wf_u64 wc⟩

theorem act_inj {a b : Act} (h : a.enc = b.enc) : a = b := by
  cases a; cases b
  simp only [Act.enc, List.cons.injEq, AV.i.injEq, and_true, true_and] at h
  obtain ⟨rfl, rfl, rfl⟩ := h
  rfl

theorem walkLedgerRuns (W : World) (v0 v1 : Value) {base : Nat} (o0 : Value.okWide Try.prog W .any base 35 v0) (o1 : Value.okWide Try.prog W .any base 36 v1) {d0 d1 : DataW H} {p0 p1 : List MemPlace} (h0 : DataW.Trod enc Try.prog W 0 (fun _ => true) true 35 v0 d0 p0)
    (h1 : DataW.Trod enc Try.prog W 0 (fun _ => true) true 36 v1 d1 p1) : Calls Try.prog 6 #[v0, v1] W fun e w' => e = .returned (.bool true) ∧ Below W.heap.size W w' := by
  have s0 : shapes Try.prog 20 35 = some [.int .u64, .int .u64, .int .u64] := by kernel_rfl
  have s1 : shapes Try.prog 20 36 = some [.slice 42] := by kernel_rfl
  have s2 : shapes Try.prog 20 42 = some [.int .i64, .int .u64, .int .u64] := by kernel_rfl
  have c2 : Try.prog.cellsOf 42 = 3 := by kernel_rfl
  obtain ⟨cs, rfl, _⟩ : ∃ cs, v0 = .agg cs ∧ True := by
    unfold Value.okWide at o0
    rw [show Try.prog.underlying 35 = some (.array 3 22) by kernel_rfl] at o0
    obtain ⟨cs, h, _⟩ := o0
    exact ⟨cs, h, trivial⟩
  have r0 := arg_row h0 s0
  obtain ⟨a, b, c, hcs, ha, hb, hc⟩ := row3 r0
  have r1 := arg_row h1 s1
  have hv1 : v1.cells.toList = [v1] := by
    obtain ⟨a1, len1, cap1, rfl⟩ := Go.WideShapes.okWide_slice (show Try.prog.underlying 36 = some (.slice 42) by kernel_rfl) o1
    rfl
  rw [hv1] at r1
  have hel := r1.2 0 (by simp) (by simp)
  obtain ⟨acts, hl, hf, _⟩ := lst_of (e := Act.enc) (sz := 3) c2 (by omega) hel (fun cs fuel x ht => let ⟨a, h1, h2⟩ := rowAct (shapes_ok 20 fuel 42 cs x _ ht s2); ⟨a, h1, rfl⟩)
    (good := Act.fits) (fun cs fuel x a ht he => let ⟨a', h1, h2⟩ := rowAct (shapes_ok 20 fuel 42 cs x _ ht s2); act_inj (h1.symm.trans he) ▸ h2)
  have hA : absA W (.agg cs) = .ag [.i .u64 a, .i .u64 b, .i .u64 c] := by
    show AV.ag (cs.toList.map (absV W)) = _
    have : cs.toList = [.int .u64 a, .int .u64 b, .int .u64 c] := hcs
    rw [this]; rfl
  have hB : absA W v1 = absV W v1 := by
    cases v1 <;> first | rfl | (simp [CellIs] at hel)
  refine calls_of_fnOK (S' := absS W) ?_
  show FnOK Try.prog _ [absA W (.agg cs), absA W v1] _ _ _
  rw [hA, hB]
  exact runs_ok _ a b c ha hb hc _ acts hl hf
end
end Go.Proofs.Ytbggleijjoleiaa
