/- Proved here: the calls of the laws of addresses and networks, whatever comes in. No condition. -/
import Derived.Test.YtljaigbjiheohaaDoorAd
namespace Go.Proofs.YtljaigbjiheohaaDoor
open Go.RowKit
set_option linter.unusedVariables false
set_option maxRecDepth 100000

section
variable {H : Type} {enc : TypeId × Value → H} {W : World}

theorem wf_u8 {n : Int} (h : (Lit.int .u8 n).wf = true) : u8 n := by
  simp only [Lit.wf, IntKind.min, IntKind.max, IntKind.signed, IntKind.bits, Bool.and_eq_true] at h
  unfold u8
  simpa using h
theorem wf_u32 {n : Int} (h : (Lit.int .u32 n).wf = true) : u32 n := by
  simp only [Lit.wf, IntKind.min, IntKind.max, IntKind.signed, IntKind.bits, Bool.and_eq_true] at h
  unfold u32
  simpa using h

theorem row4 {cs : List Value} (h : RowIs enc Tryd.prog W [.int .u8, .int .u8, .int .u8, .int .u8] cs) : ∃ a b c d, cs = [.int .u8 a, .int .u8 b, .int .u8 c, .int .u8 d] ∧ u84 a b c d := by
  obtain ⟨h1, h2⟩ := h
  match cs, h1 with
  | [x, y, z, w], _ =>
    obtain ⟨a, rfl, wa⟩ := h2 0 (by simp) (by simp)
    obtain ⟨b, rfl, wb⟩ := h2 1 (by simp) (by simp)
    obtain ⟨c, rfl, wc⟩ := h2 2 (by simp) (by simp)
    obtain ⟨d, rfl, wd⟩ := h2 3 (by simp) (by simp)
    exact ⟨a, b, c, d, rfl, wf_u8 wa, wf_u8 wb, wf_u8 wc, wf_u8 wd⟩
theorem row5 {cs : List Value} (h : RowIs enc Tryd.prog W [.int .u8, .int .u8, .int .u8, .int .u8, .int .i64] cs) : ∃ a b c d k, cs = [.int .u8 a, .int .u8 b, .int .u8 c, .int .u8 d, .int .i64 k] ∧ u84 a b c d := by
  obtain ⟨h1, h2⟩ := h
  match cs, h1 with
  | [x, y, z, w, v], _ =>
    obtain ⟨a, rfl, wa⟩ := h2 0 (by simp) (by simp)
    obtain ⟨b, rfl, wb⟩ := h2 1 (by simp) (by simp)
    obtain ⟨c, rfl, wc⟩ := h2 2 (by simp) (by simp)
    obtain ⟨d, rfl, wd⟩ := h2 3 (by simp) (by simp)
    obtain ⟨k, rfl, _⟩ := h2 4 (by simp) (by simp)
    exact ⟨a, b, c, d, k, rfl, wf_u8 wa, wf_u8 wb, wf_u8 wc, wf_u8 wd⟩

theorem argAdr {v : Value} {base : Nat} {d : DataW H} {ps : List MemPlace} (o : Value.okWide Tryd.prog W .any base 24 v) (h : DataW.Trod enc Tryd.prog W 0 (fun _ => true) true 24 v d ps) :
    ∃ a b c d, absA W v = .ag [.i .u8 a, .i .u8 b, .i .u8 c, .i .u8 d] ∧ u84 a b c d := by
  have s0 : shapes Tryd.prog 20 24 = some [.int .u8, .int .u8, .int .u8, .int .u8] := by kernel_rfl
  obtain ⟨cs, rfl⟩ : ∃ cs, v = .agg cs := by
    unfold Value.okWide at o
    rw [show Tryd.prog.underlying 24 = some (.array 4 5) by kernel_rfl] at o
    obtain ⟨cs, h, _⟩ := o
    exact ⟨cs, h⟩
  obtain ⟨a, b, c, d, hcs, hu⟩ := row4 (arg_row h s0)
  refine ⟨a, b, c, d, ?_, hu⟩
  show AV.ag (cs.toList.map (absV W)) = _
  have : cs.toList = [.int .u8 a, .int .u8 b, .int .u8 c, .int .u8 d] := hcs
  rw [this]; rfl
theorem argNet {v : Value} {base : Nat} {d : DataW H} {ps : List MemPlace} (o : Value.okWide Tryd.prog W .any base 30 v) (h : DataW.Trod enc Tryd.prog W 0 (fun _ => true) true 30 v d ps) :
    ∃ a b c d k, absA W v = .ag [.i .u8 a, .i .u8 b, .i .u8 c, .i .u8 d, .i .i64 k] ∧ u84 a b c d := by
  have s0 : shapes Tryd.prog 20 30 = some [.int .u8, .int .u8, .int .u8, .int .u8, .int .i64] := by kernel_rfl
  obtain ⟨cs, rfl⟩ : ∃ cs, v = .agg cs := by
    unfold Value.okWide at o
    rw [Tryd.underlying30] at o
    obtain ⟨cs, h, _⟩ := o
    exact ⟨cs, h⟩
  obtain ⟨a, b, c, d, k, hcs, hu⟩ := row5 (arg_row h s0)
  refine ⟨a, b, c, d, k, ?_, hu⟩
  show AV.ag (cs.toList.map (absV W)) = _
  have : cs.toList = [.int .u8 a, .int .u8 b, .int .u8 c, .int .u8 d, .int .i64 k] := hcs
  rw [this]; rfl

theorem walkAddrNets (W : World) (v0 v1 v2 : Value) {base : Nat} (o0 : Value.okWide Tryd.prog W .any base 24 v0) (o1 : Value.okWide Tryd.prog W .any base 30 v1) (o2 : Value.okWide Tryd.prog W .any base 30 v2) {d0 d1 d2 : DataW H} {p0 p1 p2 : List MemPlace}
    (h0 : DataW.Trod enc Tryd.prog W 0 (fun _ => true) true 24 v0 d0 p0) (h1 : DataW.Trod enc Tryd.prog W 0 (fun _ => true) true 30 v1 d1 p1) (h2 : DataW.Trod enc Tryd.prog W 0 (fun _ => true) true 30 v2 d2 p2) :
    Calls Tryd.prog 4 #[v0, v1, v2] W fun e w' => e = .returned (.bool true) ∧ Below W.heap.size W w' := by
  obtain ⟨a, b, c, d, e0, u0⟩ := argAdr o0 h0
  obtain ⟨x, y, z, w, j, e1, u1⟩ := argNet o1 h1
  obtain ⟨p, q, r, s, k, e2, u2⟩ := argNet o2 h2
  refine calls_of_fnOK (S' := absS W) ?_
  show FnOK Tryd.prog _ [absA W v0, absA W v1, absA W v2] _ _ _
  rw [e0, e1, e2]
  exact nets_ok _ a b c d x y z w j p q r s k u0 u1 u2
theorem walkAddrTree (W : World) (v0 v1 v2 : Value) {base : Nat} (o0 : Value.okWide Tryd.prog W .any base 24 v0) (o1 : Value.okWide Tryd.prog W .any base 30 v1) (o2 : Value.okWide Tryd.prog W .any base 30 v2) {d0 d1 d2 : DataW H} {p0 p1 p2 : List MemPlace}
    (h0 : DataW.Trod enc Tryd.prog W 0 (fun _ => true) true 24 v0 d0 p0) (h1 : DataW.Trod enc Tryd.prog W 0 (fun _ => true) true 30 v1 d1 p1) (h2 : DataW.Trod enc Tryd.prog W 0 (fun _ => true) true 30 v2 d2 p2) :
    Calls Tryd.prog 5 #[v0, v1, v2] W fun e w' => e = .returned (.bool true) ∧ Below W.heap.size W w' := by
  obtain ⟨a, b, c, d, e0, u0⟩ := argAdr o0 h0
  obtain ⟨x, y, z, w, j, e1, u1⟩ := argNet o1 h1
  obtain ⟨p, q, r, s, k, e2, u2⟩ := argNet o2 h2
  refine calls_of_fnOK (S' := absS W) ?_
  show FnOK Tryd.prog _ [absA W v0, absA W v1, absA W v2] _ _ _
  rw [e0, e1, e2]
  exact tree_ok _ a b c d x y z w j p q r s k u0 u1 u2
theorem walkAddrNums (W : World) (v0 v1 v2 : Value) {base : Nat} (o0 : Value.okWide Tryd.prog W .any base 22 v0) (o1 : Value.okWide Tryd.prog W .any base 24 v1) (o2 : Value.okWide Tryd.prog W .any base 3 v2) {d0 d1 d2 : DataW H} {p0 p1 p2 : List MemPlace}
    (h0 : DataW.Trod enc Tryd.prog W 0 (fun _ => true) true 22 v0 d0 p0) (h1 : DataW.Trod enc Tryd.prog W 0 (fun _ => true) true 24 v1 d1 p1) (h2 : DataW.Trod enc Tryd.prog W 0 (fun _ => true) true 3 v2 d2 p2) :
    Calls Tryd.prog 3 #[v0, v1, v2] W fun e w' => e = .returned (.bool true) ∧ Below W.heap.size W w' := by
  obtain ⟨n, rfl, _, _, hn⟩ := Go.ChangeShapes.open_int Tryd.underlying22 o0 h0
  obtain ⟨a, b, c, d, e1, u1⟩ := argAdr o1 h1
  obtain ⟨k, rfl, _, _, hk⟩ := Go.ChangeShapes.open_int Tryd.underlying3 o2 h2
  refine calls_of_fnOK (S' := absS W) ?_
  show FnOK Tryd.prog _ [AV.i .u32 n, absA W v1, AV.i .i64 k] _ _ _
  rw [e1]
  exact nums_ok _ n a b c d k (wf_u32 hn) u1
end
end Go.Proofs.YtljaigbjiheohaaDoor
