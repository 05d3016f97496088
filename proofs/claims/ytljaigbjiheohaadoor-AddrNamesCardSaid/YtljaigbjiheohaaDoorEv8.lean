/- Proved here: the evaluator's lengths, appends, copies and conversions of texts stand for the model's. No condition. -/
import Derived.Test.YtljaigbjiheohaaDoorEv7
import Derived.Laws.Append
import Derived.Laws.AppendOwn
namespace Go.Proofs.YtljaigbjiheohaaDoor
set_option linter.unusedSimpArgs false
set_option linter.unusedVariables false
open Go.RowKit

section
variable {P : Program} {base : Bs} {w0 : World} {K : Ctx} {S : Mem} {w : World}

/-! ### A slice of an array, a slice of a text -/
def slaV (n size : Nat) (x : AV) (lo hi mx : Option AV) : Option AV :=
  match x with
  | .p i o v => match bnds n n lo hi mx with
    | some (l, h, m) => some (.sl i (cutAt o l m size) v (h - l) (m - l) true)
    | none => none
  | _ => none

theorem good_sla (h : Sim base w0 K S w) {t e : TypeId} {n : Nat} {inf : TypeInfo} (ht : P.underlying t = some (.array n e)) (hinf : P.info? e = some inf) {x y : AV} {vx : Value} {lo hi mx : Option AV} {vlo vhi vmx : Option Value} (hx : VR K S x vx)
    (hlo : OptR K S lo vlo) (hhi : OptR K S hi vhi) (hmx : OptR K S mx vmx) (hy : slaV n inf.size x lo hi mx = some y) :
    Good base w0 K S w y S ((do let v ← Instr.sliceAt t vx vlo vhi vmx; pure (Next.value v) : Sem Next).run P w) := by
  unfold slaV at hy
  split at hy
  · rename_i i o v
    split at hy
    · rename_i l hh m hr
      injection hy with hy; subst hy
      cases hx with
      | p _ _ _ a B hB hv ha =>
        obtain ⟨h1, h2, h3, h4, h5⟩ := run_bnds (P := P) (w := w) (isS := false) hlo hhi hmx (Nat.le_refl n) hr
        have hM : (if mx.isSome then m else n) = m := by
          cases hmm : mx.isSome with
          | true => simp
          | false =>
            have hn : mx = none := by cases mx <;> simp at hmm ⊢
            simp [h5 hn]
        rw [hM] at h1
        refine Good.same (v := .slice (some (if m = l then a else a.add (l * inf.size))) (hh - l) (m - l)) h ?_ ?_
        · simp [Instr.sliceAt, run_underlying' ht, Instr.sureAddr, h1, run_sizeOf' hinf]
        · refine .sl _ _ _ _ _ _ _ _ B hB hv (by omega) (Nat.le_refl _) (fun _ => rfl) fun hcur => ⟨?_, fun e => by cases e⟩
          obtain rfl := ha hcur
          unfold cutAt
          split
          · rfl
          · rw [add_eq]
    · cases hy
  · cases hy

def slsV (x : AV) (lo hi : Option AV) : Option AV :=
  match x with
  | .s l => match bnds l.length l.length lo hi none with
    | some (a, b, _) => some (.s ((l.take b).drop a))
    | none => none
  | _ => none

theorem extract_mk (l : List UInt8) (a b : Nat) : (ByteArray.mk l.toArray).extract a b = ⟨((l.take b).drop a).toArray⟩ := by
  apply ByteArray.ext
  simp [List.drop_take]

theorem good_sls (h : Sim base w0 K S w) {t : TypeId} (ht : P.underlying t = some .string) {x y : AV} {vx : Value} {lo hi : Option AV} {vlo vhi : Option Value} (hx : VR K S x vx)
    (hlo : OptR K S lo vlo) (hhi : OptR K S hi vhi) (hy : slsV x lo hi = some y) :
    Good base w0 K S w y S ((do let v ← Instr.sliceAt t vx vlo vhi none; pure (Next.value v) : Sem Next).run P w) := by
  unfold slsV at hy
  split at hy
  · rename_i l
    split at hy
    · rename_i a b m hr
      injection hy with hy; subst hy
      cases hx
      obtain ⟨h1, h2, h3, h4, h5⟩ := run_bnds (P := P) (w := w) (isS := false) (mx := none) (vmx := none) hlo hhi trivial (Nat.le_refl l.length) hr
      refine Good.same (v := .string ((ByteArray.mk l.toArray).extract a b)) h ?_ ?_
      · simp only [Option.isSome_none, Bool.false_eq_true, if_false] at h1
        simp [Instr.sliceAt, run_underlying' ht, Instr.slice, size_mk, h1]
      · rw [extract_mk]; exact .s _
    · cases hy
  · cases hy

/-! ### Lengths -/
def lenV (S : Mem) (x : AV) : Option Nat :=
  match x with
  | .s l => some l.length
  | .sn => some 0
  | .se => some 0
  | .sl _ _ _ len _ _ => some len
  | .mn => some 0
  | .m i => match S[i]? with
    | some (.map es _) => some es.length
    | _ => none
  | _ => none

/-- The operand's kind fits 'len'. -/
def lenFits (P : Program) (t : TypeId) (x : AV) : Bool :=
  match P.underlying t, x with
  | some .string, .s _ => true
  | some (.slice _), .sn => true
  | some (.slice _), .se => true
  | some (.slice _), .sl .. => true
  | some (.map _ _), .mn => true
  | some (.map _ _), .m _ => true
  | _, _ => false

theorem run_len (h : Sim base w0 K S w) {t ty : TypeId} {x : AV} {v : Value} {n : Nat} (hx : VR K S x v) (hn : lenV S x = some n) (hk : lenFits P t x = true) :
    (Builtin.len_ #[t] ty #[v]).run P w = .ok (.int .i64 n) w := by
  unfold lenFits at hk
  split at hk
  all_goals (first | cases hk | skip)
  all_goals rename_i hd
  · cases hx; simp only [lenV, Option.some.injEq] at hn; subst hn; simp [Builtin.len_, run_underlying' hd, size_mk, goInt]
  · cases hx; simp only [lenV, Option.some.injEq] at hn; subst hn; simp [Builtin.len_, run_underlying' hd, goInt]
  · cases hx; simp only [lenV, Option.some.injEq] at hn; subst hn; simp [Builtin.len_, run_underlying' hd, goInt]
  · cases hx; simp only [lenV, Option.some.injEq] at hn; subst hn; simp [Builtin.len_, run_underlying' hd, goInt]
  · cases hx; simp only [lenV, Option.some.injEq] at hn; subst hn; simp [Builtin.len_, run_underlying' hd, goInt]
  · cases hx with
    | m i r B hB hr =>
      simp only [lenV] at hn
      split at hn
      · rename_i es cl hes
        injection hn with hn; subst hn
        rw [hB] at hes; obtain rfl := Option.some.inj hes
        obtain ⟨E, h1, h2, _⟩ := h.blk _ _ hB
        obtain rfl := hr rfl
        simp [Builtin.len_, run_underlying' hd, goInt, getObj, Sem.run, h1, h2]
      · cases hn

/-! ### What is appended or copied -/
def srcV (S : Mem) (size : Nat) (y : AV) : Option (List AV × Nat) :=
  match y with
  | .sn => some ([], 0)
  | .se => some ([], 0)
  | .sl i o v len _ _ => match rowAt S i o v (len * size) with
    | some cs => some (cs, len)
    | none => none
  | .s l => if size = 1 then some (l.map fun b => .i .u8 b.toNat, l.length) else none
  | _ => none

theorem src_ok (h : Sim base w0 K S w) {size : Nat} {y : AV} {v : Value} {cs : List AV} {n : Nat} (hy : VR K S y v) (hs : srcV S size y = some (cs, n)) :
    (Builtin.lenOf v).run P w = .ok n w ∧ cs.length = n * size ∧ ∀ m, m ≤ n → ∃ c : Array Value, (Builtin.firstCells size m v).run P w = .ok c w ∧ RowR K S (cs.take (m * size)) c := by
  unfold srcV at hs
  split at hs
  · injection hs with hs; injection hs with h1 h2; subst h1; subst h2
    cases hy
    exact ⟨rfl, by simp, fun m _ => ⟨#[], rfl, by simp, fun k => by simp; exact .u _⟩⟩
  · injection hs with hs; injection hs with h1 h2; subst h1; subst h2
    cases hy with
    | se a c =>
      refine ⟨rfl, by simp, fun m hm => ⟨#[], ?_, by simp, fun k => by simp; exact .u _⟩⟩
      obtain rfl : m = 0 := by omega
      simp [Builtin.firstCells, loadCells, loadCellsFrom]
  · rename_i i o ver len cap ex
    split at hs
    · rename_i xs hxs
      injection hs with hs; injection hs with h1 h2; subst h1; subst h2
      obtain ⟨hlen, g, hg, hV⟩ := rowAt_ok h hxs
      obtain ⟨B, hB, hver⟩ := rowAt_ver hxs
      cases hy with
      | sl _ _ _ _ _ _ a c B' hB' hle hl hc he ha =>
        rw [hB] at hB'; obtain rfl := Option.some.inj hB'
        obtain ⟨rfl, _⟩ := ha hver
        refine ⟨rfl, hlen, fun m hm => ?_⟩
        have hms : m * size ≤ len * size := Nat.mul_le_mul_right _ hm
        refine ⟨((List.range (m * size)).map g).toArray, ?_, .of_lt (by simp; omega) fun k hk => ?_⟩
        · simp only [Builtin.firstCells]
          exact run_loadCells w _ _ g fun j hj => hg j (by omega)
        · have hk' : k < m * size := by simp at hk; omega
          rw [range_getD _ _ _ hk']
          have e : (xs.take (m * size)).getD k .u = xs.getD k .u := by simp [List.getD_eq_getElem?_getD, List.getElem?_take, hk']
          rw [e]; exact hV k (by omega)
    · cases hs
  · rename_i l
    split at hs
    · rename_i h1
      subst h1
      injection hs with hs; injection hs with h1 h2; subst h1; subst h2
      cases hy
      refine ⟨by simp [Builtin.lenOf, size_mk], by simp, fun m hm => ⟨_, rfl, .of_lt (by simp) fun k hk => ?_⟩⟩
      have hk' : k < m := by simp at hk; omega
      have hk2 : k < l.length := by omega
      have e1 : (List.take (m * 1) (l.map fun b => AV.i .u8 b.toNat)).getD k .u = .i .u8 (l[k]).toNat := by
        simp [List.getD_eq_getElem?_getD, List.getElem?_take, hk', hk2]
      have e2 : (((ByteArray.mk l.toArray).extract 0 m).data.map fun b => Value.int .u8 b.toNat).getD k undef = .int .u8 (l[k]).toNat := by
        rw [extract_mk]
        have hmin : k < min m l.length := by omega
        simp [Array.getD, hmin]
      rw [e1, e2]; exact .i _ _
    · cases hs
  · cases hs
end
end Go.Proofs.YtljaigbjiheohaaDoor
