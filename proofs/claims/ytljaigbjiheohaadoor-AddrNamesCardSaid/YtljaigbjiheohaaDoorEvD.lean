/- Proved here: each operation that calls nothing stands for the model's. No condition. -/
import Derived.Test.YtljaigbjiheohaaDoorEvC
import Derived.Laws.IdiomStrings
namespace Go.Proofs.YtljaigbjiheohaaDoor
set_option linter.unusedSimpArgs false
set_option linter.unusedVariables false
open Go.RowKit

section
variable {P : Program} {base : Bs} {w0 : World} {K : Ctx} {S : Mem} {w : World}

/-- Operands in a row. -/
def ArgsR (K : Ctx) (S : Mem) (xs : List AV) (vs : List Value) : Prop := xs.length = vs.length ∧ ∀ k (h : k < xs.length) (h' : k < vs.length), VR K S xs[k] vs[k]

theorem compXs_ok {n : Nat} {e : Env} {a : Act} (hr : ER K S n e a) {l : List Operand} {xs : List X} (h : compXs l = some xs) : ArgsR K S (xs.map (·.ev e)) (l.map a.eval) := by
  obtain ⟨h1, h2⟩ := mapM_ok h
  refine ⟨by simp [h1], fun k hk hk' => ?_⟩
  simp only [List.length_map] at hk hk'
  simp only [List.getElem_map]
  exact compX_ok (h2 k hk' hk) hr

theorem compXo_ok {n : Nat} {e : Env} {a : Act} (hr : ER K S n e a) {o : Option Operand} {x : Option X} (h : compXo o = some x) : OptR K S (x.map (·.ev e)) (o.map a.eval) := by
  cases o with
  | none => simp only [compXo, Option.some.injEq] at h; subst h; trivial
  | some y =>
    simp only [compXo, Option.map_eq_some_iff] at h
    obtain ⟨z, hz, rfl⟩ := h
    exact compX_ok hz hr

/-- The parts' values. -/
def evPs (a : Act) (ps : List (Nat × Operand)) : List (Nat × Value) := ps.map fun p => (p.1, a.eval p.2)

theorem compParts_ok {n : Nat} {e : Env} {a : Act} (hr : ER K S n e a) {pl : Nat → Option (Nat × Nat)} {ps : List (Nat × Operand)} {r : List (Nat × Nat × X)} (h : compParts pl ps = some r) :
    (evParts e r).length = ps.length ∧ ∀ k (h : k < (evParts e r).length) (h' : k < (evPs a ps).length),
      pl ((evPs a ps)[k]).1 = some (((evParts e r)[k]).1, ((evParts e r)[k]).2.1) ∧ VR K S ((evParts e r)[k]).2.2 ((evPs a ps)[k]).2 := by
  obtain ⟨h1, h2⟩ := mapM_ok h
  refine ⟨by simp [evParts, h1], fun k hk hk' => ?_⟩
  simp only [evParts, List.length_map] at hk
  simp only [evPs, List.length_map] at hk'
  have h3 := h2 k hk' hk
  simp only [evParts, evPs, List.getElem_map]
  split at h3
  · rename_i off m x hp hx
    injection h3 with h3
    rw [← h3]
    exact ⟨hp, compX_ok hx hr⟩
  · cases h3

/-! ### The operations that were not told before -/
theorem good_pick (h : Sim base w0 K S w) {c x y : AV} {vc vx vy : Value} {z : AV} {b : Bool} (hc : VR K S c vc) (hx : VR K S x vx) (hy : VR K S y vy) (hb : c = .b b) (hz : z = if b then x else y) :
    Good base w0 K S w z S ((do pure (.value (if ← asBool vc then vx else vy)) : Sem Next).run P w) := by
  subst hb
  cases hc
  subst hz
  cases b
  · exact Good.same (v := vy) h (by simp [asBool]) hy
  · exact Good.same (v := vx) h (by simp [asBool]) hx

theorem ArgsR.getD {xs : List AV} {vs : List Value} (h : ArgsR K S xs vs) (k : Nat) : VR K S (xs.getD k .u) (vs.getD k undef) := by
  by_cases hk : k < xs.length
  · have hk' : k < vs.length := by rw [← h.1]; exact hk
    have := h.2 k hk hk'
    simp only [List.getD_eq_getElem?_getD, List.getElem?_eq_getElem hk, List.getElem?_eq_getElem hk', Option.getD_some]
    exact this
  · have : xs.getD k .u = .u := by simp [List.getD_eq_getElem?_getD, List.getElem?_eq_none (show xs.length ≤ k by omega)]
    rw [this]; exact .u _

theorem toList_getD (a : Array Value) (k : Nat) : a.toList.getD k undef = a.getD k undef := by
  simp only [List.getD_eq_getElem?_getD, Array.getD_eq_getD_getElem?, Array.getElem?_toList]

theorem ArgsR.arr {xs : List AV} {a : Array Value} (h : ArgsR K S xs a.toList) : xs.length = a.size ∧ ∀ k, VR K S (xs.getD k .u) (a.getD k undef) :=
  ⟨by simpa using h.1, fun k => by rw [← toList_getD]; exact h.getD k⟩

theorem good_mkf (h : Sim base w0 K S w) {fn : Fn} {xs ys : List AV} {a b : Array Value} (hx : ArgsR K S xs a.toList) (hy : ArgsR K S ys b.toList) :
    Good base w0 K S w (.f fn xs ys) S ((do let v ← Instr.makeFunc fn a b; pure (Next.value v) : Sem Next).run P w) :=
  Good.same (v := .func fn a b) h (by simp [Instr.makeFunc]) (.f fn xs ys a b hx.arr.1 hy.arr.1 hx.arr.2 hy.arr.2)

theorem run_mm {mx : Bool} : ∀ (l : List AV) (x y : AV) (v : Value) (vs : List Value), VR K S x v → ArgsR K S l vs → mmV mx x l = some y → ∃ r, ((if mx then vs.foldlM Builtin.max2 v else vs.foldlM Builtin.min2 v) : Sem Value).run P w = .ok r w ∧ VR K S y r
  | [], x, y, v, [], hx, _, h => by
    simp only [mmV, Option.some.injEq] at h; subst h
    refine ⟨v, ?_, hx⟩
    cases mx <;> simp
  | b :: l, x, y, v, vb :: vs, hx, hl, h => by
    have hb : VR K S b vb := hl.2 0 (by simp) (by simp)
    have hl' : ArgsR K S l vs := ⟨by have := hl.1; simp at this; exact this, fun k h1 h2 => hl.2 (k + 1) (by simp; omega) (by simp; omega)⟩
    unfold mmV at h
    split at h
    · exact absurd (by assumption : b :: l = []) (by simp)
    · rename_i k p k' q r he
      obtain ⟨rfl, rfl⟩ := List.cons.inj he
      split at h
      · rename_i hk
        subst hk
        cases hx; cases hb
        cases mx with
        | true =>
          obtain ⟨r', hr', hV⟩ := run_mm (mx := true) l _ y (.int k (if q > p then q else p)) vs (.i _ _) hl' h
          refine ⟨r', ?_, hV⟩
          simp only [if_true] at hr' ⊢
          rw [List.foldlM_cons]
          simp only [Builtin.max2, Sem.run_bind, Sem.run_pure, Result.andThen_ok]
          exact hr'
        | false =>
          obtain ⟨r', hr', hV⟩ := run_mm (mx := false) l _ y (.int k (if q < p then q else p)) vs (.i _ _) hl' h
          refine ⟨r', ?_, hV⟩
          simp only [Bool.false_eq_true, if_false] at hr' ⊢
          rw [List.foldlM_cons]
          simp only [Builtin.min2, Sem.run_bind, Sem.run_pure, Result.andThen_ok]
          exact hr'
      · cases h
    · cases h
  | [], _, _, _, _ :: _, _, h, _ => by have := h.1; simp at this
  | _ :: _, _, _, _, [], _, h, _ => by have := h.1; simp at this

theorem bytesV_ok : ∀ (xs : List AV) (l : List UInt8) (g : Nat → Value) (n : Nat), xs.length = n → (∀ j, j < n → VR K S (xs.getD j .u) (g j)) → bytesV xs = some l →
    ∃ ns : List Int, (List.range n).map g = ns.map (Value.int .u8) ∧ ns.map (fun n => UInt8.ofNat n.toNat) = l
  | [], l, g, n, hn, _, h => by
    simp only [bytesV, Option.some.injEq] at h; subst h
    simp only [List.length_nil] at hn; subst hn
    exact ⟨[], by simp, rfl⟩
  | x :: r, l, g, n, hn, hv, h => by
    unfold bytesV at h
    split at h
    · exact absurd (by assumption : x :: r = []) (by simp)
    · rename_i m r' he
      obtain ⟨rfl, rfl⟩ := List.cons.inj he
      split at h
      · rename_i l' hl'
        injection h with h; subst h
        simp only [List.length_cons] at hn
        subst hn
        obtain ⟨ns, h1, h2⟩ := bytesV_ok r l' (fun j => g (j + 1)) r.length rfl (fun j hj => by
          have := hv (j + 1) (by omega)
          simpa using this) hl'
        have h0 := hv 0 (by omega)
        simp only [List.getD_cons_zero] at h0
        generalize hg0 : g 0 = v0 at h0
        cases h0
        refine ⟨m :: ns, ?_, by simp [h2]⟩
        rw [List.range_succ_eq_map]
        simp only [List.map_cons, List.map_map, hg0]
        rw [← h1]
        rfl
      · cases h
    · cases h

theorem foldl_push_map (ns : List Int) (s : ByteArray) : ns.foldl (fun r n => r.push (UInt8.ofNat n.toNat)) s = ⟨s.data ++ (ns.map fun n => UInt8.ofNat n.toNat).toArray⟩ := by
  induction ns generalizing s with
  | nil => simp
  | cons n ns ih =>
    rw [List.foldl_cons, ih]
    apply ByteArray.ext
    simp [ByteArray.push]

theorem good_toStr (h : Sim base w0 K S w) {src dst e : TypeId} (hs : P.underlying src = some (.slice e)) (he : P.underlying e = some (.int .u8)) (hd : P.underlying dst = some .string) {x y : AV} {v : Value} (hx : VR K S x v) (hy : toStrV S x = some y) :
    Good base w0 K S w y S ((do let v ← convert src dst v; pure (Next.value v) : Sem Next).run P w) := by
  unfold toStrV at hy
  split at hy
  · injection hy with hy; subst hy
    cases hx
    refine Good.same (v := .string .empty) h ?_ (.s [])
    simp only [Sem.run_bind, run_convert_bytes_string w src dst e none 0 0 hs he hd]
    simp [Conv.bytesToString]
  · injection hy with hy; subst hy
    cases hx with
    | se a c =>
      refine Good.same (v := .string .empty) h ?_ (.s [])
      simp only [Sem.run_bind, run_convert_bytes_string w src dst e (some a) 0 c hs he hd]
      have := run_bytesToString (P := P) w a 0 c [] (by simp [loadCells, loadCellsFrom])
      simp only [this]
      simp
  · rename_i i o ver len cap ex
    split at hy
    · rename_i cs hcs
      split at hy
      · rename_i l hl
        injection hy with hy; subst hy
        obtain ⟨hlen, g, hg, hV⟩ := rowAt_ok h hcs
        obtain ⟨B, hB, hver⟩ := rowAt_ver hcs
        cases hx with
        | sl _ _ _ _ _ _ a c B' hB' hle hl' hc hex ha =>
          rw [hB] at hB'; obtain rfl := Option.some.inj hB'
          obtain ⟨rfl, _⟩ := ha hver
          obtain ⟨ns, h1, h2⟩ := bytesV_ok cs l g len hlen hV hl
          have hld := run_loadCells (P := P) w ⟨K.μ i, o, none⟩ len g hg
          rw [h1] at hld
          refine Good.same (v := .string ⟨l.toArray⟩) h ?_ (.s l)
          simp only [Sem.run_bind, run_convert_bytes_string w src dst e _ _ _ hs he hd, run_bytesToString w _ _ _ ns hld, foldl_push_map, h2]
          simp
      · cases hy
    · cases hy
  · cases hy

theorem good_toBytes (h : Sim base w0 K S w) {src dst e : TypeId} (hs : P.underlying src = some .string) (hd : P.underlying dst = some (.slice e)) (he : P.underlying e = some (.int .u8)) {l : List UInt8} {v : Value} (hx : VR K S (.s l) v) :
    Good base w0 K S w (if l.length = 0 then .se else .sl S.length 0 0 l.length l.length false) (S ++ [.cells (l.map fun b => .i .u8 b.toNat) 0 (some 1) true]) ((do let v ← convert src dst v; pure (Next.value v) : Sem Next).run P w) := by
  cases hx
  obtain ⟨hd1, hd2⟩ := h.drew
  have hrun := run_bytes_of_string w src dst e ⟨l.toArray⟩ hs hd he
  generalize hcap : grownCap w (ByteArray.mk l.toArray).size 0 e = cap at hrun
  have hge : l.length ≤ cap := by
    have : (ByteArray.mk l.toArray).size ≤ grownCap w (ByteArray.mk l.toArray).size 0 e := by simp [grownCap, Question.cut]
    rw [size_mk] at this; rw [← hcap, size_mk]; exact this
  have hsz : (bytesRow ⟨l.toArray⟩ cap).size = cap := by simp [bytesRow, size_mk]; omega
  obtain ⟨K', g1, g2, g3, g4⟩ := good_row2 hd1 (l.map fun b => .i .u8 b.toNat) (bytesRow ⟨l.toArray⟩ cap) e (some 1) ((bytesRow ⟨l.toArray⟩ cap).size, (bytesRow ⟨l.toArray⟩ cap).size + 1)
    (by rw [hsz]; simpa using hge) (fun e => by cases e) (fun k hk => by
      simp only [List.length_map] at hk
      have e1 : (l.map fun b => AV.i .u8 b.toNat).getD k .u = .i .u8 (l[k].toNat : Int) := by simp [List.getD_eq_getElem?_getD, hk]
      have e2 : (bytesRow ⟨l.toArray⟩ cap).getD k undef = .int .u8 (l[k].toNat : Int) := by
        simp only [bytesRow, Array.getD_eq_getD_getElem?]
        rw [Array.getElem?_append_left (by simpa using hk)]
        simp [hk]
      rw [e1, e2]; exact .i _ _) (fun o ho => by simp only [endOf, if_true] at ho; simp; omega)
  refine ⟨K', _, .slice (some ⟨w.heap.size, 0, none⟩) l.length cap, .inl ?_, ?_, g1, hd2.trans g2⟩
  · simp only [Sem.run_bind, hrun, Result.andThen_ok, Sem.run_pure]
    rw [size_mk]
  · split
    · rename_i h0; rw [h0]; exact .se _ _
    · refine .sl _ _ _ _ _ _ _ _ _ (new_at S _) (Nat.le_refl _) (Nat.le_refl _) hge (fun e => by cases e) fun _ => ⟨by rw [g3]; rfl, fun _ => ⟨1, rfl, ?_⟩⟩
      rw [g4, hsz]; omega

theorem good_clear (h : Sim base w0 K S w) {t ty e : TypeId} (ht : P.underlying t = some (.slice e)) {z : List AV} (hz : zeroOf P e = some z) {x r : AV} {v : Value} {S' : Mem} (hx : VR K S x v) (hc : clearV S z x = some (r, S')) :
    Good base w0 K S w r S' ((do let v ← Builtin.clear_ #[t] ty #[v]; pure (Next.value v) : Sem Next).run P w) := by
  obtain ⟨inf, zv, hi, hz2, hz3⟩ := zeroOf_row hz
  have tu : VR K S (.tu []) (.tuple #[]) := .tu [] #[] rfl fun k => by simp; exact .u _
  unfold clearV at hc
  split at hc
  · injection hc with hc; injection hc with h1 h2; subst h1; subst h2
    cases hx
    exact Good.same (v := .tuple #[]) h (by simp [Builtin.clear_, run_underlying' ht]) tu
  · injection hc with hc; injection hc with h1 h2; subst h1; subst h2
    cases hx
    exact Good.same (v := .tuple #[]) h (by simp [Builtin.clear_, run_underlying' ht]) tu
  · rename_i i o ver len cap ex
    split at hc
    · rename_i h0
      injection hc with hc; injection hc with h1 h2; subst h1; subst h2; subst h0
      cases hx
      exact Good.same (v := .tuple #[]) h (by simp [Builtin.clear_, run_underlying' ht]) tu
    · rename_i h0
      split at hc
      · rename_i cs ver' op hB
        split at hc
        · rename_i hcond
          obtain ⟨rfl, hle, hone⟩ := hcond
          injection hc with hc; injection hc with h1 h2; subst h1; subst h2
          cases hx with
          | sl _ _ _ _ _ _ a c B' hB' hle' hl' hcc hex ha =>
            rw [hB] at hB'; obtain rfl := Option.some.inj hB'
            obtain ⟨rfl, _⟩ := ha rfl
            have hzR : RowR K S (zerosV z len) (Builtin.zeroCells zv.cells len) := by
              have hq := zerosV_row (hz3 K S) len
              rw [show z.length = zv.cells.size from (hz3 K S).1] at hq
              exact hq
            have hzl : (zerosV z len).length = len * z.length := by simp [zerosV]
            obtain ⟨w', hrun, hS', hst⟩ := Sim.storeCells (P := P) (zerosV z len) (Builtin.zeroCells zv.cells len).toList S w i ver' cs op o 0 h hB (by omega) (by simpa using hzR.1)
              (fun k hk => by rw [toList_getD]; exact hzR.2 k) hone
            simp only [Nat.add_zero] at hS' hst
            rw [setList_eq _ _ _ (by omega)] at hS' hst
            refine ⟨K, w', .tuple #[], .inl ?_, .tu [] #[] rfl fun k => by simp; exact .u _, hS', hst⟩
            obtain ⟨m, rfl⟩ : ∃ m, len = m + 1 := ⟨len - 1, by omega⟩
            simp [Builtin.clear_, run_underlying' ht, run_zeroValue' hi hz2, hrun]
        · cases hc
      · cases hc
  · cases hc

theorem good_cap (h : Sim base w0 K S w) {t ty e : TypeId} (ht : P.underlying t = some (.slice e)) {x : AV} {v : Value} {n : Nat} (hx : VR K S x v) (hn : capV x = some n) :
    Good base w0 K S w (.i .i64 n) S ((do let v ← Builtin.cap_ #[t] ty #[v]; pure (Next.value v) : Sem Next).run P w) := by
  unfold capV at hn
  split at hn
  · injection hn with hn; subst hn
    cases hx
    exact Good.same (v := .int .i64 (0 : Nat)) h (by simp [Builtin.cap_, run_underlying' ht, goInt]) (.i _ _)
  · rename_i i o ver len cap
    injection hn with hn; subst hn
    cases hx with
    | sl _ _ _ _ _ _ a c B' hB' hle' hl' hcc hex ha =>
      obtain rfl := hex rfl
      exact Good.same (v := .int .i64 (c : Nat)) h (by simp [Builtin.cap_, run_underlying' ht, goInt]) (.i _ _)
  · cases hn
end
end Go.Proofs.YtljaigbjiheohaaDoor
