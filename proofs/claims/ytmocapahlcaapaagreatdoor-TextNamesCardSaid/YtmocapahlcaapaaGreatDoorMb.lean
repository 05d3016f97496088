/- Proved here: what the law of this claim leans on (an evaluator of the model's code, contracts of functions). No condition. -/
import Derived.Lib.Overlaps
import Derived.Test.YtmocapahlcaapaaGreatDoorMa
import Derived.RangeFuncCalls
import Derived.RangeFuncRecord
import Derived.TacticsIn
import Derived.OrdersIn
import Derived.RangeFuncOwn
import Derived.ScopeJumps
namespace Go.Proofs.YtmocapahlcaapaaGreatDoor
set_option linter.unusedSimpArgs false
set_option linter.unusedVariables false
open Go.RowKit

section
variable {P : Program} {base : Bs} {w0 : World} {K : Ctx} {S : Mem} {w : World}

theorem Good.val (h : Sim base w0 K S w) {x : AV} {s : Sem Value} (hr : ∃ v, s.run P w = .ok v w ∧ VR K S x v) : Good base w0 K S w x S ((do let v ← s; pure (Next.value v) : Sem Next).run P w) := by
  obtain ⟨v, hv, hV⟩ := hr
  exact Good.same (v := v) h (by simp [hv]) hV

theorem two {α : Type} {l : List α} {n : Nat} (h : l.length = n) : (n = 1 → ∃ a, l = [a]) ∧ (n = 2 → ∃ a b, l = [a, b]) := by
  constructor
  · intro e; subst e
    match l, h with
    | [a], _ => exact ⟨a, rfl⟩
  · intro e; subst e
    match l, h with
    | [a, b], _ => exact ⟨a, b, rfl⟩

theorem builtin_ok (h : Sim base w0 K S w) {n : Nat} {e : Env} {a : Act} (hr : ER K S n e a) {b : Builtin} {args : Array Operand} {ts : Array TypeId} {ty : TypeId} {consts : Array Bool} {xs : List X} {io : IO'} {x : AV} {S' : Mem}
    (hxs : compXs args.toList = some xs) (hc : compBuiltin P b xs ts.toList = some io) (hv : evIO e S io = some (x, S')) :
    Good base w0 K S w x S' ((builtin b ts ty consts (args.map a.eval)).run P w) := by
  have hA := compXs_ok hr hxs
  have hl : args.toList.length = xs.length := by have := hA.1; simpa using this.symm
  have one : ∀ y, xs = [y] → ∃ o, args.map a.eval = #[a.eval o] ∧ VR K S (y.ev e) (a.eval o) := by
    intro y hy
    subst hy
    obtain ⟨o, ho⟩ := (two hl).1 rfl
    have : args = #[o] := by rw [← Array.toArray_toList (xs := args), ho]
    subst this
    exact ⟨o, by simp, hA.2 0 (by simp) (by simp)⟩
  have twoA : ∀ y z, xs = [y, z] → ∃ o p, args.map a.eval = #[a.eval o, a.eval p] ∧ VR K S (y.ev e) (a.eval o) ∧ VR K S (z.ev e) (a.eval p) := by
    intro y z hy
    subst hy
    obtain ⟨o, p, ho⟩ := (two hl).2 rfl
    have : args = #[o, p] := by rw [← Array.toArray_toList (xs := args), ho]
    subst this
    exact ⟨o, p, by simp, hA.2 0 (by simp) (by simp), hA.2 1 (by simp) (by simp)⟩
  have ts1 : ∀ t, ts.toList = [t] → ts = #[t] := fun t ht => by rw [← Array.toArray_toList (xs := ts), ht]
  have ts2 : ∀ t u, ts.toList = [t, u] → ts = #[t, u] := fun t u ht => by rw [← Array.toArray_toList (xs := ts), ht]
  unfold compBuiltin at hc
  split at hc
  · -- len
    rename_i y t hts
    obtain ⟨o, ho, hy⟩ := one y rfl
    rw [ho]
    obtain rfl := ts1 t hts
    have fin : ∀ (k : LK), (lenOk k (y.ev e) = true → lenFits P t (y.ev e) = true) → io = .len k y → Good base w0 K S w x S' ((builtin .len #[t] ty consts #[a.eval o]).run P w) := by
      intro k hk hio
      subst hio
      simp only [evIO] at hv
      split at hv
      · rename_i hok
        split at hv
        · rename_i m hm
          injection hv with hv; injection hv with h1 h2; subst h1; subst h2
          exact Good.val h ⟨_, run_len h hy hm (hk hok), .i _ _⟩
        · cases hv
      · cases hv
    split at hc
    · rename_i hu; injection hc with hc
      exact fin .str (by generalize y.ev e = q; cases q <;> simp [lenOk, lenFits, hu]) hc.symm
    · rename_i hu; injection hc with hc
      exact fin .slice (by generalize y.ev e = q; cases q <;> simp [lenOk, lenFits, hu]) hc.symm
    · rename_i hu; injection hc with hc
      exact fin .map (by generalize y.ev e = q; cases q <;> simp [lenOk, lenFits, hu]) hc.symm
    · cases hc
  · -- copy
    rename_i y z t u hts
    obtain ⟨o, p, ho, hy, hz⟩ := twoA y z rfl
    rw [ho]
    obtain rfl := ts2 t u hts
    split at hc
    · rename_i el hu
      split at hc
      · rename_i i hi
        injection hc with hc; subst hc
        simp only [evIO] at hv
        split at hv
        · rename_i m S'' hm
          injection hv with hv; injection hv with h1 h2; subst h1; subst h2
          exact good_copy h hu hi hy hz hm
        · cases hv
      · cases hc
    · cases hc
  · -- append
    rename_i y z t u hts
    obtain ⟨o, p, ho, hy, hz⟩ := twoA y z rfl
    rw [ho]
    obtain rfl := ts2 t u hts
    split at hc
    · rename_i el d hu hd
      split at hc
      · rename_i i zs hi hzs
        split at hc
        · rename_i hsz
          split at hc
          · injection hc with hc; subst hc
            simp only [evIO] at hv
            split at hv
            · rename_i m hm
              split at hv
              · rename_i hb
                rw [hsz] at hv
                exact good_appz h hu hd hi hzs hsz hy hz hm hb hv
              · cases hv
            · cases hv
          · rename_i hint
            injection hc with hc; subst hc
            simp only [evIO] at hv
            split at hv
            · rename_i cs m hm
              exact good_app h hu hd (fun k e => hint k e) hi hzs hsz hy hz hm hv
            · cases hv
        · cases hc
      · cases hc
    · cases hc
  · -- clear
    rename_i y t hts
    obtain ⟨o, ho, hy⟩ := one y rfl
    rw [ho]
    obtain rfl := ts1 t hts
    split at hc
    · rename_i el hu
      obtain ⟨z, hz, rfl⟩ := Option.map_eq_some_iff.1 hc
      exact good_clear h hu hz hy hv
    · cases hc
  · -- delete
    rename_i y z t tl hts
    obtain ⟨o, p, ho, hy, hz⟩ := twoA y z rfl
    rw [ho]
    have ht0 : ts[0]? = some t := by rw [← Array.getElem?_toList, hts]; rfl
    split at hc
    · rename_i kt el hu
      obtain ⟨q, hq, rfl⟩ := Option.map_eq_some_iff.1 hc
      simp only [evIO] at hv
      split at hv
      · rename_i S'' hm
        injection hv with hv; injection hv with h1 h2; subst h1; subst h2
        exact good_mdel h ht0 hu hq hy hz hm
      · cases hv
    · cases hc
  · -- cap
    rename_i y t hts
    obtain ⟨o, ho, hy⟩ := one y rfl
    rw [ho]
    obtain rfl := ts1 t hts
    split at hc
    · rename_i el hu
      injection hc with hc; subst hc
      simp only [evIO] at hv
      split at hv
      · rename_i m hm
        injection hv with hv; injection hv with h1 h2; subst h1; subst h2
        exact good_cap h hu hy hm
      · cases hv
    · cases hc
  · -- max
    injection hc with hc; subst hc
    simp only [evIO] at hv
    split at hv
    · rename_i y r hy
      split at hv
      · rename_i z hz
        injection hv with hv; injection hv with h1 h2; subst h1; subst h2
        rw [hy] at hA
        obtain ⟨v, vs, hvs⟩ : ∃ v vs, args.toList.map a.eval = v :: vs := by
          cases hh : args.toList.map a.eval with
          | nil => rw [hh] at hA; have := hA.1; simp at this
          | cons v vs => exact ⟨v, vs, rfl⟩
        rw [hvs] at hA
        obtain ⟨q, hq, hV⟩ := run_mm (P := P) (w := w) (mx := true) r y z v vs (hA.2 0 (by simp) (by simp)) ⟨by have := hA.1; simpa using this, fun k h1 h2 => hA.2 (k + 1) (by simp; omega) (by simp; omega)⟩ hz
        refine Good.val h ⟨q, ?_, hV⟩
        simp only [Builtin.max_, Array.toList_map, hvs]
        simpa using hq
      · cases hv
    · cases hv
  · -- min
    injection hc with hc; subst hc
    simp only [evIO] at hv
    split at hv
    · rename_i y r hy
      split at hv
      · rename_i z hz
        injection hv with hv; injection hv with h1 h2; subst h1; subst h2
        rw [hy] at hA
        obtain ⟨v, vs, hvs⟩ : ∃ v vs, args.toList.map a.eval = v :: vs := by
          cases hh : args.toList.map a.eval with
          | nil => rw [hh] at hA; have := hA.1; simp at this
          | cons v vs => exact ⟨v, vs, rfl⟩
        rw [hvs] at hA
        obtain ⟨q, hq, hV⟩ := run_mm (P := P) (w := w) (mx := false) r y z v vs (hA.2 0 (by simp) (by simp)) ⟨by have := hA.1; simpa using this, fun k h1 h2 => hA.2 (k + 1) (by simp; omega) (by simp; omega)⟩ hz
        refine Good.val h ⟨q, ?_, hV⟩
        simp only [Builtin.min_, Array.toList_map, hvs]
        simpa using hq
      · cases hv
    · cases hv
  · cases hc

theorem find_ixbyte {fn : Func} (h : fn.name = "internal/bytealg.IndexByteString") : Extern.find fn = some Extern.BytealgIndexByte.indexByte := by
  unfold Extern.find
  rw [h]
  have e1 : Extern.allGenericRows.lookup "internal/bytealg.IndexByteString" = none := by kernel_rfl
  have e2 : Extern.allTypedRows.lookup "internal/bytealg.IndexByteString" = none := by kernel_rfl
  have e3 : Extern.allRows.lookup "internal/bytealg.IndexByteString" = some Extern.BytealgIndexByte.indexByte := by kernel_rfl
  simp only [e1, e2, e3]
  rfl

theorem find_mkno {fn : Func} (h : fn.name = "internal/bytealg.MakeNoZero") : Extern.find fn = some (Extern.BytealgMakeNoZero.makeNoZero fn.params fn.resultTypes) := by
  unfold Extern.find
  rw [h]
  have e1 : Extern.allGenericRows.lookup "internal/bytealg.MakeNoZero" = none := by kernel_rfl
  have e2 : Extern.allTypedRows.lookup "internal/bytealg.MakeNoZero" = some Extern.BytealgMakeNoZero.makeNoZero := by kernel_rfl
  simp only [e1, e2]
  rfl

theorem find_ovl {fn : Func} (h : fn.origin = "slices.overlaps") (h1 : (Extern.allGenericRows.lookup fn.name).isNone = true) (h2 : (Extern.allTypedRows.lookup fn.name).isNone = true) (h3 : (Extern.allRows.lookup fn.name).isNone = true) : Extern.find fn = some (Extern.SlicesOverlaps.overlaps fn.params fn.resultTypes) := by
  unfold Extern.find
  have e1 : Extern.allGenericRows.lookup "slices.overlaps" = none := by kernel_rfl
  have e2 : Extern.allTypedRows.lookup "slices.overlaps" = some Extern.SlicesOverlaps.overlaps := by kernel_rfl
  rw [Option.isNone_iff_eq_none] at h1 h2 h3
  simp only [h, h1, h2, h3, e1, e2]
  rfl
theorem good_ovl (h : Sim base w0 K S w) {t e tR : TypeId} (ht : P.underlying t = some (.slice e)) {inf : TypeInfo} (hi : P.info? e = some inf) {i o v l c j o2 v2 l2 c2 : Nat} {ex ex2 : Bool} (hij : i ≠ j) (ha : apartB (S[i]?) (S[j]?) o v v2 = true) {x y : Value} (hx : VR K S (.sl i o v l c ex) x) (hy : VR K S (.sl j o2 v2 l2 c2 ex2) y) :
    (Extern.SlicesOverlaps.overlaps #[t, t] #[tR] #[x, y]).run P w = .ok (.bool false) w := by
  unfold apartB at ha
  split at ha
  · rename_i cs ver op cs2 ver2 op2 r2 hA hB
    simp only [decide_eq_true_eq] at ha
    obtain ⟨rfl, rfl, hop, ho, hpos⟩ := ha
    have hend : ∀ n, endOf op n = n + 1 := fun n => by unfold endOf; rw [if_neg hop]
    cases hx with
    | sl _ _ _ _ _ _ ax cx Bx g1 g2 g3 g4 g5 g6 =>
      rw [hA] at g1; injection g1 with g1; subst g1
      obtain ⟨rfl, _⟩ := g6 rfl
      cases hy with
      | sl _ _ _ _ _ _ ay cy By k1 k2 k3 k4 k5 k6 =>
        rw [hB] at k1; injection k1 with k1; subst k1
        obtain ⟨rfl, _⟩ := k6 rfl
        obtain ⟨c1, et1, fz1, p1, p2, p3, p4, p5, p6⟩ := h.blk i _ hA
        obtain ⟨c2', et2, fz2, q1, q2, q3, q4, q5, q6⟩ := h.blk j _ hB
        have hne : K.μ i ≠ K.μ j := fun q => hij (h.inj i j (List.getElem?_eq_some_iff.1 hA).1 (List.getElem?_eq_some_iff.1 hB).1 q)
        have hfz := (p6 rfl).2
        refine Lib.run_overlaps_apart w t tR e ht inf.size (fun w => run_sizeOf' hi) ⟨K.μ i, o, none⟩ ⟨K.μ j, o2, none⟩ l cx l2 cy hne et1 et2 c1.size c2'.size ?_ ?_ (by omega) ?_ ?_
        · simp [World.shape?, p1]
        · simp [World.shape?, q1]
        · have := hfz o (by rw [hend]; omega)
          simp [World.frozen?, p1]
          omega
        · have := hfz c1.size (by rw [hend]; omega)
          simp [World.frozen?, p1]
          omega
  · cases ha
theorem good_ixbyte (h : Sim base w0 K S w) {fn : Func} (hn : fn.name = "internal/bytealg.IndexByteString") {l : List UInt8} {c : Int} {v v2 : Value} (hx : VR K S (.s l) v) (hy : VR K S (.i .u8 c) v2) :
    ∃ z, (Extern.BytealgIndexByte.indexByte #[v, v2]).run P w = .ok z w ∧ VR K S (.i .i64 (Lib.indexByte l c.toNat.toUInt8)) z := by
  cases hx
  cases hy
  exact ⟨_, Lib.run_indexByteString _ _ w, .i _ _⟩

theorem good_mkno (h : Sim base w0 K S w) {ps : Array TypeId} {t el : TypeId} (ht : P.underlying t = some (.slice el)) {n : Nat} (h0 : 0 < n) (hn : n ≤ 140737488355328) :
    ∃ z w' K', (Extern.BytealgMakeNoZero.makeNoZero ps #[t] #[.int .i64 n]).run P w = .ok z w' ∧ VR K' (S ++ [.cells (List.replicate n .u) 0 (some 1) true]) (.sl S.length 0 0 n n false) z ∧ Sim base w0 K' (S ++ [.cells (List.replicate n .u) 0 (some 1) true]) w' ∧ Stp K S w K' (S ++ [.cells (List.replicate n .u) 0 (some 1) true]) w' := by
  obtain ⟨hd1, hd2⟩ := h.drew
  obtain ⟨hd3, hd4⟩ := hd1.drew
  obtain ⟨cs, hrun, hge, _⟩ := Lib.run_makeNoZero (P := P) w ps t el ht n (by omega)
  obtain ⟨K', g1, g2, g3, g4⟩ := good_row2 hd3 (List.replicate n .u) cs el (some 1) (0, 0)
    (by simpa using hge) (fun e => by cases e) (fun k hk => by
      rw [show (List.replicate n AV.u).getD k .u = .u by simp only [List.length_replicate] at hk; simp [List.getD_eq_getElem?_getD, hk]]
      exact .u _) (fun o ho => by omega)
  refine ⟨_, _, K', hrun, ?_, g1, (hd2.trans hd4).trans g2⟩
  refine .sl _ _ _ _ _ _ _ _ _ (new_at S _) (Nat.le_refl _) (Nat.le_refl _) hge (fun e => by cases e) fun _ => ⟨by rw [g3]; rfl, fun _ => ⟨1, rfl, ?_⟩⟩
  rw [g4]; omega

/-- A range over a map begins. -/
theorem good_rng (h : Sim base w0 K S w) {t kt el : TypeId} (ht : P.underlying t = some (.map kt el)) {j : Nat} {es : List (AV × AV × Nat)} {cl : Nat} (hj : S[j]? = some (.map es cl)) {v : Value} (hv : VR K S (.m j) v) :
    Good base w0 K S w (.p S.length 0 0) (S ++ [.itr (.m j)]) ((do let v ← Instr.range t v; pure (Next.value v) : Sem Next).run P w) := by
  cases hv with
  | m _ r B h1 h2 =>
    rw [hj] at h1; obtain rfl := Option.some.inj h1
    obtain rfl := h2 rfl
    obtain ⟨E, e1, _, _, _⟩ := h.blk j _ hj
    obtain ⟨s1, t1⟩ := h.alloc (.itr (.m j)) (.mapIter (some (K.μ j)) cl #[] cl) 0 fun K' S' w' hE d1 d2 d3 hb => ⟨K.μ j, cl, cl, by rw [d1]; exact d3, (VR.m j (K.μ j) _ hj fun _ => rfl).mono hE, by rw [d1]; exact hb⟩
    refine ⟨_, _, .pointer (some ⟨w.heap.size, 0, none⟩), .inl ?_, .p _ _ _ _ _ (new_at S _) (Nat.le_refl _) fun _ => by rw [(K.put_same _ _ _).1], s1, t1⟩
    simp [Instr.range, run_underlying' ht, MapKept.run_getObj_map e1]
/-- Of a map that holds nothing nothing comes. -/
theorem good_nxt (h : Sim base w0 K S w) {ty : TypeId} {i j cl : Nat} (hi : S[i]? = some (.itr (.m j))) (hj : S[j]? = some (.map [] cl)) {v : Value} (hv : VR K S (.p i 0 0) v) :
    Good base w0 K S w (.tu [.b false]) S ((do let v ← Instr.next v false ty; pure (Next.value v) : Sem Next).run P w) := by
  cases hv with
  | p _ _ _ a B h1 h2 h3 =>
    rw [hi] at h1; obtain rfl := Option.some.inj h1
    obtain rfl := h3 rfl
    obtain ⟨m, a1, b1, q1, q2, _⟩ := h.blk i _ hi
    obtain ⟨E, e1, e2, _, _⟩ := h.blk j _ hj
    cases q2 with
    | m _ r B2 n1 n2 =>
      rw [hj] at n1; obtain rfl := Option.some.inj n1
      obtain rfl := n2 rfl
      have hE : E = #[] := Array.eq_empty_of_size_eq_zero e2.symm
      subst hE
      refine Good.same (v := .tuple #[.bool false]) h ?_ ?_
      · simp [Instr.next, getObj, Sem.run, q1, e1, choose, Question.forced]
      · refine .tu _ _ rfl fun k => ?_
        match k with
        | 0 => exact .b false
        | k + 1 => exact .u _

set_option maxHeartbeats 400000 in
theorem op_ok (h : Sim base w0 K S w) {n : Nat} {e : Env} {a : Act} (hr : ER K S n e a) {o : Oper} {io : IO'} {x : AV} {S' : Mem} (hc : compOp P o.op = some io) (hv : evIO e S io = some (x, S')) :
    Good base w0 K S w x S' ((execOp a.eval o).run P w) := by
  obtain ⟨dst, op, ty, pos, aft, grd⟩ := o
  have one1 : ∀ {x y : AV} {S1 S2 : Mem}, some (x, S1) = some (y, S2) → x = y ∧ S1 = S2 := by
    intro x y S1 S2 h; injection h with h; injection h with h1 h2; exact ⟨h1, h2⟩
  unfold compOp at hc
  simp only at hc
  split at hc
  · -- move
    obtain ⟨y, hy, rfl⟩ := Option.map_eq_some_iff.1 hc
    obtain ⟨h1, h2⟩ := one1 hv; subst h1; subst h2
    exact Good.same h (by simp [execOp]) (compX_ok hy hr)
  · -- assign
    obtain ⟨y, hy, rfl⟩ := Option.map_eq_some_iff.1 hc
    obtain ⟨h1, h2⟩ := one1 hv; subst h1; subst h2
    exact Good.same h (by simp [execOp]) (compX_ok hy hr)
  · -- pick
    split at hc
    · rename_i c' a' b' c a1 b1 h1 h2 h3
      injection hc with hc; subst hc
      simp only [evIO] at hv
      split at hv
      · rename_i hb
        obtain ⟨e1, e2⟩ := one1 hv; subst e1; subst e2
        exact good_pick (b := true) h (compX_ok h1 hr) (compX_ok h2 hr) (compX_ok h3 hr) hb rfl
      · rename_i hb
        obtain ⟨e1, e2⟩ := one1 hv; subst e1; subst e2
        exact good_pick (b := false) h (compX_ok h1 hr) (compX_ok h2 hr) (compX_ok h3 hr) hb rfl
      · cases hv
    · cases hc
  · -- alloc
    obtain ⟨z, hz, rfl⟩ := Option.map_eq_some_iff.1 hc
    obtain ⟨h1, h2⟩ := one1 hv; subst h1; subst h2
    exact good_fresh h hz
  · -- box
    obtain ⟨y, hy, rfl⟩ := Option.map_eq_some_iff.1 hc
    simp only [evIO] at hv
    split at hv
    · rename_i cs hcs
      obtain ⟨h1, h2⟩ := one1 hv; subst h1; subst h2
      exact good_box h (compX_ok hy hr) hcs
    · cases hv
  · -- build
    rename_i t ps
    split at hc
    · rename_i z pl hz hpl
      obtain ⟨r, hp, rfl⟩ := Option.map_eq_some_iff.1 hc
      simp only [evIO] at hv
      split at hv
      · rename_i rr hf
        obtain ⟨h1, h2⟩ := one1 hv; subst h1; subst h2
        obtain ⟨q1, q2⟩ := compParts_ok hr hp
        refine good_build h (vs := ps.map fun (i, x) => (i, a.eval x)) hz hpl (by simpa using q1) (fun k hk hk' => ?_) hf
        have e1 : (ps.map fun (i, x) => (i, a.eval x)).toList = evPs a ps.toList := by simp [evPs]
        have := q2 k hk (by rw [← e1]; exact hk')
        simp only [e1]; exact this
      · cases hv
    · cases hc
  · -- buildSlice
    rename_i t len ps
    split at hc
    · rename_i el hu
      split at hc
      · rename_i z i hz hi
        split at hc
        · rename_i hcond
          obtain ⟨r, hp, rfl⟩ := Option.map_eq_some_iff.1 hc
          simp only [evIO] at hv
          split at hv
          · rename_i rr hf
            obtain ⟨h1, h2⟩ := one1 hv; subst h1; subst h2
            obtain ⟨q1, q2⟩ := compParts_ok hr hp
            obtain ⟨hc1, hc2⟩ := hcond
            simp only [execOp]
            generalize hvs : Array.map _ ps = vs
            have e1 : vs.toList = evPs a ps.toList := by rw [← hvs]; simp [evPs]
            have e2 : (evParts e r).length = vs.size := by rw [← hvs]; simpa using q1
            refine good_bslice h hu hz hi hc1 hc2 e2 (fun k hk hk' => ?_) hf
            have := q2 k hk (by rw [← e1]; exact hk')
            simp only [e1]; exact ⟨Option.some.inj this.1, this.2⟩
          · cases hv
        · cases hc
      · cases hc
    · cases hc
  · -- load
    split at hc
    · rename_i t x n y hs hy
      injection hc with hc; subst hc
      simp only [evIO] at hv
      split at hv
      · rename_i z hz
        obtain ⟨h1, h2⟩ := one1 hv; subst h1; subst h2
        exact good_load h hs (compX_ok hy hr) hz
      · cases hv
    · cases hc
  · -- store
    split at hc
    · rename_i t x y i x' y' hi hx hy
      injection hc with hc; subst hc
      simp only [evIO] at hv
      split at hv
      · rename_i S'' hz
        obtain ⟨h1, h2⟩ := one1 hv; subst h1; subst h2
        exact good_store h hi (compX_ok hx hr) (compX_ok hy hr) hz
      · cases hv
    · cases hc
  · -- nilCheck
    obtain ⟨y, hy, rfl⟩ := Option.map_eq_some_iff.1 hc
    simp only [evIO] at hv
    split at hv
    · rename_i z hz
      obtain ⟨h1, h2⟩ := one1 hv; subst h1; subst h2
      exact good_nil h rfl (compX_ok hy hr) hz
    · cases hv
  · -- binOp
    rename_i bop t x y yt
    split at hc
    · rename_i x' y' hx hy
      split at hc
      · rename_i tk htk
        injection hc with hc; subst hc
        simp only [evIO] at hv
        split at hv
        · rename_i z hz
          obtain ⟨h1, h2⟩ := one1 hv; subst h1; subst h2
          exact Good.val h (run_bin htk (compX_ok hx hr) (compX_ok hy hr) hz)
        · cases hv
      · rename_i hnk
        split at hc
        · rename_i ks hks
          split at hc
          · rename_i hg
            have hagg : ∀ z neg, eqAgV neg ks (x'.ev e) (y'.ev e) = some z → ∃ d, P.underlying t = some d ∧ aggB d = true := by
              intro z neg hz
              have hxx := compX_ok hx hr
              cases hu : P.underlying t with
              | none => simp [flatOf, hu] at hks
              | some d =>
                refine ⟨d, rfl, ?_⟩
                unfold kindOf at hnk
                rw [hu] at hnk
                cases d <;> simp at hnk <;> simp [flatOf, hu] at hks <;> rfl
            split at hc
            · injection hc with hc; subst hc
              simp only [evIO] at hv
              split at hv
              · rename_i z hz
                obtain ⟨h1, h2⟩ := one1 hv; subst h1; subst h2
                exact good_eqag h (.inl ⟨rfl, rfl⟩) hks hg (compX_ok hx hr) (compX_ok hy hr) hz (hagg _ _ hz)
              · cases hv
            · injection hc with hc; subst hc
              simp only [evIO] at hv
              split at hv
              · rename_i z hz
                obtain ⟨h1, h2⟩ := one1 hv; subst h1; subst h2
                exact good_eqag h (.inr ⟨rfl, rfl⟩) hks hg (compX_ok hx hr) (compX_ok hy hr) hz (hagg _ _ hz)
              · cases hv
            · cases hc
          · cases hc
        · cases hc
    · cases hc
  · -- unOp
    obtain ⟨y, hy, rfl⟩ := Option.map_eq_some_iff.1 hc
    simp only [evIO] at hv
    split at hv
    · rename_i z hz
      obtain ⟨h1, h2⟩ := one1 hv; subst h1; subst h2
      exact good_un h (compX_ok hy hr) hz
    · cases hv
  · -- convert
    rename_i src dt x
    split at hc
    · rename_i d k x' hs hd hx
      injection hc with hc; subst hc
      simp only [evIO] at hv
      split at hv
      · rename_i z hz
        obtain ⟨h1, h2⟩ := one1 hv; subst h1; subst h2
        exact good_toInt h hs hd (compX_ok hx hr) hz
      · cases hv
    · rename_i x' hs hd hx
      injection hc with hc; subst hc
      simp only [evIO] at hv
      split at hv
      · rename_i l hl
        obtain ⟨h1, h2⟩ := one1 hv; subst h1; subst h2
        have hX := compX_ok hx hr
        rw [hl] at hX
        generalize hvv : a.eval x = v at hX
        cases hX
        refine Good.same h ?_ (.s l)
        simp [execOp, hvv, convert, run_underlying' hs, run_underlying' hd]
      · cases hv
    · rename_i el x' hs hd hx
      split at hc
      · rename_i he
        injection hc with hc; subst hc
        simp only [evIO] at hv
        split at hv
        · rename_i l hl
          obtain ⟨h1, h2⟩ := one1 hv; subst h1; subst h2
          have hX := compX_ok hx hr
          rw [hl] at hX
          exact good_toBytes h hs hd he hX
        · cases hv
      · cases hc
    · rename_i el x' hs hd hx
      split at hc
      · rename_i he
        injection hc with hc; subst hc
        simp only [evIO] at hv
        split at hv
        · rename_i z hz
          obtain ⟨h1, h2⟩ := one1 hv; subst h1; subst h2
          exact good_toStr h hs he hd (compX_ok hx hr) hz
        · cases hv
      · cases hc
    · cases hc
  · -- makeFunc
    split at hc
    · rename_i fn f c f' c' hf hcap
      injection hc with hc; subst hc
      obtain ⟨h1, h2⟩ := one1 hv; subst h1; subst h2
      have e1 := compXs_ok (K := K) (S := S) hr hf
      have e2 := compXs_ok (K := K) (S := S) hr hcap
      exact good_mkf h (by simpa using e1) (by simpa using e2)
    · cases hc
  · -- makeSlice
    split at hc
    · rename_i t l c el hu
      split at hc
      · rename_i z i l' c' hz hi hl hcc
        split at hc
        · rename_i hsz
          injection hc with hc; subst hc
          simp only [evIO] at hv
          split at hv
          · rename_i m k hm hk
            split at hv
            · rename_i hb
              obtain ⟨h1, h2⟩ := one1 hv; subst h1; subst h2
              exact good_mks h hu hz hi hsz (compX_ok hl hr) (compX_ok hcc hr) hm hk hb.1 hb.2.1 hb.2.2
            · cases hv
          · cases hv
        · cases hc
      · cases hc
    · cases hc
  · -- slice
    rename_i t x lo hi mx
    split at hc
    · rename_i el x' lo' hi' mx' hu hx hlo hhi hmx
      split at hc
      · rename_i i hinf
        injection hc with hc; subst hc
        simp only [evIO] at hv
        split at hv
        · rename_i z hz
          obtain ⟨h1, h2⟩ := one1 hv; subst h1; subst h2
          exact good_slice h hu hinf (compX_ok hx hr) (compXo_ok hr hlo) (compXo_ok hr hhi) (compXo_ok hr hmx) hz
        · cases hv
      · cases hc
    · rename_i n el x' lo' hi' mx' hu hx hlo hhi hmx
      split at hc
      · rename_i i hinf
        injection hc with hc; subst hc
        simp only [evIO] at hv
        split at hv
        · rename_i z hz
          obtain ⟨h1, h2⟩ := one1 hv; subst h1; subst h2
          exact good_sla h hu hinf (compX_ok hx hr) (compXo_ok hr hlo) (compXo_ok hr hhi) (compXo_ok hr hmx) hz
        · cases hv
      · cases hc
    · rename_i x' lo' hi' hu hx hlo hhi hmx
      injection hc with hc; subst hc
      simp only [evIO] at hv
      have hmn : mx = none := by
        cases mx with
        | none => rfl
        | some m => simp [compXo] at hmx
      subst hmn
      split at hv
      · rename_i z hz
        obtain ⟨h1, h2⟩ := one1 hv; subst h1; subst h2
        exact good_sls h hu (compX_ok hx hr) (compXo_ok hr hlo) (compXo_ok hr hhi) hz
      · cases hv
    · cases hc
  · -- fieldAddr
    split at hc
    · rename_i t x k f i x' hf hx
      injection hc with hc; subst hc
      simp only [evIO] at hv
      split at hv
      · rename_i z hz
        obtain ⟨h1, h2⟩ := one1 hv; subst h1; subst h2
        exact good_faddr h hf (compX_ok hx hr) hz
      · cases hv
    · cases hc
  · -- field
    split at hc
    · rename_i t x k f i x' hf hx
      split at hc
      · rename_i n hn
        injection hc with hc; subst hc
        simp only [evIO] at hv
        split at hv
        · rename_i z hz
          obtain ⟨h1, h2⟩ := one1 hv; subst h1; subst h2
          exact good_fld h hf hn (compX_ok hx hr) hz
        · cases hv
      · cases hc
    · cases hc
  · -- indexAddr
    split at hc
    · rename_i t x ix arr el i x' ix' hi hx hix
      injection hc with hc; subst hc
      simp only [evIO] at hv
      split at hv
      · rename_i z hz
        obtain ⟨h1, h2⟩ := one1 hv; subst h1; subst h2
        exact good_iaddr h hi (compX_ok hx hr) (compX_ok hix hr) hz
      · cases hv
    · cases hc
  · -- index
    rename_i t x ix
    split at hc
    · rename_i x' ix' hu hx hix
      injection hc with hc; subst hc
      simp only [evIO] at hv
      split at hv
      · rename_i z hz
        obtain ⟨h1, h2⟩ := one1 hv; subst h1; subst h2
        exact good_ixs h hu (compX_ok hx hr) (compX_ok hix hr) hz
      · cases hv
    · rename_i x' ix' hu hx hix
      split at hc
      · rename_i len el i hi
        split at hc
        · rename_i m hm
          injection hc with hc; subst hc
          simp only [evIO] at hv
          split at hv
          · rename_i z hz
            obtain ⟨h1, h2⟩ := one1 hv; subst h1; subst h2
            exact good_ixa h hi hm (compX_ok hx hr) (compX_ok hix hr) hz
          · cases hv
        · cases hc
      · cases hc
    · cases hc
  · -- extract
    obtain ⟨y, hy, rfl⟩ := Option.map_eq_some_iff.1 hc
    simp only [evIO] at hv
    split at hv
    · rename_i z hz
      obtain ⟨h1, h2⟩ := one1 hv; subst h1; subst h2
      exact good_ext h (compX_ok hy hr) hz
    · cases hv
  · -- makeMap
    rename_i t r
    split at hc
    · rename_i kt el hu
      obtain ⟨y, hy, rfl⟩ := Option.map_eq_some_iff.1 hc
      have hO := compXo_ok (K := K) (S := S) hr hy
      simp only [evIO] at hv
      split at hv
      · rename_i he
        obtain ⟨h1, h2⟩ := one1 hv; subst h1; subst h2
        rw [he] at hO
        refine good_mkmap h hu fun v hv => ?_
        rw [hv] at hO
        exact hO.elim
      · rename_i k n he
        obtain ⟨h1, h2⟩ := one1 hv; subst h1; subst h2
        rw [he] at hO
        refine good_mkmap h hu fun v hv => ?_
        rw [hv] at hO
        change VR K S (.i k n) v at hO
        cases hO
        exact ⟨k, n, rfl⟩
      · cases hv
    · cases hc
  · -- lookup
    rename_i t x k ok
    split at hc
    · rename_i kt el hu
      split at hc
      · rename_i q z x' k' hq hz hx hk
        injection hc with hc; subst hc
        simp only [evIO] at hv
        split at hv
        · rename_i y hy
          obtain ⟨h1, h2⟩ := one1 hv; subst h1; subst h2
          exact good_mlook h hu hq hz (compX_ok hx hr) (compX_ok hk hr) hy
        · cases hv
      · cases hc
    · cases hc
  · -- mapEntry
    rename_i t x k
    split at hc
    · rename_i kt el hu
      split at hc
      · rename_i q z x' k' hq hz hx hk
        injection hc with hc; subst hc
        exact good_mentry h hu hq hz (compX_ok hx hr) (compX_ok hk hr) hv
      · cases hc
    · cases hc
  · -- entryStore
    split at hc
    · rename_i x s v hx hs hv'
      injection hc with hc; subst hc
      simp only [evIO] at hv
      split at hv
      · rename_i S'' hm
        obtain ⟨h1, h2⟩ := one1 hv; subst h1; subst h2
        exact good_mstore h (compX_ok hx hr) (compX_ok hs hr) (compX_ok hv' hr) hm
      · cases hv
    · cases hc
  · -- mapUpdate
    rename_i t x k v
    split at hc
    · rename_i kt el hu
      split at hc
      · rename_i q x' k' v' hq hx hk hv'
        injection hc with hc; subst hc
        simp only [evIO] at hv
        split at hv
        · rename_i S'' hm
          obtain ⟨h1, h2⟩ := one1 hv; subst h1; subst h2
          exact good_mupd h hu hq (compX_ok hx hr) (compX_ok hk hr) (compX_ok hv' hr) hm
        · cases hv
      · cases hc
    · cases hc
  · -- insert
    rename_i t x k v
    split at hc
    · rename_i kt el hu
      split at hc
      · rename_i q x' k' v' hq hx hk hv'
        injection hc with hc; subst hc
        simp only [evIO] at hv
        split at hv
        · rename_i S'' hm
          obtain ⟨h1, h2⟩ := one1 hv; subst h1; subst h2
          exact good_mupd h hu hq (compX_ok hx hr) (compX_ok hk hr) (compX_ok hv' hr) hm
        · cases hv
      · cases hc
    · cases hc
  · -- call
    rename_i c
    split at hc
    · rename_i b xs hcal hxs
      have := fun consts => builtin_ok (ts := c.argTypes) (ty := ty) (consts := consts) h hr hxs hc hv
      simp only [execOp, resolve, hcal, Sem.run_bind, Sem.run_pure, Result.andThen_ok, invoke]
      exact this _
    · rename_i f xs hcal hxs
      have hA := compXs_ok (K := K) (S := S) hr hxs
      unfold compExtern at hc
      split at hc
      · rename_i fn hfn
        split at hc
        · rename_i hb
          obtain ⟨hb1, hb2⟩ := hb
          have hb2 : Extern.findNext fn = none := by simpa using hb2
          split at hc
          · rename_i y z
            split at hc
            · rename_i hname
              injection hc with hc; subst hc
              have hng : (fn.name == "runtime.NumGoroutine") = false := by rw [hname]; decide
              simp only [evIO] at hv
              split at hv
              · rename_i l k hy hz
                obtain ⟨h1, h2⟩ := one1 hv; subst h1; subst h2
                obtain ⟨v1, v2, hvs⟩ : ∃ v1 v2, c.args.toList.map a.eval = [v1, v2] := by
                  match hh : c.args.toList.map a.eval, hA.1 with
                  | [p, q], _ => exact ⟨p, q, rfl⟩
                rw [hvs] at hA
                have q1 := hA.2 0 (by simp) (by simp)
                have q2 := hA.2 1 (by simp) (by simp)
                simp only [List.map_cons, List.map_nil, List.getElem_cons_zero, List.getElem_cons_succ, hy, hz] at q1 q2
                obtain ⟨r, hr1, hr2⟩ := good_ixbyte (P := P) h hname q1 q2
                have hargs : c.args.map a.eval = #[v1, v2] := by rw [← Array.toArray_toList (xs := c.args.map a.eval), Array.toList_map, hvs]
                refine Good.same (v := r) h ?_ hr2
                simp only [execOp, resolve, hcal, Act.eval, Deferred.ofValue, Sem.run_bind, Sem.run_pure, Result.andThen_ok, invoke]
                rw [Array.empty_append, Array.append_empty, run_callFunc_extern hfn hng hb1 hb2 (find_ixbyte hname), hargs, hr1]
                rfl
              · cases hv
            · split at hc
              · rename_i hname2
                obtain ⟨ho, hl1, hl2, hl3, hng⟩ := hname2
                split at hc
                · rename_i t1 t2 t hps hres
                  split at hc
                  · rename_i ht12
                    subst ht12
                    split at hc
                    · rename_i e' hu
                      split at hc
                      · rename_i inf hinf
                        injection hc with hc; subst hc
                        simp only [evIO] at hv
                        split at hv
                        · rename_i i o v l c' ex j o2 v2 l2 c2 ex2 hy hz
                          split at hv
                          · rename_i hcond
                            obtain ⟨hij, hap⟩ := hcond
                            obtain ⟨h1, h2⟩ := one1 hv; subst h1; subst h2
                            obtain ⟨v1, v2', hvs⟩ : ∃ v1 v2, c.args.toList.map a.eval = [v1, v2] := by
                              match hh : c.args.toList.map a.eval, hA.1 with
                              | [p, q], _ => exact ⟨p, q, rfl⟩
                            rw [hvs] at hA
                            have q1 := hA.2 0 (by simp) (by simp)
                            have q2 := hA.2 1 (by simp) (by simp)
                            simp only [List.map_cons, List.map_nil, List.getElem_cons_zero, List.getElem_cons_succ, hy, hz] at q1 q2
                            have hr1 := good_ovl (P := P) (tR := t) h hu hinf hij hap q1 q2
                            have hargs : c.args.map a.eval = #[v1, v2'] := by rw [← Array.toArray_toList (xs := c.args.map a.eval), Array.toList_map, hvs]
                            have hps' : fn.params = #[t1, t1] := by rw [← Array.toArray_toList (xs := fn.params), hps]
                            have hres' : fn.resultTypes = #[t] := by rw [← Array.toArray_toList (xs := fn.resultTypes), hres]
                            refine Good.same (v := .bool false) h ?_ (.b false)
                            simp only [execOp, resolve, hcal, Act.eval, Deferred.ofValue, Sem.run_bind, Sem.run_pure, Result.andThen_ok, invoke]
                            rw [Array.empty_append, Array.append_empty, run_callFunc_extern hfn hng hb1 hb2 (find_ovl ho hl1 hl2 hl3), hargs, hps', hres', hr1]
                            rfl
                          · cases hv
                        · cases hv
                      · cases hc
                    · cases hc
                  · cases hc
                · cases hc
              · cases hc
          · rename_i y
            split at hc
            · rename_i hname
              have hng : (fn.name == "runtime.NumGoroutine") = false := by rw [hname]; decide
              split at hc
              · rename_i t hres
                split at hc
                · rename_i el hu
                  injection hc with hc; subst hc
                  simp only [evIO] at hv
                  split at hv
                  · rename_i z hm
                    split at hv
                    · rename_i hlim
                      obtain ⟨h1, h2⟩ := one1 hv; subst h1; subst h2
                      obtain ⟨m, rfl⟩ := Int.eq_ofNat_of_zero_le (show 0 ≤ z by omega)
                      obtain ⟨v1, hvs⟩ : ∃ v1, c.args.toList.map a.eval = [v1] := by
                        match hh : c.args.toList.map a.eval, hA.1 with
                        | [p], _ => exact ⟨p, rfl⟩
                      rw [hvs] at hA
                      have q1 := hA.2 0 (by simp) (by simp)
                      simp only [List.map_cons, List.map_nil, List.getElem_cons_zero, hm] at q1
                      cases q1
                      have hargs : c.args.map a.eval = #[.int .i64 m] := by rw [← Array.toArray_toList (xs := c.args.map a.eval), Array.toList_map, hvs]
                      have hres' : fn.resultTypes = #[t] := by rw [← Array.toArray_toList (xs := fn.resultTypes), hres]
                      obtain ⟨r, w', K', hr1, hr2, hr3, hr4⟩ := good_mkno (ps := fn.params) h hu (n := m) (by omega) (by omega)
                      simp only [Int.toNat_natCast]
                      refine ⟨K', w', r, .inl ?_, hr2, hr3, hr4⟩
                      simp only [execOp, resolve, hcal, Act.eval, Deferred.ofValue, Sem.run_bind, Sem.run_pure, Result.andThen_ok, invoke]
                      rw [Array.empty_append, Array.append_empty, run_callFunc_extern hfn hng hb1 hb2 (find_mkno hname), hargs, hres', hr1]
                      rfl
                    · cases hv
                  · cases hv
                · cases hc
              · cases hc
            · cases hc
          · cases hc
        · cases hc
      · cases hc
    · cases hc
  · -- range
    rename_i t y
    split at hc
    · rename_i kt el hu
      obtain ⟨x', hx, rfl⟩ := Option.map_eq_some_iff.1 hc
      have q1 : VR K S (x'.ev e) (a.eval y) := compX_ok hx hr
      simp only [evIO] at hv
      split at hv
      · rename_i j hj
        split at hv
        · rename_i es cl hB
          obtain ⟨h1, h2⟩ := one1 hv; subst h1; subst h2
          rw [hj] at q1
          exact good_rng h hu hB q1
        · cases hv
      · cases hv
    · cases hc
  · -- next
    rename_i y isS
    split at hc
    · rename_i hS
      subst hS
      obtain ⟨x', hx, rfl⟩ := Option.map_eq_some_iff.1 hc
      have q1 : VR K S (x'.ev e) (a.eval y) := compX_ok hx hr
      simp only [evIO] at hv
      split at hv
      · rename_i i hi
        split at hv
        · rename_i j hB
          split at hv
          · rename_i cl hB2
            obtain ⟨h1, h2⟩ := one1 hv; subst h1; subst h2
            rw [hi] at q1
            exact good_nxt h hB hB2 q1
          · cases hv
        · cases hv
      · cases hv
    · cases hc
  · cases hc
end
end Go.Proofs.YtmocapahlcaapaaGreatDoor

namespace Go.Proofs.YtmocapahlcaapaaGreatDoor
set_option linter.unusedSimpArgs false
set_option linter.unusedVariables false
open Go.RowKit

/-- No fence; 'rd': within a round of a loop over a function. -/
def FW (rd : Option Nat) : Fence := { fn := fun _ => True, depth := none, alive := false, round := rd }
/-- What a call comes to. -/
def Post (base : Bs) (w0 : World) (K : Ctx) (S : Mem) (w : World) (x : AV) (S' : Mem) : Ending → World → Prop := fun e w' =>
  ∃ K' v, e = .returned v ∧ VR K' S' x v ∧ Sim base w0 K' S' w' ∧ Stp K S w K' S' w'

/-- What is known of calls is so. -/
structure OK (P : Program) (Λ : Nat → List Bool → Option (Array Tmp × Code × Code × Nat)) (O : Orc) : Prop where
  fn : ∀ f args S x S', O.fn f args S = some (x, S') → enterable P f = true ∧ ∀ (base : Bs) (w0 : World) (K : Ctx) (w : World) (vs : Array Value), base.Λ = Λ → ArgsR K S args vs.toList → Sim base w0 K S w →
    Calls P f vs w (Post base w0 K S w x S')
  y : ∀ i args S x S', O.y i args S = some (x, S') → ∀ (base : Bs) (w0 : World) (K : Ctx) (w : World) (l : Nat) (vs : Array Value), base.Λ = Λ → VR K S (.y i) (.func (.yield l) #[] #[]) → ArgsR K S args vs.toList → Sim base w0 K S w →
    ∃ f tmps assign body, (Instr.yield l vs).run P w = .ok (.round l f tmps assign body) w ∧ ∀ n, RoundIn Fence.wide n P l f tmps assign body w (Post base w0 K S w x S')

section
variable {P : Program} {base : Bs} {w0 : World} {K : Ctx} {S : Mem} {w : World} {O : Orc}

theorem run_callFunc {f : FuncId} (h : enterable P f = true) (args : Array Value) : (callFunc f args).run P w = .ok (.enter f args) w := by
  unfold enterable at h
  split at h
  · rename_i fn hfn
    simp only [Bool.and_eq_true, Bool.not_eq_true'] at h
    obtain ⟨h1, h2⟩ := h
    have h3 : fn.body ≠ none := by
      intro hb
      rw [hb] at h2; simp at h2
    have h4 : fn.name ≠ "runtime.NumGoroutine" := by simpa using h1
    simp [callFunc, hfn, h4, h3]
  · cases h

theorem ArgsR.append {xs ys : List AV} {us vs : List Value} (h : ArgsR K S xs us) (h' : ArgsR K S ys vs) : ArgsR K S (xs ++ ys) (us ++ vs) := by
  refine ⟨by simp [h.1, h'.1], fun k hk hk' => ?_⟩
  have hl := h.1
  by_cases e : k < xs.length
  · rw [List.getElem_append_left e, List.getElem_append_left (by omega)]
    exact h.2 k e (by omega)
  · rw [List.getElem_append_right (by omega), List.getElem_append_right (by omega)]
    simp only [List.length_append] at hk hk'
    have := h'.2 (k - xs.length) (by omega) (by omega)
    simpa [hl] using this

theorem ArgsR.of_arr {xs : List AV} {a : Array Value} (hl : xs.length = a.size) (h : ∀ k, VR K S (xs.getD k .u) (a.getD k undef)) : ArgsR K S xs a.toList := by
  refine ⟨by simpa using hl, fun k hk hk' => ?_⟩
  have := h k
  have e1 : xs.getD k .u = xs[k] := by simp [List.getD_eq_getElem?_getD, hk]
  have e2 : a.getD k undef = a.toList[k] := by
    have : k < a.size := by omega
    simp [Array.getD, this]
  rw [e1, e2] at this; exact this

theorem ArgsR.mono {K K' : Ctx} {S S' : Mem} {xs : List AV} {vs : List Value} (hE : Ext K S K' S') (h : ArgsR K S xs vs) : ArgsR K' S' xs vs := ⟨h.1, fun k a b => (h.2 k a b).mono hE⟩

theorem semAt_ok {rd : Option Nat} {ρ : Operand → Value} {o : Oper} (h : ∀ c, o.op ≠ .defer c) : Oper.semAt (FW rd).round ρ o = execOp ρ o := by
  cases rd with
  | none => exact Oper.semAt_none _ _
  | some l => exact Oper.semAt_some l _ _ h

theorem callsW {rd : Option Nat} {n : Nat} {f : FuncId} {args : Array Value} {R : Ending → World → Prop} (h : Calls P f args w R) : CallsIn (FW rd) n P f args w R := by
  cases rd with
  | none => exact callsIn_wide.2 h
  | some l => exact CallsIn.inRound l (callsIn_wide.2 h)

/-- One operation, with what may come behind it. -/
theorem oper_ok (hO : OK P base.Λ O) (h : Sim base w0 K S w) {nt : Nat} {e : Env} {a : Act} (hr : ER K S nt e a) {o : Oper} {x : AV} {S' : Mem} (hv : evOp O e S (compIO P o.op) = some (x, S')) {n : Nat} {rd : Option Nat} {Kont : Act → World → Prop} {Q : Exit → Act → World → Prop}
    (hK : ∀ K' w' v, VR K' S' x v → Sim base w0 K' S' w' → Stp K S w K' S' w' → Kont (a.put o.dst v) w') : o.wpIn (FW rd) n P a w Kont Q := by
  unfold Oper.wpIn
  refine ⟨fun _ _ => trivial, ?_⟩
  have post : ∀ {f : FuncId} {args : Array Value}, Calls P f args w (Post base w0 K S w x S') → o.uponIn (FW rd) n P a Kont Q (.ok (.enter f args) w) := by
    intro f args hc
    rw [Oper.uponIn_enter]
    refine ⟨fun e => (by cases e), CallsIn.mono (callsW hc) fun e w' hp => ?_⟩
    obtain ⟨K', v, rfl, hV, hS, hst⟩ := hp
    exact hK K' w' v hV hS hst
  unfold compIO at hv
  split at hv
  · rename_i io hio
    unfold compCall at hio
    split at hio
    · rename_i c hop
      have hsem : Oper.semAt (FW rd).round a.eval o = execOp a.eval o := semAt_ok (fun c' e => by rw [hop] at e; cases e)
      rw [hsem]
      split at hio
      · rename_i f xs hcal hxs
        split at hio
        · rename_i hen
          injection hio with hio; subst hio
          simp only [evOp] at hv
          obtain ⟨_, hcall⟩ := hO.fn _ _ _ _ _ hv
          have hA := compXs_ok (K := K) (S := S) hr hxs
          have hrun : (execOp a.eval o).run P w = .ok (.enter f (c.args.map a.eval)) w := by
            simp [execOp, hop, resolve, hcal, Act.eval, Deferred.ofValue, invoke, run_callFunc hen]
          rw [hrun]
          exact post (hcall base w0 K w _ rfl (by simpa using hA) h)
        · cases hio
      · rename_i y xs hne hcal hxs
        obtain ⟨y', hy', rfl⟩ := Option.map_eq_some_iff.1 hio
        simp only [evOp] at hv
        have hA := compXs_ok (K := K) (S := S) hr hxs
        have hY := compX_ok (K := K) (S := S) hy' hr
        split at hv
        · rename_i f fa fb hf
          rw [hf] at hY
          obtain ⟨hen, hcall⟩ := hO.fn _ _ _ _ _ hv
          generalize hvy : a.eval y = vy at hY
          cases hY with
          | f _ _ _ x' y'' hx hy h1 h2 =>
            have hrun : (execOp a.eval o).run P w = .ok (.enter f (x' ++ c.args.map a.eval ++ y'')) w := by
              simp [execOp, hop, resolve, hcal, hvy, Deferred.ofValue, invoke, run_callFunc hen]
            rw [hrun]
            refine post (hcall base w0 K w _ rfl ?_ h)
            simp only [Array.toList_append, Array.toList_map]
            exact ((ArgsR.of_arr hx h1).append hA).append (ArgsR.of_arr hy h2)
        · rename_i i hf
          rw [hf] at hY
          generalize hvy : a.eval y = vy at hY
          have hY' := hY
          cases hY with
          | y _ r B hB hr' =>
            obtain ⟨f, tmps, assign, body, hyr, hround⟩ := hO.y _ _ _ _ _ hv base w0 K w r (c.args.map a.eval) rfl hY' (by simpa using hA) h
            have hrun : (execOp a.eval o).run P w = .ok (.round r f tmps assign body) w := by
              simp [execOp, hop, resolve, hcal, hvy, Deferred.ofValue, invoke, hyr]
            rw [hrun, Oper.uponIn_round]
            refine ⟨fun e => (by cases e), RoundIn.mono (show RoundIn (FW rd) (n - 1) P r f tmps assign body w (Post base w0 K S w x S') from hround _) fun e w' hp => ?_⟩
            obtain ⟨K', v, rfl, hV, hS, hst⟩ := hp
            exact hK K' w' v hV hS hst
        · cases hv
      · cases hio
    · cases hio
  · split at hv
    · rename_i io hio
      have hnd : ∀ c, o.op ≠ .defer c := fun c e => by rw [e] at hio; simp [compOp] at hio
      rw [semAt_ok hnd]
      obtain ⟨K', w', v, hres, hV, hS, hst⟩ := op_ok h hr hio hv
      rcases hres with hres | ⟨hres, rfl⟩
      · rw [hres, Oper.uponIn_value]; exact hK K' w' v hV hS hst
      · rw [hres, Oper.uponIn_skip]; exact hK K' w' undef hV hS hst
    · simp [evOp, evIO] at hv

theorem want_ok {nt : Nat} {e : Env} {a : Act} {ops : Array Oper} {o : Oper} {r : ROp} (hr : ∀ t b, r.guard = some (t, b) → VR K S (e.get t) (a.tmps.getD t undef)) (hsz : a.tmps.size = nt) (hc : compOper P ops o = some r) {b : Bool} (hw : wantV e r.guard = some b) :
    Region.wanted o (yielded ops a.tmps) = b := by
  unfold compOper at hc
  split at hc
  · rename_i hg
    injection hc with hc; subst hc
    simp only [wantV, Option.some.injEq] at hw
    subst hw
    simp [Region.wanted, hg]
  · rename_i j want hg
    split at hc
    · rename_i t ht
      injection hc with hc; subst hc
      simp only [wantV] at hw
      have hV := hr t want rfl
      have hy : yielded ops a.tmps j = match a.tmps[t]? with | some (.bool b) => some b | _ => none := by
        unfold yielded
        rw [ht]; rfl
      have hg' : Region.wanted o (yielded ops a.tmps) = (yielded ops a.tmps j == some want) := by simp [Region.wanted, hg]
      rw [hg', hy]
      by_cases hts : t < a.tmps.size
      · have e1 : a.tmps[t]? = some (a.tmps.getD t undef) := by simp [Array.getD, hts]
        rw [e1]
        generalize a.tmps.getD t undef = v at hV
        split at hw
        · rename_i x hx
          rw [hx] at hV
          cases hV
          have hw := Option.some.inj hw
          rw [← hw]
          cases x <;> cases want <;> rfl
        · cases hw
        · rename_i hnb hnu
          have hw := Option.some.inj hw
          rw [← hw]
          generalize hgx : e.get t = y at hV hnb hnu
          cases hV <;> first | rfl | exact absurd rfl (hnb _) | exact absurd rfl hnu
      · have e1 : a.tmps[t]? = none := by simp at hts; simp [hts]
        have e2 : a.tmps.getD t undef = undef := by simp [Array.getD, hts]
        rw [e1]
        rw [e2] at hV
        split at hw
        · rename_i x hx
          rw [hx] at hV; cases hV
        · cases hw
        · have hw := Option.some.inj hw
          rw [← hw]; rfl
    · cases hc

theorem compOper_io {ops : Array Oper} {o : Oper} {r : ROp} (hc : compOper P ops o = some r) : r.io = compIO P o.op ∧ r.dst = o.dst := by
  unfold compOper at hc
  split at hc
  · injection hc with hc; subst hc; exact ⟨rfl, rfl⟩
  · split at hc
    · injection hc with hc; subst hc; exact ⟨rfl, rfl⟩
    · cases hc

theorem ER.putE {nt : Nat} {e : Env} {a : Act} {x : AV} {v : Value} (hr : ER K S nt e a) (hx : VR K S x v) {d : Option Nat} (hd : ∀ t, d = some t → t < nt) : ER K S nt (putE e d x) (a.put d v) := by
  cases d with
  | none => exact ⟨hr.size, fun k => by simpa [Act.put, Go.Proofs.YtmocapahlcaapaaGreatDoor.putE] using hr.slot k⟩
  | some t => exact hr.put hx t (hd t rfl)

theorem put_defers (a : Act) (d : Option Tmp) (v : Value) : (a.put d v).defers = a.defers := by cases d <;> rfl

theorem list_ok (hO : OK P base.Λ O) {ops : Array Oper} {n : Nat} {rd : Option Nat} {Q : Exit → Act → World → Prop} {nt : Nat} : ∀ (l : List Oper) (rl : List ROp) (K : Ctx) (S : Mem) (e : Env) (a : Act) (w : World) (e' : Env) (S' : Mem), l.mapM (compOper P ops) = some rl → dstOk nt rl = true →
    Sim base w0 K S w → ER K S nt e a → evOps O rl e S = some (e', S') →
    (∀ K' a' w', ER K' S' nt e' a' → a'.defers = a.defers → Sim base w0 K' S' w' → Stp K S w K' S' w' → Q .normal a' w') → wpListIn (FW rd) n P ops Q l a w
  | [], rl, K, S, e, a, w, e', S', hm, _, h, hr, hv, hQ => by
    simp at hm; subst hm
    simp only [evOps, Option.some.injEq, Prod.mk.injEq] at hv
    obtain ⟨rfl, rfl⟩ := hv
    exact wpListIn_nil (hQ K a w hr rfl h (.refl K S w))
  | o :: l, rl, K, S, e, a, w, e', S', hm, hd, h, hr, hv, hQ => by
    simp only [List.mapM_cons, Option.bind_eq_bind, Option.bind_eq_some_iff, Option.pure_def, Option.some.injEq] at hm
    obtain ⟨r, hro, rl', hrl, rfl⟩ := hm
    obtain ⟨hio, hdst⟩ := compOper_io hro
    simp only [dstOk, List.all_cons, Bool.and_eq_true] at hd
    have hdt : ∀ t, o.dst = some t → t < nt := fun t ht => by
      have := hd.1
      rw [hdst, ht] at this
      simpa using this
    simp only [evOps, evOne] at hv
    cases hw : wantV e r.guard with
    | none => simp [hw] at hv
    | some b =>
      have hwant := want_ok (ops := ops) (o := o) (fun t _ _ => hr.slot t) hr.size hro hw
      refine wpListIn_step fun Kont hKont => ?_
      cases b with
      | false =>
        rw [hwant, if_neg (by simp)]
        simp only [hw] at hv
        refine ⟨fun _ _ => trivial, hKont _ _ ?_⟩
        refine list_ok hO l rl' K S _ _ w e' S' hrl hd.2 h ?_ hv fun K' a' w' q1 q2 q3 q4 => hQ K' a' w' q1 (by rw [q2, put_defers]) q3 q4
        rw [hdst]
        exact hr.putE .ud hdt
      | true =>
        rw [hwant, if_pos rfl]
        simp only [hw] at hv
        split at hv
        · cases hv
        · rename_i x S1 hx
          rw [hio] at hx
          refine oper_ok hO h hr hx fun K1 w1 v hV hS hst => hKont _ _ ?_
          refine list_ok hO l rl' K1 S1 _ _ w1 e' S' hrl hd.2 hS ?_ hv fun K' a' w' q1 q2 q3 q4 => hQ K' a' w' q1 (by rw [q2, put_defers]) q3 (hst.trans q4)
          rw [hdst]
          exact (hr.mono hst.ext).putE hV hdt
end
end Go.Proofs.YtmocapahlcaapaaGreatDoor

namespace Go.Proofs.YtmocapahlcaapaaGreatDoor
set_option linter.unusedSimpArgs false
set_option linter.unusedVariables false
open Go.RowKit

mutual
theorem eqv_ok : ∀ (x y : AV), avEqv x y = true → x = y
  | x, y, h => by
    unfold avEqv at h
    split at h
    · rfl
    · rfl
    · simp at h; subst h; rfl
    · simp at h; obtain ⟨h1, h2⟩ := h; subst h1; subst h2; rfl
    · simp at h; subst h; rfl
    · rfl
    · simp at h; obtain ⟨⟨h1, h2⟩, h3⟩ := h; subst h1; subst h2; subst h3; rfl
    · rfl
    · rfl
    · simp at h; obtain ⟨⟨⟨⟨⟨h1, h2⟩, h3⟩, h4⟩, h5⟩, h6⟩ := h; subst h1; subst h2; subst h3; subst h4; subst h5; subst h6; rfl
    · rfl
    · simp at h; subst h; rfl
    · rfl
    · rfl
    · simp at h; subst h; rfl
    · rename_i a b c a' b' c'
      simp only [Bool.and_eq_true, beq_iff_eq] at h
      obtain ⟨⟨h1, h2⟩, h3⟩ := h
      rw [h1, eqvL_ok b b' h2, eqvL_ok c c' h3]
    · rename_i t a t' a'
      simp only [Bool.and_eq_true, beq_iff_eq] at h
      rw [h.1, eqv_ok a a' h.2]
    · rename_i a a'
      rw [eqvL_ok a a' h]
    · rename_i a a'
      rw [eqvL_ok a a' h]
    · cases h
termination_by x => SizeOf.sizeOf x
theorem eqvL_ok : ∀ (x y : List AV), avEqvL x y = true → x = y
  | [], [], _ => rfl
  | x :: xs, y :: ys, h => by
    simp only [avEqvL, Bool.and_eq_true] at h
    rw [eqv_ok x y h.1, eqvL_ok xs ys h.2]
  | [], _ :: _, h => by simp [avEqvL] at h
  | _ :: _, [], h => by simp [avEqvL] at h
termination_by x => SizeOf.sizeOf x
end

/-! ### Slots that an operation does not look at -/
theorem X.ev_congr {x : X} {e e' : Env} (h : ∀ t ∈ x.use, e.get t = e'.get t) : x.ev e = x.ev e' := by
  cases x with
  | t n => exact h n (by simp [X.use])
  | c v => rfl

theorem map_congr' {xs : List X} {e e' : Env} (h : ∀ t ∈ xs.flatMap X.use, e.get t = e'.get t) : xs.map (·.ev e) = xs.map (·.ev e') :=
  List.map_congr_left fun x hx => X.ev_congr fun t ht => h t (List.mem_flatMap.2 ⟨x, hx, ht⟩)

theorem opt_congr {x : Option X} {e e' : Env} (h : ∀ t ∈ optUse x, e.get t = e'.get t) : x.map (·.ev e) = x.map (·.ev e') := by
  cases x with
  | none => rfl
  | some x => simp only [Option.map_some]; rw [X.ev_congr h]

theorem parts_congr {ps : List (Nat × Nat × X)} {e e' : Env} (h : ∀ t ∈ ps.flatMap (fun p => p.2.2.use), e.get t = e'.get t) : evParts e ps = evParts e' ps :=
  List.map_congr_left fun p hp => by rw [X.ev_congr fun t ht => h t (List.mem_flatMap.2 ⟨p, hp, ht⟩)]

theorem evIO_congr {io : IO'} {e e' : Env} (S : Mem) (h : ∀ t ∈ io.use, e.get t = e'.get t) : evIO e S io = evIO e' S io := by
  have two : ∀ {a b : List Nat}, (∀ t ∈ a ++ b, e.get t = e'.get t) → (∀ t ∈ a, e.get t = e'.get t) ∧ ∀ t ∈ b, e.get t = e'.get t :=
    fun h => ⟨fun t ht => h t (List.mem_append_left _ ht), fun t ht => h t (List.mem_append_right _ ht)⟩
  cases io <;> simp only [IO'.use] at h <;> simp only [evIO]
  case mv x => rw [X.ev_congr h]
  case box x => rw [X.ev_congr h]
  case load n x => rw [X.ev_congr h]
  case nilck x => rw [X.ev_congr h]
  case un op x => rw [X.ev_congr h]
  case toInt k x => rw [X.ev_congr h]
  case faddr o x => rw [X.ev_congr h]
  case fld o n x => rw [X.ev_congr h]
  case ext x k => rw [X.ev_congr h]
  case len k x => rw [X.ev_congr h]
  case same x => rw [X.ev_congr h]
  case toStr x => rw [X.ev_congr h]
  case toBytes x => rw [X.ev_congr h]
  case clear z x => rw [X.ev_congr h]
  case cap x => rw [X.ev_congr h]
  case mkno x => rw [X.ev_congr h]
  case rng x => rw [X.ev_congr h]
  case nxt x => rw [X.ev_congr h]
  case pick c a b =>
    obtain ⟨h1, h3⟩ := two h
    obtain ⟨h1, h2⟩ := two h1
    rw [X.ev_congr h1, X.ev_congr h2, X.ev_congr h3]
  case build z ps => rw [parts_congr h]
  case bslice z l ps => rw [parts_congr h]
  case store n x y => rw [X.ev_congr (two h).1, X.ev_congr (two h).2]
  case bin tk c op x y => rw [X.ev_congr (two h).1, X.ev_congr (two h).2]
  case iaddr a s x y => rw [X.ev_congr (two h).1, X.ev_congr (two h).2]
  case ixa a s m x y => rw [X.ev_congr (two h).1, X.ev_congr (two h).2]
  case ixs x y => rw [X.ev_congr (two h).1, X.ev_congr (two h).2]
  case ixbyte x y => rw [X.ev_congr (two h).1, X.ev_congr (two h).2]
  case ovl x y => rw [X.ev_congr (two h).1, X.ev_congr (two h).2]
  case mks z b x y => rw [X.ev_congr (two h).1, X.ev_congr (two h).2]
  case copy s x y => rw [X.ev_congr (two h).1, X.ev_congr (two h).2]
  case app s b x y => rw [X.ev_congr (two h).1, X.ev_congr (two h).2]
  case eqag n ks x y => rw [X.ev_congr (two h).1, X.ev_congr (two h).2]
  case appz z b x y => rw [X.ev_congr (two h).1, X.ev_congr (two h).2]
  case slice s x a b c =>
    obtain ⟨h1, h4⟩ := two h
    obtain ⟨h1, h3⟩ := two h1
    obtain ⟨h1, h2⟩ := two h1
    rw [X.ev_congr h1, opt_congr h2, opt_congr h3, opt_congr h4]
  case sla n s x a b c =>
    obtain ⟨h1, h4⟩ := two h
    obtain ⟨h1, h3⟩ := two h1
    obtain ⟨h1, h2⟩ := two h1
    rw [X.ev_congr h1, opt_congr h2, opt_congr h3, opt_congr h4]
  case sls x a b =>
    obtain ⟨h1, h3⟩ := two h
    obtain ⟨h1, h2⟩ := two h1
    rw [X.ev_congr h1, opt_congr h2, opt_congr h3]
  case mkf f a b => rw [map_congr' (two h).1, map_congr' (two h).2]
  case mm b xs => rw [map_congr' h]
  case mkmap hh => rw [opt_congr h]
  case mlook ag ks z ok x k => rw [X.ev_congr (two h).1, X.ev_congr (two h).2]
  case mentry ag ks z x k => rw [X.ev_congr (two h).1, X.ev_congr (two h).2]
  case mdel ag ks x k => rw [X.ev_congr (two h).1, X.ev_congr (two h).2]
  case mstore x y z =>
    obtain ⟨h1, h3⟩ := two h
    obtain ⟨h1, h2⟩ := two h1
    rw [X.ev_congr h1, X.ev_congr h2, X.ev_congr h3]
  case mupd ag ks x y z =>
    obtain ⟨h1, h3⟩ := two h
    obtain ⟨h1, h2⟩ := two h1
    rw [X.ev_congr h1, X.ev_congr h2, X.ev_congr h3]

theorem evOne_congr {O : Orc} {o : ROp} {e e' : Env} (S : Mem) (h : ∀ t ∈ o.use, e.get t = e'.get t) : evOne O e S o = evOne O e' S o := by
  obtain ⟨dst, g, io⟩ := o
  have h1 : ∀ t ∈ io.use, e.get t = e'.get t := fun t ht => h t (List.mem_append_left _ ht)
  have hw : wantV e g = wantV e' g := by
    cases g with
    | none => rfl
    | some tb =>
      obtain ⟨t, b⟩ := tb
      have := h t (List.mem_append_right _ (by simp))
      simp only [wantV, this]
  have ho : evOp O e S io = evOp O e' S io := by
    cases io with
    | op io => exact evIO_congr S h1
    | call f xs => simp only [IOp.use] at h1; simp only [evOp]; rw [map_congr' h1]
    | callv x xs =>
      simp only [IOp.use] at h1
      simp only [evOp]
      rw [X.ev_congr fun t ht => h1 t (List.mem_append_left _ ht), map_congr' fun t ht => h1 t (List.mem_append_right _ ht)]
  simp only [evOne, hw, ho]

/-! ### Slots -/
theorem get_put_same (e : Env) (t : Nat) (x : AV) : Env.get ((t, x) :: e) t = x := by simp [Env.get]
theorem get_put_ne (e : Env) {t k : Nat} (x : AV) (h : t ≠ k) : Env.get ((t, x) :: e) k = e.get k := by
  have hb : Nat.beq t k = false := by
    cases hb : Nat.beq t k with
    | false => rfl
    | true => exact absurd (Nat.eq_of_beq_eq_true hb) h
  simp [Env.get, hb]
theorem get_putE (e : Env) (d : Option Nat) (x : AV) (k : Nat) (h : d ≠ some k) : (putE e d x).get k = e.get k := by
  cases d with
  | none => rfl
  | some t => exact get_put_ne e x fun e => h (by rw [e])

theorem get_keepE_append (e r : Env) : ∀ (l : List Nat) (t : Nat), (keepE e l ++ r).get t = if t ∈ l then e.get t else r.get t
  | [], t => by simp [keepE]
  | k :: l, t => by
    have ih := get_keepE_append e r l t
    simp only [keepE] at ih
    simp only [keepE, List.map_cons, List.cons_append]
    by_cases hk : k = t
    · subst hk
      rw [get_put_same]; simp
    · rw [get_put_ne _ _ hk, ih]
      have : (t ∈ k :: l) = (t ∈ l) := by simp [Ne.symm hk]
      simp only [this]

theorem get_keepE (e : Env) (l : List Nat) (t : Nat) : (keepE e l).get t = if t ∈ l then e.get t else .u := by
  have := get_keepE_append e [] l t
  simpa [Env.get] using this

/-! ### The stages -/
theorem chkN_ok {O : Orc} {er ef : Env} {pre : List Noted} {o : ROp} {hi : Nat} : ∀ (fuel s : Nat), chkN O er ef pre o hi fuel s = true → ∀ t, s ≤ t → t ≤ hi → t < s + fuel →
    ∃ N x S', pre[t]? = some N ∧ evOne O er N.S o = some (x, S') ∧ ∀ d, o.dst = some d → x = ef.get d
  | 0, s, _, t, h1, _, h3 => by omega
  | fuel + 1, s, h, t, h1, h2, h3 => by
    rw [chkN, if_pos (by omega)] at h
    split at h
    · rename_i N hN
      simp only [Bool.and_eq_true] at h
      by_cases e : t = s
      · subst e
        have h := h.1
        split at h
        · rename_i x S' hx
          refine ⟨N, x, S', hN, hx, fun d hd => ?_⟩
          rw [hd] at h
          exact eqv_ok _ _ h
        · cases h
      · exact chkN_ok fuel (s + 1) h.2 t (by omega) h2 (by omega)
    · cases h

theorem likeOn_ok {e e' : Env} {l : List Nat} (h : likeOn e e' l = true) : ∀ t ∈ l, e.get t = e'.get t := fun t ht => eqv_ok _ _ (List.all_eq_true.1 h t ht)

/-- What is known of an operation that is carried out, or not, in a stage. -/
def OptF (O : Orc) (er ef : Env) (S S' : Mem) : Option ROp → Prop
  | none => S' = S
  | some o => ∃ x, evOne O er S o = some (x, S') ∧ ∀ d, o.dst = some d → x = ef.get d

theorem opt_fact {O : Orc} {er ef e e' : Env} {S S' : Mem} {o : Option ROp} (h : evOpt O o e S = some (e', S')) (hc : chkOpt er ef e e' o = true) : OptF O er ef S S' o := by
  cases o with
  | none =>
    simp only [evOpt, Option.some.injEq, Prod.mk.injEq] at h
    exact h.2.symm
  | some o =>
    simp only [evOpt] at h
    simp only [chkOpt, Bool.and_eq_true] at hc
    split at h
    · cases h
    · rename_i x S1 hx
      simp only [Option.some.injEq, Prod.mk.injEq] at h
      obtain ⟨h1, h2⟩ := h
      subst h2
      rw [evOne_congr S (likeOn_ok hc.1)] at hx
      refine ⟨x, hx, fun d hd => ?_⟩
      have := likeOn_ok hc.2 d (by simp [dstL, hd])
      rw [← this, ← h1, hd]
      exact (get_put_same e d x).symm

theorem opt_env {O : Orc} {e e' : Env} {S S' : Mem} {o : Option ROp} (h : evOpt O o e S = some (e', S')) (t : Nat) (ht : ∀ x, o = some x → x.dst ≠ some t) : e'.get t = e.get t := by
  cases o with
  | none => simp only [evOpt, Option.some.injEq, Prod.mk.injEq] at h; rw [← h.1]
  | some o =>
    simp only [evOpt] at h
    split at h
    · cases h
    · simp only [Option.some.injEq, Prod.mk.injEq] at h
      rw [← h.1]
      exact get_putE _ _ _ _ (ht o rfl)

theorem ns_env {O : Orc} {S : Mem} : ∀ (l : List (ROp × Nat)) (e e' : Env), evNs O l e S = some e' → ∀ t, (∀ q ∈ l, q.1.dst ≠ some t) → e'.get t = e.get t
  | [], e, e', h, t, _ => by simp only [evNs, Option.some.injEq] at h; rw [h]
  | (o, hi) :: l, e, e', h, t, ht => by
    simp only [evNs] at h
    split at h
    · cases h
    · rw [ns_env l _ _ h t fun q hq => ht q (by simp [hq])]
      exact get_putE _ _ _ _ (ht (o, hi) (by simp))

structure StF (O : Orc) (er ef : Env) (full : List Noted) (Sf : Mem) (st : List Stage) (pre : List Noted) (s0 s : Nat) (g : Stage) : Prop where
  out : ∃ N S2 S3, pre[s]? = some N ∧ (∀ q ∈ g.ns, chkN O er ef full q.1 q.2 (q.2 + 1) (s0 + s) = true) ∧ OptF O er ef N.S S2 g.a ∧ OptF O er ef S2 S3 g.m ∧
    (s + 1 < st.length → ∃ N', pre[s + 1]? = some N' ∧ N'.S = S3) ∧ (s + 1 = st.length → S3 = Sf)

theorem stages_ok {O : Orc} {er ef : Env} {full : List Noted} {Sf : Mem} : ∀ (st : List Stage) (e : Env) (S : Mem) (pre : List Noted) (s0 : Nat), evStages O st e S = some (ef, Sf, pre) → chkStages O er ef full st pre s0 = true →
    pre.length = st.length ∧ (∀ s g, st[s]? = some g → StF O er ef full Sf st pre s0 s g) ∧ (∀ N, pre[0]? = some N → N.S = S) ∧
      ∀ t, (∀ g ∈ st, (∀ q ∈ g.ns, q.1.dst ≠ some t) ∧ (∀ x, g.a = some x → x.dst ≠ some t) ∧ ∀ x, g.m = some x → x.dst ≠ some t) → ef.get t = e.get t
  | [], e, S, pre, s0, h, _ => by
    simp only [evStages, Option.some.injEq, Prod.mk.injEq] at h
    obtain ⟨rfl, rfl, rfl⟩ := h
    exact ⟨rfl, fun s g hg => by simp at hg, fun N hN => by simp at hN, fun t _ => rfl⟩
  | g :: st, e, S, pre, s0, h, hc => by
    simp only [evStages] at h
    split at h
    · cases h
    · rename_i e1 h1
      split at h
      · cases h
      · rename_i e2 S2 h2
        split at h
        · cases h
        · rename_i e3 S3 h3
          split at h
          · cases h
          · rename_i ef' Sf' pre' h4
            simp only [Option.some.injEq, Prod.mk.injEq] at h
            obtain ⟨rfl, rfl, rfl⟩ := h
            simp only [chkStages, Bool.and_eq_true, List.all_eq_true] at hc
            obtain ⟨⟨⟨c1, c2⟩, c3⟩, c4⟩ := hc
            obtain ⟨q1, q2, q3, q4⟩ := stages_ok st e3 S3 pre' (s0 + 1) h4 c4
            refine ⟨by simp [q1], fun s g' hg' => ?_, fun N hN => ?_, fun t ht => ?_⟩
            · cases s with
              | zero =>
                simp only [List.getElem?_cons_zero, Option.some.injEq] at hg'
                subst hg'
                refine ⟨⟨S, e1, e2, e3⟩, S2, S3, by simp, fun q hq => c1 q hq, opt_fact h2 c2, opt_fact h3 c3, fun hl => ?_, fun hl => ?_⟩
                · have hlt : 0 < pre'.length := by rw [q1]; simp only [List.length_cons] at hl; omega
                  exact ⟨pre'[0], by simp [hlt], q3 _ (by simp [hlt])⟩
                · have : st = [] := by
                    apply List.length_eq_zero_iff.1
                    simp only [List.length_cons] at hl; omega
                  subst this
                  simp only [evStages, Option.some.injEq, Prod.mk.injEq] at h4
                  exact h4.2.1
              | succ s =>
                simp only [List.getElem?_cons_succ] at hg'
                obtain ⟨N, S2', S3', r1, r2, r3, r4, r5, r6⟩ := (q2 s g' hg').out
                refine ⟨N, S2', S3', by simpa using r1, fun q hq => ?_, r3, r4, fun hl => by simpa using r5 (by simp only [List.length_cons] at hl; omega), fun hl => r6 (by simp only [List.length_cons] at hl; omega)⟩
                have := r2 q hq
                rwa [show s0 + 1 + s = s0 + (s + 1) by omega] at this
            · simp only [List.getElem?_cons_zero, Option.some.injEq] at hN
              subst hN; rfl
            · rw [q4 t fun g' hg' => ht g' (by simp [hg'])]
              obtain ⟨t1, t2, t3⟩ := ht g (by simp)
              rw [opt_env h3 t t3, opt_env h2 t t2, ns_env _ _ _ h1 t t1]

/-! ### What turns no memory -/
theorem still_ok {e : Env} {S S' : Mem} {io : IO'} {x : AV} (hs : io.still = true) (h : evIO e S io = some (x, S')) : S' = S := by
  cases io <;> simp only [IO'.still] at hs <;> (first | cases hs | skip) <;> simp only [evIO] at h <;>
    first
      | (simp only [Option.some.injEq, Prod.mk.injEq] at h; exact h.2.symm)
      | ((repeat' split at h) <;> first | (simp only [Option.some.injEq, Prod.mk.injEq] at h; exact h.2.symm) | cases h)

theorem still_one {O : Orc} {e : Env} {S S' : Mem} {o : ROp} {x : AV} (hs : o.io.still = true) (h : evOne O e S o = some (x, S')) : S' = S := by
  unfold evOne at h
  split at h
  · cases h
  · simp only [Option.some.injEq, Prod.mk.injEq] at h; exact h.2.symm
  · cases hio : o.io with
    | op io => rw [hio] at hs h; exact still_ok hs h
    | call f xs => rw [hio] at hs; simp [IOp.still] at hs
    | callv x xs => rw [hio] at hs; simp [IOp.still] at hs
end Go.Proofs.YtmocapahlcaapaaGreatDoor

namespace Go.Proofs.YtmocapahlcaapaaGreatDoor
set_option linter.unusedSimpArgs false
set_option linter.unusedVariables false
open Go.RowKit

section
variable {P : Program} {base : Bs} {w0 : World} {K : Ctx} {S : Mem} {w : World}

/-- The value of a new row that lies in block b, number n of the abstract memory. -/
def NewV (x : AV) (v : Value) (b n : Nat) : Prop :=
  (x = .p n 0 0 ∧ v = .pointer (some ⟨b, 0, none⟩)) ∨ ∃ l, x = .sl n 0 0 l l true ∧ v = .slice (some ⟨b, 0, none⟩) l l

theorem early_ok {nt : Nat} {e : Env} {a : Act} (hr : ER K S nt e a) {o : Oper} {io : IO'} {x : AV} {S1 S2 : Mem} (hc : compOp P o.op = some io) (hl : io.laying = true) (hv : evIO e S1 io = some (x, S2)) :
    ∃ (cs : List AV) (arr : Array Value) (et : TypeId) (v : Value), S2 = S1 ++ [.cells cs 0 none true] ∧ RowR K S cs arr ∧ (execOp a.eval o).run P w = .ok (.value v) (w.alloc (.cells arr et)) ∧ NewV x v w.heap.size S1.length := by
  obtain ⟨dst, op, ty, pos, aft, grd⟩ := o
  cases op
  case alloc t =>
    obtain ⟨z, hz, rfl⟩ := Option.map_eq_some_iff.1 hc
    simp only [evIO, Option.some.injEq, Prod.mk.injEq] at hv
    obtain ⟨rfl, rfl⟩ := hv
    obtain ⟨i, v, hi, hz2, hz3⟩ := zeroOf_row hz
    refine ⟨z, v.cells, t, .pointer (some ⟨w.heap.size, 0, none⟩), rfl, hz3 K S, ?_, .inl ⟨rfl, rfl⟩⟩
    simp [execOp, Instr.alloc, run_zeroValue' hi hz2, newVar, newRow]
  case buildSlice t len ps =>
    simp only [compOp] at hc
    split at hc
    · rename_i el hu
      split at hc
      · rename_i z i hz hi
        split at hc
        · rename_i hcond
          obtain ⟨r, hp, rfl⟩ := Option.map_eq_some_iff.1 hc
          simp only [evIO] at hv
          split at hv
          · rename_i rr hf
            simp only [Option.some.injEq, Prod.mk.injEq] at hv
            obtain ⟨rfl, rfl⟩ := hv
            obtain ⟨q1, q2⟩ := compParts_ok (K := K) (S := S) hr hp
            obtain ⟨hc1, hc2⟩ := hcond
            simp only [execOp]
            generalize hvs : Array.map _ ps = vs
            have e1 : vs.toList = evPs a ps.toList := by rw [← hvs]; simp [evPs]
            have e2 : (evParts e r).length = vs.size := by rw [← hvs]; simpa using q1
            obtain ⟨c', hR, hrun⟩ := run_bslice (w := w) (K := K) (S := S) hu hz hi hc1 hc2 e2 (fun k hk hk' => by
              have := q2 k hk (by rw [← e1]; exact hk')
              simp only [e1]; exact ⟨Option.some.inj this.1, this.2⟩) hf
            exact ⟨rr, c', el, _, rfl, hR, hrun, .inr ⟨len, rfl, rfl⟩⟩
          · cases hv
        · cases hc
      · cases hc
    · cases hc
  all_goals (simp only [compOp] at hc; exfalso; (repeat' split at hc) <;> first | (cases hc; done) | (injection hc with hc; subst hc; cases hl; done) | (obtain ⟨y, hy, rfl⟩ := Option.map_eq_some_iff.1 hc; cases hl; done) | skip)
  all_goals (first | unfold compBuiltin at hc | unfold compExtern at hc); all_goals ((repeat' split at hc) <;> first | (cases hc; done) | (injection hc with hc; subst hc; cases hl; done) | (obtain ⟨y, hy, rfl⟩ := Option.map_eq_some_iff.1 hc; cases hl; done))

/-- An early row is taken into the abstract memory. -/
theorem Sim.adopt (h : Sim base w0 K S w) {b : Nat} {cs : List AV} {arr : Array Value} {et : TypeId} (hb : base ≤ b) (hh : w.heap[b]? = some (.cells arr et)) (hf : ∀ q, q < S.length → K.μ q ≠ b) (hR : RowR K S cs arr) :
    Sim base w0 (K.put S.length b arr.size) (S ++ [.cells cs 0 none true]) w ∧ Ext K S (K.put S.length b arr.size) (S ++ [.cells cs 0 none true]) := by
  have hE : Ext K S (K.put S.length b arr.size) (S ++ [.cells cs 0 none true]) := Ext.push K S _ _ _
  have hp := K.put_same S.length b arr.size
  refine ⟨⟨fun i B hB => ?_, fun i j hi hj e => ?_, h.below, h.hb, h.door⟩, hE⟩
  · rcases Nat.lt_or_ge i S.length with hi | hi
    · rw [List.getElem?_append_left hi] at hB
      have hq := K.put_other b arr.size (show i ≠ S.length by omega)
      exact (h.blk i B hB).mono hE hq.1 hq.2 rfl
    · have : i = S.length := by
        have := (List.getElem?_eq_some_iff.1 hB).1
        simp at this; omega
      subst this
      simp at hB
      subst hB
      exact ⟨arr, et, (0, 0), by rw [hp.1]; exact hh, by rw [hp.2], by rw [hR.1]; exact Nat.le_refl _, fun _ => hR.1.symm, fun k _ => (hR.2 k).mono hE, fun _ => ⟨by rw [hp.1]; exact hb, fun o _ => by simp⟩⟩
  · simp only [List.length_append, List.length_singleton] at hi hj
    rcases Nat.lt_or_ge i S.length with hi' | hi' <;> rcases Nat.lt_or_ge j S.length with hj' | hj'
    · rw [(K.put_other _ _ (by omega)).1, (K.put_other _ _ (by omega)).1] at e
      exact h.inj i j hi' hj' e
    · have : j = S.length := by omega
      subst this
      rw [(K.put_other _ _ (by omega)).1, hp.1] at e
      exact absurd e (hf i hi')
    · have : i = S.length := by omega
      subst this
      rw [(K.put_other _ _ (show j ≠ S.length by omega)).1, hp.1] at e
      exact absurd e.symm (hf j hj')
    · omega

theorem NewV.vr {x : AV} {v : Value} {b n : Nat} {cs : List AV} (h : NewV x v b S.length) : VR (K.put S.length b n) (S ++ [.cells cs 0 none true]) x v := by
  have hp := K.put_same S.length b n
  rcases h with ⟨rfl, rfl⟩ | ⟨l, rfl, rfl⟩
  · exact .p _ _ _ _ _ (new_at S _) (Nat.le_refl _) fun _ => by rw [hp.1]
  · exact .sl _ _ _ _ _ _ _ _ _ (new_at S _) (Nat.le_refl _) (Nat.le_refl _) (Nat.le_refl _) (fun _ => rfl) fun _ => ⟨by rw [hp.1], fun e => by cases e⟩
end

/-! ### What a plan says -/
def dflt : ROp := ⟨none, none, .op .bad⟩

structure PF (ops : List Oper) (rs : List ROp) (nt : Nat) (p : Plan) : Prop where
  dlt : ∀ i, i < rs.length → ∀ d ∈ directs (ops.getD i default), d < i
  anc : ∀ i, i < rs.length → ∀ j, p.isAnc i j = true → ∃ d ∈ directs (ops.getD i default), d = j ∨ p.isAnc d j = true
  ms : ∀ j, j < p.ms.length → p.ms.getD j 0 < rs.length ∧ p.cls.getD (p.ms.getD j 0) (.m rs.length) = .m j ∧ ∀ j', j' < j → p.isAnc (p.ms.getD j 0) (p.ms.getD j' 0) = true
  n : ∀ i, i < rs.length → ∀ lo hi, p.cls.getD i (.m rs.length) = .n lo hi → lo ≤ hi ∧ hi ≤ p.ms.length ∧ (lo = 0 ∨ p.isAnc i (p.ms.getD (lo - 1) 0) = true) ∧ (hi = p.ms.length ∨ p.isAnc (p.ms.getD hi 0) i = true) ∧ (rs.getD i dflt).io.still = true
  a : ∀ i, i < rs.length → ∀ c, p.cls.getD i (.m rs.length) = .a c → c ≤ p.ms.length ∧ (c = p.ms.length ∨ p.isAnc (p.ms.getD c 0) i = true) ∧ (rs.getD i dflt).io.laying = true ∧ (rs.getD i dflt).guard = none ∧ (∃ d, (rs.getD i dflt).dst = some d) ∧
    ∀ i', i' < rs.length → p.cls.getD i' (.m rs.length) = .a c → i' = i
  m : ∀ i, i < rs.length → ∀ j, p.cls.getD i (.m rs.length) = .m j → p.ms[j]? = some i
  late : ∀ i ∈ p.late, i < rs.length ∧ ∀ j, j < rs.length → p.isAnc j i = false
  use : ∀ i, i < rs.length → ∀ t ∈ (rs.getD i dflt).use, t < nt ∧ ∀ j, j < rs.length → (rs.getD j dflt).dst = some t → (j ∈ p.late ∧ p.isAnc j i = true) ∨
    (j ∉ p.late ∧ p.isAnc i j = true ∧ ∀ c, p.cls.getD j (.m rs.length) = .a c → ∃ jm, p.cls.getD i (.m rs.length) = .m jm ∧ c ≤ jm)
  dst : ∀ i, i < rs.length → ∀ t, (rs.getD i dflt).dst = some t → t < nt ∧ ∀ j, j < rs.length → (rs.getD j dflt).dst = some t → j = i

theorem dst_mem {r : ROp} {t : Nat} : t ∈ dstL r ↔ r.dst = some t := by
  unfold dstL
  cases r.dst with
  | none => simp
  | some d => simp [eq_comm]

theorem planOk_facts {ops : List Oper} {rs : List ROp} {nt : Nat} {p : Plan} (h : planOk ops rs nt p = true) : PF ops rs nt p := by
  unfold planOk at h
  simp only [Bool.and_eq_true, List.all_eq_true, List.mem_range] at h
  obtain ⟨⟨⟨⟨⟨⟨h1, h2⟩, h3⟩, h4⟩, h5⟩, h6⟩, h7⟩ := h
  refine ⟨fun i hi d hd => by simpa using h1 i hi d hd, fun i hi j hj => ?_, fun j hj => ?_, fun i hi lo hi' hc => ?_, fun i hi c hc => ?_, fun i hi j hc => ?_, fun i hi => ?_, fun i hi t ht => ?_, fun i hi t ht => ?_⟩
  · have := h2 i hi j (by unfold Plan.isAnc at hj; simpa using hj)
    simp only [List.any_eq_true, Bool.or_eq_true, beq_iff_eq] at this
    exact this
  · have := h3 j hj
    obtain ⟨⟨q1, q2⟩, q3⟩ := this
    refine ⟨by simpa using q1, ?_, fun j' hj' => q3 j' hj'⟩
    split at q2
    · rename_i j' hj'
      simp only [beq_iff_eq] at q2
      rw [q2] at hj'; exact hj'
    · cases q2
  · have := h4 i hi
    rw [hc] at this
    simp only [Bool.and_eq_true, Bool.or_eq_true, beq_iff_eq, decide_eq_true_eq] at this
    obtain ⟨⟨⟨⟨q1, q2⟩, q3⟩, q4⟩, q5⟩ := this
    exact ⟨q1, q2, q3, q4, q5⟩
  · have := h4 i hi
    rw [hc] at this
    simp only [Bool.and_eq_true, Bool.or_eq_true, beq_iff_eq, decide_eq_true_eq, List.all_eq_true, List.mem_range, Option.isNone_iff_eq_none] at this
    obtain ⟨⟨⟨⟨⟨q1, q2⟩, q3⟩, q4⟩, q5⟩, q6⟩ := this
    refine ⟨q1, q2, q3, q4, Option.isSome_iff_exists.1 q5, fun i' hi' hc' => ?_⟩
    have := q6 i' hi'
    rw [hc'] at this
    simpa using this
  · have := h4 i hi
    rw [hc] at this
    simpa using this
  · have := h5 i hi
    simp only [decide_eq_true_eq] at this
    refine ⟨this.1, fun j hj => by simpa using this.2 j hj⟩
  · have := h6 i hi t ht
    simp only [decide_eq_true_eq] at this
    refine ⟨this.1, fun j hj hd => ?_⟩
    have q := this.2 j hj
    simp only [Bool.or_eq_true, Bool.and_eq_true, Bool.not_eq_true', List.contains_eq_mem, decide_eq_true_eq, decide_eq_false_iff_not] at q
    rcases q with (q | q) | q
    · exact absurd (dst_mem.2 hd) q
    · exact .inl q
    · refine .inr ⟨q.1.1, q.1.2, fun c hc => ?_⟩
      have q2 := q.2
      rw [hc] at q2
      split at q2
      · rename_i c' jm e1 e2
        injection e1 with e1; subst e1
        exact ⟨jm, e2, by simpa using q2⟩
      · cases q2
      · rename_i hna _
        exact absurd rfl (hna c)
  · have := h7 i hi t (dst_mem.2 ht)
    simp only [decide_eq_true_eq] at this
    refine ⟨this.1, fun j hj hd => ?_⟩
    have q := this.2 j hj
    simp only [Bool.or_eq_true, beq_iff_eq, Bool.not_eq_true', List.contains_eq_mem, decide_eq_false_iff_not] at q
    rcases q with q | q
    · exact q
    · exact absurd (dst_mem.2 hd) q
end Go.Proofs.YtmocapahlcaapaaGreatDoor

namespace Go.Proofs.YtmocapahlcaapaaGreatDoor
set_option linter.unusedSimpArgs false
set_option linter.unusedVariables false
open Go.RowKit

/-- What is known of the stages. -/
structure DF (O : Orc) (er ef : Env) (e : Env) (S Sf : Mem) (rs : List ROp) (p : Plan) (Sp S2 : Nat → Mem) : Prop where
  zero : Sp 0 = S
  n : ∀ i, i < rs.length → ∀ lo hi, p.cls.getD i (.m rs.length) = .n lo hi → ∀ s, lo ≤ s → s ≤ hi → ∃ x, evOne O er (Sp s) (rs.getD i dflt) = some (x, Sp s) ∧ ∀ d, (rs.getD i dflt).dst = some d → x = ef.get d
  a : ∀ i, i < rs.length → ∀ c, p.cls.getD i (.m rs.length) = .a c → ∃ x, evOne O er (Sp c) (rs.getD i dflt) = some (x, S2 c) ∧ ∀ d, (rs.getD i dflt).dst = some d → x = ef.get d
  na : ∀ s, s ≤ p.ms.length → (∀ i, i < rs.length → p.cls.getD i (.m rs.length) ≠ .a s) → S2 s = Sp s
  m : ∀ s, s < p.ms.length → ∃ x, evOne O er (S2 s) (rs.getD (p.ms.getD s 0) dflt) = some (x, Sp (s + 1)) ∧ ∀ d, (rs.getD (p.ms.getD s 0) dflt).dst = some d → x = ef.get d
  last : S2 p.ms.length = Sf
  env : ∀ t, (∀ i, i < rs.length → (rs.getD i dflt).dst ≠ some t) → ef.get t = e.get t

theorem getD_of_lt {rs : List ROp} {i : Nat} (h : i < rs.length) : rs[i]? = some (rs.getD i dflt) := by
  simp [List.getD_eq_getElem?_getD, h]

theorem stage_at {rs : List ROp} {p : Plan} {s : Nat} (hs : s ≤ p.ms.length) : ∃ g, (stagesOf rs p)[s]? = some g ∧
    (∀ i, i < rs.length → ∀ lo hi, p.cls.getD i (.m rs.length) = .n lo hi → lo = s → (rs.getD i dflt, hi) ∈ g.ns) ∧
    g.a = aAt rs p s ∧
    g.m = mAt rs p s ∧
    (∀ q ∈ g.ns, ∃ i, i < rs.length ∧ q.1 = rs.getD i dflt) := by
  have hlt : s < p.ms.length + 1 := by omega
  refine ⟨⟨nsAt rs p s, aAt rs p s, mAt rs p s⟩, by simp only [stagesOf, List.getElem?_map, List.getElem?_range hlt, Option.map_some], fun i hi lo hi' hc hl => ?_, rfl, rfl, fun q hq => ?_⟩
  · simp only [nsAt, List.mem_filterMap, List.mem_range]
    refine ⟨i, hi, ?_⟩
    rw [hc, getD_of_lt hi]
    simp [hl]
  · simp only [nsAt, List.mem_filterMap, List.mem_range] at hq
    obtain ⟨i, hi, hq⟩ := hq
    refine ⟨i, hi, ?_⟩
    rw [getD_of_lt hi] at hq
    split at hq
    · rename_i lo hi' r _ hr
      split at hq
      · injection hr with hr
        injection hq with hq
        rw [← hq, ← hr]
      · cases hq
    · cases hq

theorem findSome_of {rs : List ROp} {p : Plan} {s i : Nat} (hi : i < rs.length) (hc : p.cls.getD i (.m rs.length) = .a s) (hu : ∀ i', i' < rs.length → p.cls.getD i' (.m rs.length) = .a s → i' = i) :
    (aAt rs p s) = some (rs.getD i dflt) := by
  generalize hF : aAt rs p s = F
  unfold aAt at hF
  cases F with
  | none =>
    rw [List.findSome?_eq_none_iff] at hF
    have := hF i (List.mem_range.2 hi)
    rw [hc, getD_of_lt hi] at this
    simp at this
  | some r =>
    obtain ⟨i', hi', hr⟩ := List.exists_of_findSome?_eq_some hF
    have hi' := List.mem_range.1 hi'
    rw [getD_of_lt hi'] at hr
    split at hr
    · rename_i c r' h1 h2
      split at hr
      · rename_i hcs
        simp only [beq_iff_eq] at hcs
        subst hcs
        obtain rfl := hu i' hi' h1
        rw [h2]; exact hr.symm
      · cases hr
    · cases hr

theorem findSome_none {rs : List ROp} {p : Plan} {s : Nat} (hu : ∀ i', i' < rs.length → p.cls.getD i' (.m rs.length) ≠ .a s) :
    aAt rs p s = none := by
  unfold aAt
  rw [List.findSome?_eq_none_iff]
  intro i hi
  have hi := List.mem_range.1 hi
  split
  · rename_i c r h1 h2
    split
    · rename_i hcs
      simp only [beq_iff_eq] at hcs
      subst hcs
      exact absurd h1 (hu i hi)
    · rfl
  · rfl

theorem findSome_mem {rs : List ROp} {p : Plan} {s : Nat} {r : ROp} (h : (aAt rs p s) = some r) :
    ∃ i, i < rs.length ∧ r = rs.getD i dflt := by
  unfold aAt at h
  obtain ⟨i', hi', hr⟩ := List.exists_of_findSome?_eq_some h
  have hi' := List.mem_range.1 hi'
  refine ⟨i', hi', ?_⟩
  rw [getD_of_lt hi'] at hr
  split at hr
  · rename_i c r' h1 h2
    split at hr
    · injection h2 with h2; injection hr with hr; rw [← hr, ← h2]
    · cases hr
  · cases hr

theorem df_of {O : Orc} {ops : List Oper} {rs : List ROp} {nt : Nat} {p : Plan} {e ef : Env} {S Sf : Mem} {pre : List Noted} (hp : PF ops rs nt p) (er : Env)
    (hv : evStages O (stagesOf rs p) e S = some (ef, Sf, pre)) (hc : chkStages O er ef pre (stagesOf rs p) pre 0 = true) : ∃ Sp S2, DF O er ef e S Sf rs p Sp S2 := by
  obtain ⟨hlen, hst, hz, henv⟩ := stages_ok _ e S pre 0 hv hc
  have hl : (stagesOf rs p).length = p.ms.length + 1 := by simp [stagesOf]
  have key : ∀ s, ∃ q : Mem × Mem, ∀ g, (stagesOf rs p)[s]? = some g → ∃ N S3, pre[s]? = some N ∧ N.S = q.1 ∧ (∀ q ∈ g.ns, chkN O er ef pre q.1 q.2 (q.2 + 1) s = true) ∧ OptF O er ef q.1 q.2 g.a ∧ OptF O er ef q.2 S3 g.m ∧
      (s + 1 < (stagesOf rs p).length → ∃ N', pre[s + 1]? = some N' ∧ N'.S = S3) ∧ (s + 1 = (stagesOf rs p).length → S3 = Sf) := by
    intro s
    cases hg : (stagesOf rs p)[s]? with
    | none => exact ⟨([], []), fun g hg' => by cases hg'⟩
    | some g =>
      obtain ⟨N, S2, S3, h1, h2, h3, h4, h5, h6⟩ := (hst s g hg).out
      exact ⟨(N.S, S2), fun g' hg' => by
        injection hg' with hg'; subst hg'
        exact ⟨N, S3, h1, rfl, by simpa using h2, h3, h4, h5, h6⟩⟩
  obtain ⟨Q, hQ⟩ := Classical.axiomOfChoice key
  have hN : ∀ s N, s ≤ p.ms.length → pre[s]? = some N → N.S = (Q s).1 := by
    intro s N hs hN
    obtain ⟨g, hg, _⟩ := stage_at (rs := rs) hs
    obtain ⟨N', _, h1, h2, _⟩ := hQ s g hg
    rw [hN] at h1; injection h1 with h1; rw [h1]; exact h2
  refine ⟨fun s => (Q s).1, fun s => (Q s).2, ⟨?_, fun i hi lo hi' hcl s h1 h2 => ?_, fun i hi c hcl => ?_, fun s hs hna => ?_, fun s hs => ?_, ?_, fun t ht => ?_⟩⟩
  · obtain ⟨g, hg, _⟩ := stage_at (rs := rs) (p := p) (Nat.zero_le _)
    obtain ⟨N', _, h1, h2, _⟩ := hQ 0 g hg
    rw [← h2]; exact hz _ h1
  · obtain ⟨q1, q2, _, _, q5⟩ := hp.n i hi lo hi' hcl
    obtain ⟨g, hg, hm, _⟩ := stage_at (rs := rs) (p := p) (s := lo) (by omega)
    obtain ⟨N', _, _, _, h3, _⟩ := hQ lo g hg
    obtain ⟨N, x, S', r1, r2, r3⟩ := chkN_ok _ _ (h3 _ (hm i hi lo hi' hcl rfl)) s h1 h2 (by omega)
    rw [hN s N (by omega) r1] at r2
    obtain rfl := still_one q5 r2
    exact ⟨x, r2, r3⟩
  · obtain ⟨q1, q2, q3, q4, q5, q6⟩ := hp.a i hi c hcl
    obtain ⟨g, hg, _, ha, _⟩ := stage_at (rs := rs) (p := p) (s := c) q1
    obtain ⟨N', _, _, _, _, h4, _⟩ := hQ c g hg
    rw [ha, findSome_of hi hcl q6] at h4
    exact h4
  · obtain ⟨g, hg, _, ha, _⟩ := stage_at (rs := rs) (p := p) hs
    obtain ⟨N', _, _, _, _, h4, _⟩ := hQ s g hg
    rw [ha, findSome_none hna] at h4
    exact h4
  · obtain ⟨g, hg, _, _, hm, _⟩ := stage_at (rs := rs) (p := p) (Nat.le_of_lt hs)
    obtain ⟨N', S3, _, _, _, _, h5, h6, _⟩ := hQ s g hg
    obtain ⟨N2, h7, h8⟩ := h6 (by rw [hl]; omega)
    have hmi := hp.ms s hs
    have e1 : p.ms[s]? = some (p.ms.getD s 0) := by simp [List.getD_eq_getElem?_getD, hs]
    rw [hm, mAt, e1] at h5
    simp only [getD_of_lt hmi.1] at h5
    rw [hN (s + 1) N2 (by omega) h7] at h8
    rw [h8]; exact h5
  · obtain ⟨g, hg, _, _, hm, _⟩ := stage_at (rs := rs) (p := p) (Nat.le_refl _)
    obtain ⟨N', S3, _, _, _, _, h5, _, h7⟩ := hQ _ g hg
    have e1 : p.ms[p.ms.length]? = none := by simp
    rw [hm, mAt, e1] at h5
    simp only [OptF] at h5
    rw [← h7 (by rw [hl]), h5]
  · refine henv t fun g hg => ?_
    obtain ⟨s, hs, hgs⟩ := List.mem_iff_getElem.1 hg
    rw [hl] at hs
    obtain ⟨g', hg', _, ha, hm, hns⟩ := stage_at (rs := rs) (p := p) (s := s) (by omega)
    have : g' = g := by
      have h2 : (stagesOf rs p)[s]? = some g := by rw [← hgs]; exact List.getElem?_eq_getElem _
      rw [hg'] at h2; injection h2
    subst this
    refine ⟨fun q hq => ?_, fun x hx => ?_, fun x hx => ?_⟩
    · obtain ⟨i, hi, e⟩ := hns q hq
      rw [e]; exact ht i hi
    · rw [ha] at hx
      obtain ⟨i, hi, e⟩ := findSome_mem hx
      rw [e]; exact ht i hi
    · rw [hm, mAt] at hx
      split at hx
      · rename_i i hmi
        obtain ⟨hi, e⟩ := List.getElem?_eq_some_iff.1 hx
        have : x = rs.getD i dflt := by rw [List.getD_eq_getElem?_getD, hx]; rfl
        rw [this]; exact ht i hi
      · cases hx
end Go.Proofs.YtmocapahlcaapaaGreatDoor

namespace Go.Proofs.YtmocapahlcaapaaGreatDoor
set_option linter.unusedSimpArgs false
set_option linter.unusedVariables false
open Go.RowKit

section
variable {P : Program} {base : Bs} {w0 : World} {O : Orc} {ops : Array Oper} {rs : List ROp} {nt : Nat} {p : Plan} {ef e : Env} {Sp S2 : Nat → Mem} {S Sf : Mem} {K0 : Ctx} {wS : World} {dd : List Deferred}

/-- A new row that was laid ahead of its stage. -/
structure Pend (nt : Nat) (ef : Env) (wS : World) (Sc S2c : Mem) (r : ROp) (K : Ctx) (Ss : Mem) (a : Act) (w : World) (b : Nat) : Prop where
  out : ∃ (cs : List AV) (arr : Array Value) (et : TypeId) (t : Nat), S2c = Sc ++ [.cells cs 0 none true] ∧ RowR K Ss cs arr ∧ w.heap[b]? = some (.cells arr et) ∧ r.dst = some t ∧ NewV (ef.get t) (a.tmps.getD t undef) b Sc.length
  lo : wS.heap.size ≤ b
  fresh : ∀ q, q < Ss.length → K.μ q ≠ b

/-- A state on the way: s of the operations that may turn memory are done. -/
structure TS (base : Bs) (w0 : World) (rs : List ROp) (nt : Nat) (p : Plan) (ef e : Env) (Sp S2 : Nat → Mem) (S : Mem) (K0 : Ctx) (wS : World) (dd : List Deferred) (s : Nat) (L : Array Bool) (a : Act) (w : World) (K : Ctx) (β : Nat → Nat) : Prop where
  hs : s ≤ p.ms.length
  sz : L.size = rs.length
  msL : ∀ j, j < p.ms.length → (L.getD (p.ms.getD j 0) false = true ↔ j < s)
  down : ∀ i j, i < rs.length → L.getD i false = true → p.isAnc i j = true → L.getD j false = true
  sim : Sim base w0 K (Sp s) w
  stp : Stp K0 S wS K (Sp s) w
  tsz : a.tmps.size = nt
  dfr : a.defers = dd
  old : ∀ t, (∀ i, i < rs.length → L.getD i false = true → (rs.getD i dflt).dst ≠ some t) → VR K (Sp s) (e.get t) (a.tmps.getD t undef)
  new : ∀ i, i < rs.length → L.getD i false = true → (∀ c, p.cls.getD i (.m rs.length) = .a c → c < s) → ∀ t, (rs.getD i dflt).dst = some t → VR K (Sp s) (ef.get t) (a.tmps.getD t undef)
  pend : ∀ i, i < rs.length → L.getD i false = true → ∀ c, p.cls.getD i (.m rs.length) = .a c → s ≤ c → Pend nt ef wS (Sp c) (S2 c) (rs.getD i dflt) K (Sp s) a w (β i)
  dist : ∀ i i' c c', i < rs.length → i' < rs.length → L.getD i false = true → L.getD i' false = true → p.cls.getD i (.m rs.length) = .a c → p.cls.getD i' (.m rs.length) = .a c' → s ≤ c → s ≤ c' → β i = β i' → i = i'

theorem getD_set (L : Array Bool) (i j : Nat) (hi : i < L.size) : (L.setIfInBounds i true).getD j false = if j = i then true else L.getD j false := by
  simp only [Array.getD_eq_getD_getElem?, Array.getElem?_setIfInBounds]
  by_cases h : i = j
  · subst h; simp [hi]
  · simp [h, Ne.symm h]

theorem tmps_put_ne (a : Act) (d : Option Tmp) (v : Value) (t : Nat) (h : d ≠ some t) : (a.put d v).tmps.getD t undef = a.tmps.getD t undef := by
  cases d with
  | none => rfl
  | some k =>
    have hk : k ≠ t := fun e => h (by rw [e])
    simp only [Act.put, Array.getD_eq_getD_getElem?, Array.getElem?_setIfInBounds_ne hk]

theorem tmps_put_same (a : Act) (t : Nat) (v : Value) (h : t < a.tmps.size) : (a.put (some t) v).tmps.getD t undef = v := by
  simp [Act.put, Array.getD, h]

theorem tmps_put_size (a : Act) (d : Option Tmp) (v : Value) : (a.put d v).tmps.size = a.tmps.size := by
  cases d with
  | none => rfl
  | some k => simp [Act.put]

/-- At a stage's end its new row is taken in. -/
theorem adopt_ok {er : Env} (hP : PF ops.toList rs nt p) (hD : DF O er ef e S Sf rs p Sp S2) {s : Nat} {L : Array Bool} {a : Act} {w : World} {K : Ctx} {β : Nat → Nat} (hT : TS base w0 rs nt p ef e Sp S2 S K0 wS dd s L a w K β) (hb : base ≤ wS.heap.size)
    (hall : ∀ i, i < rs.length → p.cls.getD i (.m rs.length) = .a s → L.getD i false = true) :
    ∃ K', Sim base w0 K' (S2 s) w ∧ Stp K0 S wS K' (S2 s) w ∧ Ext K (Sp s) K' (S2 s) ∧ (∀ i, i < rs.length → p.cls.getD i (.m rs.length) = .a s → ∀ t, (rs.getD i dflt).dst = some t → VR K' (S2 s) (ef.get t) (a.tmps.getD t undef)) ∧
      ∀ i, i < rs.length → L.getD i false = true → ∀ c, p.cls.getD i (.m rs.length) = .a c → s < c → ∀ q, q < (S2 s).length → K'.μ q ≠ β i := by
  by_cases hex : ∃ i, i < rs.length ∧ p.cls.getD i (.m rs.length) = .a s
  · obtain ⟨i, hi, hc⟩ := hex
    obtain ⟨⟨cs, arr, et, t, h1, h2, h3, h4, h5⟩, hlo, hfr⟩ := hT.pend i hi (hall i hi hc) s hc (Nat.le_refl _)
    obtain ⟨g1, g2⟩ := hT.sim.adopt (b := β i) (Nat.le_trans hb hlo) h3 hfr h2
    rw [h1]
    refine ⟨_, g1, ?_, g2, fun i' hi' hc' t' ht' => ?_, fun i' hi' hl' c hc' hsc q hq => ?_⟩
    · have hs := hT.stp
      refine ⟨hs.ext.trans g2, hs.os, hs.tape, hs.output, hs.size, hs.keep, fun q B hB => ?_⟩
      rcases Nat.lt_or_ge q (Sp s).length with hq | hq
      · rw [List.getElem?_append_left hq] at hB
        rw [(K.put_other _ _ (by omega)).1]
        exact hs.own q B hB
      · have : q = (Sp s).length := by
          have := (List.getElem?_eq_some_iff.1 hB).1
          simp at this; omega
        subst this
        exact .inr (by rw [(K.put_same _ _ _).1]; exact hlo)
    · obtain ⟨_, _, _, _, _, hu⟩ := hP.a i hi s hc
      obtain rfl := hu i' hi' hc'
      rw [h4] at ht'; obtain rfl := Option.some.inj ht'
      exact h5.vr
    · rcases Nat.lt_or_ge q (Sp s).length with hq' | hq'
      · rw [(K.put_other _ _ (by omega)).1]
        exact (hT.pend i' hi' hl' c hc' (Nat.le_of_lt hsc)).fresh q hq'
      · have : q = (Sp s).length := by simp at hq; omega
        subst this
        rw [(K.put_same _ _ _).1]
        intro hβ
        have := hT.dist i i' s c hi hi' (hall i hi hc) hl' hc hc' (Nat.le_refl _) (Nat.le_of_lt hsc) hβ
        subst this
        rw [hc] at hc'; injection hc' with hc'; omega
  · have hna : S2 s = Sp s := hD.na s hT.hs fun i hi hc => hex ⟨i, hi, hc⟩
    rw [hna]
    exact ⟨K, hT.sim, hT.stp, .refl _ _, fun i hi hc => absurd ⟨i, hi, hc⟩ hex, fun i hi hl c hc hsc q hq => (hT.pend i hi hl c hc (Nat.le_of_lt hsc)).fresh q hq⟩

theorem mem_late {t : Nat} (hP : PF ops.toList rs nt p) : t ∈ lateSlots rs p ↔ ∃ j, j ∈ p.late ∧ (rs.getD j dflt).dst = some t := by
  unfold lateSlots
  simp only [List.mem_flatMap]
  constructor
  · rintro ⟨j, hj, ht⟩
    have hlt := (hP.late j hj).1
    rw [getD_of_lt hlt] at ht
    exact ⟨j, hj, dst_mem.1 ht⟩
  · rintro ⟨j, hj, ht⟩
    have hlt := (hP.late j hj).1
    exact ⟨j, hj, by rw [getD_of_lt hlt]; exact dst_mem.2 ht⟩

/-- The slots that an operation looks at, when it comes up. -/
theorem used_ok {er : Env} (her : er = keepE e (lateSlots rs p) ++ ef) (hP : PF ops.toList rs nt p) (hD : DF O er ef e S Sf rs p Sp S2) {s : Nat} {L : Array Bool} {a : Act} {w : World} {K : Ctx} {β : Nat → Nat} (hT : TS base w0 rs nt p ef e Sp S2 S K0 wS dd s L a w K β)
    {i : Nat} (hi : i < rs.length) (hnl : L.getD i false = false) (hanc : ∀ j, p.isAnc i j = true → L.getD j false = true) {K' : Ctx} {M : Mem} (hE : Ext K (Sp s) K' M)
    (hA : ∀ jm, p.cls.getD i (.m rs.length) = .m jm → jm = s ∧ ∀ i', i' < rs.length → p.cls.getD i' (.m rs.length) = .a s → ∀ t, (rs.getD i' dflt).dst = some t → VR K' M (ef.get t) (a.tmps.getD t undef)) :
    ∀ t ∈ (rs.getD i dflt).use, VR K' M (er.get t) (a.tmps.getD t undef) := by
  intro t ht
  obtain ⟨_, hu⟩ := hP.use i hi t ht
  rw [her, get_keepE_append]
  by_cases hex : ∃ j, j < rs.length ∧ (rs.getD j dflt).dst = some t
  · obtain ⟨j, hj, hd⟩ := hex
    obtain ⟨_, huniq⟩ := hP.dst j hj t hd
    rcases hu j hj hd with ⟨hl, ha⟩ | ⟨hl, ha, hc⟩
    · have hjn : L.getD j false = false := by
        cases h : L.getD j false with
        | false => rfl
        | true => rw [hT.down j i hj h ha] at hnl; cases hnl
      rw [if_pos ((mem_late hP).2 ⟨j, hl, hd⟩)]
      refine (hT.old t fun i' hi' hl' hd' => ?_).mono hE
      obtain rfl := huniq i' hi' hd'
      rw [hjn] at hl'; cases hl'
    · have hnm : t ∉ lateSlots rs p := fun hm => by
        obtain ⟨j', hj', hd'⟩ := (mem_late hP).1 hm
        obtain rfl := huniq j' (hP.late j' hj').1 hd'
        exact hl hj'
      rw [if_neg hnm]
      have hjl := hanc j ha
      by_cases hsm : ∀ c, p.cls.getD j (.m rs.length) = .a c → c < s
      · exact (hT.new j hj hjl hsm t hd).mono hE
      · obtain ⟨c, hqq⟩ := Classical.not_forall.1 hsm
        obtain ⟨hcj, hcs⟩ := Classical.not_imp.1 hqq
        obtain ⟨jm, hjm, hle⟩ := hc c hcj
        obtain ⟨rfl, hA⟩ := hA jm hjm
        have : c = jm := by omega
        subst this
        exact hA j hj hcj t hd
  · have hno : ∀ j, j < rs.length → (rs.getD j dflt).dst ≠ some t := fun j hj hd => hex ⟨j, hj, hd⟩
    have hef := hD.env t hno
    have : (if t ∈ lateSlots rs p then e.get t else ef.get t) = e.get t := by split; rfl; exact hef
    rw [this]
    exact (hT.old t fun i' hi' _ => hno i' hi').mono hE

/-- An operation that lays no row early is done. -/
theorem advance (hP : PF ops.toList rs nt p) {s s1 : Nat} {L : Array Bool} {a : Act} {w : World} {K : Ctx} {β : Nat → Nat} (hT : TS base w0 rs nt p ef e Sp S2 S K0 wS dd s L a w K β) {i : Nat} (hi : i < rs.length) (hnl : L.getD i false = false)
    (hanc : ∀ j, p.isAnc i j = true → L.getD j false = true) (hcl : ∀ c, p.cls.getD i (.m rs.length) ≠ .a c) (h1 : s ≤ s1) (h2 : s1 ≤ p.ms.length)
    (hms : ∀ j, j < p.ms.length → ((L.setIfInBounds i true).getD (p.ms.getD j 0) false = true ↔ j < s1)) {K' : Ctx} {M : Mem} (hE : Ext K (Sp s) K' M) (hst : Stp K0 S wS K' M w)
    (hA : ∀ i', i' < rs.length → L.getD i' false = true → ∀ c, p.cls.getD i' (.m rs.length) = .a c → s ≤ c → c < s1 → ∀ t, (rs.getD i' dflt).dst = some t → VR K' M (ef.get t) (a.tmps.getD t undef))
    (hF : ∀ i', i' < rs.length → L.getD i' false = true → ∀ c, p.cls.getD i' (.m rs.length) = .a c → s1 ≤ c → ∀ q, q < M.length → K'.μ q ≠ β i')
    {K1 : Ctx} {w1 : World} {v : Value} (hS1 : Sim base w0 K1 (Sp s1) w1) (hst1 : Stp K' M w K1 (Sp s1) w1) (hV : ∀ t, (rs.getD i dflt).dst = some t → VR K1 (Sp s1) (ef.get t) v) :
    TS base w0 rs nt p ef e Sp S2 S K0 wS dd s1 (L.setIfInBounds i true) (a.put (rs.getD i dflt).dst v) w1 K1 β := by
  have hiL : i < L.size := by rw [hT.sz]; exact hi
  have hEx : Ext K (Sp s) K1 (Sp s1) := hE.trans hst1.ext
  have lst : ∀ j, j ≠ i → (L.setIfInBounds i true).getD j false = true → L.getD j false = true := fun j hj h => by
    rw [getD_set L i j hiL, if_neg hj] at h; exact h
  have lst' : ∀ j, L.getD j false = true → (L.setIfInBounds i true).getD j false = true := fun j h => by
    rw [getD_set L i j hiL]; split; rfl; exact h
  have hne : ∀ i', L.getD i' false = true → i' ≠ i := fun i' h e => by rw [e, hnl] at h; cases h
  have dne : ∀ i', i' < rs.length → i' ≠ i → ∀ t, (rs.getD i' dflt).dst = some t → (rs.getD i dflt).dst ≠ some t := fun i' hi' hn t ht hd => hn ((hP.dst i hi t hd).2 i' hi' ht)
  refine ⟨h2, by simpa using hT.sz, hms, fun i' j hi' hl ha => ?_, hS1, hst.trans hst1, by rw [tmps_put_size, hT.tsz], by rw [put_defers, hT.dfr], fun t ht => ?_, fun i' hi' hl hc t ht => ?_, fun i' hi' hl c hc hs => ?_, fun i1 i2 c c' hi1 hi2 hl1 hl2 hc1 hc2 hs1 hs2 hβ => ?_⟩
  · by_cases e1 : i' = i
    · subst e1; exact lst' j (hanc j ha)
    · exact lst' j (hT.down i' j hi' (lst i' e1 hl) ha)
  · have hd : (rs.getD i dflt).dst ≠ some t := ht i hi (by rw [getD_set L i i hiL, if_pos rfl])
    rw [tmps_put_ne _ _ _ _ hd]
    exact (hT.old t fun i' hi' hl => ht i' hi' (lst' i' hl)).mono hEx
  · by_cases e1 : i' = i
    · subst e1
      have htn := (hP.dst i' hi' t ht).1
      rw [ht, tmps_put_same _ _ _ (by rw [hT.tsz]; exact htn)]
      exact hV t ht
    · rw [tmps_put_ne _ _ _ _ (dne i' hi' e1 t ht)]
      have hl' := lst i' e1 hl
      by_cases hsm : ∀ c, p.cls.getD i' (.m rs.length) = .a c → c < s
      · exact (hT.new i' hi' hl' hsm t ht).mono hEx
      · obtain ⟨c, hqq⟩ := Classical.not_forall.1 hsm
        obtain ⟨hcj, hcs⟩ := Classical.not_imp.1 hqq
        exact (hA i' hi' hl' c hcj (by omega) (hc c hcj) t ht).mono hst1.ext
  · have e1 : i' ≠ i := fun e => hcl c (e ▸ hc)
    have hl' := lst i' e1 hl
    obtain ⟨⟨cs, arr, et, t, g1, g2, g3, g4, g5⟩, hlo, hfr⟩ := hT.pend i' hi' hl' c hc (by omega)
    have hfr' := hF i' hi' hl' c hc hs
    have hbw : β i' < w.heap.size := (Array.getElem?_eq_some_iff.1 g3).1
    refine ⟨⟨cs, arr, et, t, g1, ⟨g2.1, fun k => (g2.2 k).mono hEx⟩, ?_, g4, ?_⟩, hlo, fun q hq => ?_⟩
    · rw [hst1.keep _ hbw fun q B hB _ => hfr' q (List.getElem?_eq_some_iff.1 hB).1]; exact g3
    · rw [tmps_put_ne _ _ _ _ (dne i' hi' e1 t g4)]; exact g5
    · rcases hst1.own q _ (List.getElem?_eq_getElem hq) with ⟨B, hB, _, hμ⟩ | hge
      · rw [hμ]; exact hfr' q (List.getElem?_eq_some_iff.1 hB).1
      · omega
  · have e1 : i1 ≠ i := fun e => hcl c (e ▸ hc1)
    have e2 : i2 ≠ i := fun e => hcl c' (e ▸ hc2)
    exact hT.dist i1 i2 c c' hi1 hi2 (lst i1 e1 hl1) (lst i2 e2 hl2) hc1 hc2 (by omega) (by omega) hβ

/-- A block of which the abstract memory knows nothing. -/
theorem Sim.junk {K : Ctx} {S : Mem} {w : World} (h : Sim base w0 K S w) (o : Obj) : Sim base w0 K S (w.alloc o) ∧ Stp K S w K S (w.alloc o) := by
  have hold : ∀ k, k < w.heap.size → (w.alloc o).heap[k]? = w.heap[k]? := fun k hk => Below.heap_alloc w o k hk
  have hs : Stp K S w K S (w.alloc o) := ⟨.refl K S, rfl, rfl, rfl, by simp, fun b hb _ => hold b hb, fun _ B' h => .inl ⟨B', h, id, rfl⟩⟩
  exact ⟨⟨fun i B hB => (h.blk i B hB).mono (.refl K S) rfl rfl (hold _ (h.blk i B hB).lt), h.inj, h.step_below hs, Nat.le_trans h.hb hs.size, h.door⟩, hs⟩

/-- A new row is laid early. -/
theorem laid_ok (hP : PF ops.toList rs nt p) {s : Nat} {L : Array Bool} {a : Act} {w : World} {K : Ctx} {β : Nat → Nat} (hT : TS base w0 rs nt p ef e Sp S2 S K0 wS dd s L a w K β) {i c : Nat} (hi : i < rs.length) (hnl : L.getD i false = false)
    (hanc : ∀ j, p.isAnc i j = true → L.getD j false = true) (hcl : p.cls.getD i (.m rs.length) = .a c) (hsc : s ≤ c) {cs : List AV} {arr : Array Value} {et : TypeId} {v : Value} {t : Nat} (hd : (rs.getD i dflt).dst = some t)
    (h1 : S2 c = Sp c ++ [.cells cs 0 none true]) (h2 : RowR K (Sp s) cs arr) (h3 : NewV (ef.get t) v w.heap.size (Sp c).length) :
    TS base w0 rs nt p ef e Sp S2 S K0 wS dd s (L.setIfInBounds i true) (a.put (rs.getD i dflt).dst v) (w.alloc (.cells arr et)) K (fun j => if j = i then w.heap.size else β j) := by
  have hiL : i < L.size := by rw [hT.sz]; exact hi
  obtain ⟨q1, q2⟩ := hT.sim.junk (.cells arr et)
  have lst : ∀ j, j ≠ i → (L.setIfInBounds i true).getD j false = true → L.getD j false = true := fun j hj h => by
    rw [getD_set L i j hiL, if_neg hj] at h; exact h
  have lst' : ∀ j, L.getD j false = true → (L.setIfInBounds i true).getD j false = true := fun j h => by
    rw [getD_set L i j hiL]; split; rfl; exact h
  have dne : ∀ i', i' < rs.length → i' ≠ i → ∀ t, (rs.getD i' dflt).dst = some t → (rs.getD i dflt).dst ≠ some t := fun i' hi' hn t ht hd => hn ((hP.dst i hi t hd).2 i' hi' ht)
  have htn := (hP.dst i hi t hd).1
  refine ⟨hT.hs, by simpa using hT.sz, fun j hj => ?_, fun i' j hi' hl ha => ?_, q1, hT.stp.trans q2, by rw [tmps_put_size, hT.tsz], by rw [put_defers, hT.dfr], fun t ht => ?_, fun i' hi' hl hc t ht => ?_, fun i' hi' hl c' hc' hs => ?_, fun i1 i2 c1 c2 hi1 hi2 hl1 hl2 hc1 hc2 hs1 hs2 hβ => ?_⟩
  · have hne : p.ms.getD j 0 ≠ i := fun e => by
      have := (hP.ms j hj).2.1
      rw [e, hcl] at this; cases this
    rw [getD_set L i _ hiL, if_neg hne]
    exact hT.msL j hj
  · by_cases e1 : i' = i
    · subst e1; exact lst' j (hanc j ha)
    · exact lst' j (hT.down i' j hi' (lst i' e1 hl) ha)
  · have hd' : (rs.getD i dflt).dst ≠ some t := ht i hi (by rw [getD_set L i i hiL, if_pos rfl])
    rw [tmps_put_ne _ _ _ _ hd']
    exact hT.old t fun i' hi' hl => ht i' hi' (lst' i' hl)
  · have e1 : i' ≠ i := fun e => by
      subst e
      have := hc c hcl
      omega
    rw [tmps_put_ne _ _ _ _ (dne i' hi' e1 t ht)]
    exact hT.new i' hi' (lst i' e1 hl) hc t ht
  · by_cases e1 : i' = i
    · subst e1
      rw [hcl] at hc'; injection hc' with hc'; subst hc'
      rw [if_pos rfl]
      refine ⟨⟨cs, arr, et, t, h1, h2, heap_new w _, hd, ?_⟩, hT.stp.size, fun q hq => ?_⟩
      · rw [hd, tmps_put_same _ _ _ (by rw [hT.tsz]; exact htn)]; exact h3
      · have := (hT.sim.blk q _ (List.getElem?_eq_getElem hq)).lt
        omega
    · rw [if_neg e1]
      obtain ⟨⟨cs', arr', et', t', g1, g2, g3, g4, g5⟩, hlo, hfr⟩ := hT.pend i' hi' (lst i' e1 hl) c' hc' hs
      have hbw : β i' < w.heap.size := (Array.getElem?_eq_some_iff.1 g3).1
      exact ⟨⟨cs', arr', et', t', g1, g2, by rw [Below.heap_alloc w _ _ hbw]; exact g3, g4, by rw [tmps_put_ne _ _ _ _ (dne i' hi' e1 t' g4)]; exact g5⟩, hlo, hfr⟩
  · have key : ∀ i' c', i' ≠ i → i' < rs.length → (L.setIfInBounds i true).getD i' false = true → p.cls.getD i' (.m rs.length) = .a c' → s ≤ c' → β i' < w.heap.size := fun i' c' e1 hi' hl hc' hs => by
      obtain ⟨⟨cs', arr', et', t', g1, g2, g3, g4, g5⟩, _, _⟩ := hT.pend i' hi' (lst i' e1 hl) c' hc' hs
      exact (Array.getElem?_eq_some_iff.1 g3).1
    by_cases e1 : i1 = i <;> by_cases e2 : i2 = i
    · rw [e1, e2]
    · simp only [e1, if_true, e2, if_false] at hβ
      have := key i2 c2 e2 hi2 hl2 hc2 hs2
      omega
    · simp only [e1, if_false, e2, if_true] at hβ
      have := key i1 c1 e1 hi1 hl1 hc1 hs1
      omega
    · simp only [e1, e2, if_false] at hβ
      exact hT.dist i1 i2 c1 c2 hi1 hi2 (lst i1 e1 hl1) (lst i2 e2 hl2) hc1 hc2 hs1 hs2 hβ
end
end Go.Proofs.YtmocapahlcaapaaGreatDoor

namespace Go.Proofs.YtmocapahlcaapaaGreatDoor
set_option linter.unusedSimpArgs false
set_option linter.unusedVariables false
open Go.RowKit

section
variable {P : Program} {base : Bs} {w0 : World} {O : Orc} {ops : Array Oper} {rs : List ROp} {nt : Nat} {p : Plan} {ef e : Env} {Sp S2 : Nat → Mem} {S Sf : Mem} {K0 : Ctx} {wS : World} {dd : List Deferred}
  {n : Nat} {rd : Option Nat} {Q : Exit → Act → World → Prop}

theorem ER.kept {K : Ctx} {S : Mem} {er : Env} {l : List Nat} {a : Act} (hsz : a.tmps.size = nt) (hu : ∀ t ∈ l, VR K S (er.get t) (a.tmps.getD t undef)) : ER K S nt (keepE er l) a := by
  refine ⟨hsz, fun t => ?_⟩
  rw [get_keepE]
  split
  · rename_i ht; exact hu t ht
  · exact .u _

theorem wpOp_one (hO : OK P base.Λ O) {K : Ctx} {S : Mem} {w : World} (h : Sim base w0 K S w) {a : Act} {er : Env} {i : Nat} {o : Oper} {r : ROp} (ho : ops[i]? = some o) (hc : compOper P ops o = some r) (hsz : a.tmps.size = nt)
    (hu : ∀ t ∈ r.use, VR K S (er.get t) (a.tmps.getD t undef)) {x : AV} {S' : Mem} (hv : evOne O er S r = some (x, S')) {Kont : Act → World → Prop}
    (hK : ∀ K' w' v, VR K' S' x v → Sim base w0 K' S' w' → Stp K S w K' S' w' → Kont (a.put r.dst v) w') : wpOpIn (FW rd) n P ops Q i Kont a w := by
  have hr := ER.kept (nt := nt) hsz hu
  obtain ⟨hio, hdst⟩ := compOper_io hc
  rw [evOne_congr (e' := keepE er r.use) S (fun t ht => by rw [get_keepE, if_pos ht])] at hv
  unfold wpOpIn
  simp only [ho]
  unfold evOne at hv
  cases hw : wantV (keepE er r.use) r.guard with
  | none => simp [hw] at hv
  | some b =>
    have hwant := want_ok (ops := ops) (o := o) (fun t _ _ => hr.slot t) hr.size hc hw
    cases b with
    | false =>
      rw [hwant, if_neg (by simp)]
      simp only [hw, Option.some.injEq, Prod.mk.injEq] at hv
      obtain ⟨rfl, rfl⟩ := hv
      refine ⟨fun _ _ => trivial, ?_⟩
      have := hK K w undef .ud h (.refl K S w)
      rwa [hdst] at this
    | true =>
      rw [hwant, if_pos rfl]
      simp only [hw] at hv
      rw [hio] at hv
      refine oper_ok hO h hr hv fun K' w' v a1 a2 a3 => ?_
      have := hK K' w' v a1 a2 a3
      rwa [hdst] at this

theorem compIO_op {op : Op} {io : IO'} (h : compIO P op = .op io) (hl : io.laying = true) : compOp P op = some io := by
  unfold compIO at h
  split at h
  · rename_i x hx
    subst h
    unfold compCall at hx
    split at hx
    · split at hx
      · split at hx
        · cases hx
        · cases hx
      · obtain ⟨y, _, hy⟩ := Option.map_eq_some_iff.1 hx
        cases hy
      · cases hx
    · cases hx
  · split at h
    · rename_i x hx
      injection h with h; subst h; exact hx
    · injection h with h; subst h; cases hl

theorem mapM_at {rs : List ROp} (hm : ops.toList.mapM (compOper P ops) = some rs) {i : Nat} (hi : i < rs.length) : ∃ o, ops[i]? = some o ∧ ops.toList.getD i default = o ∧ compOper P ops o = some (rs.getD i dflt) := by
  obtain ⟨h1, h2⟩ := mapM_ok hm
  have hi' : i < ops.toList.length := by omega
  have hi2 : i < ops.size := by simpa using hi'
  refine ⟨ops.toList[i], ?_, by simp [List.getD_eq_getElem?_getD, hi2], ?_⟩
  · simp [hi2]
  · rw [h2 i hi' hi]
    simp [List.getD_eq_getElem?_getD, hi]

theorem ready_mem {L : Array Bool} (hm : ops.toList.mapM (compOper P ops) = some rs) (hsz : L.size = rs.length) {i : Nat} (h : i ∈ Region.ready .any ops L) :
    i < rs.length ∧ L.getD i false = false ∧ ∀ d ∈ directs (ops.toList.getD i default), L.getD d false = true := by
  simp only [Region.ready, List.mem_filter, List.mem_range, Bool.and_eq_true, Bool.not_eq_true'] at h
  obtain ⟨h1, h2, h3⟩ := h
  have hl := (mapM_ok hm).1
  have hi : i < rs.length := by rw [hl]; simpa using h1
  obtain ⟨o, ho, ho2, _⟩ := mapM_at hm hi
  have hiL : i < L.size := by omega
  refine ⟨hi, by simpa [Array.getD, hiL] using h2, fun d hd => ?_⟩
  rw [ho2] at hd
  rw [ho] at h3
  simp only [Option.map_some, Option.getD_some, Array.all_eq_true_iff_forall_mem] at h3
  simp only [directs, List.mem_map, List.mem_filter] at hd
  obtain ⟨ed, ⟨hed, hb⟩, rfl⟩ := hd
  have := h3 ed (by simpa using hed)
  rw [hb] at this
  simpa using this

theorem ready_nil {L : Array Bool} (hP : PF ops.toList rs nt p) (hm : ops.toList.mapM (compOper P ops) = some rs) (hsz : L.size = rs.length) (h : Region.ready .any ops L = []) : ∀ i, i < rs.length → L.getD i false = true := by
  intro i
  induction i using Nat.strongRecOn with
  | _ i ih =>
    intro hi
    cases hL : L.getD i false with
    | true => rfl
    | false =>
      exfalso
      obtain ⟨o, ho, ho2, _⟩ := mapM_at hm hi
      have hl := (mapM_ok hm).1
      have hiL : i < L.size := by omega
      have : i ∈ Region.ready .any ops L := by
        simp only [Region.ready, List.mem_filter, List.mem_range, Bool.and_eq_true, Bool.not_eq_true']
        have hrl : rs.length = ops.size := by simpa using hl
        refine ⟨by omega, by simpa [Array.getD, hiL] using hL, ?_⟩
        rw [ho]
        simp only [Option.map_some, Option.getD_some, Array.all_eq_true_iff_forall_mem]
        intro ed hed
        cases hb : Region.binds .any ed with
        | false => rfl
        | true =>
          have hd : ed.on ∈ directs (ops.toList.getD i default) := by
            rw [ho2]
            simp only [directs, List.mem_map, List.mem_filter]
            exact ⟨ed, ⟨by simpa using hed, hb⟩, rfl⟩
          have hlt := hP.dlt i hi _ hd
          simpa using ih _ hlt (by omega)
      rw [h] at this; cases this

theorem count_set (L : Array Bool) (i : Nat) (hi : i < L.size) (hn : L.getD i false = false) : ∀ l : List Nat, l.Nodup → i ∈ l → l.countP (fun j => (L.setIfInBounds i true).getD j false) = l.countP (fun j => L.getD j false) + 1
  | [], _, h => by cases h
  | j :: l, hd, h => by
    simp only [List.nodup_cons] at hd
    by_cases e : j = i
    · subst e
      have h1 : (L.setIfInBounds j true).getD j false = true := by rw [getD_set L j j hi, if_pos rfl]
      have h2 : l.countP (fun k => (L.setIfInBounds j true).getD k false) = l.countP (fun k => L.getD k false) := by
        refine List.countP_congr fun k hk => ?_
        have : k ≠ j := fun e => hd.1 (e ▸ hk)
        rw [getD_set L j k hi, if_neg this]
      rw [List.countP_cons, List.countP_cons, h2]
      simp [h1, hn]
    · have hil : i ∈ l := by
        rcases List.mem_cons.1 h with h | h
        · exact absurd h.symm e
        · exact h
      have ih := count_set L i hi hn l hd.2 hil
      have h1 : (L.setIfInBounds i true).getD j false = L.getD j false := by rw [getD_set L i j hi, if_neg e]
      rw [List.countP_cons, List.countP_cons, ih]
      simp only [h1]
      omega

theorem any_ok (hO : OK P base.Λ O) {er : Env} (her : er = keepE e (lateSlots rs p) ++ ef) (hm : ops.toList.mapM (compOper P ops) = some rs) (hP : PF ops.toList rs nt p) (hD : DF O er ef e S Sf rs p Sp S2) (hb : base ≤ wS.heap.size)
    (hQ : ∀ K' a' w', ER K' Sf nt ef a' → a'.defers = dd → Sim base w0 K' Sf w' → Stp K0 S wS K' Sf w' → Q .normal a' w') :
    ∀ (fuel s : Nat) (L : Array Bool) (a : Act) (w : World) (K : Ctx) (β : Nat → Nat), TS base w0 rs nt p ef e Sp S2 S K0 wS dd s L a w K β → rs.length ≤ (List.range rs.length).countP (fun j => L.getD j false) + fuel → wpAnyIn (FW rd) n P .any ops Q fuel L a w := by
  have fin : ∀ s L a w K β, TS base w0 rs nt p ef e Sp S2 S K0 wS dd s L a w K β → (∀ i, i < rs.length → L.getD i false = true) → Q .normal a w := by
    intro s L a w K β hT hall
    have hsk : s = p.ms.length := by
      rcases Nat.lt_or_ge s p.ms.length with hlt | hge
      · have := (hT.msL s hlt).1 (hall _ (hP.ms s hlt).1)
        omega
      · have := hT.hs; omega
    subst hsk
    obtain ⟨K', g1, g2, g3, g4, g5⟩ := adopt_ok hP hD hT hb (fun i hi _ => hall i hi)
    rw [hD.last] at g1 g2 g3 g4
    refine hQ K' a w ⟨hT.tsz, fun t => ?_⟩ hT.dfr g1 g2
    by_cases hex : ∃ j, j < rs.length ∧ (rs.getD j dflt).dst = some t
    · obtain ⟨j, hj, hd⟩ := hex
      by_cases hsm : ∀ c, p.cls.getD j (.m rs.length) = .a c → c < p.ms.length
      · exact (hT.new j hj (hall j hj) hsm t hd).mono g3
      · obtain ⟨c, hqq⟩ := Classical.not_forall.1 hsm
        obtain ⟨hcj, hcs⟩ := Classical.not_imp.1 hqq
        have := (hP.a j hj c hcj).1
        have : c = p.ms.length := by omega
        subst this
        exact g4 j hj hcj t hd
    · have hno : ∀ j, j < rs.length → (rs.getD j dflt).dst ≠ some t := fun j hj hd => hex ⟨j, hj, hd⟩
      rw [hD.env t hno]
      exact (hT.old t fun i' hi' _ => hno i' hi').mono g3
  intro fuel
  induction fuel with
  | zero =>
    intro s L a w K β hT hcnt
    have hall : ∀ i, i < rs.length → L.getD i false = true := by
      have : (List.range rs.length).countP (fun j => L.getD j false) = (List.range rs.length).length := by
        have := List.countP_le_length (p := fun j => L.getD j false) (l := List.range rs.length)
        simp only [List.length_range] at this ⊢
        omega
      intro i hi
      exact List.countP_eq_length.1 this i (List.mem_range.2 hi)
    refine ⟨?_, fin s L a w K β hT hall⟩
    cases hr : Region.ready .any ops L with
    | nil => rfl
    | cons i l =>
      have := ready_mem hm hT.sz (i := i) (by rw [hr]; simp)
      rw [hall i this.1] at this
      exact absurd this.2.1 (by simp)
  | succ fuel ih =>
    intro s L a w K β hT hcnt
    refine ⟨fun hr => fin s L a w K β hT (ready_nil hP hm hT.sz hr), fun i hi => ?_⟩
    obtain ⟨hi, hnl, hdir⟩ := ready_mem hm hT.sz hi
    obtain ⟨o, ho, ho2, hco⟩ := mapM_at hm hi
    have hiL : i < L.size := by rw [hT.sz]; exact hi
    have hanc : ∀ j, p.isAnc i j = true → L.getD j false = true := fun j hj => by
      obtain ⟨d, hd, hj⟩ := hP.anc i hi j hj
      have hdl := hdir d hd
      rcases hj with rfl | hj
      · exact hdl
      · exact hT.down d j (by have := hP.dlt i hi d hd; omega) hdl hj
    have hcnt' : rs.length ≤ (List.range rs.length).countP (fun j => (L.setIfInBounds i true).getD j false) + fuel := by
      rw [count_set L i hiL hnl _ List.nodup_range (List.mem_range.2 hi)]
      omega
    cases hcl : p.cls.getD i (.m rs.length) with
    | n lo hi' =>
      obtain ⟨q1, q2, q3, q4, q5⟩ := hP.n i hi lo hi' hcl
      have hlo : lo ≤ s := by
        rcases q3 with rfl | q3
        · omega
        · rcases Nat.eq_zero_or_pos lo with h0 | h0
          · omega
          · have := (hT.msL (lo - 1) (by omega)).1 (hanc _ q3)
            omega
      have hhi : s ≤ hi' := by
        rcases q4 with rfl | q4
        · exact hT.hs
        · rcases Nat.lt_or_ge hi' s with hlt | hge
          · have hk : hi' < p.ms.length := by have := hT.hs; omega
            have := hT.down _ i (hP.ms hi' hk).1 ((hT.msL hi' hk).2 hlt) q4
            rw [hnl] at this; cases this
          · exact hge
      obtain ⟨x, hx, hxd⟩ := hD.n i hi lo hi' hcl s hlo hhi
      have hu := used_ok her hP hD hT hi hnl hanc (.refl _ _) (fun jm hjm => by rw [hcl] at hjm; cases hjm)
      refine wpOp_one (nt := nt) hO hT.sim ho hco hT.tsz hu hx fun K1 w1 v hV hS1 hst => ih s _ _ _ K1 β ?_ hcnt'
      refine advance hP hT hi hnl hanc (fun c hc => by rw [hcl] at hc; cases hc) (Nat.le_refl _) hT.hs (fun j hj => ?_) (.refl _ _) hT.stp (fun i' _ _ c _ h1 h2 => by omega) (fun i' hi' hl c hc hs => (hT.pend i' hi' hl c hc hs).fresh) hS1 hst (fun t ht => ?_)
      · have hne : p.ms.getD j 0 ≠ i := fun e => by
          have := (hP.ms j hj).2.1
          rw [e, hcl] at this; cases this
        rw [getD_set L i _ hiL, if_neg hne]
        exact hT.msL j hj
      · rw [← hxd t ht]; exact hV
    | m j =>
      have hmj := hP.m i hi j hcl
      obtain ⟨hjk, hje⟩ := List.getElem?_eq_some_iff.1 hmj
      have hjd : p.ms.getD j 0 = i := by simp [List.getD_eq_getElem?_getD, hmj]
      have hjs : j = s := by
        have h1 : ¬ j < s := fun hlt => by
          have := (hT.msL j hjk).2 hlt
          rw [hjd, hnl] at this; cases this
        rcases Nat.lt_or_ge s j with hlt | hge
        · have := (hP.ms j hjk).2.2 s hlt
          rw [hjd] at this
          have := (hT.msL s (by omega)).1 (hanc _ this)
          omega
        · omega
      subst hjs
      obtain ⟨K', g1, g2, g3, g4, g5⟩ := adopt_ok hP hD hT hb (fun i' hi' hc' => by
        rcases (hP.a i' hi' j hc').2.1 with h | h
        · omega
        · rw [hjd] at h; exact hanc i' h)
      obtain ⟨x, hx, hxd⟩ := hD.m j hjk
      rw [hjd] at hx hxd
      have hu := used_ok her hP hD hT hi hnl hanc g3 (fun jm hjm => by
        rw [hcl] at hjm; injection hjm with hjm; exact ⟨hjm.symm, g4⟩)
      refine wpOp_one (nt := nt) hO g1 ho hco hT.tsz hu hx fun K1 w1 v hV hS1 hst => ih (j + 1) _ _ _ K1 β ?_ hcnt'
      refine advance hP hT hi hnl hanc (fun c hc => by rw [hcl] at hc; cases hc) (by omega) (by omega) (fun j' hj' => ?_) g3 g2 (fun i' hi' hl' c hc h1 h2 t ht => ?_) (fun i' hi' hl c hc hs => g5 i' hi' hl c hc (by omega)) hS1 hst (fun t ht => ?_)
      · rw [getD_set L i _ hiL]
        by_cases e1 : p.ms.getD j' 0 = i
        · rw [if_pos e1]
          have := (hP.ms j' hj').2.1
          rw [e1, hcl] at this
          injection this with this
          simp only [true_iff]; omega
        · rw [if_neg e1, hT.msL j' hj']
          have : j' ≠ j := fun e => e1 (by rw [e]; exact hjd)
          omega
      · have : c = j := by omega
        subst this
        exact g4 i' hi' hc t ht
      · rw [← hxd t ht]; exact hV
    | a c =>
      obtain ⟨q1, q2, q3, q4, ⟨d, hd⟩, q6⟩ := hP.a i hi c hcl
      have hsc : s ≤ c := by
        rcases q2 with h | h
        · have := hT.hs; omega
        · rcases Nat.lt_or_ge c s with hlt | hge
          · have hk : c < p.ms.length := by have := hT.hs; omega
            have := hT.down _ i (hP.ms c hk).1 ((hT.msL c hk).2 hlt) h
            rw [hnl] at this; cases this
          · exact hge
      obtain ⟨x, hx, hxd⟩ := hD.a i hi c hcl
      have hu := used_ok her hP hD hT hi hnl hanc (.refl _ _) (fun jm hjm => by rw [hcl] at hjm; cases hjm)
      have hr := ER.kept (nt := nt) hT.tsz hu
      obtain ⟨hio, hdst⟩ := compOper_io hco
      rw [evOne_congr (e' := keepE er (rs.getD i dflt).use) (Sp c) (fun t ht => by rw [get_keepE, if_pos ht])] at hx
      generalize hrr : rs.getD i dflt = r at *
      have hopio : ∃ io, r.io = .op io ∧ io.laying = true := by
        cases hio2 : r.io with
        | op io => rw [hio2] at q3; exact ⟨io, rfl, q3⟩
        | call f xs => rw [hio2] at q3; simp [IOp.laying] at q3
        | callv y xs => rw [hio2] at q3; simp [IOp.laying] at q3
      obtain ⟨io, hio2, hlay⟩ := hopio
      have hcomp : compOp P o.op = some io := compIO_op (by rw [← hio, hio2]) hlay
      unfold evOne at hx
      have hw : wantV (keepE er r.use) r.guard = some true := by rw [q4]; rfl
      simp only [hw, hio2, evOp] at hx
      obtain ⟨cs, arr, et, v, e1, e2, e3, e4⟩ := early_ok (w := w) hr hcomp hlay hx
      unfold wpOpIn
      simp only [ho]
      rw [want_ok (ops := ops) (o := o) (fun t _ _ => hr.slot t) hr.size hco hw, if_pos rfl]
      unfold Oper.wpIn
      refine ⟨fun _ _ => trivial, ?_⟩
      rw [semAt_ok (fun c e => by rw [e] at hcomp; simp [compOp] at hcomp), e3, Oper.uponIn_value, ← hdst]
      refine ih s _ _ _ K (fun j => if j = i then w.heap.size else β j) ?_ hcnt'
      have := laid_ok (et := et) (t := d) hP hT hi hnl hanc hcl hsc (by rw [hrr]; exact hd) e1 e2 (by rw [← hxd d hd]; exact e4)
      rw [hrr] at this
      exact this

theorem draw_ok (hO : OK P base.Λ O) (hmix : P.follows .mixedOrders = true) {id : Nat} {K : Ctx} {w : World} {a : Act} (hm : ops.toList.mapM (compOper P ops) = some rs) (hp : planOk ops.toList rs nt p = true) (h : Sim base w0 K S w) (hr : ER K S nt e a)
    (hv : evDraw O (stagesOf rs p) (lateSlots rs p) e S = some (ef, Sf)) (hQ : ∀ K' a' w', ER K' Sf nt ef a' → a'.defers = a.defers → Sim base w0 K' Sf w' → Stp K S w K' Sf w' → Q .normal a' w') : (Code.region id ops true).wpIn (FW rd) n P Q a w := by
  have hP := planOk_facts hp
  unfold evDraw at hv
  split at hv
  · rename_i ef' Sf' pre hst
    split at hv
    · rename_i hc
      simp only [Option.some.injEq, Prod.mk.injEq] at hv
      obtain ⟨rfl, rfl⟩ := hv
      obtain ⟨Sp, S2, hD⟩ := df_of hP _ hst hc
      obtain ⟨hd1, hd2⟩ := h.drew
      refine wpIn_region_any hmix ?_
      have hl : rs.length = ops.size := by simpa using (mapM_ok hm).1
      have hrep : ∀ j, (Array.replicate ops.size false).getD j false = false := fun j => by
        simp only [Array.getD_eq_getD_getElem?, Array.getElem?_replicate]; split <;> rfl
      refine any_ok (K0 := K) (wS := w.drew) (dd := a.defers) (S := S) hO rfl hm hP hD hd1.hb (fun K' a' w' q1 q2 q3 q4 => hQ K' a' w' q1 q2 q3 (hd2.trans q4)) ops.size 0 _ a w.drew K (fun _ => 0) ?_ (by omega)
      refine ⟨Nat.zero_le _, by simp [hl], fun j _ => ?_, fun i j _ hi => ?_, by rw [hD.zero]; exact hd1, by rw [hD.zero]; exact .refl _ _ _, hr.size, rfl, fun t _ => by rw [hD.zero]; exact hr.slot t, fun i _ hi => ?_, fun i _ hi => ?_, fun i i' c c' _ _ hi => ?_⟩
      · rw [hrep]; simp
      · rw [hrep] at hi; cases hi
      · rw [hrep] at hi; cases hi
      · rw [hrep] at hi; cases hi
      · rw [hrep] at hi; cases hi
    · cases hv
  · cases hv
end
end Go.Proofs.YtmocapahlcaapaaGreatDoor

namespace Go.Proofs.YtmocapahlcaapaaGreatDoor
set_option linter.unusedSimpArgs false
set_option linter.unusedVariables false
open Go.RowKit

/-- The compiled code is of the code. -/
inductive CodeR (P : Program) (Λ : Nat → List Bool → Option (Array Tmp × Code × Code × Nat)) (nt : Nat) : Code → ICode → Prop
  | bad (c : Code) : CodeR P Λ nt c .bad
  | skip : CodeR P Λ nt .skip .skip
  | label (l : Nat) : CodeR P Λ nt (.label l) .skip
  | region (id : Nat) (ops : Array Oper) (l : List ROp) (hm : ops.toList.mapM (compOper P ops) = some l) (hd : dstOk nt l = true) : CodeR P Λ nt (.region id ops false) (.region l)
  | draw (id : Nat) (ops : Array Oper) (l : List ROp) (p : Plan) (hm : ops.toList.mapM (compOper P ops) = some l) (hp : planOk ops.toList l nt p = true) : CodeR P Λ nt (.region id ops true) (.draw (stagesOf l p) (lateSlots l p))
  | seq {a b : Code} {ia ib : ICode} (ha : CodeR P Λ nt a ia) (hb : CodeR P Λ nt b ib) : CodeR P Λ nt (.seq a b) (.seq ia ib)
  | cond {c : Operand} {x : X} {a b : Code} {ia ib : ICode} (hc : compX c = some x) (ha : CodeR P Λ nt a ia) (hb : CodeR P Λ nt b ib) : CodeR P Λ nt (.cond c a b) (.cond x ia ib)
  | block (id : Nat) {a : Code} {ia : ICode} (ha : CodeR P Λ nt a ia) : CodeR P Λ nt (.block id a) (.block id ia)
  | loop (l : List Nat) {a : Code} {ia : ICode} (ha : CodeR P Λ nt a ia) : CodeR P Λ nt (.loop a) (.loop l ia)
  | exit (id : Nat) : CodeR P Λ nt (.exit id) (.exit id)
  | ret : CodeR P Λ nt .ret .ret
  | goto (l : Nat) : CodeR P Λ nt (.goto l) (.goto l)
  | scope (l : List Nat) (lab : Nat) {a b : Code} {ia ib : ICode} (hf : findLabel a lab = some b) (ha : CodeR P Λ nt a ia) (hb : CodeR P Λ nt b ib) : CodeR P Λ nt (.scope a) (.scope l ia lab ib)
  | live (l : List Nat) {c : Code} {ic : ICode} (h : CodeR P Λ nt c ic) : CodeR P Λ nt c (.live l ic)
  | rf {g : Operand} {x : X} {ps : Array Tmp} {a b : Code} (f : Nat) (path : List Bool) (keep : List Nat) (hg : compX g = some x) (hL : Λ f path = some (ps, a, b, nt)) : CodeR P Λ nt (.rangeFunc g ps a b) (.rf x f path keep)

/-- The marks among the deferred calls. -/
def DR (K : Ctx) (S : Mem) : List Nat → List Deferred → Prop
  | [], [] => True
  | i :: d, x :: ds => (∃ r, x = { target := .collected r, args := #[] } ∧ VR K S (.m i) (.map (some r))) ∧ DR K S d ds
  | _, _ => False

theorem DR.mono {K K' : Ctx} {S S' : Mem} (hE : Ext K S K' S') : ∀ {d : List Nat} {ds : List Deferred}, DR K S d ds → DR K' S' d ds
  | [], [], _ => trivial
  | _ :: _, _ :: _, h => ⟨let ⟨r, e, hV⟩ := h.1; ⟨r, e, hV.mono hE⟩, DR.mono hE h.2⟩
  | [], _ :: _, h => h.elim
  | _ :: _, [], h => h.elim

def IX.out : IX → Exit
  | .normal => .normal
  | .exit id => .exit id
  | .ret => .ret
  | .goto l => .goto l

section
variable {P : Program} {base : Bs} {w0 : World} {O : Orc} {F : Fence} {n : Nat} {Q : Exit → Act → World → Prop} {a : Act} {w : World}

/-- A loop, by a number that gets less. -/
theorem wpIn_loop_idx {c : Code} (I : Nat → Act → World → Prop) {j : Nat} (h₀ : I j a w) (round : ∀ j a w, I j a w → c.wpIn F n P (Exit.then (fun a' w' => ∃ j', j' < j ∧ I j' a' w') Q) a w) : (Code.loop c).wpIn F n P Q a w := by
  intro b k cs hro hb hr
  have key : ∀ j a w, I j a w → ∃ e a' w', Q e a' w' ∧ ArrivesIn (Machine.fenced P F) P (lone (b.atR a (.code c :: .inLoop c :: k)) cs w) b k cs e a' w' := by
    intro j
    induction j using Nat.strongRecOn with
    | _ j ih =>
      intro a w hI
      obtain ⟨e, a₁, w₁, hq, harr⟩ := round j a w hI b (.inLoop c :: k) cs hro hb hr
      cases e with
      | normal =>
        obtain ⟨j', hlt, hI₁⟩ := hq
        obtain ⟨e₂, a₂, w₂, hq₂, harr₂⟩ := ih j' hlt a₁ w₁ hI₁
        exact ⟨e₂, a₂, w₂, hq₂, .of_steps (StepsIn.trans harr (.one (fenced_calm hb hr rfl) stepR_inLoop)) harr₂⟩
      | exit id => exact ⟨_, a₁, w₁, hq, .pass (x := .inLoop c) rfl (fun _ _ => .inl (by simp)) harr⟩
      | goto l => exact ⟨_, a₁, w₁, hq, .pass (x := .inLoop c) rfl (fun _ _ => .inl (by simp)) harr⟩
      | ret => exact ⟨_, a₁, w₁, hq, .pass (x := .inLoop c) rfl (fun _ _ => .inl (by simp)) harr⟩
      | panic ch => exact ⟨_, a₁, w₁, hq, .pass (x := .inLoop c) rfl (fun _ _ => .inl (by simp)) harr⟩
      | outgrown => exact ⟨_, a₁, w₁, hq, .pass (x := .inLoop c) rfl (fun _ _ => .inl (by simp)) harr⟩
  obtain ⟨e, a', w', hq, harr⟩ := key _ a w h₀
  exact ⟨e, a', w', hq, .of_steps (.one (fenced_calm hb hr rfl) stepR_loop) harr⟩

theorem stepR_scope' {b : Frame} {k : List Item} {cs : List Frame} {c : Code} : step P (lone (b.atR a (.code (.scope c) :: k)) cs w) = .next (lone (b.atR a (.code c :: .inScope c :: k)) cs w) :=
  step_lone_go (by simp [stepG, stepG.exec, Frame.atR])
theorem stepR_inScope' {b : Frame} {k : List Item} {cs : List Frame} {c : Code} : step P (lone (b.atR a (.inScope c :: k)) cs w) = .next (lone (b.atR a k) cs w) :=
  step_lone_go (by simp [stepG, stepG.exec, Frame.atR])

/-- A scope, by a number that gets less. 'I false': at its head; 'I true': behind the label. -/
theorem wpIn_scope_idx {c rest : Code} (lab : Nat) (hf : findLabel c lab = some rest) (I : Nat → Act → World → Prop)
    (first : c.wpIn F n P (Exit.jump lab (fun a' w' => ∃ j, I j a' w') Q) a w) (pass : ∀ j a w, I j a w → rest.wpIn F n P (Exit.jump lab (fun a' w' => ∃ j', j' < j ∧ I j' a' w') Q) a w) (hq : ∀ l a w, ¬ Q (.goto l) a w) :
    (Code.scope c).wpIn F n P Q a w := by
  intro b k cs hro hb hr
  have hg : gotoIn lab (.inScope c :: k) = some (.code rest :: .inScope c :: k) := by simp [gotoIn, hf]
  have out : ∀ {m : Machine} {e : Exit} {a₁ : Act} {w₁ : World}, (∀ l, e ≠ .goto l) → Q e a₁ w₁ → ArrivesIn (Machine.fenced P F) P m b (.inScope c :: k) cs e a₁ w₁ → ∃ e a' w', Q e a' w' ∧ ArrivesIn (Machine.fenced P F) P m b k cs e a' w' := by
    intro m e a₁ w₁ hng hQ harr
    cases e with
    | normal => exact ⟨.normal, a₁, w₁, hQ, StepsIn.trans harr (.one (fenced_calm hb hr rfl) stepR_inScope')⟩
    | exit id => exact ⟨.exit id, a₁, w₁, hQ, fun k' hk => harr.1 k' (by simp [exitTo, hk]), fun hrr hk => harr.2 hrr (by simp [exitTo, hk])⟩
    | goto l => exact absurd rfl (hng l)
    | ret => exact ⟨_, a₁, w₁, hQ, harr⟩
    | panic ch => exact ⟨_, a₁, w₁, hQ, harr⟩
    | outgrown => exact ⟨_, a₁, w₁, hQ, harr⟩
  have key : ∀ j a w, I j a w → ∃ e a' w', Q e a' w' ∧ ArrivesIn (Machine.fenced P F) P (lone (b.atR a (.code rest :: .inScope c :: k)) cs w) b k cs e a' w' := by
    intro j
    induction j using Nat.strongRecOn with
    | _ j ih =>
      intro a w hI
      obtain ⟨e, a₁, w₁, hq', harr⟩ := pass j a w hI b (.inScope c :: k) cs hro hb hr
      cases e with
      | goto l' =>
        obtain ⟨rfl, j', hlt, hI'⟩ := hq'
        obtain ⟨e₂, a₂, w₂, hq₂, harr₂⟩ := ih j' hlt a₁ w₁ hI'
        exact ⟨e₂, a₂, w₂, hq₂, .of_steps (harr.1 _ hg) harr₂⟩
      | normal => exact out (by simp) hq' harr
      | exit id => exact out (by simp) hq' harr
      | ret => exact out (by simp) hq' harr
      | panic ch => exact out (by simp) hq' harr
      | outgrown => exact out (by simp) hq' harr
  have h0 : (lone (b.atR a (.code (.scope c) :: k)) cs w).fenced P F := fenced_calm hb hr rfl
  obtain ⟨e, a₁, w₁, hq', harr⟩ := first b (.inScope c :: k) cs hro hb hr
  have wrap : (∃ e a' w', Q e a' w' ∧ ArrivesIn (Machine.fenced P F) P (lone (b.atR a (.code c :: .inScope c :: k)) cs w) b k cs e a' w') → ∃ e a' w', Q e a' w' ∧ ArrivesIn (Machine.fenced P F) P (lone (b.atR a (.code (.scope c) :: k)) cs w) b k cs e a' w' :=
    fun ⟨e, a', w', q, r⟩ => ⟨e, a', w', q, .of_steps (.one h0 stepR_scope') r⟩
  cases e with
  | goto l' =>
    obtain ⟨rfl, j, hI⟩ := hq'
    obtain ⟨e₂, a₂, w₂, hq₂, harr₂⟩ := key j a₁ w₁ hI
    exact ⟨e₂, a₂, w₂, hq₂, .of_steps (.head h0 stepR_scope' (harr.1 _ hg)) harr₂⟩
  | normal => exact wrap (out (by simp) hq' harr)
  | exit id => exact wrap (out (by simp) hq' harr)
  | ret => exact wrap (out (by simp) hq' harr)
  | panic ch => exact wrap (out (by simp) hq' harr)
  | outgrown => exact wrap (out (by simp) hq' harr)

end
end Go.Proofs.YtmocapahlcaapaaGreatDoor

namespace Go.Proofs.YtmocapahlcaapaaGreatDoor
set_option linter.unusedSimpArgs false
set_option linter.unusedVariables false
open Go.RowKit

/-- Where code leads. -/
def QR (base : Bs) (w0 : World) (nt : Nat) (K : Ctx) (S : Mem) (w : World) (x : IX) (e' : Env) (S' : Mem) (d' : List Nat) : Exit → Act → World → Prop := fun ex a' w' =>
  ex = x.out ∧ ∃ K', ER K' S' nt e' a' ∧ DR K' S' d' a'.defers ∧ Sim base w0 K' S' w' ∧ Stp K S w K' S' w'

theorem QR.trans {base : Bs} {w0 : World} {nt : Nat} {K K1 : Ctx} {S S1 : Mem} {w w1 : World} {x : IX} {e' : Env} {S' : Mem} {d' : List Nat} {ex : Exit} {a' : Act} {w' : World} (hst : Stp K S w K1 S1 w1) (h : QR base w0 nt K1 S1 w1 x e' S' d' ex a' w') : QR base w0 nt K S w x e' S' d' ex a' w' :=
  let ⟨h1, K', h2, h3, h4, h5⟩ := h
  ⟨h1, K', h2, h3, h4, hst.trans h5⟩

section
variable {P : Program} {base : Bs} {w0 : World} {O : Orc} {nt : Nat} {rd : Option Nat} {n : Nat}

theorem ER.keep {K : Ctx} {S : Mem} {e : Env} {a : Act} (h : ER K S nt e a) (l : List Nat) : ER K S nt (keepE e l) a := ER.kept h.size fun t _ => h.slot t

theorem scope_no_goto {b : Bool} : ∀ (m : Nat) (l : List Nat) (ia : ICode) (lab : Nat) (ib : ICode) (e : Env) (S : Mem) (d : List Nat) (x : IX) (e' : Env) (S' : Mem) (d' : List Nat), evCode O b m (.scope l ia lab ib) e S d = some (x, e', S', d') → ∀ g, x ≠ .goto g
  | 0, _, _, _, _, _, _, _, _, _, _, _, h => by simp [evCode] at h
  | m + 1, l, ia, lab, ib, e, S, d, x, e', S', d', h => by
    simp only [evCode] at h
    split at h
    · split at h
      · exact scope_no_goto m _ _ _ _ _ _ _ _ _ _ _ h
      · cases h
    · rename_i hne
      intro g hg
      subst hg
      exact hne _ _ _ _ h

theorem rf_ok (hO : OK P base.Λ O) {g : Operand} {xg : X} {ps : Array Tmp} {ca cb : Code} {f : Nat} {path : List Bool} {keep : List Nat} (hg : compX g = some xg) (hL : base.Λ f path = some (ps, ca, cb, nt)) {m : Nat} {K : Ctx} {S : Mem} {e : Env} {a : Act} {d : List Nat} {w : World} {x : IX} {e' : Env} {S' : Mem} {d' : List Nat}
    (h : Sim base w0 K S w) (hr : ER K S nt e a) (hd : DR K S d a.defers) (hv : evCode O rd.isSome (m + 1) (.rf xg f path keep) e S d = some (x, e', S', d')) : (Code.rangeFunc g ps ca cb).wpIn (FW rd) n P (QR base w0 nt K S w x e' S' d') a w := by
  simp only [evCode] at hv
  cases rd with
  | some l => simp at hv
  | none =>
    simp only [Option.isSome_none, Bool.false_eq_true, if_false] at hv
    split at hv
    · rename_i gf fa fb hf
      split at hv
      · rename_i y S2 hcall
        split at hv
        · rename_i f' path' env st pend hS2
          split at hv
          · cases hv
          · rename_i hbusy
            simp only [Option.some.injEq, Prod.mk.injEq] at hv
            obtain ⟨hx, rfl, rfl, rfl⟩ := hv
            have hG := compX_ok (K := K) (S := S) hg hr
            rw [hf] at hG
            generalize hvg : a.eval g = vg at hG
            cases hG with
            | f _ _ _ x' y' hxl hyl h1 h2 =>
              refine wpIn_rangeFunc fun fn _ => ?_
              -- the two blocks
              obtain ⟨s1, t1⟩ := h.alloc (.dfr true) (.deferred (some [])) 0 fun K' S' w' hE e1 e2 e3 hb => ⟨by rw [e1]; exact e3, by rw [e1]; exact hb⟩
              have hp1 := K.put_same S.length w.heap.size 0
              generalize hK1 : K.put S.length w.heap.size 0 = K1 at s1 t1 hp1
              have hr1 := hr.mono t1.ext
              obtain ⟨s2, t2⟩ := s1.alloc (.loop f path (keepE e keep) .ready none) (.loop { state := .ready, pending := none, fn := fn, tmps := a.tmps, params := ps, assign := ca, body := cb, defers := w.heap.size }) 0 fun K' S' w' hE e1 e2 e3 hb =>
                ⟨_, by rw [e1]; exact e3, by rw [hL, hr.size], rfl, rfl, by rw [e1]; exact hb, fun t => ((hr1.keep keep).slot t).mono hE⟩
              have hl1 : (S ++ [Blk.dfr true]).length = S.length + 1 := by simp
              have hw1 : (w.alloc (.deferred (some []))).heap.size = w.heap.size + 1 := by simp
              rw [hl1, hw1] at s2 t2
              have hp2 := K1.put_same (S.length + 1) (w.heap.size + 1) 0
              have hp3 := K1.put_other (w.heap.size + 1) 0 (show S.length ≠ S.length + 1 by omega)
              generalize hK2 : K1.put (S.length + 1) (w.heap.size + 1) 0 = K2 at s2 t2 hp2 hp3
              have happ : S ++ [Blk.dfr true] ++ [.loop f path (keepE e keep) .ready none] = S ++ [.dfr true, .loop f path (keepE e keep) .ready none] := by simp
              rw [happ] at s2 t2
              obtain ⟨W, hW⟩ : ∃ W, W = (w.alloc (.deferred (some []))).alloc (.loop { state := .ready, pending := none, fn := fn, tmps := a.tmps, params := ps, assign := ca, body := cb, defers := w.heap.size }) := ⟨_, rfl⟩
              rw [← hW] at s2 t2
              have hst := t1.trans t2
              have hat : (S ++ [Blk.dfr true, .loop f path (keepE e keep) .ready none])[S.length + 1]? = some (.loop f path (keepE e keep) .ready none) := by
                rw [List.getElem?_append_right (by omega)]; simp
              have hat0 : (S ++ [Blk.dfr true, .loop f path (keepE e keep) .ready none])[S.length]? = some (.dfr true) := by
                rw [List.getElem?_append_right (by omega)]; simp
              obtain ⟨hen, hcl⟩ := hO.fn _ _ _ _ _ hcall
              have hy1 : VR K2 (S ++ [.dfr true, .loop f path (keepE e keep) .ready none]) (.y (S.length + 1)) (.func (.yield (w.heap.size + 1)) #[] #[]) := .y _ _ _ hat fun _ => hp2.1.symm
              have hargs : ArgsR K2 (S ++ [.dfr true, .loop f path (keepE e keep) .ready none]) (fa ++ [.y (S.length + 1)] ++ fb) (x' ++ #[Value.func (.yield (w.heap.size + 1)) #[] #[]] ++ y').toList := by
                simp only [Array.toList_append]
                refine (((ArgsR.of_arr hxl h1).mono hst.ext).append ?_).append ((ArgsR.of_arr hyl h2).mono hst.ext)
                exact ⟨rfl, fun k hk hk' => by
                  obtain rfl : k = 0 := by simp at hk; omega
                  exact hy1⟩
              refine ⟨w.heap.size + 1, [{ target := .collected w.heap.size, args := #[] }], W, { target := .fn (.func gf) y', args := x' ++ #[Value.func (.yield (w.heap.size + 1)) #[] #[]] }, W, gf, x' ++ #[Value.func (.yield (w.heap.size + 1)) #[] #[]] ++ y', W, by rw [hW]; exact run_enterLoop_outer fn a.tmps ps ca cb, ?_, fun _ _ => trivial, ?_, fun e => (by cases e), ?_⟩
              · simp [resolve, rangeCall, hvg, Deferred.ofValue]; rfl
              · simp [invoke, run_callFunc hen]
              · refine CallsIn.mono (callsW (rd := none) (hcl base w0 K2 W _ rfl hargs s2)) fun en w3 hp => ?_
                obtain ⟨K3, v, rfl, hV, s3, t3⟩ := hp
                have hμ : K3.μ (S.length + 1) = w.heap.size + 1 := by
                  obtain ⟨B', hB', _, hs⟩ := t3.ext.blk _ _ hat
                  rw [hS2] at hB'; obtain rfl := Option.some.inj hB'
                  rw [(hs rfl).1, hp2.1]
                obtain ⟨r, hh, g1, g2, g3, g4, g5⟩ := s3.blk _ _ hS2
                rw [hμ] at hh g4
                refine ⟨pend.map Jump.code, w3.putObj (w.heap.size + 1) (.loop { r with state := .exhausted }), by rw [← g3]; exact run_endLoop hh (by rw [g2]; exact hbusy), ?_⟩
                obtain ⟨s4, t4⟩ := s3.putObj (B' := .loop f' path' env .exhausted pend) (o := .loop { r with state := .exhausted }) hS2 rfl rfl rfl fun S'' w'' hE he => ⟨{ r with state := .exhausted }, he, g1, rfl, g3, by rw [hμ]; exact g4, fun t => (g5 t).mono hE⟩
                rw [hμ] at s4 t4
                have hall := (hst.trans t3).trans t4
                have hER : ER K3 (S2.set (S.length + 1) (.loop f' path' env .exhausted pend)) nt e { a with defers := [{ target := .collected w.heap.size, args := #[] }] ++ a.defers } := ⟨hr.size, fun t => (hr.slot t).mono hall.ext⟩
                have hDR : DR K3 (S2.set (S.length + 1) (.loop f' path' env .exhausted pend)) (S.length :: d) ([{ target := .collected w.heap.size, args := #[] }] ++ a.defers) :=
                  ⟨⟨w.heap.size, rfl, (VR.m S.length w.heap.size _ hat0 (fun _ => by rw [hp3.1, hp1.1])).mono (t3.trans t4).ext⟩, hd.mono hall.ext⟩
                cases pend with
                | none => subst hx; exact ⟨rfl, K3, hER, hDR, s4, hall⟩
                | some j =>
                  subst hx
                  cases j with
                  | ret => exact wpIn_ret ⟨rfl, K3, hER, hDR, s4, hall⟩
                  | exit id => exact wpIn_exit ⟨rfl, K3, hER, hDR, s4, hall⟩
                  | goto l => exact wpIn_goto ⟨rfl, K3, hER, hDR, s4, hall⟩
        · cases hv
      · cases hv
    · cases hv

theorem code_ok (hO : OK P base.Λ O) (hmix : P.follows .mixedOrders = true) : ∀ (m : Nat) (c : Code) (ic : ICode) (K : Ctx) (S : Mem) (e : Env) (a : Act) (d : List Nat) (w : World) (x : IX) (e' : Env) (S' : Mem) (d' : List Nat), CodeR P base.Λ nt c ic → Sim base w0 K S w → ER K S nt e a → DR K S d a.defers →
    evCode O rd.isSome m ic e S d = some (x, e', S', d') → c.wpIn (FW rd) n P (QR base w0 nt K S w x e' S' d') a w := by
  intro m
  induction m using Nat.strongRecOn with
  | _ m ih =>
    intro c ic K S e a d w x e' S' d' hc h hr hd hv
    cases m with
    | zero => simp [evCode] at hv
    | succ m =>
      have one : ∀ {x1 x2 : IX} {e1 e2 : Env} {S1 S2 : Mem} {d1 d2 : List Nat}, some (x1, e1, S1, d1) = some (x2, e2, S2, d2) → x1 = x2 ∧ e1 = e2 ∧ S1 = S2 ∧ d1 = d2 := by
        intro x1 x2 e1 e2 S1 S2 d1 d2 h
        simpa using h
      cases hc with
      | bad => simp [evCode] at hv
      | skip =>
        obtain ⟨rfl, rfl, rfl, rfl⟩ := one hv
        exact wpIn_skip ⟨rfl, K, hr, hd, h, .refl K S w⟩
      | label l =>
        obtain ⟨rfl, rfl, rfl, rfl⟩ := one hv
        exact wpIn_label ⟨rfl, K, hr, hd, h, .refl K S w⟩
      | region id ops l hm hdst =>
        simp only [evCode] at hv
        split at hv
        · rename_i e1 S1 hops
          obtain ⟨rfl, rfl, rfl, rfl⟩ := one hv
          exact wpIn_region_list (list_ok hO ops.toList l K S e a w e1 S1 hm hdst h hr hops fun K' a' w' q1 q2 q3 q4 => ⟨rfl, K', q1, by rw [q2]; exact hd.mono q4.ext, q3, q4⟩)
        · cases hv
      | draw id ops l p hm hp =>
        simp only [evCode] at hv
        split at hv
        · rename_i e1 S1 hops
          obtain ⟨rfl, rfl, rfl, rfl⟩ := one hv
          exact draw_ok hO hmix hm hp h hr hops fun K' a' w' q1 q2 q3 q4 => ⟨rfl, K', q1, by rw [q2]; exact hd.mono q4.ext, q3, q4⟩
        · cases hv
      | seq ha hb =>
        simp only [evCode] at hv
        refine wpIn_seq ?_
        split at hv
        · rename_i e1 S1 d1 h1
          refine Code.wpIn_mono (fun ex a1 w1 hq => ?_) (ih m (by omega) _ _ K S e a d w _ _ _ _ ha h hr hd h1)
          obtain ⟨rfl, K1, q1, q2, q3, q4⟩ := hq
          exact Code.wpIn_mono (fun ex a2 w2 hq => hq.trans q4) (ih m (by omega) _ _ K1 S1 e1 a1 d1 w1 _ _ _ _ hb q3 q1 q2 hv)
        · rename_i hne
          refine Code.wpIn_mono (fun ex a1 w1 hq => ?_) (ih m (by omega) _ _ K S e a d w _ _ _ _ ha h hr hd hv)
          obtain ⟨rfl, hq⟩ := hq
          cases x with
          | normal => exact absurd hv (hne _ _ _)
          | exit id => exact ⟨rfl, hq⟩
          | ret => exact ⟨rfl, hq⟩
          | goto l => exact ⟨rfl, hq⟩
      | cond hcx ha hb =>
        have hC := compX_ok (K := K) (S := S) hcx hr
        simp only [evCode] at hv
        split at hv
        · rename_i hb1
          rw [hb1] at hC
          refine wpIn_cond_true ?_ (ih m (by omega) _ _ K S e a d w _ _ _ _ ha h hr hd hv)
          generalize a.eval _ = v at hC ⊢
          cases hC; rfl
        · rename_i hb1
          rw [hb1] at hC
          refine wpIn_cond_false ?_ (ih m (by omega) _ _ K S e a d w _ _ _ _ hb h hr hd hv)
          generalize a.eval _ = v at hC ⊢
          cases hC; rfl
        · cases hv
      | block id ha =>
        simp only [evCode] at hv
        refine wpIn_block ?_
        split at hv
        · rename_i id' e1 S1 d1 h1
          refine Code.wpIn_mono (fun ex a1 w1 hq => ?_) (ih m (by omega) _ _ K S e a d w _ _ _ _ ha h hr hd h1)
          obtain ⟨rfl, hq⟩ := hq
          simp only [IX.out, Exit.inBlock]
          split at hv
          · rename_i hid
            obtain ⟨rfl, rfl, rfl, rfl⟩ := one hv
            rw [if_pos hid]; exact ⟨rfl, hq⟩
          · rename_i hid
            obtain ⟨rfl, rfl, rfl, rfl⟩ := one hv
            rw [if_neg hid]; exact ⟨rfl, hq⟩
        · rename_i hne
          refine Code.wpIn_mono (fun ex a1 w1 hq => ?_) (ih m (by omega) _ _ K S e a d w _ _ _ _ ha h hr hd hv)
          obtain ⟨rfl, hq⟩ := hq
          cases x with
          | normal => exact ⟨rfl, hq⟩
          | exit id' => exact absurd hv (hne _ _ _ _)
          | ret => exact ⟨rfl, hq⟩
          | goto l => exact ⟨rfl, hq⟩
      | loop l ha =>
        rename_i ca ia
        refine wpIn_loop_idx (fun j a1 w1 => j ≤ m + 1 ∧ ∃ K1 S1 e1 d1, ER K1 S1 nt e1 a1 ∧ DR K1 S1 d1 a1.defers ∧ Sim base w0 K1 S1 w1 ∧ Stp K S w K1 S1 w1 ∧ evCode O rd.isSome j (.loop l ia) e1 S1 d1 = some (x, e', S', d')) (j := m + 1)
          ⟨Nat.le_refl _, K, S, e, d, hr, hd, h, .refl K S w, hv⟩ fun j a1 w1 hI => ?_
        obtain ⟨hj, K1, S1, e1, d1, q1, q2, q3, q4, q5⟩ := hI
        cases j with
        | zero => simp [evCode] at q5
        | succ j =>
          simp only [evCode] at q5
          split at q5
          · rename_i e2 S2 d2 h2
            refine Code.wpIn_mono (fun ex a2 w2 hq => ?_) (ih j (by omega) _ _ K1 S1 (keepE e1 l) a1 d1 w1 _ _ _ _ ha q3 (q1.keep l) q2 h2)
            obtain ⟨rfl, K2, r1, r2, r3, r4⟩ := hq
            exact ⟨j, by omega, by omega, K2, S2, e2, d2, r1, r2, r3, q4.trans r4, q5⟩
          · rename_i hne
            refine Code.wpIn_mono (fun ex a2 w2 hq => ?_) (ih j (by omega) _ _ K1 S1 (keepE e1 l) a1 d1 w1 _ _ _ _ ha q3 (q1.keep l) q2 q5)
            obtain ⟨hx1, hq2⟩ := hq.trans q4
            subst hx1
            cases x with
            | normal => exact absurd q5 (hne _ _ _)
            | exit id => exact ⟨rfl, hq2⟩
            | ret => exact ⟨rfl, hq2⟩
            | goto l => exact ⟨rfl, hq2⟩
      | exit id =>
        obtain ⟨rfl, rfl, rfl, rfl⟩ := one hv
        exact wpIn_exit ⟨rfl, K, hr, hd, h, .refl K S w⟩
      | ret =>
        obtain ⟨rfl, rfl, rfl, rfl⟩ := one hv
        exact wpIn_ret ⟨rfl, K, hr, hd, h, .refl K S w⟩
      | goto l =>
        obtain ⟨rfl, rfl, rfl, rfl⟩ := one hv
        exact wpIn_goto ⟨rfl, K, hr, hd, h, .refl K S w⟩
      | scope l lab hf ha hb =>
        rename_i ca cb ia ib
        have hng := scope_no_goto _ _ _ _ _ _ _ _ _ _ _ _ hv
        simp only [evCode] at hv
        refine wpIn_scope_idx lab hf (fun j a1 w1 => j ≤ m ∧ ∃ K1 S1 e1 d1, ER K1 S1 nt e1 a1 ∧ DR K1 S1 d1 a1.defers ∧ Sim base w0 K1 S1 w1 ∧ Stp K S w K1 S1 w1 ∧ evCode O rd.isSome j (.scope l ib lab ib) e1 S1 d1 = some (x, e', S', d')) ?_ (fun j a1 w1 hI => ?_) (fun g a1 w1 hq => ?_)
        · split at hv
          · rename_i g e1 S1 d1 h1
            split at hv
            · rename_i hg
              subst hg
              refine Code.wpIn_mono (fun ex a1 w1 hq => ?_) (ih m (by omega) _ _ K S e a d w _ _ _ _ ha h hr hd h1)
              obtain ⟨rfl, K1, q1, q2, q3, q4⟩ := hq
              exact ⟨rfl, m, Nat.le_refl _, K1, S1, keepE e1 l, d1, q1.keep l, q2, q3, q4, hv⟩
            · cases hv
          · rename_i hne
            refine Code.wpIn_mono (fun ex a1 w1 hq => ?_) (ih m (by omega) _ _ K S e a d w _ _ _ _ ha h hr hd hv)
            obtain ⟨rfl, hq⟩ := hq
            cases x with
            | normal => exact ⟨rfl, hq⟩
            | exit id => exact ⟨rfl, hq⟩
            | ret => exact ⟨rfl, hq⟩
            | goto g => exact absurd rfl (hng g)
        · obtain ⟨hj, K1, S1, e1, d1, q1, q2, q3, q4, q5⟩ := hI
          cases j with
          | zero => simp [evCode] at q5
          | succ j =>
            simp only [evCode] at q5
            split at q5
            · rename_i g e2 S2 d2 h2
              split at q5
              · rename_i hg
                subst hg
                refine Code.wpIn_mono (fun ex a2 w2 hq => ?_) (ih j (by omega) _ _ K1 S1 e1 a1 d1 w1 _ _ _ _ hb q3 q1 q2 h2)
                obtain ⟨rfl, K2, r1, r2, r3, r4⟩ := hq
                exact ⟨rfl, j, by omega, by omega, K2, S2, keepE e2 l, d2, r1.keep l, r2, r3, q4.trans r4, q5⟩
              · cases q5
            · rename_i hne
              refine Code.wpIn_mono (fun ex a2 w2 hq => ?_) (ih j (by omega) _ _ K1 S1 e1 a1 d1 w1 _ _ _ _ hb q3 q1 q2 q5)
              obtain ⟨hx1, hq2⟩ := hq.trans q4
              subst hx1
              cases x with
              | normal => exact ⟨rfl, hq2⟩
              | exit id => exact ⟨rfl, hq2⟩
              | ret => exact ⟨rfl, hq2⟩
              | goto g => exact absurd rfl (hng g)
        · have := hq.1
          cases x <;> first | (simp [IX.out] at this; done) | (rename_i g'; exact hng g' rfl)
      | live l hc =>
        simp only [evCode] at hv
        exact ih m (by omega) _ _ K S (keepE e l) a d w _ _ _ _ hc h (hr.keep l) hd hv
      | rf f path keep hg hL => exact rf_ok hO hg hL h hr hd hv
end
end Go.Proofs.YtmocapahlcaapaaGreatDoor

namespace Go.Proofs.YtmocapahlcaapaaGreatDoor
set_option linter.unusedSimpArgs false
set_option linter.unusedVariables false
open Go.RowKit

section
variable {P : Program} {base : Bs} {w0 : World} {K : Ctx} {S : Mem} {w : World} {O : Orc}

/-! ### What the compiler gives -/
theorem sub_append : ∀ (p r : List Bool) (c : Code), sub c (p ++ r) = (sub c p).bind fun d => sub d r
  | [], r, c => by simp [sub]
  | x :: p, r, c => by
    cases c <;> simp only [List.cons_append, sub, Option.bind_none] <;> first | rfl | exact sub_append p r _

theorem sub_snoc {root c : Code} {q : List Bool} (h : sub root q.reverse = some c) (x : Bool) : sub root (x :: q).reverse = sub c [x] := by
  rw [List.reverse_cons, sub_append, h]; rfl

theorem compCode_ok {f : Nat} {fn : Func} {root : Code} (hf : P.funcs[f]? = some fn) (hb : fn.body = some root) (c : Code) : ∀ (path : Option (List Bool)), (∀ q, path = some q → sub root q.reverse = some c) → CodeR P (lamOf P) fn.ntmps c (compCode P f fn.ntmps path c) := by
  have step : ∀ {c d : Code} {path : Option (List Bool)} (x : Bool), (∀ q, path = some q → sub root q.reverse = some c) → sub c [x] = some d → ∀ q, path.map (x :: ·) = some q → sub root q.reverse = some d := by
    intro c d path x h hd q hq
    obtain ⟨q', rfl, rfl⟩ := Option.map_eq_some_iff.1 hq
    rw [sub_snoc (h q' rfl), hd]
  induction c with
  | skip => intro path _; exact .skip
  | label l => intro path _; exact .label l
  | region id ops dr =>
    intro path _
    simp only [compCode]
    split
    · rename_i l hm
      cases dr with
      | true =>
        simp only [if_true]
        split
        · rename_i hp; exact .draw id ops l _ hm hp
        · exact .bad _
      | false =>
        simp only [Bool.false_eq_true, if_false]
        split
        · rename_i hd; exact .region id ops l hm hd
        · exact .bad _
    · exact .bad _
  | seq a b iha ihb =>
    intro path h
    exact .seq (iha _ (step false h (by simp [sub]))) (ihb _ (step true h (by simp [sub])))
  | cond c a b iha ihb =>
    intro path h
    simp only [compCode]
    split
    · rename_i x hx
      exact .cond hx (iha _ (step false h (by simp [sub]))) (ihb _ (step true h (by simp [sub])))
    · exact .bad _
  | block id a iha => intro path h; exact .block id (iha _ (step false h (by simp [sub])))
  | loop a iha => intro path h; exact .loop [] (iha _ (step false h (by simp [sub])))
  | exit id => intro path _; exact .exit id
  | ret => intro path _; exact .ret
  | goto l => intro path _; exact .goto l
  | rangeFunc g ps a b iha ihb =>
    intro path h
    simp only [compCode]
    split
    · rename_i x q hx
      have hq := h q rfl
      exact .rf f q.reverse _ hx (by simp [lamOf, hf, hb, hq])
    · exact .bad _
  | _ => intro path _; exact .bad _

theorem compTop_ok {f : Nat} {fn : Func} {root : Code} (hf : P.funcs[f]? = some fn) (hb : fn.body = some root) (c : Code) : ∀ (path : Option (List Bool)), (∀ q, path = some q → sub root q.reverse = some c) → CodeR P (lamOf P) fn.ntmps c (compTop P f fn.ntmps path c) := by
  have step : ∀ {c d : Code} {path : Option (List Bool)} (x : Bool), (∀ q, path = some q → sub root q.reverse = some c) → sub c [x] = some d → ∀ q, path.map (x :: ·) = some q → sub root q.reverse = some d := by
    intro c d path x h hd q hq
    obtain ⟨q', rfl, rfl⟩ := Option.map_eq_some_iff.1 hq
    rw [sub_snoc (h q' rfl), hd]
  induction c with
  | seq a b iha ihb =>
    intro path h
    exact .seq (iha _ (step false h (by simp [sub]))) (ihb _ (step true h (by simp [sub])))
  | block id a iha => intro path h; exact .block id (iha _ (step false h (by simp [sub])))
  | scope c _ =>
    intro path h
    simp only [compTop]
    split
    · rename_i lab hl
      split
      · rename_i k hk
        exact .scope [] lab hk (compCode_ok hf hb c none (fun q hq => by cases hq)) (compCode_ok hf hb k none (fun q hq => by cases hq))
      · exact .bad _
    · exact .bad _
  | _ => intro path h; exact compCode_ok hf hb _ path h

theorem strip_ok {Λ : Nat → List Bool → Option (Array Tmp × Code × Code × Nat)} {nt : Nat} : ∀ (ic : ICode) (c : Code), CodeR P Λ nt c (strip ic) → CodeR P Λ nt c ic := by
  intro ic
  induction ic with
  | seq a b iha ihb => intro c h; simp only [strip] at h; cases h with | seq ha hb => exact .seq (iha _ ha) (ihb _ hb)
  | cond x a b iha ihb => intro c h; simp only [strip] at h; cases h with | cond hc ha hb => exact .cond hc (iha _ ha) (ihb _ hb)
  | block id a iha => intro c h; simp only [strip] at h; cases h with | block _ ha => exact .block id (iha _ ha)
  | loop l a iha => intro c h; simp only [strip] at h; cases h with | loop _ ha => exact .loop l (iha _ ha)
  | scope l a lab b iha ihb => intro c h; simp only [strip] at h; cases h with | scope _ _ hf ha hb => exact .scope l lab hf (iha _ ha) (ihb _ hb)
  | live l a iha => intro c h; simp only [strip] at h; exact .live l (iha _ h)
  | _ => intro c h; exact h

/-- What is known of a compiled function. -/
structure FuncF (P : Program) (f : Nat) (F : IFunc) : Prop where
  out : ∃ fn c, P.funcs[f]? = some fn ∧ fn.body = some c ∧ enterable P f = true ∧ F.nparams ≤ fn.ntmps ∧ fn.results.toList.mapM (compRes P) = some F.results ∧ CodeR P (lamOf P) fn.ntmps c F.body ∧
    ∀ path ps ia ib, (path, ps, ia, ib) ∈ F.loops → ∃ qs a b, lamOf P f path = some (qs, a, b, fn.ntmps) ∧ qs.toList = ps ∧ (∀ t ∈ ps, t < fn.ntmps) ∧ CodeR P (lamOf P) fn.ntmps a ia ∧ CodeR P (lamOf P) fn.ntmps b ib

theorem compFunc_ok0 {f : Nat} {F : IFunc} (h : compFunc P f = some F) : FuncF P f F := by
  unfold compFunc at h
  split at h
  · cases h
  · rename_i fn hf
    split at h
    · cases h
    · rename_i c hb
      split at h
      · rename_i hen
        simp only [Bool.and_eq_true, decide_eq_true_eq] at hen
        split at h
        · rename_i rs hrs
          injection h with h
          subst h
          refine ⟨fn, c, hf, hb, hen.1, hen.2, hrs, compTop_ok hf hb c (some []) (fun q hq => by injection hq with hq; subst hq; rfl), fun path ps ia ib hm => ?_⟩
          simp only [List.mem_filterMap] at hm
          obtain ⟨p, _, hp⟩ := hm
          unfold compLoop at hp
          split at hp
          · rename_i g qs a b hs
            split at hp
            · rename_i hlt
              simp only [Option.some.injEq, Prod.mk.injEq] at hp
              obtain ⟨rfl, rfl, rfl, rfl⟩ := hp
              refine ⟨qs, a, b, by simp [lamOf, hf, hb, hs], rfl, fun t ht => by simpa using List.all_eq_true.1 hlt t ht, compCode_ok hf hb a none (fun q hq => by cases hq), compCode_ok hf hb b none (fun q hq => by cases hq)⟩
            · cases hp
          · cases hp
        · cases h
      · cases h

/-- Whatever is noted. -/
theorem compFunc_ok {f : Nat} {F : IFunc} (h : compFunc P f = some (stripF F)) : FuncF P f F := by
  obtain ⟨fn, c, h1, h2, h3, h4, h5, h6, h7⟩ := (compFunc_ok0 h).out
  refine ⟨fn, c, h1, h2, h3, h4, h5, strip_ok _ _ h6, fun path ps ia ib hm => ?_⟩
  obtain ⟨qs, a, b, g1, g2, g3, g4, g5⟩ := h7 path ps (strip ia) (strip ib) (List.mem_map.2 ⟨_, hm, rfl⟩)
  exact ⟨qs, a, b, g1, g2, g3, strip_ok _ _ g4, strip_ok _ _ g5⟩

/-! ### Results -/
theorem run_loadVar (h : Sim base w0 K S w) {t : TypeId} {n : Option Nat} {x y : AV} {v : Value} (hs : shapeOf P t = some n) (hx : VR K S x v) (hl : ldCells S n x = some y) : ∃ r, (do loadVar t (← asAddr v) : Sem Value).run P w = .ok r w ∧ VR K S y r := by
  unfold shapeOf at hs
  split at hs
  · rename_i d inf hd hinf
    injection hs with hs
    unfold ldCells at hl
    split at hl
    · rename_i i off ver
      split at hl
      · rename_i n'
        obtain ⟨xs, hxs, rfl⟩ := Option.map_eq_some_iff.1 hl
        obtain ⟨B, hB, hv⟩ := rowAt_ver hxs
        obtain rfl := hx.addr hB hv
        obtain ⟨hlen, g, hg, hV⟩ := rowAt_ok h hxs
        have hagg : aggB d = true := by
          cases e : aggB d with
          | true => rfl
          | false => rw [e] at hs; cases hs
        simp only [hagg, if_true, Option.some.injEq] at hs
        subst hs
        exact ⟨_, by simp [asAddr, loadVar, run_isAgg' hd, hagg, run_sizeOf' hinf, run_loadCells w _ _ g hg], VR.agg hlen hV⟩
      · have hagg : aggB d = false := by
          cases e : aggB d with
          | false => rfl
          | true => rw [e] at hs; cases hs
        split at hl
        · rename_i z hz
          injection hl with hl
          subst hl
          obtain ⟨B, hB, hv⟩ := rowAt_ver hz
          obtain rfl := hx.addr hB hv
          obtain ⟨hlen, g, hg, hV⟩ := rowAt_ok h hz
          have hg0 := hg 0 (by omega)
          have hV0 := hV 0 (by omega)
          have hadd : (⟨K.μ i, off, none⟩ : Addr).add 0 = ⟨K.μ i, off, none⟩ := rfl
          rw [hadd] at hg0
          exact ⟨g 0, by simp [asAddr, loadVar, run_isAgg' hd, hagg, hg0], by simpa using hV0⟩
        · cases hl
    · cases hl
  · cases hs

theorem run_results1 (h : Sim base w0 K S w) {nt : Nat} {e : Env} {a : Act} (hr : ER K S nt e a) (fm : ResultVar → Sem Value) (hfm : ∀ t, fm (.tmp t) = pure (a.tmps.getD t undef)) (hfc : ∀ c t, fm (.cell c t) = (do loadVar t (← asAddr (a.tmps.getD c undef)))) : ∀ (l : List ResultVar) (rs : List IR) (xs : List AV), l.mapM (compRes P) = some rs → evResults e S rs = some xs →
    ∃ vs, (l.mapM fm).run P w = .ok vs w ∧ ArgsR K S xs vs
  | [], rs, xs, hm, hv => by
    simp at hm; subst hm
    simp only [evResults, Option.some.injEq] at hv
    subst hv
    exact ⟨[], by simp, rfl, fun k hk => by simp at hk⟩
  | r :: l, rs, xs, hm, hv => by
    simp only [List.mapM_cons, Option.bind_eq_bind, Option.bind_eq_some_iff, Option.pure_def, Option.some.injEq] at hm
    obtain ⟨ir, hir, rs', hrs, rfl⟩ := hm
    simp only [evResults] at hv
    split at hv
    · rename_i x xs' hx hxs
      injection hv with hv; subst hv
      obtain ⟨vs, hvs, hA⟩ := run_results1 h hr fm hfm hfc l rs' xs' hrs hxs
      have one : ∃ v, (fm r).run P w = .ok v w ∧ VR K S x v := by
        cases r with
        | tmp t =>
          simp only [compRes, Option.some.injEq] at hir; subst hir
          simp only [evRes, Option.some.injEq] at hx; subst hx
          exact ⟨_, by rw [hfm]; simp, hr.slot t⟩
        | cell c t =>
          obtain ⟨n, hn, rfl⟩ := Option.map_eq_some_iff.1 hir
          simp only [evRes] at hx
          rw [hfc]
          exact run_loadVar h hn (hr.slot c) hx
      obtain ⟨v, hv1, hV⟩ := one
      refine ⟨v :: vs, ?_, ⟨by simp [hA.1], fun k hk hk' => ?_⟩⟩
      · rw [List.mapM_cons]
        simp only [Sem.run_bind, hv1, Result.andThen_ok, hvs, Sem.run_pure]
      · cases k with
        | zero => exact hV
        | succ k => exact hA.2 k (by simpa using hk) (by simpa using hk')
    · cases hv

theorem run_results (h : Sim base w0 K S w) {nt : Nat} {e : Env} {a : Act} (hr : ER K S nt e a) {fn : Func} {rs : List IR} {xs : List AV} (hm : fn.results.toList.mapM (compRes P) = some rs) (hv : evResults e S rs = some xs) :
    ∃ v, (results fn a.tmps).run P w = .ok v w ∧ VR K S (resV xs) v := by
  have key : ∀ fm : ResultVar → Sem Value, (∀ t, fm (.tmp t) = pure (a.tmps.getD t undef)) → (∀ c t, fm (.cell c t) = (do loadVar t (← asAddr (a.tmps.getD c undef)))) →
      ∃ v, (do let vs ← List.toArray <$> fn.results.toList.mapM fm; pure (if h : vs.size = 1 then vs[0] else .tuple vs) : Sem Value).run P w = .ok v w ∧ VR K S (resV xs) v := by
    intro fm h1 h2
    obtain ⟨vs, hvs, hA⟩ := run_results1 h hr fm h1 h2 fn.results.toList rs xs hm hv
    refine ⟨if h : vs.toArray.size = 1 then vs.toArray[0] else .tuple vs.toArray, by simp only [Sem.run_bind, map_eq_pure_bind, hvs, Result.andThen_ok, Sem.run_pure], ?_⟩
    have hl := hA.1
    by_cases h1 : vs.toArray.size = 1
    · rw [dif_pos h1]
      have h2 : vs.length = 1 := by simpa using h1
      obtain ⟨v, rfl⟩ := (two h2).1 rfl
      obtain ⟨x, rfl⟩ := (two hl).1 rfl
      exact hA.2 0 (by simp) (by simp)
    · rw [dif_neg h1]
      have h2 : xs.length ≠ 1 := by rw [hl]; simpa using h1
      have : resV xs = .tu xs := by
        match xs, h2 with
        | [], _ => rfl
        | _ :: _ :: _, _ => rfl
      rw [this]
      exact .tu _ _ (by simp [hl]) fun k => by
        have := hA.getD k
        rw [← toList_getD]; simpa using this
  unfold results
  rw [Array.mapM_eq_mapM_toList]
  exact key _ (fun _ => rfl) (fun _ _ => rfl)

theorem leave_ok {fn : Func} {tmps : Array Value} {R : Ending → World → Prop} : ∀ (d : List Nat) (ds : List Deferred) (S S' : Mem) (w : World), DR K S d ds → Sim base w0 K S w → evLeave d S = some S' →
    (∀ w', Sim base w0 K S' w' → Stp K S w K S' w' → ∃ v, (results fn tmps).run P w' = .ok v w' ∧ R (.returned v) w') → LeavesInM (FW none) 0 P fn tmps R ds .returning w
  | [], [], S, S', w, _, h, hv, hK => by
    simp only [evLeave, Option.some.injEq] at hv
    subst hv
    exact hK w h (.refl K S w)
  | i :: d, x :: ds, S, S', w, hD, h, hv, hK => by
    obtain ⟨⟨r, rfl, hV⟩, hD⟩ := hD
    simp only [evLeave] at hv
    split at hv
    · rename_i hB
      have hr := hV.m_at hB rfl
      obtain ⟨h1, h2⟩ := h.blk i _ hB
      obtain ⟨s1, t1⟩ := h.putObj (B' := .dfr false) (o := .deferred none) hB rfl rfl rfl fun S'' w'' hE he => ⟨he, h2⟩
      refine ⟨by simp, .inl ⟨r, w.putObj r (.deferred none), rfl, run_takeDeferred (by rw [hr]; exact h1), ?_⟩⟩
      rw [hr]
      exact leave_ok d ds _ S' _ (hD.mono t1.ext) s1 hv fun w' a b => hK w' a (t1.trans b)
    · cases hv
  | [], _ :: _, _, _, _, hD, _, _, _ => hD.elim
  | _ :: _, [], _, _, _, hD, _, _, _ => hD.elim

theorem argsE_get : ∀ (xs : List AV) (k t : Nat), (argsE k xs).get t = if k ≤ t then xs.getD (t - k) .u else .u
  | [], k, t => by simp [argsE, Env.get]
  | x :: xs, k, t => by
    rw [argsE]
    by_cases h : k = t
    · subst h
      rw [get_put_same]; simp
    · rw [get_put_ne _ _ h, argsE_get xs (k + 1) t]
      by_cases h1 : k ≤ t
      · rw [if_pos h1, if_pos (by omega)]
        obtain ⟨j, hj⟩ : ∃ j, t - k = j + 1 := ⟨t - k - 1, by omega⟩
        rw [hj, show t - (k + 1) = j by omega]
        simp
      · rw [if_neg h1, if_neg (by omega)]

theorem func_ok (hO : OK P (lamOf P) O) (hmix : P.follows .mixedOrders = true) {f : FuncId} {F : IFunc} (hF : compFunc P f = some (stripF F)) {m : Nat} {args : List AV} {S : Mem} {x : AV} {S' : Mem} (hv : evFunc O m F args S = some (x, S')) :
    enterable P f = true ∧ ∀ (base : Bs) (w0 : World) (K : Ctx) (w : World) (vs : Array Value), base.Λ = lamOf P → ArgsR K S args vs.toList → Sim base w0 K S w → Calls P f vs w (Post base w0 K S w x S') := by
  obtain ⟨fn, c, hf, hb, hen, hnp, hres, hcode, _⟩ := (compFunc_ok hF).out
  refine ⟨hen, fun base w0 K w vs hΛ hA h => ?_⟩
  unfold evFunc at hv
  split at hv
  · rename_i hl
    split at hv
    · rename_i ix e S1 d hc
      split at hv
      · rename_i hix
        split at hv
        · rename_i S2 hlv
          split at hv
          · rename_i xs hxs
            simp only [Option.some.injEq, Prod.mk.injEq] at hv
            obtain ⟨rfl, rfl⟩ := hv
            have hsz : vs.size = F.nparams := by have := hA.1; rw [hl] at this; simpa using this.symm
            have hr : ER K S fn.ntmps (argsE 0 args) { tmps := vs ++ Array.replicate (fn.ntmps - vs.size) undef, defers := [] } := by
              refine ⟨by show (vs ++ Array.replicate (fn.ntmps - vs.size) undef).size = fn.ntmps; simp; omega, fun t => ?_⟩
              show VR K S _ ((vs ++ Array.replicate (fn.ntmps - vs.size) undef).getD t undef)
              rw [argsE_get, if_pos (Nat.zero_le _), Nat.sub_zero]
              by_cases ht : t < args.length
              · have := hA.getD t
                rw [toList_getD] at this
                have e1 : (vs ++ Array.replicate (fn.ntmps - vs.size) undef).getD t undef = vs.getD t undef := by
                  simp only [Array.getD_eq_getD_getElem?]
                  rw [Array.getElem?_append_left (by omega)]
                rw [e1]; exact this
              · have : args.getD t .u = .u := by simp [List.getD_eq_getElem?_getD, List.getElem?_eq_none (show args.length ≤ t by omega)]
                rw [this]; exact .u _
            rw [← hΛ] at hO hcode
            have hwp := code_ok (rd := none) (n := 0) (w0 := w0) hO hmix m c F.body K S _ _ [] w ix e S1 d hcode h hr trivial hc
            refine (callsIn_wide (n := 0)).1 ?_
            show CallsIn (FW none) 0 P f vs w _
            refine callsIn_of_wp_marks hf hb trivial ?_ rfl
            refine Code.wpIn_mono (fun ex a1 w1 hq => ?_) hwp
            obtain ⟨rfl, K1, q1, q2, q3, q4⟩ := hq
            have key : LeavesInM (FW none) 0 P fn a1.tmps (Post base w0 K S w (resV xs) S2) a1.defers .returning w1 := by
              refine leave_ok d a1.defers S1 S2 w1 q2 q3 hlv fun w2 s2 t2 => ?_
              obtain ⟨v, hv1, hV⟩ := run_results s2 (q1.mono t2.ext) hres hxs
              exact ⟨v, hv1, K1, v, rfl, hV, s2, q4.trans t2⟩
            cases ix with
            | normal => exact key
            | ret => exact key
            | exit id => cases hix
            | goto l => cases hix
          · cases hv
        · cases hv
      · cases hv
    · cases hv
  · cases hv
end
end Go.Proofs.YtmocapahlcaapaaGreatDoor

namespace Go.Proofs.YtmocapahlcaapaaGreatDoor
set_option linter.unusedSimpArgs false
set_option linter.unusedVariables false
open Go.RowKit

section
variable {P : Program} {K : Ctx} {S : Mem} {w : World} {O : Orc}

theorem ER.binds {K : Ctx} {S : Mem} {nt : Nat} : ∀ (ps : List Nat) (xs : List AV) (vs : List Value) (e : Env) (tmps : Array Value) (ds : List Deferred), ps.length = xs.length → ArgsR K S xs vs → (∀ t ∈ ps, t < nt) → ER K S nt e ⟨tmps, ds⟩ →
    ER K S nt (bindE ps xs e) ⟨(ps.zip vs).foldl (fun tmps p => tmps.setIfInBounds p.1 p.2) tmps, ds⟩
  | [], xs, vs, e, tmps, ds, hl, hA, _, hr => by
    have e1 : xs = [] := List.length_eq_zero_iff.1 (by simpa using hl.symm)
    subst e1
    simpa [bindE] using hr
  | p :: ps, x :: xs, v :: vs, e, tmps, ds, hl, hA, hlt, hr => by
    have hx : VR K S x v := hA.2 0 (by simp) (by simp)
    have := ER.binds ps xs vs ((p, x) :: e) (tmps.setIfInBounds p v) ds (by simpa using hl) ⟨by have := hA.1; simpa using this, fun k h1 h2 => hA.2 (k + 1) (by simp; omega) (by simp; omega)⟩ (fun t ht => hlt t (by simp [ht])) (hr.put hx p (hlt p (by simp)))
    simpa [bindE] using this
  | _ :: _, [], _, _, _, _, hl, _, _, _ => by simp at hl
  | _ :: _, _ :: _, [], _, _, _, _, hA, _, _ => by have := hA.1; simp at this

theorem round_ok (hO : OK P (lamOf P) O) (hmix : P.follows .mixedOrders = true) {T : FuncId → Option IFunc} (hT : ∀ f F, T f = some F → compFunc P f = some (stripF F)) {m i : Nat} {args : List AV} {S : Mem} {x : AV} {S' : Mem} (hv : evRound O m T i args S = some (x, S'))
    (base : Bs) (w0 : World) (K : Ctx) (w : World) (l : Nat) (vs : Array Value) (hΛ : base.Λ = lamOf P) (hy : VR K S (.y i) (.func (.yield l) #[] #[])) (hA : ArgsR K S args vs.toList) (h : Sim base w0 K S w) :
    ∃ f tmps assign body, (Instr.yield l vs).run P w = .ok (.round l f tmps assign body) w ∧ ∀ n, RoundIn Fence.wide n P l f tmps assign body w (Post base w0 K S w x S') := by
  unfold evRound at hv
  split at hv
  · rename_i f path env st0 pe0 hB
    split at hv
    · rename_i F hF
      split at hv
      · rename_i path' ps ia ib hfind
        split at hv
        · rename_i hlen
          split at hv
          · rename_i e1 S1 h1
            split at hv
            · rename_i f1 p1 env1 pe1 hB1
              split at hv
              · rename_i ix e2 S2 d2 h2
                split at hv
                · rename_i f2 p2 env2 st2 pe2 hB2
                  simp only [Option.some.injEq, Prod.mk.injEq] at hv
                  obtain ⟨rfl, rfl⟩ := hv
                  -- the record
                  have hl : l = K.μ i := by
                    cases hy with
                    | y _ _ B hB' hr => rw [hB] at hB'; obtain rfl := Option.some.inj hB'; exact hr rfl
                  obtain ⟨r, hh, hr1, hr2, hr3, hr4, hr5⟩ := h.blk _ _ hB
                  rw [← hl] at hh hr4
                  rw [hΛ] at hr1
                  obtain ⟨fn, c, _, _, _, _, _, _, hloops⟩ := (compFunc_ok (hT f F hF)).out
                  have hmem := List.mem_of_find?_eq_some hfind
                  have hpath : path' = path := by have := List.find?_some hfind; simpa using this
                  subst hpath
                  obtain ⟨qs, a, b, q1, q2, q3, q4, q5⟩ := hloops _ _ _ _ hmem
                  rw [q1] at hr1
                  simp only [Option.some.injEq, Prod.mk.injEq] at hr1
                  obtain ⟨rfl, rfl, rfl, hsz⟩ := hr1
                  have hvl : vs.size = r.params.size := by
                    have h1 := hA.1
                    have h2 : r.params.size = ps.length := by rw [← q2]; simp
                    rw [h2, ← hlen]; simpa using h1.symm
                  refine ⟨r.fn, _, r.assign, r.body, run_yield hh hvl, fun n => ?_⟩
                  have hr0 : ER K S fn.ntmps env ⟨r.tmps, []⟩ := ⟨hsz.symm, hr5⟩
                  have hr1 := ER.binds ps args vs.toList env r.tmps [] hlen.symm hA q3 hr0
                  have hz : (r.params.zip vs).foldl (fun tmps (t, a) => tmps.setIfInBounds t a) r.tmps = (ps.zip vs.toList).foldl (fun tmps p => tmps.setIfInBounds p.1 p.2) r.tmps := by
                    rw [← Array.foldl_toList, Array.toList_zip, q2]
                  rw [hz]
                  rw [← hΛ] at hO q4 q5
                  have w1 := code_ok (rd := some l) (n := n) (w0 := w0) hO hmix m r.assign ia K S _ _ [] w _ _ _ _ q4 h hr1 trivial h1
                  refine roundIn_of_wpIn (F := Fence.wide) trivial (Code.wpIn_mono (fun ex a1 w1 hq => ?_) w1)
                  obtain ⟨rfl, K1, g1, g2, g3, g4⟩ := hq
                  have hμ1 : K1.μ i = l := by
                    obtain ⟨B', hB', _, hs⟩ := g4.ext.blk _ _ hB
                    rw [hB1] at hB'; obtain rfl := Option.some.inj hB'
                    rw [(hs rfl).1, hl]
                  obtain ⟨r1, k1, k2, k3, k4, k5, k6⟩ := g3.blk _ _ hB1
                  rw [hμ1] at k1 k5
                  obtain ⟨s2, t2⟩ := g3.putObj (B' := .loop f1 p1 env1 .busy pe1) (o := .loop { r1 with state := .busy }) hB1 rfl rfl rfl fun S'' w'' hE he => ⟨{ r1 with state := .busy }, he, k2, rfl, k4, by rw [hμ1]; exact k5, fun t => (k6 t).mono hE⟩
                  rw [hμ1] at s2 t2
                  refine ⟨_, run_beginRound k1 k3, ?_⟩
                  have w2 := code_ok (rd := some l) (n := n) (w0 := w0) hO hmix m r.body ib K1 (S1.set i (.loop f1 p1 env1 .busy pe1)) e1 a1 [] _ _ _ _ _ q5 s2 (g1.mono t2.ext) (g2.mono t2.ext) h2
                  refine Code.wpIn_mono (fun ex a2 w3 hq => ?_) w2
                  obtain ⟨rfl, K2, j1, j2, j3, j4⟩ := hq
                  have hat2 : (S1.set i (.loop f1 p1 env1 .busy pe1))[i]? = some (.loop f1 p1 env1 .busy pe1) := by
                    have := (List.getElem?_eq_some_iff.1 hB1).1
                    simp [this]
                  have hμ2 : K2.μ i = l := by
                    obtain ⟨B', hB', _, hs⟩ := j4.ext.blk _ _ hat2
                    rw [hB2] at hB'; obtain rfl := Option.some.inj hB'
                    rw [(hs rfl).1, hμ1]
                  obtain ⟨r2, n1, n2, n3, n4, n5, n6⟩ := j3.blk _ _ hB2
                  rw [hμ2] at n1 n5
                  have fin : ∀ (jp : Option Jump) (cd : Option Code), cd = jp.map Jump.code → ixJump ix = jp → ∃ v w', (Instr.endRound l cd).run P w3 = .ok v w' ∧
                      Post base w0 K S w (.b (ixJump ix).isNone) (S2.set i (.loop f2 p2 env2 (if (ixJump ix).isNone then .ready else .done) (ixJump ix))) (.returned v) w' := by
                    intro jp cd hcd hjp
                    rw [hjp]
                    have hcn : cd.isNone = jp.isNone := by rw [hcd]; cases jp <;> rfl
                    obtain ⟨s3, t3⟩ := j3.putObj (B' := .loop f2 p2 env2 (if jp.isNone then .ready else .done) jp) (o := .loop { r2 with state := if cd.isNone then .ready else .done, pending := cd }) hB2 rfl rfl rfl fun S'' w'' hE he =>
                      ⟨{ r2 with state := if cd.isNone then .ready else .done, pending := cd }, he, n2, by simp only [hcn], hcd, by rw [hμ2]; exact n5, fun t => (n6 t).mono hE⟩
                    rw [hμ2] at s3 t3
                    refine ⟨_, _, run_endRound cd n1, K2, .bool cd.isNone, rfl, ?_, s3, ((g4.trans t2).trans j4).trans t3⟩
                    rw [hcn]; exact .b _
                  cases ix with
                  | normal => exact fin none none rfl rfl
                  | ret => exact fin (some .ret) (some .ret) rfl rfl
                  | exit id => exact fin (some (.exit id)) (some (.exit id)) rfl rfl
                  | goto g => exact fin (some (.goto g)) (some (.goto g)) rfl rfl
                · cases hv
              · cases hv
            · cases hv
          · cases hv
        · cases hv
      · cases hv
    · cases hv
  · cases hv

/-- Nothing is known of the memory; it is not touched. -/
theorem Sim.start (Λ : Nat → List Bool → Option (Array Tmp × Code × Code × Nat)) (w : World) (hd : Door w.heap.size w) : Sim ⟨w.heap.size, Λ⟩ w ⟨fun _ => 0, fun _ => 0⟩ [] w :=
  ⟨fun i B h => by simp at h, fun i j h => by simp at h, Below.refl _ _, Nat.le_refl _, hd⟩

/-- It is 'true'. -/
def isTrue : Option (AV × Mem) → Bool
  | some (.b true, _) => true
  | _ => false

/-- A table of functions. -/
def look : List (Nat × IFunc) → Nat → Option IFunc
  | [], _ => none
  | (k, F) :: r, f => bif Nat.beq k f then some F else look r f
theorem look_ok : ∀ (l : List (Nat × IFunc)), (∀ p ∈ l, compFunc P p.1 = some (stripF p.2)) → ∀ f F, look l f = some F → compFunc P f = some (stripF F)
  | [], _, f, F, h => by cases h
  | (k, G) :: r, hl, f, F, h => by
    simp only [look] at h
    cases hb : Nat.beq k f with
    | true =>
      rw [hb] at h
      simp only [cond_true, Option.some.injEq] at h
      have := Nat.eq_of_beq_eq_true hb
      subst this; subst h
      exact hl (k, G) List.mem_cons_self
    | false =>
      rw [hb] at h
      exact look_ok r (fun p hp => hl p (by simp [hp])) f F h
end
end Go.Proofs.YtmocapahlcaapaaGreatDoor

namespace Go.Proofs.YtmocapahlcaapaaGreatDoor
set_option linter.unusedSimpArgs false
set_option linter.unusedVariables false
open Go.RowKit

abbrev Kont := IX → Env → Mem → List Nat → Prop

/-- Where code leads: 'S0' is the memory in which the function was entered. -/
def QP (base : Bs) (w0 : World) (nt : Nat) (K0 : Ctx) (S0 : Mem) (wE : World) (Q : Kont) : Exit → Act → World → Prop := fun ex a' w' =>
  ∃ x e' S' d' K', ex = x.out ∧ Q x e' S' d' ∧ ER K' S' nt e' a' ∧ DR K' S' d' a'.defers ∧ Sim base w0 K' S' w' ∧ Stp K0 S0 wE K' S' w'

def WP (P : Program) (S0 : Mem) (rd : Bool) (ic : ICode) (e : Env) (S : Mem) (d : List Nat) (Q : Kont) : Prop :=
  ∀ (nt : Nat) (c : Code) (base : Bs) (w0 : World) (r : Option Nat) (m : Nat) (K0 : Ctx) (wE : World) (K : Ctx) (a : Act) (w : World),
    base.Λ = lamOf P → r.isSome = rd → CodeR P (lamOf P) nt c ic → Sim base w0 K0 S0 wE → Sim base w0 K S w → ER K S nt e a → DR K S d a.defers → Stp K0 S0 wE K S w →
    c.wpIn (FW r) m P (QP base w0 nt K0 S0 wE Q) a w

section
variable {P : Program} {S0 : Mem} {rd : Bool} {e : Env} {S : Mem} {d : List Nat} {Q Q' : Kont}

theorem QP.mono {base : Bs} {w0 : World} {nt : Nat} {K0 : Ctx} {wE : World} (hQ : ∀ x e S d, Q x e S d → Q' x e S d) {ex : Exit} {a : Act} {w : World} (h : QP base w0 nt K0 S0 wE Q ex a w) : QP base w0 nt K0 S0 wE Q' ex a w :=
  let ⟨x, e', S', d', K', h1, h2, h3⟩ := h
  ⟨x, e', S', d', K', h1, hQ _ _ _ _ h2, h3⟩

theorem WP.mono {ic : ICode} (h : WP P S0 rd ic e S d Q) (hQ : ∀ x e S d, Q x e S d → Q' x e S d) : WP P S0 rd ic e S d Q' :=
  fun nt c base w0 r m K0 wE K a w h1 h2 h3 h4 h5 h6 h7 h8 => Code.wpIn_mono (fun _ _ _ => QP.mono hQ) (h nt c base w0 r m K0 wE K a w h1 h2 h3 h4 h5 h6 h7 h8)

theorem wp_skip (hq : Q .normal e S d) : WP P S0 rd .skip e S d Q := by
  intro nt c base w0 r n K0 wE K a w h1 h2 h3 h4 h5 h6 h7 h8
  have hq' : QP base w0 nt K0 S0 wE Q .normal a w := ⟨.normal, e, S, d, K, rfl, hq, h6, h7, h5, h8⟩
  cases h3 with
  | skip => exact wpIn_skip hq'
  | label l => exact wpIn_label hq'

theorem wp_ret (hq : Q .ret e S d) : WP P S0 rd .ret e S d Q := by
  intro nt c base w0 r n K0 wE K a w h1 h2 h3 h4 h5 h6 h7 h8
  cases h3
  exact wpIn_ret ⟨.ret, e, S, d, K, rfl, hq, h6, h7, h5, h8⟩

theorem wp_exit {id : Nat} (hq : Q (.exit id) e S d) : WP P S0 rd (.exit id) e S d Q := by
  intro nt c base w0 r n K0 wE K a w h1 h2 h3 h4 h5 h6 h7 h8
  cases h3
  exact wpIn_exit ⟨.exit id, e, S, d, K, rfl, hq, h6, h7, h5, h8⟩

theorem wp_goto {l : Nat} (hq : Q (.goto l) e S d) : WP P S0 rd (.goto l) e S d Q := by
  intro nt c base w0 r n K0 wE K a w h1 h2 h3 h4 h5 h6 h7 h8
  cases h3
  exact wpIn_goto ⟨.goto l, e, S, d, K, rfl, hq, h6, h7, h5, h8⟩

theorem wp_region {O : Orc} (hO : OK P (lamOf P) O) {ops : List ROp} {e' : Env} {S' : Mem} (hv : evOps O ops e S = some (e', S')) (hq : Q .normal e' S' d) : WP P S0 rd (.region ops) e S d Q := by
  intro nt c base w0 r n K0 wE K a w h1 h2 h3 h4 h5 h6 h7 h8
  cases h3 with
  | region id ops l hm hd =>
    rw [← h1] at hO
    exact wpIn_region_list (list_ok hO ops.toList _ K S e a w e' S' hm hd h5 h6 hv fun K' a' w' q1 q2 q3 q4 => ⟨.normal, e', S', d, K', rfl, hq, q1, by rw [q2]; exact h7.mono q4.ext, q3, h8.trans q4⟩)

theorem wp_draw {O : Orc} (hO : OK P (lamOf P) O) (hmix : P.follows .mixedOrders = true) {st : List Stage} {late : List Nat} {e' : Env} {S' : Mem} (hv : evDraw O st late e S = some (e', S')) (hq : Q .normal e' S' d) : WP P S0 rd (.draw st late) e S d Q := by
  intro nt c base w0 r n K0 wE K a w h1 h2 h3 h4 h5 h6 h7 h8
  cases h3 with
  | draw id ops l p hm hp =>
    rw [← h1] at hO
    exact draw_ok hO hmix hm hp h5 h6 hv fun K' a' w' q1 q2 q3 q4 => ⟨.normal, e', S', d, K', rfl, hq, q1, by rw [q2]; exact h7.mono q4.ext, q3, h8.trans q4⟩

theorem wp_live {l : List Nat} {ic : ICode} (h : WP P S0 rd ic (keepE e l) S d Q) : WP P S0 rd (.live l ic) e S d Q := by
  intro nt c base w0 r n K0 wE K a w h1 h2 h3 h4 h5 h6 h7 h8
  cases h3 with
  | live _ hc => exact h nt c base w0 r n K0 wE K a w h1 h2 hc h4 h5 (h6.keep l) h7 h8

/-- Behind the first of two. -/
def seqK (f : Env → Mem → List Nat → Kont → Prop) (Q : Kont) : Kont := fun x e S d => match x with
  | .normal => f e S d Q
  | x => Q x e S d
theorem seqK_normal (f : Env → Mem → List Nat → Kont → Prop) : seqK f Q .normal e S d = f e S d Q := (rfl)
theorem seqK_ret (f : Env → Mem → List Nat → Kont → Prop) : seqK f Q .ret e S d = Q .ret e S d := (rfl)
theorem seqK_exit (f : Env → Mem → List Nat → Kont → Prop) (id : Nat) : seqK f Q (.exit id) e S d = Q (.exit id) e S d := (rfl)
theorem seqK_goto (f : Env → Mem → List Nat → Kont → Prop) (l : Nat) : seqK f Q (.goto l) e S d = Q (.goto l) e S d := (rfl)

theorem wp_seq {a b : ICode} (h : WP P S0 rd a e S d (seqK (WP P S0 rd b) Q)) : WP P S0 rd (.seq a b) e S d Q := by
  intro nt c base w0 r n K0 wE K ac w h1 h2 h3 h4 h5 h6 h7 h8
  cases h3 with
  | seq ha hb =>
    refine wpIn_seq (Code.wpIn_mono (fun ex a1 w1 hq => ?_) (h nt _ base w0 r n K0 wE K ac w h1 h2 ha h4 h5 h6 h7 h8))
    obtain ⟨x, e', S', d', K', rfl, q1, q2, q3, q4, q5⟩ := hq
    cases x with
    | normal => exact q1 nt _ base w0 r n K0 wE K' a1 w1 h1 h2 hb h4 q4 q2 q3 q5
    | ret => exact ⟨.ret, e', S', d', K', rfl, q1, q2, q3, q4, q5⟩
    | exit id => exact ⟨.exit id, e', S', d', K', rfl, q1, q2, q3, q4, q5⟩
    | goto l => exact ⟨.goto l, e', S', d', K', rfl, q1, q2, q3, q4, q5⟩

theorem wp_cond_true {c : X} {a b : ICode} (hc : c.ev e = .b true) (h : WP P S0 rd a e S d Q) : WP P S0 rd (.cond c a b) e S d Q := by
  intro nt cc base w0 r n K0 wE K ac w h1 h2 h3 h4 h5 h6 h7 h8
  cases h3 with
  | cond hcx ha hb =>
    have hC := compX_ok (K := K) (S := S) hcx h6
    rw [hc] at hC
    refine wpIn_cond_true ?_ (h nt _ base w0 r n K0 wE K ac w h1 h2 ha h4 h5 h6 h7 h8)
    generalize ac.eval _ = v at hC ⊢
    cases hC; rfl

theorem wp_cond_false {c : X} {a b : ICode} (hc : c.ev e = .b false) (h : WP P S0 rd b e S d Q) : WP P S0 rd (.cond c a b) e S d Q := by
  intro nt cc base w0 r n K0 wE K ac w h1 h2 h3 h4 h5 h6 h7 h8
  cases h3 with
  | cond hcx ha hb =>
    have hC := compX_ok (K := K) (S := S) hcx h6
    rw [hc] at hC
    refine wpIn_cond_false ?_ (h nt _ base w0 r n K0 wE K ac w h1 h2 hb h4 h5 h6 h7 h8)
    generalize ac.eval _ = v at hC ⊢
    cases hC; rfl

/-- Behind a block. -/
def blockK (id : Nat) (Q : Kont) : Kont := fun x e S d => match x with
  | .exit id' => if id' = id then Q .normal e S d else Q (.exit id') e S d
  | x => Q x e S d
theorem blockK_normal (id : Nat) : blockK id Q .normal e S d = Q .normal e S d := (rfl)
theorem blockK_ret (id : Nat) : blockK id Q .ret e S d = Q .ret e S d := (rfl)
theorem blockK_goto (id l : Nat) : blockK id Q (.goto l) e S d = Q (.goto l) e S d := (rfl)
theorem blockK_exit (id id' : Nat) : blockK id Q (.exit id') e S d = if id' = id then Q .normal e S d else Q (.exit id') e S d := (rfl)

theorem wp_block {id : Nat} {a : ICode} (h : WP P S0 rd a e S d (blockK id Q)) : WP P S0 rd (.block id a) e S d Q := by
  intro nt c base w0 r n K0 wE K ac w h1 h2 h3 h4 h5 h6 h7 h8
  cases h3 with
  | block _ ha =>
    refine wpIn_block (Code.wpIn_mono (fun ex a1 w1 hq => ?_) (h nt _ base w0 r n K0 wE K ac w h1 h2 ha h4 h5 h6 h7 h8))
    obtain ⟨x, e', S', d', K', rfl, q1, q2, q3, q4, q5⟩ := hq
    cases x with
    | normal => exact ⟨.normal, e', S', d', K', rfl, q1, q2, q3, q4, q5⟩
    | ret => exact ⟨.ret, e', S', d', K', rfl, q1, q2, q3, q4, q5⟩
    | goto l => exact ⟨.goto l, e', S', d', K', rfl, q1, q2, q3, q4, q5⟩
    | exit id' =>
      rw [blockK_exit] at q1
      simp only [IX.out, Exit.inBlock]
      split at q1
      · rename_i hid; rw [if_pos hid]; exact ⟨.normal, e', S', d', K', rfl, q1, q2, q3, q4, q5⟩
      · rename_i hid; rw [if_neg hid]; exact ⟨.exit id', e', S', d', K', rfl, q1, q2, q3, q4, q5⟩

/-- Behind a round of a loop. -/
def loopK (j : Nat) (I : Nat → Env → Mem → List Nat → Prop) (Q : Kont) : Kont := fun x e S d => match x with
  | .normal => ∃ j', j' < j ∧ I j' e S d
  | x => Q x e S d
theorem loopK_normal {j : Nat} {I : Nat → Env → Mem → List Nat → Prop} : loopK j I Q .normal e S d = ∃ j', j' < j ∧ I j' e S d := (rfl)
theorem loopK_ret {j : Nat} {I : Nat → Env → Mem → List Nat → Prop} : loopK j I Q .ret e S d = Q .ret e S d := (rfl)
theorem loopK_exit {j : Nat} {I : Nat → Env → Mem → List Nat → Prop} (id : Nat) : loopK j I Q (.exit id) e S d = Q (.exit id) e S d := (rfl)
theorem loopK_goto {j : Nat} {I : Nat → Env → Mem → List Nat → Prop} (l : Nat) : loopK j I Q (.goto l) e S d = Q (.goto l) e S d := (rfl)

/-- Behind a part of a scope. -/
def jumpK (lab : Nat) (R : Env → Mem → List Nat → Prop) (Q : Kont) : Kont := fun x e S d => match x with
  | .goto g => g = lab ∧ R e S d
  | x => Q x e S d
theorem jumpK_normal {lab : Nat} {R : Env → Mem → List Nat → Prop} : jumpK lab R Q .normal e S d = Q .normal e S d := (rfl)
theorem jumpK_ret {lab : Nat} {R : Env → Mem → List Nat → Prop} : jumpK lab R Q .ret e S d = Q .ret e S d := (rfl)
theorem jumpK_exit {lab : Nat} {R : Env → Mem → List Nat → Prop} (id : Nat) : jumpK lab R Q (.exit id) e S d = Q (.exit id) e S d := (rfl)
theorem jumpK_goto {lab : Nat} {R : Env → Mem → List Nat → Prop} (g : Nat) : jumpK lab R Q (.goto g) e S d = (g = lab ∧ R e S d) := (rfl)

/-- The second state stands for whatever the first stands for. -/
def Wk (S0 : Mem) (e : Env) (S : Mem) (e2 : Env) (S2 : Mem) : Prop :=
  ∀ (base : Bs) (w0 : World) (K0 : Ctx) (wE : World) (K : Ctx) (w : World), Sim base w0 K0 S0 wE → Sim base w0 K S w → Stp K0 S0 wE K S w →
    ∃ K2, Sim base w0 K2 S2 w ∧ (∀ t v, VR K S (e.get t) v → VR K2 S2 (e2.get t) v) ∧ Stp K0 S0 wE K2 S2 w

theorem Wk.refl (S0 : Mem) (e : Env) (S : Mem) : Wk S0 e S e S := fun _ _ _ _ K _ _ h2 h3 => ⟨K, h2, fun _ _ h => h, h3⟩

/-- What is known of a call. -/
def FnOK (P : Program) (f : FuncId) (args : List AV) (S : Mem) (x : AV) (S' : Mem) : Prop :=
  enterable P f = true ∧ ∀ (base : Bs) (w0 : World) (K : Ctx) (w : World) (vs : Array Value), base.Λ = lamOf P → ArgsR K S args vs.toList → Sim base w0 K S w → Calls P f vs w (Post base w0 K S w x S')

/-- Behind a function's body. -/
def retK (S0 : Mem) (rs : List IR) (R : AV → Mem → Prop) : Kont := fun ix e S1 d => isEnd ix = true ∧ ∃ S2 xs, evLeave d S1 = some S2 ∧ evResults e S2 rs = some xs ∧ R (resV xs) S2

/-- Up to what nothing leads to. -/
def WkV (S0 : Mem) (x : AV) (S' : Mem) : AV → Mem → Prop := fun y S2 => Wk S0 [(0, y)] S2 [(0, x)] S'

theorem fn_of_wp {f : FuncId} {F : IFunc} (hF : compFunc P f = some (stripF F)) {args : List AV} {x : AV} {S' : Mem} (hl : args.length = F.nparams) (h : WP P S false F.body (argsE 0 args) S [] (retK S F.results (WkV S x S'))) : FnOK P f args S x S' := by
  obtain ⟨fn, c, hf, hb, hen, hnp, hres, hcode, _⟩ := (compFunc_ok hF).out
  refine ⟨hen, fun base w0 K w vs hΛ hA hS => ?_⟩
  have hsz : vs.size = F.nparams := by have := hA.1; rw [hl] at this; simpa using this.symm
  have hr : ER K S fn.ntmps (argsE 0 args) { tmps := vs ++ Array.replicate (fn.ntmps - vs.size) undef, defers := [] } := by
    refine ⟨by show (vs ++ Array.replicate (fn.ntmps - vs.size) undef).size = fn.ntmps; simp; omega, fun t => ?_⟩
    show VR K S _ ((vs ++ Array.replicate (fn.ntmps - vs.size) undef).getD t undef)
    rw [argsE_get, if_pos (Nat.zero_le _), Nat.sub_zero]
    by_cases ht : t < args.length
    · have := hA.getD t
      rw [toList_getD] at this
      have e1 : (vs ++ Array.replicate (fn.ntmps - vs.size) undef).getD t undef = vs.getD t undef := by
        simp only [Array.getD_eq_getD_getElem?]
        rw [Array.getElem?_append_left (by omega)]
      rw [e1]; exact this
    · have : args.getD t .u = .u := by simp [List.getD_eq_getElem?_getD, List.getElem?_eq_none (show args.length ≤ t by omega)]
      rw [this]; exact .u _
  have hwp := h fn.ntmps c base w0 none 0 K w K _ w hΛ rfl hcode hS hS hr trivial (.refl K S w)
  refine (callsIn_wide (n := 0)).1 ?_
  show CallsIn (FW none) 0 P f vs w _
  refine callsIn_of_wp_marks hf hb trivial ?_ rfl
  refine Code.wpIn_mono (fun ex a1 w1 hq => ?_) hwp
  obtain ⟨ix, e1, S1, d1, K1, rfl, ⟨hix, S2, xs, hlv, hxs, hW⟩, q1, q2, q3, q4⟩ := hq
  have key : LeavesInM (FW none) 0 P fn a1.tmps (Post base w0 K S w x S') a1.defers .returning w1 := by
    refine leave_ok d1 a1.defers S1 S2 w1 q2 q3 hlv fun w2 s2 t2 => ?_
    obtain ⟨v, hv1, hV⟩ := run_results s2 (q1.mono t2.ext) hres hxs
    obtain ⟨K2, z1, z2, z3⟩ := hW base w0 K w K1 w2 hS s2 (q4.trans t2)
    exact ⟨v, hv1, K2, v, rfl, z2 0 v hV, z1, z3⟩
  cases ix with
  | normal => exact key
  | ret => exact key
  | exit id => cases hix
  | goto l => cases hix

/-- A function does what is specified. -/
def SpecOK (P : Program) (f : FuncId) (s : Spec) : Prop := ∀ args S x S', s args S = some (x, S') → FnOK P f args S x S'

def orcOf (l : List (FuncId × Spec)) : Orc := ⟨fun f args S => match l.find? (fun p => p.1 == f) with | some p => p.2 args S | none => none, fun _ _ _ => none⟩

theorem orc_ok {l : List (FuncId × Spec)} (h : ∀ p ∈ l, SpecOK P p.1 p.2) : OK P (lamOf P) (orcOf l) := by
  refine ⟨fun f args S x S' hv => ?_, fun i args S x S' hv => by simp [orcOf] at hv⟩
  simp only [orcOf] at hv
  split at hv
  · rename_i p hp
    have h1 := h p (List.mem_of_find?_eq_some hp) args S x S' hv
    have h2 : p.1 = f := by simpa using List.find?_some hp
    rw [h2] at h1
    exact h1
  · cases hv
end
end Go.Proofs.YtmocapahlcaapaaGreatDoor

namespace Go.Proofs.YtmocapahlcaapaaGreatDoor
set_option linter.unusedSimpArgs false
set_option linter.unusedVariables false
open Go.RowKit

/-! ### What reads goes on reading the same where memory has grown -/
theorem grow_get {S T : Mem} {i : Nat} {B : Blk} (h : S[i]? = some B) : (S ++ T)[i]? = some B := by
  rw [List.getElem?_append_left (List.getElem?_eq_some_iff.1 h).1]; exact h

theorem rowAt_grow {S : Mem} (T : Mem) {i o v n : Nat} {xs : List AV} (h : rowAt S i o v n = some xs) : rowAt (S ++ T) i o v n = some xs := by
  unfold rowAt at h ⊢
  cases hB : S[i]? with
  | none => rw [hB] at h; cases h
  | some B => rw [grow_get hB]; rw [hB] at h; exact h

theorem ldCells_grow {S : Mem} (T : Mem) {n : Option Nat} {x y : AV} (h : ldCells S n x = some y) : ldCells (S ++ T) n x = some y := by
  cases x <;> try (simp [ldCells] at h; done)
  cases n with
  | some n =>
    simp only [ldCells] at h ⊢
    obtain ⟨xs, hx, rfl⟩ := Option.map_eq_some_iff.1 h
    rw [rowAt_grow T hx]; rfl
  | none =>
    simp only [ldCells] at h ⊢
    split at h
    · rename_i z hz
      rw [rowAt_grow T hz]; exact h
    · cases h

theorem sliceV_grow {S : Mem} (T : Mem) {size : Nat} {x y : AV} {lo hi mx : Option AV} (h : sliceV S size x lo hi mx = some y) : sliceV (S ++ T) size x lo hi mx = some y := by
  unfold sliceV at h ⊢
  split at h
  · exact h
  · exact h
  · split at h
    · cases h
    · split at h
      · rename_i hc; rw [if_pos hc]; exact h
      · rename_i hc
        rw [if_neg hc]
        split at h
        · rename_i hl; rw [if_pos hl]; exact h
        · rename_i hl
          rw [if_neg hl]
          split at h
          · rename_i hB; rw [grow_get hB]; exact h
          · cases h
  · cases h

theorem lenV_grow {S : Mem} (T : Mem) {x : AV} {n : Nat} (h : lenV S x = some n) : lenV (S ++ T) x = some n := by
  unfold lenV at h ⊢
  split at h <;> try exact h
  split at h
  · rename_i hB; rw [grow_get hB]; exact h
  · cases h

theorem toStrV_grow {S : Mem} (T : Mem) {x y : AV} (h : toStrV S x = some y) : toStrV (S ++ T) x = some y := by
  unfold toStrV at h ⊢
  split at h <;> try exact h
  split at h
  · rename_i hr; rw [rowAt_grow T hr]; exact h
  · cases h

theorem mapOf_grow {S : Mem} (T : Mem) {x : AV} {es : List (AV × AV × Nat)} (h : mapOf S x = some es) : mapOf (S ++ T) x = some es := by
  unfold mapOf at h ⊢
  split at h <;> try exact h
  split at h
  · rename_i hB; rw [grow_get hB]; exact h
  · cases h

theorem mlookV_grow {S : Mem} (T : Mem) {ag : Bool} {ks : List TK} {z : AV} {ok : Bool} {x k y : AV} (h : mlookV S ag ks z ok x k = some y) : mlookV (S ++ T) ag ks z ok x k = some y := by
  unfold mlookV at h ⊢
  split at h
  · rename_i h1 h2; rw [mapOf_grow T h2, h1]; exact h
  · cases h

theorem apartB_grow {S : Mem} (T : Mem) {i j o v v2 : Nat} (h : apartB (S[i]?) (S[j]?) o v v2 = true) : apartB ((S ++ T)[i]?) ((S ++ T)[j]?) o v v2 = true := by
  cases hi : S[i]? with
  | none => rw [hi] at h; simp [apartB] at h
  | some A => cases hj : S[j]? with
    | none => rw [hi, hj] at h; cases A <;> simp [apartB] at h
    | some B =>
      rw [hi, hj] at h
      rw [List.getElem?_append_left (List.getElem?_eq_some_iff.1 hi).1, List.getElem?_append_left (List.getElem?_eq_some_iff.1 hj).1, hi, hj]; exact h
theorem evIO_grow {e : Env} {S S' : Mem} (T : Mem) {io : IO'} {x : AV} (hs : io.still = true) (h : evIO e S io = some (x, S')) : evIO e (S ++ T) io = some (x, S ++ T) := by
  have hS := still_ok hs h
  subst hS
  have fin : ∀ {o o' : Option AV}, (∀ y, o = some y → o' = some y) → (match o with | some y => some (y, S') | none => none) = some (x, S') → (match o' with | some y => some (y, S' ++ T) | none => none) = some (x, S' ++ T) := by
    intro o o' hh hv
    cases o with
    | none => cases hv
    | some y => rw [hh y rfl]; simp only [Option.some.injEq, Prod.mk.injEq, and_true] at hv; rw [hv]
  cases io <;> simp only [IO'.still] at hs <;> (first | cases hs | skip) <;> simp only [evIO] at h ⊢
  case mv => simp only [Option.some.injEq, Prod.mk.injEq, and_true] at h; rw [h]
  case pick => split at h <;> first | (simp only [Option.some.injEq, Prod.mk.injEq, and_true] at h; rw [h]) | cases h
  case mkf => simp only [Option.some.injEq, Prod.mk.injEq, and_true] at h; rw [h]
  case build => split at h <;> first | (simp only [Option.some.injEq, Prod.mk.injEq, and_true] at h; rw [h]) | cases h
  case load => exact fin (fun y hy => ldCells_grow T hy) h
  case slice => exact fin (fun y hy => sliceV_grow T hy) h
  case toStr => exact fin (fun y hy => toStrV_grow T hy) h
  case mlook => exact fin (fun y hy => mlookV_grow T hy) h
  case len k y =>
    split at h
    · rename_i hk
      rw [if_pos hk]
      split at h
      · rename_i n hn
        rw [lenV_grow T hn]; simp only [Option.some.injEq, Prod.mk.injEq, and_true] at h ⊢; exact h
      · cases h
    · cases h
  case mm b xs =>
    split at h
    · split at h
      · simp only [Option.some.injEq, Prod.mk.injEq, and_true] at h; rw [h]
      · cases h
    · cases h
  case same y =>
    split at h
    · simp only [Option.some.injEq, Prod.mk.injEq, and_true] at h; rw [h]
    · cases h
  case ovl y z =>
    split at h
    · split at h
      · rename_i hc
        rw [if_pos ⟨hc.1, apartB_grow T hc.2⟩]
        simp only [Option.some.injEq, Prod.mk.injEq, and_true] at h; rw [h]
      · cases h
    · cases h
  all_goals (split at h <;> first | (simp only [Option.some.injEq, Prod.mk.injEq, and_true] at h; rw [h]) | cases h)

theorem evOne_grow {O : Orc} {e : Env} {S S' : Mem} (T : Mem) {o : ROp} {x : AV} (hs : o.io.still = true) (h : evOne O e S o = some (x, S')) : evOne O e (S ++ T) o = some (x, S ++ T) := by
  unfold evOne at h ⊢
  split at h
  · cases h
  · simp only [Option.some.injEq, Prod.mk.injEq] at h; rw [← h.1]
  · cases hio : o.io with
    | op io => rw [hio] at hs h; exact evIO_grow T hs h
    | call f xs => rw [hio] at hs; simp [IOp.still] at hs
    | callv x xs => rw [hio] at hs; simp [IOp.still] at hs

/-- It looks at the memory. -/
def IO'.reads : IO' → Bool
  | .mv _ | .pick .. | .build .. | .nilck _ | .bin .. | .un .. | .toInt .. | .faddr .. | .fld .. | .iaddr .. | .ixa .. | .ixs .. | .sla .. | .sls .. | .ext .. | .mkf .. | .mm .. | .eqag .. | .same _ | .cap _ | .ixbyte .. => false
  | _ => true
def IOp.reads : IOp → Bool
  | .op io => io.reads
  | _ => true

theorem evIO_pure {e : Env} {S S' S2 : Mem} {io : IO'} {x : AV} (hs : io.reads = false) (h : evIO e S io = some (x, S')) : S' = S ∧ evIO e S2 io = some (x, S2) := by
  cases io <;> simp only [IO'.reads] at hs <;> (first | cases hs | skip) <;> simp only [evIO] at h ⊢
  all_goals first
    | (simp only [Option.some.injEq, Prod.mk.injEq] at h; obtain ⟨h1, h2⟩ := h; exact ⟨h2.symm, by rw [h1]⟩)
    | (split at h <;> first | (simp only [Option.some.injEq, Prod.mk.injEq] at h; obtain ⟨h1, h2⟩ := h; exact ⟨h2.symm, by rw [h1]⟩) | cases h)
    | (split at h; (split at h <;> first | (simp only [Option.some.injEq, Prod.mk.injEq] at h; obtain ⟨h1, h2⟩ := h; exact ⟨h2.symm, by rw [h1]⟩) | cases h); cases h)

theorem evOne_pure {O : Orc} {e : Env} {S S' S2 : Mem} {o : ROp} {x : AV} (hs : o.io.reads = false) (h : evOne O e S o = some (x, S')) : evOne O e S2 o = some (x, S2) := by
  unfold evOne at h ⊢
  split at h
  · cases h
  · simp only [Option.some.injEq, Prod.mk.injEq] at h; rw [← h.1]
  · cases hio : o.io with
    | op io => rw [hio] at hs h; exact (evIO_pure hs h).2
    | call f xs => rw [hio] at hs; simp [IOp.reads] at hs
    | callv x xs => rw [hio] at hs; simp [IOp.reads] at hs

/-! ### The order of the stages keeps to the slots -/
def optD : Option ROp → List Nat
  | some o => dstL o
  | none => []
def nsD (l : List (ROp × Nat)) : List Nat := l.flatMap fun q => dstL q.1
def Stage.dsts (g : Stage) : List Nat := nsD g.ns ++ (optD g.a ++ optD g.m)
def stD (st : List Stage) : List Nat := st.flatMap Stage.dsts

/-- 'W': what is written already; 'rest': what is written later. -/
def opOk (late W rest : List Nat) (o : ROp) : Bool := o.use.all (fun t => if late.contains t then !W.contains t else !(dstL o ++ rest).contains t) && (dstL o).all fun d => !rest.contains d
def optOk (late W rest : List Nat) : Option ROp → Bool
  | some o => opOk late W rest o
  | none => true
def nsOk (late : List Nat) : List (ROp × Nat) → List Nat → List Nat → Bool
  | [], _, _ => true
  | q :: r, W, rest => opOk late W (nsD r ++ rest) q.1 && nsOk late r (dstL q.1 ++ W) rest
def stOk (late : List Nat) : List Stage → List Nat → Bool
  | [], _ => true
  | g :: r, W => nsOk late g.ns W (optD g.a ++ (optD g.m ++ stD r)) && optOk late (nsD g.ns ++ W) (optD g.m ++ stD r) g.a && optOk late (optD g.a ++ (nsD g.ns ++ W)) (stD r) g.m && stOk late r (g.dsts ++ W)

/-- The last stages of what reads, up to a stage. -/
def hisOf (g : Stage) : List Nat := (g.ns.filter fun q => q.1.io.reads).map (·.2)
/-- Must memory grow behind the stages? Where what reads ahead of it may come later, too. 's': the stage's number; 'acc': the last stages of what reads ahead of it. -/
def marks : List Stage → Nat → List Nat → List Bool
  | [], _, _ => []
  | g :: r, s, acc => (acc ++ hisOf g).any (fun h => decide (s < h)) :: marks r (s + 1) (acc ++ hisOf g)

/-- From stage to stage memory grows, where it must. -/
def Grows : List Bool → List Noted → Prop
  | m :: ms, N :: N' :: r => (m = true → ∃ T, N'.S = N.S ++ T) ∧ Grows ms (N' :: r)
  | _, _ => True

theorem Grows.at : ∀ {ms : List Bool} {l : List Noted} {s : Nat} {N N' : Noted}, Grows ms l → ms[s]? = some true → l[s]? = some N → l[s + 1]? = some N' → ∃ T, N'.S = N.S ++ T
  | [], _, s, _, _, _, h, _, _ => by simp at h
  | m :: ms, [], s, _, _, _, _, h, _ => by simp at h
  | m :: ms, [A], s, _, _, _, _, _, h => by simp at h
  | m :: ms, A :: B :: r, s, N, N', hg, hm, h1, h2 => by
    cases s with
    | zero =>
      simp only [List.getElem?_cons_zero, List.getElem?_cons_succ, Option.some.injEq] at hm h1 h2
      subst h1; subst h2
      exact hg.1 hm
    | succ s =>
      simp only [List.getElem?_cons_succ] at hm h1 h2
      exact Grows.at hg.2 hm h1 h2

theorem marks_length : ∀ (st : List Stage) (s : Nat) (acc : List Nat), (marks st s acc).length = st.length
  | [], _, _ => rfl
  | g :: r, s, acc => by simp [marks, marks_length r]

theorem marks_acc : ∀ (st : List Stage) (s : Nat) (acc : List Nat) (t h : Nat), t < st.length → h ∈ acc → s + t < h → (marks st s acc)[t]? = some true
  | [], _, _, t, _, ht, _, _ => by simp at ht
  | g :: r, s, acc, 0, h, _, hm, hl => by
    simp only [marks, List.getElem?_cons_zero, Option.some.injEq, List.any_eq_true, decide_eq_true_eq]
    exact ⟨h, List.mem_append_left _ hm, by omega⟩
  | g :: r, s, acc, t + 1, h, ht, hm, hl => by
    simp only [marks, List.getElem?_cons_succ]
    exact marks_acc r (s + 1) _ t h (by simpa using ht) (List.mem_append_left _ hm) (by omega)

theorem marks_at : ∀ (st : List Stage) (s : Nat) (acc : List Nat) (lo t : Nat) (g : Stage) (q : ROp × Nat), st[lo]? = some g → q ∈ g.ns → q.1.io.reads = true → lo ≤ t → t < st.length → s + t < q.2 → (marks st s acc)[t]? = some true
  | [], _, _, _, _, _, _, h, _, _, _, _, _ => by simp at h
  | g :: r, s, acc, 0, t, g', q, h, hq, hr, _, ht, hl => by
    simp only [List.getElem?_cons_zero, Option.some.injEq] at h
    subst h
    have hm : q.2 ∈ acc ++ hisOf g := List.mem_append_right _ (List.mem_map.2 ⟨q, List.mem_filter.2 ⟨hq, hr⟩, rfl⟩)
    cases t with
    | zero =>
      simp only [marks, List.getElem?_cons_zero, Option.some.injEq, List.any_eq_true, decide_eq_true_eq]
      exact ⟨q.2, hm, by omega⟩
    | succ t =>
      simp only [marks, List.getElem?_cons_succ]
      exact marks_acc r (s + 1) _ t q.2 (by simpa using ht) hm (by omega)
  | g :: r, s, acc, lo + 1, t, g', q, h, hq, hr, hlt, ht, hl => by
    simp only [List.getElem?_cons_succ] at h
    obtain ⟨t', rfl⟩ : ∃ t', t = t' + 1 := ⟨t - 1, by omega⟩
    simp only [marks, List.getElem?_cons_succ]
    exact marks_at r (s + 1) _ lo t' g' q h hq hr (by omega) (by simpa using ht) (by omega)

theorem use_er {e0 ef ec : Env} {late W rest : List Nat} {o : ROp} (hk : opOk late W rest o = true) (hold : ∀ t, t ∉ W → ec.get t = e0.get t) (hnew : ∀ t, t ∉ dstL o ++ rest → ef.get t = ec.get t) :
    ∀ t ∈ o.use, (keepE e0 late ++ ef).get t = ec.get t := by
  intro t ht
  simp only [opOk, Bool.and_eq_true, List.all_eq_true] at hk
  have h := hk.1 t ht
  rw [get_keepE_append]
  by_cases hl : t ∈ late
  · rw [if_pos hl]
    rw [if_pos (by simpa using hl)] at h
    exact (hold t (by simpa using h)).symm
  · rw [if_neg hl]
    rw [if_neg (by simpa using hl)] at h
    exact hnew t (by simpa using h)

theorem dst_er {ef ec : Env} {late W rest : List Nat} {o : ROp} {x : AV} (hk : opOk late W rest o = true) (hnew : ∀ t, t ∉ rest → ef.get t = (putE ec o.dst x).get t) : ∀ d, o.dst = some d → x = ef.get d := by
  intro d hd
  simp only [opOk, Bool.and_eq_true, List.all_eq_true] at hk
  have := hk.2 d (dst_mem.2 hd)
  rw [hnew d (by simpa using this), hd]
  exact (get_put_same ec d x).symm

theorem get_putE' {e e0 : Env} {o : ROp} {x : AV} {W : List Nat} (hold : ∀ t, t ∉ W → e.get t = e0.get t) : ∀ t, t ∉ dstL o ++ W → (putE e o.dst x).get t = e0.get t := by
  intro t ht
  simp only [List.mem_append, not_or] at ht
  rw [get_putE _ _ _ _ fun h => ht.1 (dst_mem.2 h)]
  exact hold t ht.2

theorem ns_grow {O : Orc} {e0 ef : Env} {late : List Nat} {S : Mem} : ∀ (l : List (ROp × Nat)) (e e1 : Env) (W rest : List Nat), evNs O l e S = some e1 → nsOk late l W rest = true → (∀ t, t ∉ W → e.get t = e0.get t) → (∀ t, t ∉ rest → ef.get t = e1.get t) →
    (∀ q ∈ l, ∃ x S', evOne O (keepE e0 late ++ ef) S q.1 = some (x, S') ∧ ∀ d, q.1.dst = some d → x = ef.get d) ∧ (∀ t, t ∉ nsD l ++ W → e1.get t = e0.get t) ∧ ∀ t, t ∉ nsD l → e1.get t = e.get t
  | [], e, e1, W, rest, h, _, hold, _ => by
    simp only [evNs, Option.some.injEq] at h
    subst h
    exact ⟨fun q hq => by simp at hq, fun t ht => hold t (by simpa [nsD] using ht), fun t _ => rfl⟩
  | (o, hi) :: l, e, e1, W, rest, h, hk, hold, hnew => by
    simp only [evNs] at h
    split at h
    · cases h
    · rename_i x S' hx
      simp only [nsOk, Bool.and_eq_true] at hk
      obtain ⟨g1, g2, g3⟩ := ns_grow l _ _ (dstL o ++ W) rest h hk.2 (get_putE' hold) hnew
      have hn : ∀ t, t ∉ nsD l ++ rest → ef.get t = (putE e o.dst x).get t := fun t ht => by
        simp only [List.mem_append, not_or] at ht
        rw [hnew t ht.2, g3 t ht.1]
      refine ⟨fun q hq => ?_, fun t ht => ?_, fun t ht => ?_⟩
      · simp only [List.mem_cons] at hq
        rcases hq with rfl | hq
        · refine ⟨x, S', ?_, dst_er hk.1 hn⟩
          rw [evOne_congr S (use_er hk.1 hold fun t ht => ?_)]; exact hx
          simp only [List.mem_append, not_or] at ht
          rw [hn t (by simp only [List.mem_append, not_or]; exact ht.2)]
          exact get_putE _ _ _ _ fun h => ht.1 (dst_mem.2 h)
        · exact g1 q hq
      · refine g2 t ?_
        simp only [nsD, List.flatMap_cons, List.mem_append, not_or] at ht ⊢
        exact ⟨ht.1.2, ht.1.1, ht.2⟩
      · simp only [nsD, List.flatMap_cons, List.mem_append, not_or] at ht
        rw [g3 t ht.2]
        exact get_putE _ _ _ _ fun h => ht.1 (dst_mem.2 h)

theorem opt_grow {O : Orc} {e0 ef e e1 : Env} {late W rest : List Nat} {S S1 : Mem} {o : Option ROp} (h : evOpt O o e S = some (e1, S1)) (hk : optOk late W rest o = true) (hold : ∀ t, t ∉ W → e.get t = e0.get t) (hnew : ∀ t, t ∉ rest → ef.get t = e1.get t) :
    OptF O (keepE e0 late ++ ef) ef S S1 o ∧ (∀ t, t ∉ optD o ++ W → e1.get t = e0.get t) ∧ ∀ t, t ∉ optD o → e1.get t = e.get t := by
  cases o with
  | none =>
    simp only [evOpt, Option.some.injEq, Prod.mk.injEq] at h
    obtain ⟨rfl, rfl⟩ := h
    exact ⟨rfl, fun t ht => hold t (by simpa [optD] using ht), fun t _ => rfl⟩
  | some o =>
    simp only [evOpt] at h
    split at h
    · cases h
    · rename_i x S' hx
      simp only [Option.some.injEq, Prod.mk.injEq] at h
      obtain ⟨rfl, rfl⟩ := h
      refine ⟨⟨x, ?_, dst_er hk hnew⟩, get_putE' hold, fun t ht => get_putE _ _ _ _ fun h => ht (dst_mem.2 h)⟩
      rw [evOne_congr S (use_er hk hold fun t ht => ?_)]; exact hx
      simp only [List.mem_append, not_or] at ht
      rw [hnew t ht.2]
      exact get_putE _ _ _ _ fun h => ht.1 (dst_mem.2 h)

/-- What is known of a stage. -/
def StG (O : Orc) (er ef : Env) (Sf : Mem) (st : List Stage) (pre : List Noted) (s : Nat) (g : Stage) : Prop :=
  ∃ N S2 S3, pre[s]? = some N ∧ (∀ q ∈ g.ns, ∃ x S', evOne O er N.S q.1 = some (x, S') ∧ ∀ d, q.1.dst = some d → x = ef.get d) ∧ OptF O er ef N.S S2 g.a ∧ OptF O er ef S2 S3 g.m ∧
    (s + 1 < st.length → ∃ N', pre[s + 1]? = some N' ∧ N'.S = S3) ∧ (s + 1 = st.length → S3 = Sf)

theorem stages_grow {O : Orc} {e0 ef : Env} {late : List Nat} {Sf : Mem} : ∀ (st : List Stage) (e : Env) (S : Mem) (pre : List Noted) (W : List Nat), evStages O st e S = some (ef, Sf, pre) → stOk late st W = true → (∀ t, t ∉ W → e.get t = e0.get t) →
    pre.length = st.length ∧ (∀ s g, st[s]? = some g → StG O (keepE e0 late ++ ef) ef Sf st pre s g) ∧ (∀ N, pre[0]? = some N → N.S = S) ∧ ∀ t, t ∉ stD st → ef.get t = e.get t
  | [], e, S, pre, W, h, _, _ => by
    simp only [evStages, Option.some.injEq, Prod.mk.injEq] at h
    obtain ⟨rfl, rfl, rfl⟩ := h
    exact ⟨rfl, fun s g hg => by simp at hg, fun N hN => by simp at hN, fun t _ => rfl⟩
  | g :: st, e, S, pre, W, h, hk, hold => by
    simp only [evStages] at h
    split at h
    · cases h
    · rename_i e1 h1
      split at h
      · cases h
      · rename_i e2 S2 h2
        split at h
        · cases h
        · rename_i e3 S3 h3
          split at h
          · cases h
          · rename_i ef' Sf' pre' h4
            simp only [Option.some.injEq, Prod.mk.injEq] at h
            obtain ⟨rfl, rfl, rfl⟩ := h
            simp only [stOk, Bool.and_eq_true] at hk
            obtain ⟨⟨⟨k1, k2⟩, k3⟩, k4⟩ := hk
            -- the slots, once without looking at the end
            have o1 := (ns_grow (ef := e1) g.ns e e1 W [] h1 (by
              have : ∀ (l : List (ROp × Nat)) (W r : List Nat), nsOk late l W r = true → nsOk late l W [] = true := by
                intro l
                induction l with
                | nil => intro W r _; rfl
                | cons q l ih =>
                  intro W r hh
                  simp only [nsOk, Bool.and_eq_true] at hh ⊢
                  refine ⟨?_, ih _ _ hh.2⟩
                  have h5 := hh.1
                  simp only [opOk, Bool.and_eq_true, List.all_eq_true] at h5 ⊢
                  refine ⟨fun t ht => ?_, fun d hd => ?_⟩
                  · have := h5.1 t ht
                    split
                    · rename_i hc; rw [if_pos hc] at this; exact this
                    · rename_i hc
                      rw [if_neg hc] at this
                      simp at this ⊢
                      exact ⟨this.1, this.2.1⟩
                  · have := h5.2 d hd
                    simp at this ⊢
                    exact this.1
              exact this _ _ _ k1) hold fun t _ => rfl).2
            have q2 : ∀ t, t ∉ optD g.a → e2.get t = e1.get t := fun t ht => opt_env h2 t fun x hx => by
              rw [hx] at ht; exact fun h => ht (dst_mem.2 h)
            have q3 : ∀ t, t ∉ optD g.m → e3.get t = e2.get t := fun t ht => opt_env h3 t fun x hx => by
              rw [hx] at ht; exact fun h => ht (dst_mem.2 h)
            have hold2 : ∀ t, t ∉ optD g.a ++ (nsD g.ns ++ W) → e2.get t = e0.get t := fun t ht => by
              simp only [List.mem_append, not_or] at ht
              rw [q2 t ht.1]
              exact o1.1 t (by simp only [List.mem_append, not_or]; exact ht.2)
            have hold3 : ∀ t, t ∉ g.dsts ++ W → e3.get t = e0.get t := fun t ht => by
              simp only [Stage.dsts, List.mem_append, not_or] at ht
              rw [q3 t ht.1.2.2]
              exact hold2 t (by simp only [List.mem_append, not_or]; exact ⟨ht.1.2.1, ht.1.1, ht.2⟩)
            obtain ⟨r1, r2, r3, r4⟩ := stages_grow st e3 S3 pre' _ h4 k4 hold3
            have n3 : ∀ t, t ∉ stD st → ef'.get t = e3.get t := r4
            have n2 : ∀ t, t ∉ optD g.m ++ stD st → ef'.get t = e2.get t := fun t ht => by
              simp only [List.mem_append, not_or] at ht
              rw [n3 t ht.2, q3 t ht.1]
            have n1 : ∀ t, t ∉ optD g.a ++ (optD g.m ++ stD st) → ef'.get t = e1.get t := fun t ht => by
              simp only [List.mem_append, not_or] at ht
              rw [n2 t (by simp only [List.mem_append, not_or]; exact ht.2), q2 t ht.1]
            obtain ⟨a1, a2, a3⟩ := ns_grow g.ns e e1 W _ h1 k1 hold n1
            obtain ⟨b1, b2, b3⟩ := opt_grow h2 k2 a2 n2
            obtain ⟨c1, c2, c3⟩ := opt_grow h3 k3 b2 n3
            refine ⟨by simp [r1], fun s g' hg' => ?_, fun N hN => ?_, fun t ht => ?_⟩
            · cases s with
              | zero =>
                simp only [List.getElem?_cons_zero, Option.some.injEq] at hg'
                subst hg'
                refine ⟨⟨S, e1, e2, e3⟩, S2, S3, by simp, a1, b1, c1, fun hl => ?_, fun hl => ?_⟩
                · have hlt : 0 < pre'.length := by rw [r1]; simp only [List.length_cons] at hl; omega
                  exact ⟨pre'[0], by simp [hlt], r3 _ (by simp [hlt])⟩
                · have : st = [] := by
                    apply List.length_eq_zero_iff.1
                    simp only [List.length_cons] at hl; omega
                  subst this
                  simp only [evStages, Option.some.injEq, Prod.mk.injEq] at h4
                  exact h4.2.1
              | succ s =>
                simp only [List.getElem?_cons_succ] at hg'
                obtain ⟨N, S2', S3', z1, z2, z3, z4, z5, z6⟩ := r2 s g' hg'
                exact ⟨N, S2', S3', by simpa using z1, z2, z3, z4, fun hl => by simpa using z5 (by simp only [List.length_cons] at hl; omega), fun hl => z6 (by simp only [List.length_cons] at hl; omega)⟩
            · simp only [List.getElem?_cons_zero, Option.some.injEq] at hN
              subst hN; rfl
            · simp only [stD, List.flatMap_cons, List.mem_append, not_or, Stage.dsts] at ht
              rw [n1 t (by simp only [List.mem_append, not_or]; exact ⟨ht.1.2.1, ht.1.2.2, ht.2⟩)]
              exact a3 t ht.1.1

theorem df_grow {O : Orc} {ops : List Oper} {rs : List ROp} {nt : Nat} {p : Plan} {e ef : Env} {S Sf : Mem} {pre : List Noted} {late : List Nat} (hp : PF ops rs nt p)
    (hv : evStages O (stagesOf rs p) e S = some (ef, Sf, pre)) (hk : stOk late (stagesOf rs p) [] = true) (hg : Grows (marks (stagesOf rs p) 0 []) pre) : ∃ Sp S2, DF O (keepE e late ++ ef) ef e S Sf rs p Sp S2 := by
  obtain ⟨hlen, hst, hz, henv⟩ := stages_grow (e0 := e) _ e S pre [] hv hk fun t _ => rfl
  have hl : (stagesOf rs p).length = p.ms.length + 1 := by simp [stagesOf]
  have key : ∀ s, ∃ q : Mem × Mem, ∀ g, (stagesOf rs p)[s]? = some g → ∃ N S3, pre[s]? = some N ∧ N.S = q.1 ∧ (∀ z ∈ g.ns, ∃ x S', evOne O (keepE e late ++ ef) N.S z.1 = some (x, S') ∧ ∀ d, z.1.dst = some d → x = ef.get d) ∧ OptF O (keepE e late ++ ef) ef q.1 q.2 g.a ∧ OptF O (keepE e late ++ ef) ef q.2 S3 g.m ∧
      (s + 1 < (stagesOf rs p).length → ∃ N', pre[s + 1]? = some N' ∧ N'.S = S3) ∧ (s + 1 = (stagesOf rs p).length → S3 = Sf) := by
    intro s
    cases hg : (stagesOf rs p)[s]? with
    | none => exact ⟨([], []), fun g hg' => by cases hg'⟩
    | some g =>
      obtain ⟨N, S2, S3, h1, h2, h3, h4, h5, h6⟩ := hst s g hg
      exact ⟨(N.S, S2), fun g' hg' => by
        injection hg' with hg'; subst hg'
        exact ⟨N, S3, h1, rfl, h2, h3, h4, h5, h6⟩⟩
  obtain ⟨Q, hQ⟩ := Classical.axiomOfChoice key
  have hN : ∀ s N, s ≤ p.ms.length → pre[s]? = some N → N.S = (Q s).1 := by
    intro s N hs hN
    obtain ⟨g, hg, _⟩ := stage_at (rs := rs) hs
    obtain ⟨N', _, h1, h2, _⟩ := hQ s g hg
    rw [hN] at h1; injection h1 with h1; rw [h1]; exact h2
  refine ⟨fun s => (Q s).1, fun s => (Q s).2, ⟨?_, fun i hi lo hi' hcl s h1 h2 => ?_, fun i hi c hcl => ?_, fun s hs hna => ?_, fun s hs => ?_, ?_, fun t ht => ?_⟩⟩
  · obtain ⟨g, hg, _⟩ := stage_at (rs := rs) (p := p) (Nat.zero_le _)
    obtain ⟨N', _, h1, h2, _⟩ := hQ 0 g hg
    rw [← h2]; exact hz _ h1
  · obtain ⟨q1, q2, _, _, q5⟩ := hp.n i hi lo hi' hcl
    obtain ⟨g, hg', hm, _⟩ := stage_at (rs := rs) (p := p) (s := lo) (by omega)
    obtain ⟨N, _, a1, a2, h3, _⟩ := hQ lo g hg'
    obtain ⟨x, S', r2, r3⟩ := h3 _ (hm i hi lo hi' hcl rfl)
    have hsl : s < pre.length := by rw [hlen, hl]; omega
    have hsN := hN s _ (by omega) (List.getElem?_eq_getElem hsl)
    refine ⟨x, ?_, r3⟩
    rw [← hsN]
    cases hrd : (rs.getD i dflt).io.reads with
    | false => exact evOne_pure hrd r2
    | true =>
      have hq := hm i hi lo hi' hcl rfl
      have hch : ∀ n, lo + n ≤ s → ∃ M T, pre[lo + n]? = some M ∧ M.S = N.S ++ T := by
        intro n
        induction n with
        | zero => intro _; exact ⟨N, [], a1, by simp⟩
        | succ n ih =>
          intro hn
          obtain ⟨M, T, hM, hT⟩ := ih (by omega)
          have hl1 : lo + (n + 1) < pre.length := by omega
          have hmk := marks_at (stagesOf rs p) 0 [] lo (lo + n) g _ hg' hq hrd (by omega) (by rw [hl]; omega) (by simp only; omega)
          obtain ⟨U, hU⟩ := hg.at hmk hM (List.getElem?_eq_getElem hl1)
          exact ⟨_, T ++ U, List.getElem?_eq_getElem hl1, by rw [hU, hT, List.append_assoc]⟩
      obtain ⟨M, T, hM, hT⟩ := hch (s - lo) (by omega)
      rw [show lo + (s - lo) = s by omega, List.getElem?_eq_getElem hsl] at hM
      rw [Option.some.inj hM, hT]
      exact evOne_grow T q5 r2
  · obtain ⟨q1, q2, q3, q4, q5, q6⟩ := hp.a i hi c hcl
    obtain ⟨g, hg, _, ha, _⟩ := stage_at (rs := rs) (p := p) (s := c) q1
    obtain ⟨N', _, _, _, _, h4, _⟩ := hQ c g hg
    rw [ha, findSome_of hi hcl q6] at h4
    exact h4
  · obtain ⟨g, hg, _, ha, _⟩ := stage_at (rs := rs) (p := p) hs
    obtain ⟨N', _, _, _, _, h4, _⟩ := hQ s g hg
    rw [ha, findSome_none hna] at h4
    exact h4
  · obtain ⟨g, hg, _, _, hm, _⟩ := stage_at (rs := rs) (p := p) (Nat.le_of_lt hs)
    obtain ⟨N', S3, _, _, _, _, h5, h6, _⟩ := hQ s g hg
    obtain ⟨N2, h7, h8⟩ := h6 (by rw [hl]; omega)
    have hmi := hp.ms s hs
    have e1 : p.ms[s]? = some (p.ms.getD s 0) := by simp [List.getD_eq_getElem?_getD, hs]
    rw [hm, mAt, e1] at h5
    simp only [getD_of_lt hmi.1] at h5
    rw [hN (s + 1) N2 (by omega) h7] at h8
    rw [h8]; exact h5
  · obtain ⟨g, hg, _, _, hm, _⟩ := stage_at (rs := rs) (p := p) (Nat.le_refl _)
    obtain ⟨N', S3, _, _, _, _, h5, _, h7⟩ := hQ _ g hg
    have e1 : p.ms[p.ms.length]? = none := by simp
    rw [hm, mAt, e1] at h5
    simp only [OptF] at h5
    rw [← h7 (by rw [hl]), h5]
  · refine henv t fun hm => ?_
    simp only [stD, List.mem_flatMap] at hm
    obtain ⟨g, hgm, htg⟩ := hm
    obtain ⟨s, hs, hgs⟩ := List.mem_iff_getElem.1 hgm
    rw [hl] at hs
    obtain ⟨g', hg', _, ha, hmm, hns⟩ := stage_at (rs := rs) (p := p) (s := s) (by omega)
    have : g' = g := by
      have h2 : (stagesOf rs p)[s]? = some g := by rw [← hgs]; exact List.getElem?_eq_getElem _
      rw [hg'] at h2; injection h2
    subst this
    simp only [Stage.dsts, List.mem_append, nsD, List.mem_flatMap] at htg
    have opt : ∀ o : Option ROp, t ∈ optD o → ∃ x, o = some x ∧ x.dst = some t := fun o ho => by
      cases o with
      | none => simp [optD] at ho
      | some x => exact ⟨x, rfl, dst_mem.1 ho⟩
    rcases htg with ⟨q, hq, hd⟩ | hd | hd
    · obtain ⟨i, hi, e⟩ := hns q hq
      exact ht i hi (by rw [← e]; exact dst_mem.1 hd)
    · obtain ⟨x, hx, hd⟩ := opt _ hd
      rw [ha] at hx
      obtain ⟨i, hi, e⟩ := findSome_mem hx
      exact ht i hi (by rw [← e]; exact hd)
    · obtain ⟨x, hx, hd⟩ := opt _ hd
      rw [hmm, mAt] at hx
      split at hx
      · rename_i i hmi
        obtain ⟨hi, e⟩ := List.getElem?_eq_some_iff.1 hx
        have : x = rs.getD i dflt := by rw [List.getD_eq_getElem?_getD, hx]; rfl
        exact ht i hi (by rw [← this]; exact hd)
      · cases hx

section
variable {P : Program} {base : Bs} {w0 : World} {O : Orc} {ops : Array Oper} {rs : List ROp} {nt : Nat} {p : Plan} {ef e : Env} {S Sf : Mem} {n : Nat} {rd : Option Nat} {Q : Exit → Act → World → Prop}

theorem draw_grow (hO : OK P base.Λ O) (hmix : P.follows .mixedOrders = true) {id : Nat} {K : Ctx} {w : World} {a : Act} (hm : ops.toList.mapM (compOper P ops) = some rs) (hp : planOk ops.toList rs nt p = true) (h : Sim base w0 K S w) (hr : ER K S nt e a)
    {pre : List Noted} (hv : evStages O (stagesOf rs p) e S = some (ef, Sf, pre)) (hk : stOk (lateSlots rs p) (stagesOf rs p) [] = true) (hg : Grows (marks (stagesOf rs p) 0 []) pre)
    (hQ : ∀ K' a' w', ER K' Sf nt ef a' → a'.defers = a.defers → Sim base w0 K' Sf w' → Stp K S w K' Sf w' → Q .normal a' w') : (Code.region id ops true).wpIn (FW rd) n P Q a w := by
  have hP := planOk_facts hp
  obtain ⟨Sp, S2, hD⟩ := df_grow hP hv hk hg
  obtain ⟨hd1, hd2⟩ := h.drew
  refine wpIn_region_any hmix ?_
  have hl : rs.length = ops.size := by simpa using (mapM_ok hm).1
  have hrep : ∀ j, (Array.replicate ops.size false).getD j false = false := fun j => by
    simp only [Array.getD_eq_getD_getElem?, Array.getElem?_replicate]; split <;> rfl
  refine any_ok (K0 := K) (wS := w.drew) (dd := a.defers) (S := S) hO rfl hm hP hD hd1.hb (fun K' a' w' q1 q2 q3 q4 => hQ K' a' w' q1 q2 q3 (hd2.trans q4)) ops.size 0 _ a w.drew K (fun _ => 0) ?_ (by omega)
  refine ⟨Nat.zero_le _, by simp [hl], fun j _ => ?_, fun i j _ hi => ?_, by rw [hD.zero]; exact hd1, by rw [hD.zero]; exact .refl _ _ _, hr.size, rfl, fun t _ => by rw [hD.zero]; exact hr.slot t, fun i _ hi => ?_, fun i _ hi => ?_, fun i i' c c' _ _ hi => ?_⟩
  · rw [hrep]; simp
  · rw [hrep] at hi; cases hi
  · rw [hrep] at hi; cases hi
  · rw [hrep] at hi; cases hi
  · rw [hrep] at hi; cases hi
end
end Go.Proofs.YtmocapahlcaapaaGreatDoor

namespace Go.Proofs.YtmocapahlcaapaaGreatDoor
set_option linter.unusedSimpArgs false
set_option linter.unusedVariables false
open Go.RowKit

/-! ### The walk, by recursion over the code -/
def optK (o : Option (AV × Mem)) (k : AV → Mem → Prop) : Prop := match o with
  | some p => k p.1 p.2
  | none => False
/-- A value, at a memory that stays. -/
def optV (o : Option AV) (S : Mem) (k : AV → Mem → Prop) : Prop := match o with
  | some x => k x S
  | none => False
/-- A memory, without a value. -/
def optM (o : Option Mem) (x : AV) (k : AV → Mem → Prop) : Prop := match o with
  | some S => k x S
  | none => False

def wGd (x : AV) (e : Env) (t : Nat) (b : Bool) (A B : Env → Prop) : Prop := match x with
  | .b y => (y = b → A ((t, .b b) :: e)) ∧ (y = !b → B ((t, .b !b) :: e))
  | .u => False
  | _ => B e

def wOps (O : Orc) : List ROp → Env → Mem → (Env → Mem → Prop) → Prop
  | [], e, S, k => k e S
  | ⟨dst, none, io⟩ :: r, e, S, k => optK (evOp O e S io) fun x S' => wOps O r (putE e dst x) S' k
  | ⟨dst, some (t, b), io⟩ :: r, e, S, k => wGd (e.get t) e t b (fun e => optK (evOp O e S io) fun x S' => wOps O r (putE e dst x) S' k) (fun e => wOps O r (putE e dst .ud) S k)

/-- In a region whose order is drawn; 'true': memory may grow. -/
def wFl (O : Orc) : List (ROp × Bool) → Env → Mem → (Env → Mem → Prop) → Prop
  | [], e, S, k => k e S
  | (⟨dst, none, io⟩, m) :: r, e, S, k => optK (evOp O e S io) fun x S' => (m = true → S <+: S') ∧ wFl O r (putE e dst x) S' k
  | (⟨dst, some (t, b), io⟩, m) :: r, e, S, k => wGd (e.get t) e t b (fun e => optK (evOp O e S io) fun x S' => (m = true → S <+: S') ∧ wFl O r (putE e dst x) S' k) (fun e => wFl O r (putE e dst .ud) S k)

def flatG (g : Stage) (m : Bool) : List (ROp × Bool) := g.ns.map (fun q => (q.1, false)) ++ ((g.a.toList.map fun o => (o, true)) ++ g.m.toList.map fun o => (o, m))
def flatS : List Stage → List Bool → List (ROp × Bool)
  | g :: st, m :: ms => flatG g m ++ flatS st ms
  | _, _ => []
def flatSt (st : List Stage) : List (ROp × Bool) := flatS st (marks st 0 [])

def wCond (x : AV) (A B : Prop) : Prop := match x with
  | .b y => (y = true → A) ∧ (y = false → B)
  | _ => False

def normK (Q : Kont) (d : List Nat) : Env → Mem → Prop := fun e S => Q .normal e S d

/-- A run of a drawn region, with its own second look. -/
def drawK (o : Option (Env × Mem)) (k : Env → Mem → Prop) : Prop := match o with
  | some p => k p.1 p.2
  | none => False
/-- It may lay blocks, but turns none of those that are there. -/
def IOp.grows : IOp → Bool
  | .op (.app ..) | .op (.appz ..) | .op (.store ..) | .op (.copy ..) | .op (.clear ..) | .op (.mentry ..) | .op (.mstore ..) | .op (.mupd ..) | .op (.mdel ..) => false
  | _ => true
def growsSt (late : List Nat) (st : List Stage) : Bool := stOk late st [] && (flatSt st).all fun p => !p.2 || p.1.io.grows

def W (P : Program) (O : Orc) (S0 : Mem) (rd : Bool) : ICode → Env → Mem → List Nat → Kont → Prop
  | .bad, _, _, _, _ => False
  | .skip, e, S, d, Q => Q .normal e S d
  | .region ops, e, S, d, Q => wOps O ops e S (normK Q d)
  | .draw st late, e, S, d, Q => if growsSt late st = true then stOk late st [] = true ∧ wFl O (flatSt st) e S (normK Q d) else drawK (evDraw O st late e S) (normK Q d)
  | .seq a b, e, S, d, Q => W P O S0 rd a e S d (seqK (W P O S0 rd b) Q)
  | .cond c a b, e, S, d, Q => wCond (c.ev e) (W P O S0 rd a e S d Q) (W P O S0 rd b e S d Q)
  | .block id c, e, S, d, Q => W P O S0 rd c e S d (blockK id Q)
  | .loop l c, e, S, d, Q => WP P S0 rd (.loop l c) e S d Q
  | .exit id, e, S, d, Q => Q (.exit id) e S d
  | .ret, e, S, d, Q => Q .ret e S d
  | .goto l, e, S, d, Q => Q (.goto l) e S d
  | .scope l c lab k, e, S, d, Q => WP P S0 rd (.scope l c lab k) e S d Q
  | .rf x f p l, e, S, d, Q => WP P S0 rd (.rf x f p l) e S d Q
  | .live l c, e, S, d, Q => W P O S0 rd c (keepE e l) S d Q

/-! ### It is sound -/
section
variable {P : Program} {O : Orc} {S0 : Mem} {rd : Bool}

def Alike (e e' : Env) : Prop := ∀ t, e.get t = e'.get t

theorem alike_cons {e e' : Env} {t : Nat} {x : AV} (h : Alike e e') (hx : e.get t = x) : Alike e ((t, x) :: e') := fun k => by
  by_cases hk : t = k
  · subst hk; rw [get_put_same]; exact hx
  · rw [get_put_ne _ _ hk]; exact h k

theorem alike_put {e e' : Env} {d : Option Nat} {x : AV} (h : Alike e e') : Alike (putE e d x) (putE e' d x) := fun k => by
  cases d with
  | none => exact h k
  | some t =>
    show Env.get ((t, x) :: e) k = Env.get ((t, x) :: e') k
    by_cases hk : t = k
    · subst hk; rw [get_put_same, get_put_same]
    · rw [get_put_ne _ _ hk, get_put_ne _ _ hk]; exact h k

theorem evOp_alike {e e' : Env} (h : Alike e e') (S : Mem) (io : IOp) : evOp O e S io = evOp O e' S io := by
  have := evOne_congr (O := O) (o := ⟨none, none, io⟩) S (fun t _ => h t)
  simpa [evOne, wantV] using this

theorem wGd_sound {e e' : Env} (h : Alike e' e) {t : Nat} {b : Bool} {A B : Env → Prop} (hw : wGd (e.get t) e t b A B) :
    (wantV e' (some (t, b)) = some true ∧ ∃ e1, Alike e' e1 ∧ A e1) ∨ (wantV e' (some (t, b)) = some false ∧ ∃ e1, Alike e' e1 ∧ B e1) := by
  have hg := h t
  unfold wGd at hw
  split at hw
  · rename_i y hy
    by_cases e1 : y = b
    · subst e1
      exact .inl ⟨by simp [wantV, hg, hy], _, alike_cons h (hg.trans hy), hw.1 rfl⟩
    · have e2 : y = !b := by cases y <;> cases b <;> simp_all
      subst e2
      exact .inr ⟨by simp [wantV, hg, hy], _, alike_cons h (hg.trans hy), hw.2 rfl⟩
  · exact hw.elim
  · rename_i hb hu
    refine .inr ⟨?_, e, h, hw⟩
    simp only [wantV, hg]

theorem wOps_sound : ∀ (ops : List ROp) (e e' : Env) (S : Mem) (k : Env → Mem → Prop), wOps O ops e S k → Alike e' e → ∃ e1 S1 e2, evOps O ops e' S = some (e1, S1) ∧ Alike e1 e2 ∧ k e2 S1
  | [], e, e', S, k, h, ha => ⟨e', S, e, rfl, ha, h⟩
  | ⟨dst, none, io⟩ :: r, e, e', S, k, h, ha => by
    simp only [wOps] at h
    simp only [evOps, evOne, wantV]
    rw [evOp_alike ha]
    unfold optK at h
    split at h
    · rename_i p hp
      rw [hp]
      exact wOps_sound r _ _ _ _ h (alike_put ha)
    · exact h.elim
  | ⟨dst, some (t, b), io⟩ :: r, e, e', S, k, h, ha => by
    simp only [wOps] at h
    simp only [evOps, evOne]
    rcases wGd_sound ha h with ⟨hw, e1, h1, h2⟩ | ⟨hw, e1, h1, h2⟩
    · rw [hw]
      dsimp only
      rw [evOp_alike h1]
      unfold optK at h2
      split at h2
      · rename_i p hp
        rw [hp]
        exact wOps_sound r _ _ _ _ h2 (alike_put h1)
      · exact h2.elim
    · rw [hw]
      exact wOps_sound r _ _ _ _ h2 (alike_put h1)

theorem wFl_append : ∀ (l1 l2 : List (ROp × Bool)) (e : Env) (S : Mem) (k : Env → Mem → Prop), wFl O (l1 ++ l2) e S k = wFl O l1 e S (fun e S => wFl O l2 e S k)
  | [], l2, e, S, k => rfl
  | (⟨dst, none, io⟩, m) :: r, l2, e, S, k => by
    simp only [List.cons_append, wFl]
    congr 1
    funext x S'
    rw [wFl_append r l2]
  | (⟨dst, some (t, b), io⟩, m) :: r, l2, e, S, k => by
    simp only [List.cons_append, wFl]
    congr 1
    · funext e
      congr 1
      funext x S'
      rw [wFl_append r l2]
    · funext e
      rw [wFl_append r l2]

theorem wNs_sound : ∀ (l : List (ROp × Nat)) (e e' : Env) (S : Mem) (k : Env → Mem → Prop), (∀ q ∈ l, q.1.io.still = true) → wFl O (l.map fun q => (q.1, false)) e S k → Alike e' e → ∃ e1 e2, evNs O l e' S = some e1 ∧ Alike e1 e2 ∧ k e2 S
  | [], e, e', S, k, _, h, ha => ⟨e', e, rfl, ha, h⟩
  | (⟨dst, none, io⟩, hi) :: r, e, e', S, k, hs, h, ha => by
    simp only [List.map_cons, wFl] at h
    unfold optK at h
    split at h
    · rename_i p hp
      have hp' : evOne O e' S ⟨dst, none, io⟩ = some p := by simp only [evOne, wantV]; rw [evOp_alike ha]; exact hp
      have hS : p.2 = S := still_one (x := p.1) (hs (_, hi) (List.mem_cons_self)) hp'
      simp only [evNs, hp']
      have h2 := h.2
      rw [hS] at h2
      exact wNs_sound r _ _ _ _ (fun q hq => hs q (by simp [hq])) h2 (alike_put ha)
    · exact h.elim
  | (⟨dst, some (t, b), io⟩, hi) :: r, e, e', S, k, hs, h, ha => by
    simp only [List.map_cons, wFl] at h
    rcases wGd_sound ha h with ⟨hw, e1, h1, h2⟩ | ⟨hw, e1, h1, h2⟩
    · unfold optK at h2
      split at h2
      · rename_i p hp
        have hp' : evOne O e' S ⟨dst, some (t, b), io⟩ = some p := by simp only [evOne, hw]; rw [evOp_alike h1]; exact hp
        have hS : p.2 = S := still_one (x := p.1) (hs (_, hi) (List.mem_cons_self)) hp'
        simp only [evNs, hp']
        have h3 := h2.2
        rw [hS] at h3
        exact wNs_sound r _ _ _ _ (fun q hq => hs q (by simp [hq])) h3 (alike_put h1)
      · exact h2.elim
    · have hp' : evOne O e' S ⟨dst, some (t, b), io⟩ = some (.ud, S) := by simp only [evOne, hw]
      simp only [evNs, hp']
      exact wNs_sound r _ _ _ _ (fun q hq => hs q (by simp [hq])) h2 (alike_put h1)

theorem wOpt_sound {o : Option ROp} {e e' : Env} {S : Mem} {k : Env → Mem → Prop} {m : Bool} (h : wFl O (o.toList.map fun o => (o, m)) e S k) (ha : Alike e' e) : ∃ e1 S1 e2, evOpt O o e' S = some (e1, S1) ∧ Alike e1 e2 ∧ (m = true → ∃ T, S1 = S ++ T) ∧ k e2 S1 := by
  cases o with
  | none => exact ⟨e', S, e, rfl, ha, fun _ => ⟨[], by simp⟩, h⟩
  | some o =>
    obtain ⟨dst, g, io⟩ := o
    cases g with
    | none =>
      simp only [Option.toList, List.map_cons, List.map_nil, wFl] at h
      unfold optK at h
      split at h
      · rename_i p hp
        have hp' : evOne O e' S ⟨dst, none, io⟩ = some p := by simp only [evOne, wantV]; rw [evOp_alike ha]; exact hp
        exact ⟨_, _, _, by simp only [evOpt, hp'], alike_put ha, fun hm => let ⟨T, hT⟩ := h.1 hm; ⟨T, hT.symm⟩, h.2⟩
      · exact h.elim
    | some tb =>
      obtain ⟨t, b⟩ := tb
      simp only [Option.toList, List.map_cons, List.map_nil, wFl] at h
      rcases wGd_sound ha h with ⟨hw, e1, h1, h2⟩ | ⟨hw, e1, h1, h2⟩
      · unfold optK at h2
        split at h2
        · rename_i p hp
          have hp' : evOne O e' S ⟨dst, some (t, b), io⟩ = some p := by simp only [evOne, hw]; rw [evOp_alike h1]; exact hp
          exact ⟨_, _, _, by simp only [evOpt, hp'], alike_put h1, fun hm => let ⟨T, hT⟩ := h2.1 hm; ⟨T, hT.symm⟩, h2.2⟩
        · exact h2.elim
      · have hp' : evOne O e' S ⟨dst, some (t, b), io⟩ = some (.ud, S) := by simp only [evOne, hw]
        exact ⟨_, _, _, by simp only [evOpt, hp'], alike_put h1, fun _ => ⟨[], by simp⟩, h2⟩

theorem wSt_sound : ∀ (st : List Stage) (ms : List Bool) (e e' : Env) (S : Mem) (k : Env → Mem → Prop), ms.length = st.length → (∀ g ∈ st, ∀ q ∈ g.ns, q.1.io.still = true) → wFl O (flatS st ms) e S k → Alike e' e →
    ∃ e1 S1 pre e2, evStages O st e' S = some (e1, S1, pre) ∧ Grows ms pre ∧ (∀ N, pre[0]? = some N → N.S = S) ∧ Alike e1 e2 ∧ k e2 S1
  | [], ms, e, e', S, k, hl, _, h, ha => by
    cases ms with
    | nil => exact ⟨e', S, [], e, rfl, trivial, fun N hN => by simp at hN, ha, h⟩
    | cons _ _ => simp at hl
  | g :: st, [], e, e', S, k, hl, _, _, _ => by simp at hl
  | g :: st, m :: ms, e, e', S, k, hl, hs, h, ha => by
    simp only [flatS, flatG] at h
    rw [wFl_append, wFl_append] at h
    simp only [wFl_append] at h
    obtain ⟨e1, e1', q1, a1, h⟩ := wNs_sound g.ns _ _ _ _ (hs g (by simp)) h ha
    obtain ⟨e2, S2, e2', q2, a2, hT, h⟩ := wOpt_sound h a1
    obtain ⟨e3, S3, e3', q3, a3, hU, h⟩ := wOpt_sound h a2
    obtain ⟨e4, S4, pre, e4', q4, g4, z4, a4, h⟩ := wSt_sound st ms _ _ _ _ (by simpa using hl) (fun g' hg' => hs g' (by simp [hg'])) h a3
    refine ⟨e4, S4, ⟨S, e1, e2, e3⟩ :: pre, e4', by simp only [evStages, q1, q2, q3, q4], ?_, fun N hN => ?_, a4, h⟩
    · cases pre with
      | nil => trivial
      | cons N pre =>
        refine ⟨fun hm => ?_, g4⟩
        obtain ⟨T, hT⟩ := hT rfl
        obtain ⟨U, hU⟩ := hU hm
        exact ⟨T ++ U, by rw [z4 N (by simp), hU, hT, List.append_assoc]⟩
    · simp only [List.getElem?_cons_zero, Option.some.injEq] at hN
      subst hN; rfl

theorem still_of_plan {rs : List ROp} {p : Plan} {ops : List Oper} {nt : Nat} (hp : PF ops rs nt p) : ∀ g ∈ stagesOf rs p, ∀ q ∈ g.ns, q.1.io.still = true := by
  intro g hg q hq
  simp only [stagesOf, List.mem_map, List.mem_range] at hg
  obtain ⟨s, _, rfl⟩ := hg
  simp only [nsAt, List.mem_filterMap, List.mem_range] at hq
  obtain ⟨i, hi, hq⟩ := hq
  split at hq
  · rename_i lo hi' r hc hr
    split at hq
    · injection hq with hq
      subst hq
      have := (hp.n i hi lo hi' hc).2.2.2.2
      rw [List.getD_eq_getElem?_getD, hr] at this
      exact this
    · cases hq
  · cases hq

/-- Alike slots stand for the same. -/
theorem WP.alike {ic : ICode} {e : Env} {S : Mem} {d : List Nat} {Q : Kont} (h : WP P S0 rd ic e S d (fun x e S d => ∃ e', Alike e e' ∧ Q x e' S d)) : WP P S0 rd ic e S d Q := by
  intro nt c base w0 r m K0 wE K a w h1 h2 h3 h4 h5 h6 h7 h8
  refine Code.wpIn_mono (fun ex a1 w1 hq => ?_) (h nt c base w0 r m K0 wE K a w h1 h2 h3 h4 h5 h6 h7 h8)
  obtain ⟨x, e', S', d', K', rfl, ⟨e2, ha, hq⟩, q1, q2, q3, q4⟩ := hq
  exact ⟨x, e2, S', d', K', rfl, hq, ⟨q1.size, fun t => by rw [← ha t]; exact q1.slot t⟩, q2, q3, q4⟩

theorem W_sound (hO : OK P (lamOf P) O) (hmix : P.follows .mixedOrders = true) : ∀ (ic : ICode) (e : Env) (S : Mem) (d : List Nat) (Q : Kont), W P O S0 rd ic e S d Q → WP P S0 rd ic e S d Q := by
  intro ic
  induction ic with
  | bad => intro e S d Q h; exact h.elim
  | skip => intro e S d Q h; exact wp_skip h
  | region ops =>
    intro e S d Q h
    obtain ⟨e1, S1, e2, h1, h2, h3⟩ := wOps_sound ops e e S _ h fun _ => rfl
    exact WP.alike (wp_region hO h1 ⟨e2, h2, h3⟩)
  | draw st late =>
    intro e S d Q h
    simp only [W] at h
    split at h
    rotate_left
    · unfold drawK at h
      split at h
      · rename_i p hp; exact wp_draw hO hmix hp h
      · exact h.elim
    obtain ⟨hk, h⟩ := h
    refine WP.alike ?_
    intro nt c base w0 r n K0 wE K a w h1 h2 h3 h4 h5 h6 h7 h8
    cases h3 with
    | draw id ops l p hm hp =>
      obtain ⟨e1, S1, pre, e2, q1, q2, _, q3, q4⟩ := wSt_sound _ _ e e S _ (marks_length _ _ _) (still_of_plan (planOk_facts hp)) h fun _ => rfl
      rw [← h1] at hO
      exact draw_grow hO hmix hm hp h5 h6 q1 hk q2 fun K' a' w' z1 z2 z3 z4 => ⟨.normal, e1, S1, d, K', rfl, ⟨e2, q3, q4⟩, z1, by rw [z2]; exact h7.mono z4.ext, z3, h8.trans z4⟩
  | seq a b iha ihb =>
    intro e S d Q h
    refine wp_seq ((iha e S d _ h).mono fun x e S d hq => ?_)
    cases x with
    | normal => exact ihb _ _ _ _ hq
    | ret => exact hq
    | exit id => exact hq
    | goto l => exact hq
  | cond c a b iha ihb =>
    intro e S d Q h
    simp only [W] at h
    unfold wCond at h
    split at h
    · rename_i y hy
      cases y with
      | true => exact wp_cond_true hy (iha _ _ _ _ (h.1 rfl))
      | false => exact wp_cond_false hy (ihb _ _ _ _ (h.2 rfl))
    · exact h.elim
  | block id c ih => intro e S d Q h; exact wp_block (ih _ _ _ _ h)
  | loop l c _ => intro e S d Q h; exact h
  | exit id => intro e S d Q h; exact wp_exit h
  | ret => intro e S d Q h; exact wp_ret h
  | goto l => intro e S d Q h; exact wp_goto h
  | scope l c lab k _ _ => intro e S d Q h; exact h
  | rf x f p l => intro e S d Q h; exact h
  | live l c ih => intro e S d Q h; exact wp_live (ih _ _ _ _ h)
end
end Go.Proofs.YtmocapahlcaapaaGreatDoor

namespace Go.Proofs.YtmocapahlcaapaaGreatDoor
set_option linter.unusedSimpArgs false
set_option linter.unusedVariables false
open Go.RowKit

/-! ### Numbers anew: below n all stays; 'g i': the new number of block i, and its version -/
mutual
def ren (n : Nat) (g : Nat → Option (Nat × Nat)) : AV → AV
  | .p i o v => if i < n then .p i o v else match g i with
    | some (j, v') => if v = v' then .p j o 0 else .u
    | none => .u
  | .sl i o v l c x => if i < n then .sl i o v l c x else match g i with
    | some (j, v') => if v = v' then .sl j o 0 l c x else .u
    | none => .u
  | .m i => if i < n then .m i else match g i with
    | some (j, v') => if v' = 0 then .m j else .u
    | none => .u
  | .y i => if i < n then .y i else .u
  | .f fn a b => .f fn (renL n g a) (renL n g b)
  | .it t v => .it t (ren n g v)
  | .ag cs => .ag (renL n g cs)
  | .tu cs => .tu (renL n g cs)
  | .u => .u
  | .ud => .ud
  | .b x => .b x
  | .i k z => .i k z
  | .s l => .s l
  | .pn => .pn
  | .sn => .sn
  | .se => .se
  | .mn => .mn
  | .nf => .nf
  | .ni => .ni
def renL (n : Nat) (g : Nat → Option (Nat × Nat)) : List AV → List AV
  | [] => []
  | x :: r => ren n g x :: renL n g r
end

theorem renL_eq (n : Nat) (g : Nat → Option (Nat × Nat)) : ∀ l, renL n g l = l.map (ren n g)
  | [] => by simp [renL]
  | x :: r => by rw [renL, renL_eq n g r]; rfl

theorem renL_length (n : Nat) (g : Nat → Option (Nat × Nat)) (l : List AV) : (renL n g l).length = l.length := by rw [renL_eq]; simp
theorem renL_getD (n : Nat) (g : Nat → Option (Nat × Nat)) (l : List AV) (k : Nat) : (renL n g l).getD k .u = ren n g (l.getD k .u) := by
  rw [renL_eq, List.getD_eq_getElem?_getD, List.getD_eq_getElem?_getD, List.getElem?_map]
  cases l[k]? with
  | none => simp [ren]
  | some x => simp

/-- A block with its contents numbered anew, at version v. -/
def renB (n : Nat) (g : Nat → Option (Nat × Nat)) (ver : Nat) : Blk → Blk
  | .cells cs _ o r => .cells (renL n g cs) ver o r
  | .map es cl => .map (es.map fun e => (ren n g e.1, ren n g e.2.1, e.2.2)) cl
  | B => B

/-- Blocks that can be numbered anew. -/
def Blk.plain : Blk → Bool
  | .cells .. => true
  | .map .. => true
  | _ => false

/-- What an entry's memory stands for leads nowhere beyond it. -/
theorem VR.closed {K : Ctx} {S : Mem} {x : AV} {v : Value} (h : VR K S x v) (g : Nat → Option (Nat × Nat)) : ren S.length g x = x := by
  have lt : ∀ {i : Nat} {B : Blk}, S[i]? = some B → i < S.length := fun h => (List.getElem?_eq_some_iff.1 h).1
  have lst : ∀ (x : List AV) (x' : Array Value), (∀ k, ren S.length g (x.getD k .u) = x.getD k .u) → renL S.length g x = x := by
    intro x x' hk
    rw [renL_eq]
    apply List.ext_getElem (by simp)
    intro k h1 h2
    have := hk k
    rw [List.getElem_map]
    simpa [List.getD_eq_getElem?_getD, h2] using this
  induction h with
  | u v => simp [ren]
  | ud => simp [ren]
  | b x => simp [ren]
  | i k n => simp [ren]
  | s l => simp [ren]
  | pn => simp [ren]
  | p i off v a B hB hv ha => rw [ren, if_pos (lt hB)]
  | sn => simp [ren]
  | se => simp [ren]
  | sl i off v len cap ex a c B hB hv hl hc he ha => rw [ren, if_pos (lt hB)]
  | mn => simp [ren]
  | m i r B hB hr => rw [ren, if_pos (lt hB)]
  | nf => simp [ren]
  | f fn x y x' y' hx hy _ _ ih ih' => rw [ren, lst x x' ih, lst y y' ih']
  | y i r B hB hr => rw [ren, if_pos (lt hB)]
  | ni => simp [ren]
  | it t x v _ ih => rw [ren, ih]
  | ag x x' hx _ ih => rw [ren, lst x x' ih]
  | tu x x' hx _ ih => rw [ren, lst x x' ih]

/-- What is asked of the new numbers. -/
structure Ren (S0 : Mem) (g : Nat → Option (Nat × Nat)) (S S2 : Mem) : Prop where
  len : S0.length ≤ S2.length
  num : ∀ i j v, g i = some (j, v) → S0.length ≤ i ∧ S0.length ≤ j ∧ ∃ B, S[i]? = some B ∧ B.ver = v ∧ S2[j]? = some (renB S0.length g 0 B)
  inj : ∀ i i' j v v', g i = some (j, v) → g i' = some (j, v') → i = i'
  old : ∀ i B2, i < S0.length → S2[i]? = some B2 → ∃ B, S[i]? = some B ∧ ((S0[i]? = some B ∧ B2 = B) ∨ (B.plain = true ∧ B2 = renB S0.length g B.ver B))
  new : ∀ j B2, S0.length ≤ j → S2[j]? = some B2 → ∃ i v B, g i = some (j, v) ∧ S[i]? = some B ∧ B.plain = true

theorem renB_rw (n : Nat) (g : Nat → Option (Nat × Nat)) (v : Nat) (B : Blk) : (renB n g v B).rw = B.rw := by cases B <;> rfl
theorem renB_opn (n : Nat) (g : Nat → Option (Nat × Nat)) (v : Nat) (B : Blk) : (renB n g v B).opn = B.opn := by cases B <;> rfl
theorem renB_ver (n : Nat) (g : Nat → Option (Nat × Nat)) (B : Blk) : (renB n g B.ver B).ver = B.ver := by cases B <;> rfl
theorem wk_ren {S0 S S2 : Mem} {g : Nat → Option (Nat × Nat)} {e e2 : Env} (hR : Ren S0 g S S2) (he : ∀ t, e2.get t = ren S0.length g (e.get t) ∨ e2.get t = .u) : Wk S0 e S e2 S2 := by
  intro base w0 K0 wE K w h0 h hst
  -- the new context
  have inv : ∀ j, ∃ i, (j < S0.length → i = j) ∧ (S0.length ≤ j → j < S2.length → ∃ v, g i = some (j, v)) := by
    intro j
    by_cases hj : j < S0.length
    · exact ⟨j, fun _ => rfl, fun h => by omega⟩
    · by_cases hj2 : j < S2.length
      · obtain ⟨i, v, B, hg, _⟩ := hR.new j _ (by omega) (List.getElem?_eq_getElem hj2)
        exact ⟨i, fun h => absurd h hj, fun _ _ => ⟨v, hg⟩⟩
      · exact ⟨0, fun h => absurd h hj, fun _ h => absurd h hj2⟩
  obtain ⟨iv, hiv⟩ := Classical.axiomOfChoice inv
  have hSl : S0.length ≤ S.length := hst.ext.len
  have iold : ∀ j, j < S0.length → iv j = j := fun j hj => (hiv j).1 hj
  have inew : ∀ j, S0.length ≤ j → j < S2.length → ∃ v, g (iv j) = some (j, v) := fun j => (hiv j).2
  have ig : ∀ i j v, g i = some (j, v) → iv j = i := fun i j v hg => by
    obtain ⟨h1, h2, B, h3, h4, h5⟩ := hR.num i j v hg
    obtain ⟨v', hg'⟩ := inew j h2 (List.getElem?_eq_some_iff.1 h5).1
    exact hR.inj _ _ _ _ _ hg' hg
  obtain ⟨K2, hK2⟩ : ∃ K2 : Ctx, K2 = ⟨fun j => K.μ (iv j), fun j => K.σ (iv j)⟩ := ⟨_, rfl⟩
  have hμ : ∀ j, K2.μ j = K.μ (iv j) := fun j => by rw [hK2]
  have hσ : ∀ j, K2.σ j = K.σ (iv j) := fun j => by rw [hK2]
  -- old blocks
  have hold : ∀ i B, i < S0.length → S[i]? = some B → ∃ B2, S2[i]? = some B2 ∧ B2.ver = B.ver ∧ B2.opn = B.opn ∧ B2.rw = B.rw := by
    intro i B hi hB
    have hi2 : i < S2.length := Nat.lt_of_lt_of_le hi hR.len
    obtain ⟨B', hB', h⟩ := hR.old i _ hi (List.getElem?_eq_getElem hi2)
    rw [hB] at hB'; obtain rfl := Option.some.inj hB'
    refine ⟨_, List.getElem?_eq_getElem hi2, ?_⟩
    rcases h with ⟨_, h⟩ | ⟨_, h⟩
    · rw [h]; exact ⟨rfl, rfl, rfl⟩
    · rw [h]; exact ⟨renB_ver _ _ _, renB_opn _ _ _ _, renB_rw _ _ _ _⟩
  -- values
  have hV : ∀ x v, VR K S x v → VR K2 S2 (ren S0.length g x) v := by
    intro x v hx
    have lst : ∀ (x : List AV) (x' : Array Value), x.length = x'.size → (∀ k, VR K2 S2 (ren S0.length g (x.getD k .u)) (x'.getD k undef)) → (renL S0.length g x).length = x'.size ∧ ∀ k, VR K2 S2 ((renL S0.length g x).getD k .u) (x'.getD k undef) :=
      fun x x' h1 h2 => ⟨by rw [renL_length, h1], fun k => by rw [renL_getD]; exact h2 k⟩
    induction hx with
    | u v => rw [ren]; exact .u v
    | ud => rw [ren]; exact .ud
    | b x => rw [ren]; exact .b x
    | i k n => rw [ren]; exact .i k n
    | s l => rw [ren]; exact .s l
    | pn => rw [ren]; exact .pn
    | p i off v a B hB hv ha =>
      rw [ren]
      split
      · rename_i hi
        obtain ⟨B2, hB2, e1, e2, _⟩ := hold i B hi hB
        exact .p i off v a B2 hB2 (by omega) fun e => by rw [hμ, iold i hi]; exact ha (by omega)
      · split
        · rename_i j v' hg
          split
          · rename_i hvv
            obtain ⟨h1, h2, B', h3, h4, h5⟩ := hR.num _ _ _ hg
            rw [hB] at h3; obtain rfl := Option.some.inj h3
            exact .p j off 0 a _ h5 (Nat.zero_le _) fun _ => by rw [hμ, ig _ _ _ hg]; exact ha (by omega)
          · exact .u _
        · exact .u _
    | sn => rw [ren]; exact .sn
    | se a c => rw [ren]; exact .se a c
    | sl i off v len cap ex a c B hB hv hl hc he ha =>
      rw [ren]
      split
      · rename_i hi
        obtain ⟨B2, hB2, e1, e2, _⟩ := hold i B hi hB
        exact .sl i off v len cap ex a c B2 hB2 (by omega) hl hc he fun e => by
          obtain ⟨q1, q2⟩ := ha (by omega)
          rw [hμ, hσ, iold i hi, e2]; exact ⟨q1, q2⟩
      · split
        · rename_i j v' hg
          split
          · rename_i hvv
            obtain ⟨h1, h2, B', h3, h4, h5⟩ := hR.num _ _ _ hg
            rw [hB] at h3; obtain rfl := Option.some.inj h3
            exact .sl j off 0 len cap ex a c _ h5 (Nat.zero_le _) hl hc he fun _ => by
              obtain ⟨q1, q2⟩ := ha (by omega)
              rw [hμ, hσ, ig _ _ _ hg, renB_opn]; exact ⟨q1, q2⟩
          · exact .u _
        · exact .u _
    | mn => rw [ren]; exact .mn
    | m i r B hB hr =>
      rw [ren]
      split
      · rename_i hi
        obtain ⟨B2, hB2, e1, e2, _⟩ := hold i B hi hB
        exact .m i r B2 hB2 fun e => by rw [hμ, iold i hi]; exact hr (by omega)
      · split
        · rename_i j v' hg
          split
          · rename_i hvv
            obtain ⟨h1, h2, B', h3, h4, h5⟩ := hR.num _ _ _ hg
            rw [hB] at h3; obtain rfl := Option.some.inj h3
            exact .m j r _ h5 fun _ => by rw [hμ, ig _ _ _ hg]; exact hr (by omega)
          · exact .u _
        · exact .u _
    | nf => rw [ren]; exact .nf
    | f fn x y x' y' hx hy _ _ ih ih' =>
      rw [ren]
      obtain ⟨a1, a2⟩ := lst x x' hx ih
      obtain ⟨b1, b2⟩ := lst y y' hy ih'
      exact .f fn _ _ x' y' a1 b1 a2 b2
    | y i r B hB hr =>
      rw [ren]
      split
      · rename_i hi
        obtain ⟨B2, hB2, e1, e2, _⟩ := hold i B hi hB
        exact .y i r B2 hB2 fun e => by rw [hμ, iold i hi]; exact hr (by omega)
      · exact .u _
    | ni => rw [ren]; exact .ni
    | it t x v _ ih => rw [ren]; exact .it t _ v ih
    | ag x x' hx _ ih =>
      rw [ren]
      obtain ⟨a1, a2⟩ := lst x x' hx ih
      exact .ag _ x' a1 a2
    | tu x x' hx _ ih =>
      rw [ren]
      obtain ⟨a1, a2⟩ := lst x x' hx ih
      exact .tu _ x' a1 a2
  -- blocks
  have blk : ∀ i j B ver, B.plain = true → BRel base K S w i B → K2.μ j = K.μ i → K2.σ j = K.σ i → BRel base K2 S2 w j (renB S0.length g ver B) := by
    intro i j B ver hp hB em es
    cases B with
    | cells cs v o r =>
      obtain ⟨c, et, fz, h1, h2, h3, h4, h5, h6⟩ := hB
      exact ⟨c, et, fz, by rw [em]; exact h1, by rw [es]; exact h2, by rw [renL_length]; exact h3, fun e => by rw [renL_length]; exact h4 e, fun k hk => by
        rw [renL_length] at hk
        rw [renL_getD]; exact hV _ _ (h5 k hk), by rw [em]; exact h6⟩
    | map E cl =>
      obtain ⟨E', h1, h2, h3, h4⟩ := hB
      refine ⟨E', by rw [em]; exact h1, by simpa using h2, by rw [em]; exact h3, fun k hk hk' => ?_⟩
      simp only [List.length_map] at hk
      obtain ⟨q1, q2, q3⟩ := h4 k hk hk'
      simp only [List.getElem_map]
      exact ⟨hV _ _ q1, hV _ _ q2, q3⟩
    | dfr l => cases hp
    | loop f p env st pe => cases hp
    | itr x => cases hp
  have clo : ∀ i B, S0[i]? = some B → BRel base K S w i B → K2.μ i = K.μ i → K2.σ i = K.σ i → BRel base K2 S2 w i B := by
    intro i B hB0 hB em es
    have hV' : ∀ x v v0, VR K0 S0 x v0 → VR K S x v → VR K2 S2 x v := fun x v v0 h1 h2 => by
      have := hV x v h2
      rwa [h1.closed g] at this
    have hB' := h0.blk i B hB0
    cases B with
    | cells cs v o r =>
      obtain ⟨c, et, fz, h1, h2, h3, h4, h5, h6⟩ := hB
      obtain ⟨c', _, _, _, _, _, _, h5', _⟩ := hB'
      exact ⟨c, et, fz, by rw [em]; exact h1, by rw [es]; exact h2, h3, h4, fun k hk => hV' _ _ _ (h5' k hk) (h5 k hk), by rw [em]; exact h6⟩
    | map E cl =>
      obtain ⟨E', h1, h2, h3, h4⟩ := hB
      obtain ⟨E0, _, z2, _, z4⟩ := hB'
      exact ⟨E', by rw [em]; exact h1, h2, by rw [em]; exact h3, fun k hk hk' => ⟨hV' _ _ _ (z4 k hk (by omega)).1 (h4 k hk hk').1, hV' _ _ _ (z4 k hk (by omega)).2.1 (h4 k hk hk').2.1, (h4 k hk hk').2.2⟩⟩
    | dfr l => exact ⟨by rw [em]; exact hB.1, by rw [em]; exact hB.2⟩
    | loop f p env st pe =>
      obtain ⟨r, h1, h2, h3, h4, h5, h6⟩ := hB
      obtain ⟨r0, _, _, _, _, _, z6⟩ := hB'
      exact ⟨r, by rw [em]; exact h1, h2, h3, h4, by rw [em]; exact h5, fun t => hV' _ _ _ (z6 t) (h6 t)⟩
    | itr x =>
      obtain ⟨m, a, b, h1, h2, h3⟩ := hB
      obtain ⟨m0, a0, b0, z1, z2, _⟩ := hB'
      exact ⟨m, a, b, by rw [em]; exact h1, hV' _ _ _ z2 h2, by rw [em]; exact h3⟩
  refine ⟨K2, ⟨fun j B2 hB2 => ?_, fun a b ha hb e => ?_, h.below, h.hb, h.door⟩, fun t v hv => ?_, ⟨⟨hR.len, fun i B hB => ?_⟩, hst.os, hst.tape, hst.output, hst.size, hst.keep, fun j B2 hB2 => ?_⟩⟩
  · by_cases hj : j < S0.length
    · obtain ⟨B, hB, hc⟩ := hR.old j B2 hj hB2
      have em : K2.μ j = K.μ j := by rw [hμ, iold j hj]
      have es : K2.σ j = K.σ j := by rw [hσ, iold j hj]
      rcases hc with ⟨hc, rfl⟩ | ⟨hp, rfl⟩
      · exact clo j _ hc (h.blk j _ hB) em es
      · exact blk j j B _ hp (h.blk j B hB) em es
    · obtain ⟨i, v, B, hg, hB, hp⟩ := hR.new j B2 (by omega) hB2
      obtain ⟨_, _, B', h3, h4, h5⟩ := hR.num _ _ _ hg
      rw [hB] at h3; obtain rfl := Option.some.inj h3
      rw [hB2] at h5; obtain rfl := Option.some.inj h5
      have hi := ig _ _ _ hg
      exact blk i j B 0 hp (h.blk i B hB) (by rw [hμ, hi]) (by rw [hσ, hi])
  · have key : ∀ j, j < S2.length → iv j < S.length ∧ (S0.length ≤ j → S0.length ≤ iv j) := fun j hj => by
      by_cases hj' : j < S0.length
      · rw [iold j hj']; exact ⟨by omega, fun h => h⟩
      · obtain ⟨v, hg⟩ := inew j (by omega) hj
        obtain ⟨h1, _, B, h3, _⟩ := hR.num _ _ _ hg
        exact ⟨(List.getElem?_eq_some_iff.1 h3).1, fun _ => h1⟩
    rw [hμ, hμ] at e
    have hi := h.inj _ _ (key a ha).1 (key b hb).1 e
    by_cases ha' : a < S0.length <;> by_cases hb' : b < S0.length
    · rwa [iold a ha', iold b hb'] at hi
    · have := (key b hb).2 (by omega)
      rw [iold a ha'] at hi; omega
    · have := (key a ha).2 (by omega)
      rw [iold b hb'] at hi; omega
    · obtain ⟨v, hg⟩ := inew a (by omega) ha
      obtain ⟨v', hg'⟩ := inew b (by omega) hb
      rw [hi, hg'] at hg
      simp only [Option.some.injEq, Prod.mk.injEq] at hg
      exact hg.1.symm
  · rcases he t with h | h
    · rw [h]; exact hV _ _ hv
    · rw [h]; exact .u _
  · have hi : i < S0.length := (List.getElem?_eq_some_iff.1 hB).1
    obtain ⟨B', hB', h1, h2⟩ := hst.ext.blk i B hB
    obtain ⟨B2, hB2, e1, e2, _⟩ := hold i B' hi hB'
    exact ⟨B2, hB2, by omega, fun e => by
      obtain ⟨q1, q2, q3⟩ := h2 (by omega)
      exact ⟨by rw [hμ, iold i hi]; exact q1, by rw [hσ, iold i hi]; exact q2, by rw [e2]; exact q3⟩⟩
  · by_cases hj : j < S0.length
    · have hjs : j < S.length := by omega
      obtain ⟨B2', hB2', _, _, e3⟩ := hold j _ hj (List.getElem?_eq_getElem hjs)
      rw [hB2] at hB2'; obtain rfl := Option.some.inj hB2'
      rcases hst.own j _ (List.getElem?_eq_getElem hjs) with ⟨B0, hB0, h1, h2⟩ | h1
      · exact .inl ⟨B0, hB0, by rw [e3]; exact h1, by rw [hμ, iold j hj]; exact h2⟩
      · exact .inr (by rw [hμ, iold j hj]; exact h1)
    · obtain ⟨i, v, B, hg, hB, hp⟩ := hR.new j B2 (by omega) hB2
      have hi := ig _ _ _ hg
      obtain ⟨hn, _⟩ := hR.num _ _ _ hg
      rcases hst.own i B hB with ⟨B0, hB0, _⟩ | h1
      · have := (List.getElem?_eq_some_iff.1 hB0).1; omega
      · exact .inr (by rw [hμ, hi]; exact h1)

/-! ### All new blocks are left out -/
theorem wkv_same {S0 S : Mem} {x : AV} : WkV S0 x S x S := Wk.refl S0 _ S

/-! ### Some of the new blocks are kept -/
def gKeep (n : Nat) (L : Mem) (keep : List Nat) : Nat → Option (Nat × Nat) := fun i => if i < n then none else match keep.findIdx? (· == i - n) with
  | some p => match L[i - n]? with
    | some B => some (n + p, B.ver)
    | none => none
  | none => none

def keepB (n : Nat) (L : Mem) (keep : List Nat) : Mem := keep.map fun k => renB n (gKeep n L keep) 0 (L.getD k (.dfr false))

theorem gKeep_some {n : Nat} {L : Mem} {keep : List Nat} {i j v : Nat} (h : gKeep n L keep i = some (j, v)) : ∃ k p B, i = n + k ∧ j = n + p ∧ keep[p]? = some k ∧ L[k]? = some B ∧ B.ver = v := by
  unfold gKeep at h
  split at h
  · cases h
  · rename_i hi
    split at h
    · rename_i p hp
      split at h
      · rename_i B hB
        simp only [Option.some.injEq, Prod.mk.injEq] at h
        obtain ⟨rfl, rfl⟩ := h
        obtain ⟨hlt, h1⟩ := List.findIdx?_eq_some_iff_getElem.1 hp
        refine ⟨i - n, p, B, by omega, rfl, ?_, hB, rfl⟩
        have := h1.1
        simp only [beq_iff_eq] at this
        rw [List.getElem?_eq_getElem hlt, this]
      · cases h
    · cases h

theorem ren_keep {S0 S1 S1' L : Mem} {keep : List Nat} (hl : S1.length = S0.length) (hl' : S1'.length = S0.length) (hk : ∀ k ∈ keep, ∃ B, L[k]? = some B ∧ B.plain = true) (hd : keep.Nodup)
    (hc : ∀ (i : Nat) (B : Blk), S1[i]? = some B → (S0[i]? = some B ∧ S1'[i]? = some B) ∨ (B.plain = true ∧ S1'[i]? = some (renB S0.length (gKeep S0.length L keep) B.ver B))) :
    Ren S0 (gKeep S0.length L keep) (S1 ++ L) (S1' ++ keepB S0.length L keep) := by
  have atL : ∀ k, (S1 ++ L)[S0.length + k]? = L[k]? := fun k => by rw [List.getElem?_append_right (by omega)]; congr 1; omega
  have atK : ∀ p, (S1' ++ keepB S0.length L keep)[S0.length + p]? = (keepB S0.length L keep)[p]? := fun k => by rw [List.getElem?_append_right (by omega)]; congr 1; omega
  refine ⟨by simp [hl'], fun i j v h => ?_, fun i i' j v v' h h' => ?_, fun i B2 hi hB => ?_, fun j B2 hj hB => ?_⟩
  · obtain ⟨k, p, B, rfl, rfl, h1, h2, h3⟩ := gKeep_some h
    refine ⟨by omega, by omega, B, by rw [atL]; exact h2, h3, ?_⟩
    rw [atK, keepB, List.getElem?_map, h1]
    simp [List.getD_eq_getElem?_getD, h2]
  · obtain ⟨k, p, B, rfl, rfl, h1, h2, h3⟩ := gKeep_some h
    obtain ⟨k', p', B', rfl, hp, h1', h2', h3'⟩ := gKeep_some h'
    have : p = p' := by omega
    subst this
    rw [h1] at h1'; injection h1' with h1'; omega
  · rw [List.getElem?_append_left (by omega)] at hB
    have hi1 : i < S1.length := by omega
    refine ⟨S1[i], by rw [List.getElem?_append_left hi1]; exact List.getElem?_eq_getElem hi1, ?_⟩
    rcases hc i _ (List.getElem?_eq_getElem hi1) with ⟨h1, h2⟩ | ⟨h1, h2⟩
    · rw [hB] at h2; exact .inl ⟨h1, Option.some.inj h2⟩
    · rw [hB] at h2; exact .inr ⟨h1, Option.some.inj h2⟩
  · obtain ⟨p, rfl⟩ : ∃ p, j = S0.length + p := ⟨j - S0.length, by omega⟩
    rw [atK, keepB, List.getElem?_map] at hB
    obtain ⟨k, hkp, _⟩ := Option.map_eq_some_iff.1 hB
    obtain ⟨B, hB', hp⟩ := hk k (List.mem_of_getElem? hkp)
    refine ⟨S0.length + k, B.ver, B, ?_, by rw [atL]; exact hB', hp⟩
    unfold gKeep
    rw [if_neg (by omega)]
    have e1 : S0.length + k - S0.length = k := by omega
    rw [e1]
    have hf : keep.findIdx? (· == k) = some p := by
      obtain ⟨hlt, hkk⟩ := List.getElem?_eq_some_iff.1 hkp
      rw [List.findIdx?_eq_some_iff_getElem]
      refine ⟨hlt, by simp [hkk], fun q hq => ?_⟩
      simp only [Bool.not_eq_true, beq_eq_false_iff_ne, ne_eq]
      intro e
      have := (List.getElem_inj (h₀ := by omega) (h₁ := hlt) hd).1 (e.trans hkk.symm)
      omega
    rw [hf]
    simp only [hB']

/-- The usual case: what was there is as it was. -/
theorem wk_keep {S0 L : Mem} {e e2 : Env} (keep : List Nat) (hk : keep.all (fun k => match L[k]? with | some B => B.plain | none => false) = true) (hd : keep.Nodup) (he : ∀ t, e2.get t = ren S0.length (gKeep S0.length L keep) (e.get t) ∨ e2.get t = .u) :
    Wk S0 e (S0 ++ L) e2 (S0 ++ keepB S0.length L keep) := by
  refine wk_ren (ren_keep rfl rfl (fun k hkk => ?_) hd fun i B hB => .inl ⟨hB, hB⟩) he
  have := List.all_eq_true.1 hk k hkk
  split at this
  · rename_i B hB; exact ⟨B, hB, this⟩
  · cases this

theorem wkv_keep {S0 L : Mem} {y : AV} (keep : List Nat) (hk : keep.all (fun k => match L[k]? with | some B => B.plain | none => false) = true) (hd : keep.Nodup) :
    WkV S0 (ren S0.length (gKeep S0.length L keep) y) (S0 ++ keepB S0.length L keep) y (S0 ++ L) :=
  wk_keep keep hk hd fun t => by
    by_cases ht : t = 0
    · subst ht; left; rw [get_put_same, get_put_same]
    · right; rw [get_put_ne _ _ (Ne.symm ht)]; rfl
end Go.Proofs.YtmocapahlcaapaaGreatDoor

