/- Proved here: what the law of this claim leans on (an evaluator of the model's code, contracts of functions). No condition. -/
import Derived.Lib.Overlaps
import Derived.Test.YtmolaemlenllmaaGreatMa
import Derived.RangeFuncCalls
import Derived.RangeFuncRecord
import Derived.TacticsIn
import Derived.OrdersIn
import Derived.RangeFuncOwn
import Derived.ScopeJumps
import Derived.ChangeArms
import Derived.DataReads
import Derived.Carry
import Derived.Lib.Join
namespace Go.Proofs.YtmolaemlenllmaaGreat
set_option linter.unusedSimpArgs false
set_option linter.unusedVariables false
open Go.RowKit

section
variable {P : Program} {base : Bs} {w0 : World} {K : Ctx} {S : Mem} {w : World}

theorem Good.val (h : Sim base w0 K S w) {x : AV} {s : Sem Value} (hr : ∃ v, s.run P w = .ok v w ∧ VR K S x v) : Good base w0 K S w x S ((do let v ← s; pure (Next.value v) : Sem Next).run P w) := by
  obtain ⟨v, hv, hV⟩ := hr
  exact Good.same (v := v) h (by simp [hv]) hV

theorem two {α : Type} {l : List α} {n : Nat} (h : l.length = n) : (n = 1 → ∃ a, l = [a]) ∧ (n = 2 → ∃ a b, l = [a, b]) := by
  constructor
  · intro e; subst e
    match l, h with
    | [a], _ => exact ⟨a, rfl⟩
  · intro e; subst e
    match l, h with
    | [a, b], _ => exact ⟨a, b, rfl⟩

theorem builtin_ok (h : Sim base w0 K S w) {n : Nat} {e : Env} {a : Act} (hr : ER K S n e a) {b : Builtin} {args : Array Operand} {ts : Array TypeId} {ty : TypeId} {consts : Array Bool} {xs : List X} {io : IO'} {x : AV} {S' : Mem}
    (hxs : compXs args.toList = some xs) (hc : compBuiltin P b xs ts.toList = some io) (hv : evIO e S io = some (x, S')) :
    Good base w0 K S w x S' ((builtin b ts ty consts (args.map a.eval)).run P w) := by
  have hA := compXs_ok hr hxs
  have hl : args.toList.length = xs.length := by have := hA.1; simpa using this.symm
  have one : ∀ y, xs = [y] → ∃ o, args.map a.eval = #[a.eval o] ∧ VR K S (y.ev e) (a.eval o) := by
    intro y hy
    subst hy
    obtain ⟨o, ho⟩ := (two hl).1 rfl
    have : args = #[o] := by rw [← Array.toArray_toList (xs := args), ho]
    subst this
    exact ⟨o, by simp, hA.2 0 (by simp) (by simp)⟩
  have twoA : ∀ y z, xs = [y, z] → ∃ o p, args.map a.eval = #[a.eval o, a.eval p] ∧ VR K S (y.ev e) (a.eval o) ∧ VR K S (z.ev e) (a.eval p) := by
    intro y z hy
    subst hy
    obtain ⟨o, p, ho⟩ := (two hl).2 rfl
    have : args = #[o, p] := by rw [← Array.toArray_toList (xs := args), ho]
    subst this
    exact ⟨o, p, by simp, hA.2 0 (by simp) (by simp), hA.2 1 (by simp) (by simp)⟩
  have ts1 : ∀ t, ts.toList = [t] → ts = #[t] := fun t ht => by rw [← Array.toArray_toList (xs := ts), ht]
  have ts2 : ∀ t u, ts.toList = [t, u] → ts = #[t, u] := fun t u ht => by rw [← Array.toArray_toList (xs := ts), ht]
  unfold compBuiltin at hc
  split at hc
  · -- len
    rename_i y t hts
    obtain ⟨o, ho, hy⟩ := one y rfl
    rw [ho]
    obtain rfl := ts1 t hts
    have fin : ∀ (k : LK), (lenOk k (y.ev e) = true → lenFits P t (y.ev e) = true) → io = .len k y → Good base w0 K S w x S' ((builtin .len #[t] ty consts #[a.eval o]).run P w) := by
      intro k hk hio
      subst hio
      simp only [evIO] at hv
      split at hv
      · rename_i hok
        split at hv
        · rename_i m hm
          injection hv with hv; injection hv with h1 h2; subst h1; subst h2
          exact Good.val h ⟨_, run_len h hy hm (hk hok), .i _ _⟩
        · cases hv
      · cases hv
    split at hc
    · rename_i hu; injection hc with hc
      exact fin .str (by generalize y.ev e = q; cases q <;> simp [lenOk, lenFits, hu]) hc.symm
    · rename_i hu; injection hc with hc
      exact fin .slice (by generalize y.ev e = q; cases q <;> simp [lenOk, lenFits, hu]) hc.symm
    · rename_i hu; injection hc with hc
      exact fin .map (by generalize y.ev e = q; cases q <;> simp [lenOk, lenFits, hu]) hc.symm
    · cases hc
  · -- copy
    rename_i y z t u hts
    obtain ⟨o, p, ho, hy, hz⟩ := twoA y z rfl
    rw [ho]
    obtain rfl := ts2 t u hts
    split at hc
    · rename_i el hu
      split at hc
      · rename_i i hi
        injection hc with hc; subst hc
        simp only [evIO] at hv
        split at hv
        · rename_i m S'' hm
          injection hv with hv; injection hv with h1 h2; subst h1; subst h2
          exact good_copy h hu hi hy hz hm
        · cases hv
      · cases hc
    · cases hc
  · -- append
    rename_i y z t u hts
    obtain ⟨o, p, ho, hy, hz⟩ := twoA y z rfl
    rw [ho]
    obtain rfl := ts2 t u hts
    split at hc
    · rename_i el d hu hd
      split at hc
      · rename_i i zs hi hzs
        split at hc
        · rename_i hsz
          split at hc
          · injection hc with hc; subst hc
            simp only [evIO] at hv
            split at hv
            · rename_i m hm
              split at hv
              · rename_i hb
                rw [hsz] at hv
                exact good_appz h hu hd hi hzs hsz hy hz hm hb hv
              · cases hv
            · cases hv
          · rename_i hint
            injection hc with hc; subst hc
            simp only [evIO] at hv
            split at hv
            · rename_i cs m hm
              exact good_app h hu hd (fun k e => hint k e) hi hzs hsz hy hz hm hv
            · cases hv
        · cases hc
      · cases hc
    · cases hc
  · -- clear
    rename_i y t hts
    obtain ⟨o, ho, hy⟩ := one y rfl
    rw [ho]
    obtain rfl := ts1 t hts
    split at hc
    · rename_i el hu
      obtain ⟨z, hz, rfl⟩ := Option.map_eq_some_iff.1 hc
      exact good_clear h hu hz hy hv
    · cases hc
  · -- delete
    rename_i y z t tl hts
    obtain ⟨o, p, ho, hy, hz⟩ := twoA y z rfl
    rw [ho]
    have ht0 : ts[0]? = some t := by rw [← Array.getElem?_toList, hts]; rfl
    split at hc
    · rename_i kt el hu
      obtain ⟨q, hq, rfl⟩ := Option.map_eq_some_iff.1 hc
      simp only [evIO] at hv
      split at hv
      · rename_i S'' hm
        injection hv with hv; injection hv with h1 h2; subst h1; subst h2
        exact good_mdel h ht0 hu hq hy hz hm
      · cases hv
    · cases hc
  · -- cap
    rename_i y t hts
    obtain ⟨o, ho, hy⟩ := one y rfl
    rw [ho]
    obtain rfl := ts1 t hts
    split at hc
    · rename_i el hu
      injection hc with hc; subst hc
      simp only [evIO] at hv
      split at hv
      · rename_i m hm
        injection hv with hv; injection hv with h1 h2; subst h1; subst h2
        exact good_cap h hu hy hm
      · cases hv
    · cases hc
  · -- max
    injection hc with hc; subst hc
    simp only [evIO] at hv
    split at hv
    · rename_i y r hy
      split at hv
      · rename_i z hz
        injection hv with hv; injection hv with h1 h2; subst h1; subst h2
        rw [hy] at hA
        obtain ⟨v, vs, hvs⟩ : ∃ v vs, args.toList.map a.eval = v :: vs := by
          cases hh : args.toList.map a.eval with
          | nil => rw [hh] at hA; have := hA.1; simp at this
          | cons v vs => exact ⟨v, vs, rfl⟩
        rw [hvs] at hA
        obtain ⟨q, hq, hV⟩ := run_mm (P := P) (w := w) (mx := true) r y z v vs (hA.2 0 (by simp) (by simp)) ⟨by have := hA.1; simpa using this, fun k h1 h2 => hA.2 (k + 1) (by simp; omega) (by simp; omega)⟩ hz
        refine Good.val h ⟨q, ?_, hV⟩
        simp only [Builtin.max_, Array.toList_map, hvs]
        simpa using hq
      · cases hv
    · cases hv
  · -- min
    injection hc with hc; subst hc
    simp only [evIO] at hv
    split at hv
    · rename_i y r hy
      split at hv
      · rename_i z hz
        injection hv with hv; injection hv with h1 h2; subst h1; subst h2
        rw [hy] at hA
        obtain ⟨v, vs, hvs⟩ : ∃ v vs, args.toList.map a.eval = v :: vs := by
          cases hh : args.toList.map a.eval with
          | nil => rw [hh] at hA; have := hA.1; simp at this
          | cons v vs => exact ⟨v, vs, rfl⟩
        rw [hvs] at hA
        obtain ⟨q, hq, hV⟩ := run_mm (P := P) (w := w) (mx := false) r y z v vs (hA.2 0 (by simp) (by simp)) ⟨by have := hA.1; simpa using this, fun k h1 h2 => hA.2 (k + 1) (by simp; omega) (by simp; omega)⟩ hz
        refine Good.val h ⟨q, ?_, hV⟩
        simp only [Builtin.min_, Array.toList_map, hvs]
        simpa using hq
      · cases hv
    · cases hv
  · cases hc

theorem find_ixbyte {fn : Func} (h : fn.name = "internal/bytealg.IndexByteString") : Extern.find fn = some Extern.BytealgIndexByte.indexByte := by
  unfold Extern.find
  rw [h]
  have e1 : Extern.allGenericRows.lookup "internal/bytealg.IndexByteString" = none := by kernel_rfl
  have e2 : Extern.allTypedRows.lookup "internal/bytealg.IndexByteString" = none := by kernel_rfl
  have e3 : Extern.allRows.lookup "internal/bytealg.IndexByteString" = some Extern.BytealgIndexByte.indexByte := by kernel_rfl
  simp only [e1, e2, e3]
  rfl

theorem find_mkno {fn : Func} (h : fn.name = "internal/bytealg.MakeNoZero") : Extern.find fn = some (Extern.BytealgMakeNoZero.makeNoZero fn.params fn.resultTypes) := by
  unfold Extern.find
  rw [h]
  have e1 : Extern.allGenericRows.lookup "internal/bytealg.MakeNoZero" = none := by kernel_rfl
  have e2 : Extern.allTypedRows.lookup "internal/bytealg.MakeNoZero" = some Extern.BytealgMakeNoZero.makeNoZero := by kernel_rfl
  simp only [e1, e2]
  rfl

theorem find_ovl {fn : Func} (h : fn.origin = "slices.overlaps") (h1 : (Extern.allGenericRows.lookup fn.name).isNone = true) (h2 : (Extern.allTypedRows.lookup fn.name).isNone = true) (h3 : (Extern.allRows.lookup fn.name).isNone = true) : Extern.find fn = some (Extern.SlicesOverlaps.overlaps fn.params fn.resultTypes) := by
  unfold Extern.find
  have e1 : Extern.allGenericRows.lookup "slices.overlaps" = none := by kernel_rfl
  have e2 : Extern.allTypedRows.lookup "slices.overlaps" = some Extern.SlicesOverlaps.overlaps := by kernel_rfl
  rw [Option.isNone_iff_eq_none] at h1 h2 h3
  simp only [h, h1, h2, h3, e1, e2]
  rfl
theorem good_ovl (h : Sim base w0 K S w) {t e tR : TypeId} (ht : P.underlying t = some (.slice e)) {inf : TypeInfo} (hi : P.info? e = some inf) {i o v l c j o2 v2 l2 c2 : Nat} {ex ex2 : Bool} (hij : i ≠ j) (ha : apartB (S[i]?) (S[j]?) o v v2 = true) {x y : Value} (hx : VR K S (.sl i o v l c ex) x) (hy : VR K S (.sl j o2 v2 l2 c2 ex2) y) :
    (Extern.SlicesOverlaps.overlaps #[t, t] #[tR] #[x, y]).run P w = .ok (.bool false) w := by
  unfold apartB at ha
  split at ha
  · rename_i cs ver op cs2 ver2 op2 r2 hA hB
    simp only [decide_eq_true_eq] at ha
    obtain ⟨rfl, rfl, hop, ho, hpos⟩ := ha
    have hend : ∀ n, endOf op n = n + 1 := fun n => by unfold endOf; rw [if_neg hop]
    cases hx with
    | sl _ _ _ _ _ _ ax cx Bx g1 g2 g3 g4 g5 g6 =>
      rw [hA] at g1; injection g1 with g1; subst g1
      obtain ⟨rfl, _⟩ := g6 rfl
      cases hy with
      | sl _ _ _ _ _ _ ay cy By k1 k2 k3 k4 k5 k6 =>
        rw [hB] at k1; injection k1 with k1; subst k1
        obtain ⟨rfl, _⟩ := k6 rfl
        obtain ⟨c1, et1, fz1, p1, p2, p3, p4, p5, p6⟩ := h.blk i _ hA
        obtain ⟨c2', et2, fz2, q1, q2, q3, q4, q5, q6⟩ := h.blk j _ hB
        have hne : K.μ i ≠ K.μ j := fun q => hij (h.inj i j (List.getElem?_eq_some_iff.1 hA).1 (List.getElem?_eq_some_iff.1 hB).1 q)
        have hfz := (p6 rfl).2
        refine Lib.run_overlaps_apart w t tR e ht inf.size (fun w => run_sizeOf' hi) ⟨K.μ i, o, none⟩ ⟨K.μ j, o2, none⟩ l cx l2 cy hne et1 et2 c1.size c2'.size ?_ ?_ (by omega) ?_ ?_
        · simp [World.shape?, p1]
        · simp [World.shape?, q1]
        · have := hfz o (by rw [hend]; omega)
          simp [World.frozen?, p1]
          omega
        · have := hfz c1.size (by rw [hend]; omega)
          simp [World.frozen?, p1]
          omega
  · cases ha
theorem good_ixbyte (h : Sim base w0 K S w) {fn : Func} (hn : fn.name = "internal/bytealg.IndexByteString") {l : List UInt8} {c : Int} {v v2 : Value} (hx : VR K S (.s l) v) (hy : VR K S (.i .u8 c) v2) :
    ∃ z, (Extern.BytealgIndexByte.indexByte #[v, v2]).run P w = .ok z w ∧ VR K S (.i .i64 (Lib.indexByte l c.toNat.toUInt8)) z := by
  cases hx
  cases hy
  exact ⟨_, Lib.run_indexByteString _ _ w, .i _ _⟩

theorem good_mkno (h : Sim base w0 K S w) {ps : Array TypeId} {t el : TypeId} (ht : P.underlying t = some (.slice el)) {n : Nat} (h0 : 0 < n) (hn : n ≤ 140737488355328) :
    ∃ z w' K', (Extern.BytealgMakeNoZero.makeNoZero ps #[t] #[.int .i64 n]).run P w = .ok z w' ∧ VR K' (S ++ [.cells (List.replicate n .u) 0 (some 1) true]) (.sl S.length 0 0 n n false) z ∧ Sim base w0 K' (S ++ [.cells (List.replicate n .u) 0 (some 1) true]) w' ∧ Stp K S w K' (S ++ [.cells (List.replicate n .u) 0 (some 1) true]) w' := by
  obtain ⟨hd1, hd2⟩ := h.drew
  obtain ⟨hd3, hd4⟩ := hd1.drew
  obtain ⟨cs, hrun, hge, _⟩ := Lib.run_makeNoZero (P := P) w ps t el ht n (by omega)
  obtain ⟨K', g1, g2, g3, g4⟩ := good_row2 hd3 (List.replicate n .u) cs el (some 1) (0, 0)
    (by simpa using hge) (fun e => by cases e) (fun k hk => by
      rw [show (List.replicate n AV.u).getD k .u = .u by simp only [List.length_replicate] at hk; simp [List.getD_eq_getElem?_getD, hk]]
      exact .u _) (fun o ho => by omega)
  refine ⟨_, _, K', hrun, ?_, g1, (hd2.trans hd4).trans g2⟩
  refine .sl _ _ _ _ _ _ _ _ _ (new_at S _) (Nat.le_refl _) (Nat.le_refl _) hge (fun e => by cases e) fun _ => ⟨by rw [g3]; rfl, fun _ => ⟨1, rfl, ?_⟩⟩
  rw [g4]; omega

/-- A range over a map begins. -/
theorem good_rng (h : Sim base w0 K S w) {t kt el : TypeId} (ht : P.underlying t = some (.map kt el)) {j : Nat} {es : List (AV × AV × Nat)} {cl : Nat} (hj : S[j]? = some (.map es cl)) {v : Value} (hv : VR K S (.m j) v) :
    Good base w0 K S w (.p S.length 0 0) (S ++ [.itr (.m j)]) ((do let v ← Instr.range t v; pure (Next.value v) : Sem Next).run P w) := by
  cases hv with
  | m _ r B h1 h2 =>
    rw [hj] at h1; obtain rfl := Option.some.inj h1
    obtain rfl := h2 rfl
    obtain ⟨E, e1, _, _, _⟩ := h.blk j _ hj
    obtain ⟨s1, t1⟩ := h.alloc (.itr (.m j)) (.mapIter (some (K.μ j)) cl #[] cl) 0 fun K' S' w' hE d1 d2 d3 hb => ⟨K.μ j, cl, cl, by rw [d1]; exact d3, (VR.m j (K.μ j) _ hj fun _ => rfl).mono hE, by rw [d1]; exact hb⟩
    refine ⟨_, _, .pointer (some ⟨w.heap.size, 0, none⟩), .inl ?_, .p _ _ _ _ _ (new_at S _) (Nat.le_refl _) fun _ => by rw [(K.put_same _ _ _).1], s1, t1⟩
    simp [Instr.range, run_underlying' ht, MapKept.run_getObj_map e1]
/-- Of a map that holds nothing nothing comes. -/
theorem good_nxt (h : Sim base w0 K S w) {ty : TypeId} {i j cl : Nat} (hi : S[i]? = some (.itr (.m j))) (hj : S[j]? = some (.map [] cl)) {v : Value} (hv : VR K S (.p i 0 0) v) :
    Good base w0 K S w (.tu [.b false]) S ((do let v ← Instr.next v false ty; pure (Next.value v) : Sem Next).run P w) := by
  cases hv with
  | p _ _ _ a B h1 h2 h3 =>
    rw [hi] at h1; obtain rfl := Option.some.inj h1
    obtain rfl := h3 rfl
    obtain ⟨m, a1, b1, q1, q2, _⟩ := h.blk i _ hi
    obtain ⟨E, e1, e2, _, _⟩ := h.blk j _ hj
    cases q2 with
    | m _ r B2 n1 n2 =>
      rw [hj] at n1; obtain rfl := Option.some.inj n1
      obtain rfl := n2 rfl
      have hE : E = #[] := Array.eq_empty_of_size_eq_zero e2.symm
      subst hE
      refine Good.same (v := .tuple #[.bool false]) h ?_ ?_
      · simp [Instr.next, getObj, Sem.run, q1, e1, choose, Question.forced]
      · refine .tu _ _ rfl fun k => ?_
        match k with
        | 0 => exact .b false
        | k + 1 => exact .u _

set_option maxHeartbeats 400000 in
theorem op_ok (h : Sim base w0 K S w) {n : Nat} {e : Env} {a : Act} (hr : ER K S n e a) {o : Oper} {io : IO'} {x : AV} {S' : Mem} (hc : compOp P o.op = some io) (hv : evIO e S io = some (x, S')) :
    Good base w0 K S w x S' ((execOp a.eval o).run P w) := by
  obtain ⟨dst, op, ty, pos, aft, grd⟩ := o
  have one1 : ∀ {x y : AV} {S1 S2 : Mem}, some (x, S1) = some (y, S2) → x = y ∧ S1 = S2 := by
    intro x y S1 S2 h; injection h with h; injection h with h1 h2; exact ⟨h1, h2⟩
  unfold compOp at hc
  simp only at hc
  split at hc
  · -- move
    obtain ⟨y, hy, rfl⟩ := Option.map_eq_some_iff.1 hc
    obtain ⟨h1, h2⟩ := one1 hv; subst h1; subst h2
    exact Good.same h (by simp [execOp]) (compX_ok hy hr)
  · -- assign
    obtain ⟨y, hy, rfl⟩ := Option.map_eq_some_iff.1 hc
    obtain ⟨h1, h2⟩ := one1 hv; subst h1; subst h2
    exact Good.same h (by simp [execOp]) (compX_ok hy hr)
  · -- pick
    split at hc
    · rename_i c' a' b' c a1 b1 h1 h2 h3
      injection hc with hc; subst hc
      simp only [evIO] at hv
      split at hv
      · rename_i hb
        obtain ⟨e1, e2⟩ := one1 hv; subst e1; subst e2
        exact good_pick (b := true) h (compX_ok h1 hr) (compX_ok h2 hr) (compX_ok h3 hr) hb rfl
      · rename_i hb
        obtain ⟨e1, e2⟩ := one1 hv; subst e1; subst e2
        exact good_pick (b := false) h (compX_ok h1 hr) (compX_ok h2 hr) (compX_ok h3 hr) hb rfl
      · cases hv
    · cases hc
  · -- alloc
    obtain ⟨z, hz, rfl⟩ := Option.map_eq_some_iff.1 hc
    obtain ⟨h1, h2⟩ := one1 hv; subst h1; subst h2
    exact good_fresh h hz
  · -- box
    obtain ⟨y, hy, rfl⟩ := Option.map_eq_some_iff.1 hc
    simp only [evIO] at hv
    split at hv
    · rename_i cs hcs
      obtain ⟨h1, h2⟩ := one1 hv; subst h1; subst h2
      exact good_box h (compX_ok hy hr) hcs
    · cases hv
  · -- build
    rename_i t ps
    split at hc
    · rename_i z pl hz hpl
      obtain ⟨r, hp, rfl⟩ := Option.map_eq_some_iff.1 hc
      simp only [evIO] at hv
      split at hv
      · rename_i rr hf
        obtain ⟨h1, h2⟩ := one1 hv; subst h1; subst h2
        obtain ⟨q1, q2⟩ := compParts_ok hr hp
        refine good_build h (vs := ps.map fun (i, x) => (i, a.eval x)) hz hpl (by simpa using q1) (fun k hk hk' => ?_) hf
        have e1 : (ps.map fun (i, x) => (i, a.eval x)).toList = evPs a ps.toList := by simp [evPs]
        have := q2 k hk (by rw [← e1]; exact hk')
        simp only [e1]; exact this
      · cases hv
    · cases hc
  · -- buildSlice
    rename_i t len ps
    split at hc
    · rename_i el hu
      split at hc
      · rename_i z i hz hi
        split at hc
        · rename_i hcond
          obtain ⟨r, hp, rfl⟩ := Option.map_eq_some_iff.1 hc
          simp only [evIO] at hv
          split at hv
          · rename_i rr hf
            obtain ⟨h1, h2⟩ := one1 hv; subst h1; subst h2
            obtain ⟨q1, q2⟩ := compParts_ok hr hp
            obtain ⟨hc1, hc2⟩ := hcond
            simp only [execOp]
            generalize hvs : Array.map _ ps = vs
            have e1 : vs.toList = evPs a ps.toList := by rw [← hvs]; simp [evPs]
            have e2 : (evParts e r).length = vs.size := by rw [← hvs]; simpa using q1
            refine good_bslice h hu hz hi hc1 hc2 e2 (fun k hk hk' => ?_) hf
            have := q2 k hk (by rw [← e1]; exact hk')
            simp only [e1]; exact ⟨Option.some.inj this.1, this.2⟩
          · cases hv
        · cases hc
      · cases hc
    · cases hc
  · -- load
    split at hc
    · rename_i t x n y hs hy
      injection hc with hc; subst hc
      simp only [evIO] at hv
      split at hv
      · rename_i z hz
        obtain ⟨h1, h2⟩ := one1 hv; subst h1; subst h2
        exact good_load h hs (compX_ok hy hr) hz
      · cases hv
    · cases hc
  · -- store
    split at hc
    · rename_i t x y i x' y' hi hx hy
      injection hc with hc; subst hc
      simp only [evIO] at hv
      split at hv
      · rename_i S'' hz
        obtain ⟨h1, h2⟩ := one1 hv; subst h1; subst h2
        exact good_store h hi (compX_ok hx hr) (compX_ok hy hr) hz
      · cases hv
    · cases hc
  · -- nilCheck
    obtain ⟨y, hy, rfl⟩ := Option.map_eq_some_iff.1 hc
    simp only [evIO] at hv
    split at hv
    · rename_i z hz
      obtain ⟨h1, h2⟩ := one1 hv; subst h1; subst h2
      exact good_nil h rfl (compX_ok hy hr) hz
    · cases hv
  · -- binOp
    rename_i bop t x y yt
    split at hc
    · rename_i x' y' hx hy
      split at hc
      · rename_i tk htk
        injection hc with hc; subst hc
        simp only [evIO] at hv
        split at hv
        · rename_i z hz
          obtain ⟨h1, h2⟩ := one1 hv; subst h1; subst h2
          exact Good.val h (run_bin htk (compX_ok hx hr) (compX_ok hy hr) hz)
        · cases hv
      · rename_i hnk
        split at hc
        · rename_i ks hks
          split at hc
          · rename_i hg
            have hagg : ∀ z neg, eqAgV neg ks (x'.ev e) (y'.ev e) = some z → ∃ d, P.underlying t = some d ∧ aggB d = true := by
              intro z neg hz
              have hxx := compX_ok hx hr
              cases hu : P.underlying t with
              | none => simp [flatOf, hu] at hks
              | some d =>
                refine ⟨d, rfl, ?_⟩
                unfold kindOf at hnk
                rw [hu] at hnk
                cases d <;> simp at hnk <;> simp [flatOf, hu] at hks <;> rfl
            split at hc
            · injection hc with hc; subst hc
              simp only [evIO] at hv
              split at hv
              · rename_i z hz
                obtain ⟨h1, h2⟩ := one1 hv; subst h1; subst h2
                exact good_eqag h (.inl ⟨rfl, rfl⟩) hks hg (compX_ok hx hr) (compX_ok hy hr) hz (hagg _ _ hz)
              · cases hv
            · injection hc with hc; subst hc
              simp only [evIO] at hv
              split at hv
              · rename_i z hz
                obtain ⟨h1, h2⟩ := one1 hv; subst h1; subst h2
                exact good_eqag h (.inr ⟨rfl, rfl⟩) hks hg (compX_ok hx hr) (compX_ok hy hr) hz (hagg _ _ hz)
              · cases hv
            · cases hc
          · cases hc
        · cases hc
    · cases hc
  · -- unOp
    obtain ⟨y, hy, rfl⟩ := Option.map_eq_some_iff.1 hc
    simp only [evIO] at hv
    split at hv
    · rename_i z hz
      obtain ⟨h1, h2⟩ := one1 hv; subst h1; subst h2
      exact good_un h (compX_ok hy hr) hz
    · cases hv
  · -- convert
    rename_i src dt x
    split at hc
    · rename_i d k x' hs hd hx
      injection hc with hc; subst hc
      simp only [evIO] at hv
      split at hv
      · rename_i z hz
        obtain ⟨h1, h2⟩ := one1 hv; subst h1; subst h2
        exact good_toInt h hs hd (compX_ok hx hr) hz
      · cases hv
    · rename_i x' hs hd hx
      injection hc with hc; subst hc
      simp only [evIO] at hv
      split at hv
      · rename_i l hl
        obtain ⟨h1, h2⟩ := one1 hv; subst h1; subst h2
        have hX := compX_ok hx hr
        rw [hl] at hX
        generalize hvv : a.eval x = v at hX
        cases hX
        refine Good.same h ?_ (.s l)
        simp [execOp, hvv, convert, run_underlying' hs, run_underlying' hd]
      · cases hv
    · rename_i el x' hs hd hx
      split at hc
      · rename_i he
        injection hc with hc; subst hc
        simp only [evIO] at hv
        split at hv
        · rename_i l hl
          obtain ⟨h1, h2⟩ := one1 hv; subst h1; subst h2
          have hX := compX_ok hx hr
          rw [hl] at hX
          exact good_toBytes h hs hd he hX
        · cases hv
      · cases hc
    · rename_i el x' hs hd hx
      split at hc
      · rename_i he
        injection hc with hc; subst hc
        simp only [evIO] at hv
        split at hv
        · rename_i z hz
          obtain ⟨h1, h2⟩ := one1 hv; subst h1; subst h2
          exact good_toStr h hs he hd (compX_ok hx hr) hz
        · cases hv
      · cases hc
    · cases hc
  · -- makeFunc
    split at hc
    · rename_i fn f c f' c' hf hcap
      injection hc with hc; subst hc
      obtain ⟨h1, h2⟩ := one1 hv; subst h1; subst h2
      have e1 := compXs_ok (K := K) (S := S) hr hf
      have e2 := compXs_ok (K := K) (S := S) hr hcap
      exact good_mkf h (by simpa using e1) (by simpa using e2)
    · cases hc
  · -- makeSlice
    split at hc
    · rename_i t l c el hu
      split at hc
      · rename_i z i l' c' hz hi hl hcc
        split at hc
        · rename_i hsz
          injection hc with hc; subst hc
          simp only [evIO] at hv
          split at hv
          · rename_i m k hm hk
            split at hv
            · rename_i hb
              obtain ⟨h1, h2⟩ := one1 hv; subst h1; subst h2
              exact good_mks h hu hz hi hsz (compX_ok hl hr) (compX_ok hcc hr) hm hk hb.1 hb.2.1 hb.2.2
            · cases hv
          · cases hv
        · cases hc
      · cases hc
    · cases hc
  · -- slice
    rename_i t x lo hi mx
    split at hc
    · rename_i el x' lo' hi' mx' hu hx hlo hhi hmx
      split at hc
      · rename_i i hinf
        injection hc with hc; subst hc
        simp only [evIO] at hv
        split at hv
        · rename_i z hz
          obtain ⟨h1, h2⟩ := one1 hv; subst h1; subst h2
          exact good_slice h hu hinf (compX_ok hx hr) (compXo_ok hr hlo) (compXo_ok hr hhi) (compXo_ok hr hmx) hz
        · cases hv
      · cases hc
    · rename_i n el x' lo' hi' mx' hu hx hlo hhi hmx
      split at hc
      · rename_i i hinf
        injection hc with hc; subst hc
        simp only [evIO] at hv
        split at hv
        · rename_i z hz
          obtain ⟨h1, h2⟩ := one1 hv; subst h1; subst h2
          exact good_sla h hu hinf (compX_ok hx hr) (compXo_ok hr hlo) (compXo_ok hr hhi) (compXo_ok hr hmx) hz
        · cases hv
      · cases hc
    · rename_i x' lo' hi' hu hx hlo hhi hmx
      injection hc with hc; subst hc
      simp only [evIO] at hv
      have hmn : mx = none := by
        cases mx with
        | none => rfl
        | some m => simp [compXo] at hmx
      subst hmn
      split at hv
      · rename_i z hz
        obtain ⟨h1, h2⟩ := one1 hv; subst h1; subst h2
        exact good_sls h hu (compX_ok hx hr) (compXo_ok hr hlo) (compXo_ok hr hhi) hz
      · cases hv
    · cases hc
  · -- fieldAddr
    split at hc
    · rename_i t x k f i x' hf hx
      injection hc with hc; subst hc
      simp only [evIO] at hv
      split at hv
      · rename_i z hz
        obtain ⟨h1, h2⟩ := one1 hv; subst h1; subst h2
        exact good_faddr h hf (compX_ok hx hr) hz
      · cases hv
    · cases hc
  · -- field
    split at hc
    · rename_i t x k f i x' hf hx
      split at hc
      · rename_i n hn
        injection hc with hc; subst hc
        simp only [evIO] at hv
        split at hv
        · rename_i z hz
          obtain ⟨h1, h2⟩ := one1 hv; subst h1; subst h2
          exact good_fld h hf hn (compX_ok hx hr) hz
        · cases hv
      · cases hc
    · cases hc
  · -- indexAddr
    split at hc
    · rename_i t x ix arr el i x' ix' hi hx hix
      injection hc with hc; subst hc
      simp only [evIO] at hv
      split at hv
      · rename_i z hz
        obtain ⟨h1, h2⟩ := one1 hv; subst h1; subst h2
        exact good_iaddr h hi (compX_ok hx hr) (compX_ok hix hr) hz
      · cases hv
    · cases hc
  · -- index
    rename_i t x ix
    split at hc
    · rename_i x' ix' hu hx hix
      injection hc with hc; subst hc
      simp only [evIO] at hv
      split at hv
      · rename_i z hz
        obtain ⟨h1, h2⟩ := one1 hv; subst h1; subst h2
        exact good_ixs h hu (compX_ok hx hr) (compX_ok hix hr) hz
      · cases hv
    · rename_i x' ix' hu hx hix
      split at hc
      · rename_i len el i hi
        split at hc
        · rename_i m hm
          injection hc with hc; subst hc
          simp only [evIO] at hv
          split at hv
          · rename_i z hz
            obtain ⟨h1, h2⟩ := one1 hv; subst h1; subst h2
            exact good_ixa h hi hm (compX_ok hx hr) (compX_ok hix hr) hz
          · cases hv
        · cases hc
      · cases hc
    · cases hc
  · -- extract
    obtain ⟨y, hy, rfl⟩ := Option.map_eq_some_iff.1 hc
    simp only [evIO] at hv
    split at hv
    · rename_i z hz
      obtain ⟨h1, h2⟩ := one1 hv; subst h1; subst h2
      exact good_ext h (compX_ok hy hr) hz
    · cases hv
  · -- makeMap
    rename_i t r
    split at hc
    · rename_i kt el hu
      obtain ⟨y, hy, rfl⟩ := Option.map_eq_some_iff.1 hc
      have hO := compXo_ok (K := K) (S := S) hr hy
      simp only [evIO] at hv
      split at hv
      · rename_i he
        obtain ⟨h1, h2⟩ := one1 hv; subst h1; subst h2
        rw [he] at hO
        refine good_mkmap h hu fun v hv => ?_
        rw [hv] at hO
        exact hO.elim
      · rename_i k n he
        obtain ⟨h1, h2⟩ := one1 hv; subst h1; subst h2
        rw [he] at hO
        refine good_mkmap h hu fun v hv => ?_
        rw [hv] at hO
        change VR K S (.i k n) v at hO
        cases hO
        exact ⟨k, n, rfl⟩
      · cases hv
    · cases hc
  · -- lookup
    rename_i t x k ok
    split at hc
    · rename_i kt el hu
      split at hc
      · rename_i q z x' k' hq hz hx hk
        injection hc with hc; subst hc
        simp only [evIO] at hv
        split at hv
        · rename_i y hy
          obtain ⟨h1, h2⟩ := one1 hv; subst h1; subst h2
          exact good_mlook h hu hq hz (compX_ok hx hr) (compX_ok hk hr) hy
        · cases hv
      · cases hc
    · cases hc
  · -- mapEntry
    rename_i t x k
    split at hc
    · rename_i kt el hu
      split at hc
      · rename_i q z x' k' hq hz hx hk
        injection hc with hc; subst hc
        exact good_mentry h hu hq hz (compX_ok hx hr) (compX_ok hk hr) hv
      · cases hc
    · cases hc
  · -- entryStore
    split at hc
    · rename_i x s v hx hs hv'
      injection hc with hc; subst hc
      simp only [evIO] at hv
      split at hv
      · rename_i S'' hm
        obtain ⟨h1, h2⟩ := one1 hv; subst h1; subst h2
        exact good_mstore h (compX_ok hx hr) (compX_ok hs hr) (compX_ok hv' hr) hm
      · cases hv
    · cases hc
  · -- mapUpdate
    rename_i t x k v
    split at hc
    · rename_i kt el hu
      split at hc
      · rename_i q x' k' v' hq hx hk hv'
        injection hc with hc; subst hc
        simp only [evIO] at hv
        split at hv
        · rename_i S'' hm
          obtain ⟨h1, h2⟩ := one1 hv; subst h1; subst h2
          exact good_mupd h hu hq (compX_ok hx hr) (compX_ok hk hr) (compX_ok hv' hr) hm
        · cases hv
      · cases hc
    · cases hc
  · -- insert
    rename_i t x k v
    split at hc
    · rename_i kt el hu
      split at hc
      · rename_i q x' k' v' hq hx hk hv'
        injection hc with hc; subst hc
        simp only [evIO] at hv
        split at hv
        · rename_i S'' hm
          obtain ⟨h1, h2⟩ := one1 hv; subst h1; subst h2
          exact good_mupd h hu hq (compX_ok hx hr) (compX_ok hk hr) (compX_ok hv' hr) hm
        · cases hv
      · cases hc
    · cases hc
  · -- call
    rename_i c
    split at hc
    · rename_i b xs hcal hxs
      have := fun consts => builtin_ok (ts := c.argTypes) (ty := ty) (consts := consts) h hr hxs hc hv
      simp only [execOp, resolve, hcal, Sem.run_bind, Sem.run_pure, Result.andThen_ok, invoke]
      exact this _
    · rename_i f xs hcal hxs
      have hA := compXs_ok (K := K) (S := S) hr hxs
      unfold compExtern at hc
      split at hc
      · rename_i fn hfn
        split at hc
        · rename_i hb
          obtain ⟨hb1, hb2⟩ := hb
          have hb2 : Extern.findNext fn = none := by simpa using hb2
          split at hc
          · rename_i y z
            split at hc
            · rename_i hname
              injection hc with hc; subst hc
              have hng : (fn.name == "runtime.NumGoroutine") = false := by rw [hname]; decide
              simp only [evIO] at hv
              split at hv
              · rename_i l k hy hz
                obtain ⟨h1, h2⟩ := one1 hv; subst h1; subst h2
                obtain ⟨v1, v2, hvs⟩ : ∃ v1 v2, c.args.toList.map a.eval = [v1, v2] := by
                  match hh : c.args.toList.map a.eval, hA.1 with
                  | [p, q], _ => exact ⟨p, q, rfl⟩
                rw [hvs] at hA
                have q1 := hA.2 0 (by simp) (by simp)
                have q2 := hA.2 1 (by simp) (by simp)
                simp only [List.map_cons, List.map_nil, List.getElem_cons_zero, List.getElem_cons_succ, hy, hz] at q1 q2
                obtain ⟨r, hr1, hr2⟩ := good_ixbyte (P := P) h hname q1 q2
                have hargs : c.args.map a.eval = #[v1, v2] := by rw [← Array.toArray_toList (xs := c.args.map a.eval), Array.toList_map, hvs]
                refine Good.same (v := r) h ?_ hr2
                simp only [execOp, resolve, hcal, Act.eval, Deferred.ofValue, Sem.run_bind, Sem.run_pure, Result.andThen_ok, invoke]
                rw [Array.empty_append, Array.append_empty, run_callFunc_extern hfn hng hb1 hb2 (find_ixbyte hname), hargs, hr1]
                rfl
              · cases hv
            · split at hc
              · rename_i hname2
                obtain ⟨ho, hl1, hl2, hl3, hng⟩ := hname2
                split at hc
                · rename_i t1 t2 t hps hres
                  split at hc
                  · rename_i ht12
                    subst ht12
                    split at hc
                    · rename_i e' hu
                      split at hc
                      · rename_i inf hinf
                        injection hc with hc; subst hc
                        simp only [evIO] at hv
                        split at hv
                        · rename_i i o v l c' ex j o2 v2 l2 c2 ex2 hy hz
                          split at hv
                          · rename_i hcond
                            obtain ⟨hij, hap⟩ := hcond
                            obtain ⟨h1, h2⟩ := one1 hv; subst h1; subst h2
                            obtain ⟨v1, v2', hvs⟩ : ∃ v1 v2, c.args.toList.map a.eval = [v1, v2] := by
                              match hh : c.args.toList.map a.eval, hA.1 with
                              | [p, q], _ => exact ⟨p, q, rfl⟩
                            rw [hvs] at hA
                            have q1 := hA.2 0 (by simp) (by simp)
                            have q2 := hA.2 1 (by simp) (by simp)
                            simp only [List.map_cons, List.map_nil, List.getElem_cons_zero, List.getElem_cons_succ, hy, hz] at q1 q2
                            have hr1 := good_ovl (P := P) (tR := t) h hu hinf hij hap q1 q2
                            have hargs : c.args.map a.eval = #[v1, v2'] := by rw [← Array.toArray_toList (xs := c.args.map a.eval), Array.toList_map, hvs]
                            have hps' : fn.params = #[t1, t1] := by rw [← Array.toArray_toList (xs := fn.params), hps]
                            have hres' : fn.resultTypes = #[t] := by rw [← Array.toArray_toList (xs := fn.resultTypes), hres]
                            refine Good.same (v := .bool false) h ?_ (.b false)
                            simp only [execOp, resolve, hcal, Act.eval, Deferred.ofValue, Sem.run_bind, Sem.run_pure, Result.andThen_ok, invoke]
                            rw [Array.empty_append, Array.append_empty, run_callFunc_extern hfn hng hb1 hb2 (find_ovl ho hl1 hl2 hl3), hargs, hps', hres', hr1]
                            rfl
                          · cases hv
                        · cases hv
                      · cases hc
                    · cases hc
                  · cases hc
                · cases hc
              · cases hc
          · rename_i y
            split at hc
            · rename_i hname
              have hng : (fn.name == "runtime.NumGoroutine") = false := by rw [hname]; decide
              split at hc
              · rename_i t hres
                split at hc
                · rename_i el hu
                  injection hc with hc; subst hc
                  simp only [evIO] at hv
                  split at hv
                  · rename_i z hm
                    split at hv
                    · rename_i hlim
                      obtain ⟨h1, h2⟩ := one1 hv; subst h1; subst h2
                      obtain ⟨m, rfl⟩ := Int.eq_ofNat_of_zero_le (show 0 ≤ z by omega)
                      obtain ⟨v1, hvs⟩ : ∃ v1, c.args.toList.map a.eval = [v1] := by
                        match hh : c.args.toList.map a.eval, hA.1 with
                        | [p], _ => exact ⟨p, rfl⟩
                      rw [hvs] at hA
                      have q1 := hA.2 0 (by simp) (by simp)
                      simp only [List.map_cons, List.map_nil, List.getElem_cons_zero, hm] at q1
                      cases q1
                      have hargs : c.args.map a.eval = #[.int .i64 m] := by rw [← Array.toArray_toList (xs := c.args.map a.eval), Array.toList_map, hvs]
                      have hres' : fn.resultTypes = #[t] := by rw [← Array.toArray_toList (xs := fn.resultTypes), hres]
                      obtain ⟨r, w', K', hr1, hr2, hr3, hr4⟩ := good_mkno (ps := fn.params) h hu (n := m) (by omega) (by omega)
                      simp only [Int.toNat_natCast]
                      refine ⟨K', w', r, .inl ?_, hr2, hr3, hr4⟩
                      simp only [execOp, resolve, hcal, Act.eval, Deferred.ofValue, Sem.run_bind, Sem.run_pure, Result.andThen_ok, invoke]
                      rw [Array.empty_append, Array.append_empty, run_callFunc_extern hfn hng hb1 hb2 (find_mkno hname), hargs, hres', hr1]
                      rfl
                    · cases hv
                  · cases hv
                · cases hc
              · cases hc
            · cases hc
          · cases hc
        · cases hc
      · cases hc
    · cases hc
  · -- range
    rename_i t y
    split at hc
    · rename_i kt el hu
      obtain ⟨x', hx, rfl⟩ := Option.map_eq_some_iff.1 hc
      have q1 : VR K S (x'.ev e) (a.eval y) := compX_ok hx hr
      simp only [evIO] at hv
      split at hv
      · rename_i j hj
        split at hv
        · rename_i es cl hB
          obtain ⟨h1, h2⟩ := one1 hv; subst h1; subst h2
          rw [hj] at q1
          exact good_rng h hu hB q1
        · cases hv
      · cases hv
    · cases hc
  · -- next
    rename_i y isS
    split at hc
    · rename_i hS
      subst hS
      obtain ⟨x', hx, rfl⟩ := Option.map_eq_some_iff.1 hc
      have q1 : VR K S (x'.ev e) (a.eval y) := compX_ok hx hr
      simp only [evIO] at hv
      split at hv
      · rename_i i hi
        split at hv
        · rename_i j hB
          split at hv
          · rename_i cl hB2
            obtain ⟨h1, h2⟩ := one1 hv; subst h1; subst h2
            rw [hi] at q1
            exact good_nxt h hB hB2 q1
          · cases hv
        · cases hv
      · cases hv
    · cases hc
  · cases hc
end
end Go.Proofs.YtmolaemlenllmaaGreat

namespace Go.Proofs.YtmolaemlenllmaaGreat
set_option linter.unusedSimpArgs false
set_option linter.unusedVariables false
open Go.RowKit

/-- No fence; 'rd': within a round of a loop over a function. -/
def FW (rd : Option Nat) : Fence := { fn := fun _ => True, depth := none, alive := false, round := rd }
/-- What a call comes to. -/
def Post (base : Bs) (w0 : World) (K : Ctx) (S : Mem) (w : World) (x : AV) (S' : Mem) : Ending → World → Prop := fun e w' =>
  ∃ K' v, e = .returned v ∧ VR K' S' x v ∧ Sim base w0 K' S' w' ∧ Stp K S w K' S' w'

/-- What is known of calls is so. -/
structure OK (P : Program) (Λ : Nat → List Bool → Option (Array Tmp × Code × Code × Nat)) (O : Orc) : Prop where
  fn : ∀ f args S x S', O.fn f args S = some (x, S') → enterable P f = true ∧ ∀ (base : Bs) (w0 : World) (K : Ctx) (w : World) (vs : Array Value), base.Λ = Λ → ArgsR K S args vs.toList → Sim base w0 K S w →
    Calls P f vs w (Post base w0 K S w x S')
  y : ∀ i args S x S', O.y i args S = some (x, S') → ∀ (base : Bs) (w0 : World) (K : Ctx) (w : World) (l : Nat) (vs : Array Value), base.Λ = Λ → VR K S (.y i) (.func (.yield l) #[] #[]) → ArgsR K S args vs.toList → Sim base w0 K S w →
    ∃ f tmps assign body, (Instr.yield l vs).run P w = .ok (.round l f tmps assign body) w ∧ ∀ n, RoundIn Fence.wide n P l f tmps assign body w (Post base w0 K S w x S')

section
variable {P : Program} {base : Bs} {w0 : World} {K : Ctx} {S : Mem} {w : World} {O : Orc}

theorem run_callFunc {f : FuncId} (h : enterable P f = true) (args : Array Value) : (callFunc f args).run P w = .ok (.enter f args) w := by
  unfold enterable at h
  split at h
  · rename_i fn hfn
    simp only [Bool.and_eq_true, Bool.not_eq_true'] at h
    obtain ⟨h1, h2⟩ := h
    have h3 : fn.body ≠ none := by
      intro hb
      rw [hb] at h2; simp at h2
    have h4 : fn.name ≠ "runtime.NumGoroutine" := by simpa using h1
    simp [callFunc, hfn, h4, h3]
  · cases h

theorem ArgsR.append {xs ys : List AV} {us vs : List Value} (h : ArgsR K S xs us) (h' : ArgsR K S ys vs) : ArgsR K S (xs ++ ys) (us ++ vs) := by
  refine ⟨by simp [h.1, h'.1], fun k hk hk' => ?_⟩
  have hl := h.1
  by_cases e : k < xs.length
  · rw [List.getElem_append_left e, List.getElem_append_left (by omega)]
    exact h.2 k e (by omega)
  · rw [List.getElem_append_right (by omega), List.getElem_append_right (by omega)]
    simp only [List.length_append] at hk hk'
    have := h'.2 (k - xs.length) (by omega) (by omega)
    simpa [hl] using this

theorem ArgsR.of_arr {xs : List AV} {a : Array Value} (hl : xs.length = a.size) (h : ∀ k, VR K S (xs.getD k .u) (a.getD k undef)) : ArgsR K S xs a.toList := by
  refine ⟨by simpa using hl, fun k hk hk' => ?_⟩
  have := h k
  have e1 : xs.getD k .u = xs[k] := by simp [List.getD_eq_getElem?_getD, hk]
  have e2 : a.getD k undef = a.toList[k] := by
    have : k < a.size := by omega
    simp [Array.getD, this]
  rw [e1, e2] at this; exact this

theorem ArgsR.mono {K K' : Ctx} {S S' : Mem} {xs : List AV} {vs : List Value} (hE : Ext K S K' S') (h : ArgsR K S xs vs) : ArgsR K' S' xs vs := ⟨h.1, fun k a b => (h.2 k a b).mono hE⟩

theorem semAt_ok {rd : Option Nat} {ρ : Operand → Value} {o : Oper} (h : ∀ c, o.op ≠ .defer c) : Oper.semAt (FW rd).round ρ o = execOp ρ o := by
  cases rd with
  | none => exact Oper.semAt_none _ _
  | some l => exact Oper.semAt_some l _ _ h

theorem callsW {rd : Option Nat} {n : Nat} {f : FuncId} {args : Array Value} {R : Ending → World → Prop} (h : Calls P f args w R) : CallsIn (FW rd) n P f args w R := by
  cases rd with
  | none => exact callsIn_wide.2 h
  | some l => exact CallsIn.inRound l (callsIn_wide.2 h)

/-- One operation, with what may come behind it. -/
theorem oper_ok (hO : OK P base.Λ O) (h : Sim base w0 K S w) {nt : Nat} {e : Env} {a : Act} (hr : ER K S nt e a) {o : Oper} {x : AV} {S' : Mem} (hv : evOp O e S (compIO P o.op) = some (x, S')) {n : Nat} {rd : Option Nat} {Kont : Act → World → Prop} {Q : Exit → Act → World → Prop}
    (hK : ∀ K' w' v, VR K' S' x v → Sim base w0 K' S' w' → Stp K S w K' S' w' → Kont (a.put o.dst v) w') : o.wpIn (FW rd) n P a w Kont Q := by
  unfold Oper.wpIn
  refine ⟨fun _ _ => trivial, ?_⟩
  have post : ∀ {f : FuncId} {args : Array Value}, Calls P f args w (Post base w0 K S w x S') → o.uponIn (FW rd) n P a Kont Q (.ok (.enter f args) w) := by
    intro f args hc
    rw [Oper.uponIn_enter]
    refine ⟨fun e => (by cases e), CallsIn.mono (callsW hc) fun e w' hp => ?_⟩
    obtain ⟨K', v, rfl, hV, hS, hst⟩ := hp
    exact hK K' w' v hV hS hst
  unfold compIO at hv
  split at hv
  · rename_i io hio
    unfold compCall at hio
    split at hio
    · rename_i c hop
      have hsem : Oper.semAt (FW rd).round a.eval o = execOp a.eval o := semAt_ok (fun c' e => by rw [hop] at e; cases e)
      rw [hsem]
      split at hio
      · rename_i f xs hcal hxs
        split at hio
        · rename_i hen
          injection hio with hio; subst hio
          simp only [evOp] at hv
          obtain ⟨_, hcall⟩ := hO.fn _ _ _ _ _ hv
          have hA := compXs_ok (K := K) (S := S) hr hxs
          have hrun : (execOp a.eval o).run P w = .ok (.enter f (c.args.map a.eval)) w := by
            simp [execOp, hop, resolve, hcal, Act.eval, Deferred.ofValue, invoke, run_callFunc hen]
          rw [hrun]
          exact post (hcall base w0 K w _ rfl (by simpa using hA) h)
        · cases hio
      · rename_i y xs hne hcal hxs
        obtain ⟨y', hy', rfl⟩ := Option.map_eq_some_iff.1 hio
        simp only [evOp] at hv
        have hA := compXs_ok (K := K) (S := S) hr hxs
        have hY := compX_ok (K := K) (S := S) hy' hr
        split at hv
        · rename_i f fa fb hf
          rw [hf] at hY
          obtain ⟨hen, hcall⟩ := hO.fn _ _ _ _ _ hv
          generalize hvy : a.eval y = vy at hY
          cases hY with
          | f _ _ _ x' y'' hx hy h1 h2 =>
            have hrun : (execOp a.eval o).run P w = .ok (.enter f (x' ++ c.args.map a.eval ++ y'')) w := by
              simp [execOp, hop, resolve, hcal, hvy, Deferred.ofValue, invoke, run_callFunc hen]
            rw [hrun]
            refine post (hcall base w0 K w _ rfl ?_ h)
            simp only [Array.toList_append, Array.toList_map]
            exact ((ArgsR.of_arr hx h1).append hA).append (ArgsR.of_arr hy h2)
        · rename_i i hf
          rw [hf] at hY
          generalize hvy : a.eval y = vy at hY
          have hY' := hY
          cases hY with
          | y _ r B hB hr' =>
            obtain ⟨f, tmps, assign, body, hyr, hround⟩ := hO.y _ _ _ _ _ hv base w0 K w r (c.args.map a.eval) rfl hY' (by simpa using hA) h
            have hrun : (execOp a.eval o).run P w = .ok (.round r f tmps assign body) w := by
              simp [execOp, hop, resolve, hcal, hvy, Deferred.ofValue, invoke, hyr]
            rw [hrun, Oper.uponIn_round]
            refine ⟨fun e => (by cases e), RoundIn.mono (show RoundIn (FW rd) (n - 1) P r f tmps assign body w (Post base w0 K S w x S') from hround _) fun e w' hp => ?_⟩
            obtain ⟨K', v, rfl, hV, hS, hst⟩ := hp
            exact hK K' w' v hV hS hst
        · cases hv
      · cases hio
    · cases hio
  · split at hv
    · rename_i io hio
      have hnd : ∀ c, o.op ≠ .defer c := fun c e => by rw [e] at hio; simp [compOp] at hio
      rw [semAt_ok hnd]
      obtain ⟨K', w', v, hres, hV, hS, hst⟩ := op_ok h hr hio hv
      rcases hres with hres | ⟨hres, rfl⟩
      · rw [hres, Oper.uponIn_value]; exact hK K' w' v hV hS hst
      · rw [hres, Oper.uponIn_skip]; exact hK K' w' undef hV hS hst
    · simp [evOp, evIO] at hv

theorem want_ok {nt : Nat} {e : Env} {a : Act} {ops : Array Oper} {o : Oper} {r : ROp} (hr : ∀ t b, r.guard = some (t, b) → VR K S (e.get t) (a.tmps.getD t undef)) (hsz : a.tmps.size = nt) (hc : compOper P ops o = some r) {b : Bool} (hw : wantV e r.guard = some b) :
    Region.wanted o (yielded ops a.tmps) = b := by
  unfold compOper at hc
  split at hc
  · rename_i hg
    injection hc with hc; subst hc
    simp only [wantV, Option.some.injEq] at hw
    subst hw
    simp [Region.wanted, hg]
  · rename_i j want hg
    split at hc
    · rename_i t ht
      injection hc with hc; subst hc
      simp only [wantV] at hw
      have hV := hr t want rfl
      have hy : yielded ops a.tmps j = match a.tmps[t]? with | some (.bool b) => some b | _ => none := by
        unfold yielded
        rw [ht]; rfl
      have hg' : Region.wanted o (yielded ops a.tmps) = (yielded ops a.tmps j == some want) := by simp [Region.wanted, hg]
      rw [hg', hy]
      by_cases hts : t < a.tmps.size
      · have e1 : a.tmps[t]? = some (a.tmps.getD t undef) := by simp [Array.getD, hts]
        rw [e1]
        generalize a.tmps.getD t undef = v at hV
        split at hw
        · rename_i x hx
          rw [hx] at hV
          cases hV
          have hw := Option.some.inj hw
          rw [← hw]
          cases x <;> cases want <;> rfl
        · cases hw
        · rename_i hnb hnu
          have hw := Option.some.inj hw
          rw [← hw]
          generalize hgx : e.get t = y at hV hnb hnu
          cases hV <;> first | rfl | exact absurd rfl (hnb _) | exact absurd rfl hnu
      · have e1 : a.tmps[t]? = none := by simp at hts; simp [hts]
        have e2 : a.tmps.getD t undef = undef := by simp [Array.getD, hts]
        rw [e1]
        rw [e2] at hV
        split at hw
        · rename_i x hx
          rw [hx] at hV; cases hV
        · cases hw
        · have hw := Option.some.inj hw
          rw [← hw]; rfl
    · cases hc

theorem compOper_io {ops : Array Oper} {o : Oper} {r : ROp} (hc : compOper P ops o = some r) : r.io = compIO P o.op ∧ r.dst = o.dst := by
  unfold compOper at hc
  split at hc
  · injection hc with hc; subst hc; exact ⟨rfl, rfl⟩
  · split at hc
    · injection hc with hc; subst hc; exact ⟨rfl, rfl⟩
    · cases hc

theorem ER.putE {nt : Nat} {e : Env} {a : Act} {x : AV} {v : Value} (hr : ER K S nt e a) (hx : VR K S x v) {d : Option Nat} (hd : ∀ t, d = some t → t < nt) : ER K S nt (putE e d x) (a.put d v) := by
  cases d with
  | none => exact ⟨hr.size, fun k => by simpa [Act.put, Go.Proofs.YtmolaemlenllmaaGreat.putE] using hr.slot k⟩
  | some t => exact hr.put hx t (hd t rfl)

theorem put_defers (a : Act) (d : Option Tmp) (v : Value) : (a.put d v).defers = a.defers := by cases d <;> rfl

theorem list_ok (hO : OK P base.Λ O) {ops : Array Oper} {n : Nat} {rd : Option Nat} {Q : Exit → Act → World → Prop} {nt : Nat} : ∀ (l : List Oper) (rl : List ROp) (K : Ctx) (S : Mem) (e : Env) (a : Act) (w : World) (e' : Env) (S' : Mem), l.mapM (compOper P ops) = some rl → dstOk nt rl = true →
    Sim base w0 K S w → ER K S nt e a → evOps O rl e S = some (e', S') →
    (∀ K' a' w', ER K' S' nt e' a' → a'.defers = a.defers → Sim base w0 K' S' w' → Stp K S w K' S' w' → Q .normal a' w') → wpListIn (FW rd) n P ops Q l a w
  | [], rl, K, S, e, a, w, e', S', hm, _, h, hr, hv, hQ => by
    simp at hm; subst hm
    simp only [evOps, Option.some.injEq, Prod.mk.injEq] at hv
    obtain ⟨rfl, rfl⟩ := hv
    exact wpListIn_nil (hQ K a w hr rfl h (.refl K S w))
  | o :: l, rl, K, S, e, a, w, e', S', hm, hd, h, hr, hv, hQ => by
    simp only [List.mapM_cons, Option.bind_eq_bind, Option.bind_eq_some_iff, Option.pure_def, Option.some.injEq] at hm
    obtain ⟨r, hro, rl', hrl, rfl⟩ := hm
    obtain ⟨hio, hdst⟩ := compOper_io hro
    simp only [dstOk, List.all_cons, Bool.and_eq_true] at hd
    have hdt : ∀ t, o.dst = some t → t < nt := fun t ht => by
      have := hd.1
      rw [hdst, ht] at this
      simpa using this
    simp only [evOps, evOne] at hv
    cases hw : wantV e r.guard with
    | none => simp [hw] at hv
    | some b =>
      have hwant := want_ok (ops := ops) (o := o) (fun t _ _ => hr.slot t) hr.size hro hw
      refine wpListIn_step fun Kont hKont => ?_
      cases b with
      | false =>
        rw [hwant, if_neg (by simp)]
        simp only [hw] at hv
        refine ⟨fun _ _ => trivial, hKont _ _ ?_⟩
        refine list_ok hO l rl' K S _ _ w e' S' hrl hd.2 h ?_ hv fun K' a' w' q1 q2 q3 q4 => hQ K' a' w' q1 (by rw [q2, put_defers]) q3 q4
        rw [hdst]
        exact hr.putE .ud hdt
      | true =>
        rw [hwant, if_pos rfl]
        simp only [hw] at hv
        split at hv
        · cases hv
        · rename_i x S1 hx
          rw [hio] at hx
          refine oper_ok hO h hr hx fun K1 w1 v hV hS hst => hKont _ _ ?_
          refine list_ok hO l rl' K1 S1 _ _ w1 e' S' hrl hd.2 hS ?_ hv fun K' a' w' q1 q2 q3 q4 => hQ K' a' w' q1 (by rw [q2, put_defers]) q3 (hst.trans q4)
          rw [hdst]
          exact (hr.mono hst.ext).putE hV hdt
end
end Go.Proofs.YtmolaemlenllmaaGreat

namespace Go.Proofs.YtmolaemlenllmaaGreat
set_option linter.unusedSimpArgs false
set_option linter.unusedVariables false
open Go.RowKit

mutual
theorem eqv_ok : ∀ (x y : AV), avEqv x y = true → x = y
  | x, y, h => by
    unfold avEqv at h
    split at h
    · rfl
    · rfl
    · simp at h; subst h; rfl
    · simp at h; obtain ⟨h1, h2⟩ := h; subst h1; subst h2; rfl
    · simp at h; subst h; rfl
    · rfl
    · simp at h; obtain ⟨⟨h1, h2⟩, h3⟩ := h; subst h1; subst h2; subst h3; rfl
    · rfl
    · rfl
    · simp at h; obtain ⟨⟨⟨⟨⟨h1, h2⟩, h3⟩, h4⟩, h5⟩, h6⟩ := h; subst h1; subst h2; subst h3; subst h4; subst h5; subst h6; rfl
    · rfl
    · simp at h; subst h; rfl
    · rfl
    · rfl
    · simp at h; subst h; rfl
    · rename_i a b c a' b' c'
      simp only [Bool.and_eq_true, beq_iff_eq] at h
      obtain ⟨⟨h1, h2⟩, h3⟩ := h
      rw [h1, eqvL_ok b b' h2, eqvL_ok c c' h3]
    · rename_i t a t' a'
      simp only [Bool.and_eq_true, beq_iff_eq] at h
      rw [h.1, eqv_ok a a' h.2]
    · rename_i a a'
      rw [eqvL_ok a a' h]
    · rename_i a a'
      rw [eqvL_ok a a' h]
    · cases h
termination_by x => SizeOf.sizeOf x
theorem eqvL_ok : ∀ (x y : List AV), avEqvL x y = true → x = y
  | [], [], _ => rfl
  | x :: xs, y :: ys, h => by
    simp only [avEqvL, Bool.and_eq_true] at h
    rw [eqv_ok x y h.1, eqvL_ok xs ys h.2]
  | [], _ :: _, h => by simp [avEqvL] at h
  | _ :: _, [], h => by simp [avEqvL] at h
termination_by x => SizeOf.sizeOf x
end

/-! ### Slots that an operation does not look at -/
theorem X.ev_congr {x : X} {e e' : Env} (h : ∀ t ∈ x.use, e.get t = e'.get t) : x.ev e = x.ev e' := by
  cases x with
  | t n => exact h n (by simp [X.use])
  | c v => rfl

theorem map_congr' {xs : List X} {e e' : Env} (h : ∀ t ∈ xs.flatMap X.use, e.get t = e'.get t) : xs.map (·.ev e) = xs.map (·.ev e') :=
  List.map_congr_left fun x hx => X.ev_congr fun t ht => h t (List.mem_flatMap.2 ⟨x, hx, ht⟩)

theorem opt_congr {x : Option X} {e e' : Env} (h : ∀ t ∈ optUse x, e.get t = e'.get t) : x.map (·.ev e) = x.map (·.ev e') := by
  cases x with
  | none => rfl
  | some x => simp only [Option.map_some]; rw [X.ev_congr h]

theorem parts_congr {ps : List (Nat × Nat × X)} {e e' : Env} (h : ∀ t ∈ ps.flatMap (fun p => p.2.2.use), e.get t = e'.get t) : evParts e ps = evParts e' ps :=
  List.map_congr_left fun p hp => by rw [X.ev_congr fun t ht => h t (List.mem_flatMap.2 ⟨p, hp, ht⟩)]

theorem evIO_congr {io : IO'} {e e' : Env} (S : Mem) (h : ∀ t ∈ io.use, e.get t = e'.get t) : evIO e S io = evIO e' S io := by
  have two : ∀ {a b : List Nat}, (∀ t ∈ a ++ b, e.get t = e'.get t) → (∀ t ∈ a, e.get t = e'.get t) ∧ ∀ t ∈ b, e.get t = e'.get t :=
    fun h => ⟨fun t ht => h t (List.mem_append_left _ ht), fun t ht => h t (List.mem_append_right _ ht)⟩
  cases io <;> simp only [IO'.use] at h <;> simp only [evIO]
  case mv x => rw [X.ev_congr h]
  case box x => rw [X.ev_congr h]
  case load n x => rw [X.ev_congr h]
  case nilck x => rw [X.ev_congr h]
  case un op x => rw [X.ev_congr h]
  case toInt k x => rw [X.ev_congr h]
  case faddr o x => rw [X.ev_congr h]
  case fld o n x => rw [X.ev_congr h]
  case ext x k => rw [X.ev_congr h]
  case len k x => rw [X.ev_congr h]
  case same x => rw [X.ev_congr h]
  case toStr x => rw [X.ev_congr h]
  case toBytes x => rw [X.ev_congr h]
  case clear z x => rw [X.ev_congr h]
  case cap x => rw [X.ev_congr h]
  case mkno x => rw [X.ev_congr h]
  case rng x => rw [X.ev_congr h]
  case nxt x => rw [X.ev_congr h]
  case pick c a b =>
    obtain ⟨h1, h3⟩ := two h
    obtain ⟨h1, h2⟩ := two h1
    rw [X.ev_congr h1, X.ev_congr h2, X.ev_congr h3]
  case build z ps => rw [parts_congr h]
  case bslice z l ps => rw [parts_congr h]
  case store n x y => rw [X.ev_congr (two h).1, X.ev_congr (two h).2]
  case bin tk c op x y => rw [X.ev_congr (two h).1, X.ev_congr (two h).2]
  case iaddr a s x y => rw [X.ev_congr (two h).1, X.ev_congr (two h).2]
  case ixa a s m x y => rw [X.ev_congr (two h).1, X.ev_congr (two h).2]
  case ixs x y => rw [X.ev_congr (two h).1, X.ev_congr (two h).2]
  case ixbyte x y => rw [X.ev_congr (two h).1, X.ev_congr (two h).2]
  case ovl x y => rw [X.ev_congr (two h).1, X.ev_congr (two h).2]
  case mks z b x y => rw [X.ev_congr (two h).1, X.ev_congr (two h).2]
  case copy s x y => rw [X.ev_congr (two h).1, X.ev_congr (two h).2]
  case app s b x y => rw [X.ev_congr (two h).1, X.ev_congr (two h).2]
  case eqag n ks x y => rw [X.ev_congr (two h).1, X.ev_congr (two h).2]
  case appz z b x y => rw [X.ev_congr (two h).1, X.ev_congr (two h).2]
  case slice s x a b c =>
    obtain ⟨h1, h4⟩ := two h
    obtain ⟨h1, h3⟩ := two h1
    obtain ⟨h1, h2⟩ := two h1
    rw [X.ev_congr h1, opt_congr h2, opt_congr h3, opt_congr h4]
  case sla n s x a b c =>
    obtain ⟨h1, h4⟩ := two h
    obtain ⟨h1, h3⟩ := two h1
    obtain ⟨h1, h2⟩ := two h1
    rw [X.ev_congr h1, opt_congr h2, opt_congr h3, opt_congr h4]
  case sls x a b =>
    obtain ⟨h1, h3⟩ := two h
    obtain ⟨h1, h2⟩ := two h1
    rw [X.ev_congr h1, opt_congr h2, opt_congr h3]
  case mkf f a b => rw [map_congr' (two h).1, map_congr' (two h).2]
  case mm b xs => rw [map_congr' h]
  case mkmap hh => rw [opt_congr h]
  case mlook ag ks z ok x k => rw [X.ev_congr (two h).1, X.ev_congr (two h).2]
  case mentry ag ks z x k => rw [X.ev_congr (two h).1, X.ev_congr (two h).2]
  case mdel ag ks x k => rw [X.ev_congr (two h).1, X.ev_congr (two h).2]
  case mstore x y z =>
    obtain ⟨h1, h3⟩ := two h
    obtain ⟨h1, h2⟩ := two h1
    rw [X.ev_congr h1, X.ev_congr h2, X.ev_congr h3]
  case mupd ag ks x y z =>
    obtain ⟨h1, h3⟩ := two h
    obtain ⟨h1, h2⟩ := two h1
    rw [X.ev_congr h1, X.ev_congr h2, X.ev_congr h3]

theorem evOne_congr {O : Orc} {o : ROp} {e e' : Env} (S : Mem) (h : ∀ t ∈ o.use, e.get t = e'.get t) : evOne O e S o = evOne O e' S o := by
  obtain ⟨dst, g, io⟩ := o
  have h1 : ∀ t ∈ io.use, e.get t = e'.get t := fun t ht => h t (List.mem_append_left _ ht)
  have hw : wantV e g = wantV e' g := by
    cases g with
    | none => rfl
    | some tb =>
      obtain ⟨t, b⟩ := tb
      have := h t (List.mem_append_right _ (by simp))
      simp only [wantV, this]
  have ho : evOp O e S io = evOp O e' S io := by
    cases io with
    | op io => exact evIO_congr S h1
    | call f xs => simp only [IOp.use] at h1; simp only [evOp]; rw [map_congr' h1]
    | callv x xs =>
      simp only [IOp.use] at h1
      simp only [evOp]
      rw [X.ev_congr fun t ht => h1 t (List.mem_append_left _ ht), map_congr' fun t ht => h1 t (List.mem_append_right _ ht)]
  simp only [evOne, hw, ho]

/-! ### Slots -/
theorem get_put_same (e : Env) (t : Nat) (x : AV) : Env.get ((t, x) :: e) t = x := by simp [Env.get]
theorem get_put_ne (e : Env) {t k : Nat} (x : AV) (h : t ≠ k) : Env.get ((t, x) :: e) k = e.get k := by
  have hb : Nat.beq t k = false := by
    cases hb : Nat.beq t k with
    | false => rfl
    | true => exact absurd (Nat.eq_of_beq_eq_true hb) h
  simp [Env.get, hb]
theorem get_putE (e : Env) (d : Option Nat) (x : AV) (k : Nat) (h : d ≠ some k) : (putE e d x).get k = e.get k := by
  cases d with
  | none => rfl
  | some t => exact get_put_ne e x fun e => h (by rw [e])

theorem get_keepE_append (e r : Env) : ∀ (l : List Nat) (t : Nat), (keepE e l ++ r).get t = if t ∈ l then e.get t else r.get t
  | [], t => by simp [keepE]
  | k :: l, t => by
    have ih := get_keepE_append e r l t
    simp only [keepE] at ih
    simp only [keepE, List.map_cons, List.cons_append]
    by_cases hk : k = t
    · subst hk
      rw [get_put_same]; simp
    · rw [get_put_ne _ _ hk, ih]
      have : (t ∈ k :: l) = (t ∈ l) := by simp [Ne.symm hk]
      simp only [this]

theorem get_keepE (e : Env) (l : List Nat) (t : Nat) : (keepE e l).get t = if t ∈ l then e.get t else .u := by
  have := get_keepE_append e [] l t
  simpa [Env.get] using this

/-! ### The stages -/
theorem chkN_ok {O : Orc} {er ef : Env} {pre : List Noted} {o : ROp} {hi : Nat} : ∀ (fuel s : Nat), chkN O er ef pre o hi fuel s = true → ∀ t, s ≤ t → t ≤ hi → t < s + fuel →
    ∃ N x S', pre[t]? = some N ∧ evOne O er N.S o = some (x, S') ∧ ∀ d, o.dst = some d → x = ef.get d
  | 0, s, _, t, h1, _, h3 => by omega
  | fuel + 1, s, h, t, h1, h2, h3 => by
    rw [chkN, if_pos (by omega)] at h
    split at h
    · rename_i N hN
      simp only [Bool.and_eq_true] at h
      by_cases e : t = s
      · subst e
        have h := h.1
        split at h
        · rename_i x S' hx
          refine ⟨N, x, S', hN, hx, fun d hd => ?_⟩
          rw [hd] at h
          exact eqv_ok _ _ h
        · cases h
      · exact chkN_ok fuel (s + 1) h.2 t (by omega) h2 (by omega)
    · cases h

theorem likeOn_ok {e e' : Env} {l : List Nat} (h : likeOn e e' l = true) : ∀ t ∈ l, e.get t = e'.get t := fun t ht => eqv_ok _ _ (List.all_eq_true.1 h t ht)

/-- What is known of an operation that is carried out, or not, in a stage. -/
def OptF (O : Orc) (er ef : Env) (S S' : Mem) : Option ROp → Prop
  | none => S' = S
  | some o => ∃ x, evOne O er S o = some (x, S') ∧ ∀ d, o.dst = some d → x = ef.get d

theorem opt_fact {O : Orc} {er ef e e' : Env} {S S' : Mem} {o : Option ROp} (h : evOpt O o e S = some (e', S')) (hc : chkOpt er ef e e' o = true) : OptF O er ef S S' o := by
  cases o with
  | none =>
    simp only [evOpt, Option.some.injEq, Prod.mk.injEq] at h
    exact h.2.symm
  | some o =>
    simp only [evOpt] at h
    simp only [chkOpt, Bool.and_eq_true] at hc
    split at h
    · cases h
    · rename_i x S1 hx
      simp only [Option.some.injEq, Prod.mk.injEq] at h
      obtain ⟨h1, h2⟩ := h
      subst h2
      rw [evOne_congr S (likeOn_ok hc.1)] at hx
      refine ⟨x, hx, fun d hd => ?_⟩
      have := likeOn_ok hc.2 d (by simp [dstL, hd])
      rw [← this, ← h1, hd]
      exact (get_put_same e d x).symm

theorem opt_env {O : Orc} {e e' : Env} {S S' : Mem} {o : Option ROp} (h : evOpt O o e S = some (e', S')) (t : Nat) (ht : ∀ x, o = some x → x.dst ≠ some t) : e'.get t = e.get t := by
  cases o with
  | none => simp only [evOpt, Option.some.injEq, Prod.mk.injEq] at h; rw [← h.1]
  | some o =>
    simp only [evOpt] at h
    split at h
    · cases h
    · simp only [Option.some.injEq, Prod.mk.injEq] at h
      rw [← h.1]
      exact get_putE _ _ _ _ (ht o rfl)

theorem ns_env {O : Orc} {S : Mem} : ∀ (l : List (ROp × Nat)) (e e' : Env), evNs O l e S = some e' → ∀ t, (∀ q ∈ l, q.1.dst ≠ some t) → e'.get t = e.get t
  | [], e, e', h, t, _ => by simp only [evNs, Option.some.injEq] at h; rw [h]
  | (o, hi) :: l, e, e', h, t, ht => by
    simp only [evNs] at h
    split at h
    · cases h
    · rw [ns_env l _ _ h t fun q hq => ht q (by simp [hq])]
      exact get_putE _ _ _ _ (ht (o, hi) (by simp))

structure StF (O : Orc) (er ef : Env) (full : List Noted) (Sf : Mem) (st : List Stage) (pre : List Noted) (s0 s : Nat) (g : Stage) : Prop where
  out : ∃ N S2 S3, pre[s]? = some N ∧ (∀ q ∈ g.ns, chkN O er ef full q.1 q.2 (q.2 + 1) (s0 + s) = true) ∧ OptF O er ef N.S S2 g.a ∧ OptF O er ef S2 S3 g.m ∧
    (s + 1 < st.length → ∃ N', pre[s + 1]? = some N' ∧ N'.S = S3) ∧ (s + 1 = st.length → S3 = Sf)

theorem stages_ok {O : Orc} {er ef : Env} {full : List Noted} {Sf : Mem} : ∀ (st : List Stage) (e : Env) (S : Mem) (pre : List Noted) (s0 : Nat), evStages O st e S = some (ef, Sf, pre) → chkStages O er ef full st pre s0 = true →
    pre.length = st.length ∧ (∀ s g, st[s]? = some g → StF O er ef full Sf st pre s0 s g) ∧ (∀ N, pre[0]? = some N → N.S = S) ∧
      ∀ t, (∀ g ∈ st, (∀ q ∈ g.ns, q.1.dst ≠ some t) ∧ (∀ x, g.a = some x → x.dst ≠ some t) ∧ ∀ x, g.m = some x → x.dst ≠ some t) → ef.get t = e.get t
  | [], e, S, pre, s0, h, _ => by
    simp only [evStages, Option.some.injEq, Prod.mk.injEq] at h
    obtain ⟨rfl, rfl, rfl⟩ := h
    exact ⟨rfl, fun s g hg => by simp at hg, fun N hN => by simp at hN, fun t _ => rfl⟩
  | g :: st, e, S, pre, s0, h, hc => by
    simp only [evStages] at h
    split at h
    · cases h
    · rename_i e1 h1
      split at h
      · cases h
      · rename_i e2 S2 h2
        split at h
        · cases h
        · rename_i e3 S3 h3
          split at h
          · cases h
          · rename_i ef' Sf' pre' h4
            simp only [Option.some.injEq, Prod.mk.injEq] at h
            obtain ⟨rfl, rfl, rfl⟩ := h
            simp only [chkStages, Bool.and_eq_true, List.all_eq_true] at hc
            obtain ⟨⟨⟨c1, c2⟩, c3⟩, c4⟩ := hc
            obtain ⟨q1, q2, q3, q4⟩ := stages_ok st e3 S3 pre' (s0 + 1) h4 c4
            refine ⟨by simp [q1], fun s g' hg' => ?_, fun N hN => ?_, fun t ht => ?_⟩
            · cases s with
              | zero =>
                simp only [List.getElem?_cons_zero, Option.some.injEq] at hg'
                subst hg'
                refine ⟨⟨S, e1, e2, e3⟩, S2, S3, by simp, fun q hq => c1 q hq, opt_fact h2 c2, opt_fact h3 c3, fun hl => ?_, fun hl => ?_⟩
                · have hlt : 0 < pre'.length := by rw [q1]; simp only [List.length_cons] at hl; omega
                  exact ⟨pre'[0], by simp [hlt], q3 _ (by simp [hlt])⟩
                · have : st = [] := by
                    apply List.length_eq_zero_iff.1
                    simp only [List.length_cons] at hl; omega
                  subst this
                  simp only [evStages, Option.some.injEq, Prod.mk.injEq] at h4
                  exact h4.2.1
              | succ s =>
                simp only [List.getElem?_cons_succ] at hg'
                obtain ⟨N, S2', S3', r1, r2, r3, r4, r5, r6⟩ := (q2 s g' hg').out
                refine ⟨N, S2', S3', by simpa using r1, fun q hq => ?_, r3, r4, fun hl => by simpa using r5 (by simp only [List.length_cons] at hl; omega), fun hl => r6 (by simp only [List.length_cons] at hl; omega)⟩
                have := r2 q hq
                rwa [show s0 + 1 + s = s0 + (s + 1) by omega] at this
            · simp only [List.getElem?_cons_zero, Option.some.injEq] at hN
              subst hN; rfl
            · rw [q4 t fun g' hg' => ht g' (by simp [hg'])]
              obtain ⟨t1, t2, t3⟩ := ht g (by simp)
              rw [opt_env h3 t t3, opt_env h2 t t2, ns_env _ _ _ h1 t t1]

/-! ### What turns no memory -/
theorem still_ok {e : Env} {S S' : Mem} {io : IO'} {x : AV} (hs : io.still = true) (h : evIO e S io = some (x, S')) : S' = S := by
  cases io <;> simp only [IO'.still] at hs <;> (first | cases hs | skip) <;> simp only [evIO] at h <;>
    first
      | (simp only [Option.some.injEq, Prod.mk.injEq] at h; exact h.2.symm)
      | ((repeat' split at h) <;> first | (simp only [Option.some.injEq, Prod.mk.injEq] at h; exact h.2.symm) | cases h)

theorem still_one {O : Orc} {e : Env} {S S' : Mem} {o : ROp} {x : AV} (hs : o.io.still = true) (h : evOne O e S o = some (x, S')) : S' = S := by
  unfold evOne at h
  split at h
  · cases h
  · simp only [Option.some.injEq, Prod.mk.injEq] at h; exact h.2.symm
  · cases hio : o.io with
    | op io => rw [hio] at hs h; exact still_ok hs h
    | call f xs => rw [hio] at hs; simp [IOp.still] at hs
    | callv x xs => rw [hio] at hs; simp [IOp.still] at hs
end Go.Proofs.YtmolaemlenllmaaGreat

namespace Go.Proofs.YtmolaemlenllmaaGreat
set_option linter.unusedSimpArgs false
set_option linter.unusedVariables false
open Go.RowKit

section
variable {P : Program} {base : Bs} {w0 : World} {K : Ctx} {S : Mem} {w : World}

/-- The value of a new row that lies in block b, number n of the abstract memory. -/
def NewV (x : AV) (v : Value) (b n : Nat) : Prop :=
  (x = .p n 0 0 ∧ v = .pointer (some ⟨b, 0, none⟩)) ∨ ∃ l, x = .sl n 0 0 l l true ∧ v = .slice (some ⟨b, 0, none⟩) l l

theorem early_ok {nt : Nat} {e : Env} {a : Act} (hr : ER K S nt e a) {o : Oper} {io : IO'} {x : AV} {S1 S2 : Mem} (hc : compOp P o.op = some io) (hl : io.laying = true) (hv : evIO e S1 io = some (x, S2)) :
    ∃ (cs : List AV) (arr : Array Value) (et : TypeId) (v : Value), S2 = S1 ++ [.cells cs 0 none true] ∧ RowR K S cs arr ∧ (execOp a.eval o).run P w = .ok (.value v) (w.alloc (.cells arr et)) ∧ NewV x v w.heap.size S1.length := by
  obtain ⟨dst, op, ty, pos, aft, grd⟩ := o
  cases op
  case alloc t =>
    obtain ⟨z, hz, rfl⟩ := Option.map_eq_some_iff.1 hc
    simp only [evIO, Option.some.injEq, Prod.mk.injEq] at hv
    obtain ⟨rfl, rfl⟩ := hv
    obtain ⟨i, v, hi, hz2, hz3⟩ := zeroOf_row hz
    refine ⟨z, v.cells, t, .pointer (some ⟨w.heap.size, 0, none⟩), rfl, hz3 K S, ?_, .inl ⟨rfl, rfl⟩⟩
    simp [execOp, Instr.alloc, run_zeroValue' hi hz2, newVar, newRow]
  case buildSlice t len ps =>
    simp only [compOp] at hc
    split at hc
    · rename_i el hu
      split at hc
      · rename_i z i hz hi
        split at hc
        · rename_i hcond
          obtain ⟨r, hp, rfl⟩ := Option.map_eq_some_iff.1 hc
          simp only [evIO] at hv
          split at hv
          · rename_i rr hf
            simp only [Option.some.injEq, Prod.mk.injEq] at hv
            obtain ⟨rfl, rfl⟩ := hv
            obtain ⟨q1, q2⟩ := compParts_ok (K := K) (S := S) hr hp
            obtain ⟨hc1, hc2⟩ := hcond
            simp only [execOp]
            generalize hvs : Array.map _ ps = vs
            have e1 : vs.toList = evPs a ps.toList := by rw [← hvs]; simp [evPs]
            have e2 : (evParts e r).length = vs.size := by rw [← hvs]; simpa using q1
            obtain ⟨c', hR, hrun⟩ := run_bslice (w := w) (K := K) (S := S) hu hz hi hc1 hc2 e2 (fun k hk hk' => by
              have := q2 k hk (by rw [← e1]; exact hk')
              simp only [e1]; exact ⟨Option.some.inj this.1, this.2⟩) hf
            exact ⟨rr, c', el, _, rfl, hR, hrun, .inr ⟨len, rfl, rfl⟩⟩
          · cases hv
        · cases hc
      · cases hc
    · cases hc
  all_goals (simp only [compOp] at hc; exfalso; (repeat' split at hc) <;> first | (cases hc; done) | (injection hc with hc; subst hc; cases hl; done) | (obtain ⟨y, hy, rfl⟩ := Option.map_eq_some_iff.1 hc; cases hl; done) | skip)
  all_goals (first | unfold compBuiltin at hc | unfold compExtern at hc); all_goals ((repeat' split at hc) <;> first | (cases hc; done) | (injection hc with hc; subst hc; cases hl; done) | (obtain ⟨y, hy, rfl⟩ := Option.map_eq_some_iff.1 hc; cases hl; done))

/-- An early row is taken into the abstract memory. -/
theorem Sim.adopt (h : Sim base w0 K S w) {b : Nat} {cs : List AV} {arr : Array Value} {et : TypeId} (hb : base ≤ b) (hh : w.heap[b]? = some (.cells arr et)) (hf : ∀ q, q < S.length → K.μ q ≠ b) (hR : RowR K S cs arr) :
    Sim base w0 (K.put S.length b arr.size) (S ++ [.cells cs 0 none true]) w ∧ Ext K S (K.put S.length b arr.size) (S ++ [.cells cs 0 none true]) := by
  have hE : Ext K S (K.put S.length b arr.size) (S ++ [.cells cs 0 none true]) := Ext.push K S _ _ _
  have hp := K.put_same S.length b arr.size
  refine ⟨⟨fun i B hB => ?_, fun i j hi hj e => ?_, h.below, h.hb, h.door⟩, hE⟩
  · rcases Nat.lt_or_ge i S.length with hi | hi
    · rw [List.getElem?_append_left hi] at hB
      have hq := K.put_other b arr.size (show i ≠ S.length by omega)
      exact (h.blk i B hB).mono hE hq.1 hq.2 rfl
    · have : i = S.length := by
        have := (List.getElem?_eq_some_iff.1 hB).1
        simp at this; omega
      subst this
      simp at hB
      subst hB
      exact ⟨arr, et, (0, 0), by rw [hp.1]; exact hh, by rw [hp.2], by rw [hR.1]; exact Nat.le_refl _, fun _ => hR.1.symm, fun k _ => (hR.2 k).mono hE, fun _ => ⟨by rw [hp.1]; exact hb, fun o _ => by simp⟩⟩
  · simp only [List.length_append, List.length_singleton] at hi hj
    rcases Nat.lt_or_ge i S.length with hi' | hi' <;> rcases Nat.lt_or_ge j S.length with hj' | hj'
    · rw [(K.put_other _ _ (by omega)).1, (K.put_other _ _ (by omega)).1] at e
      exact h.inj i j hi' hj' e
    · have : j = S.length := by omega
      subst this
      rw [(K.put_other _ _ (by omega)).1, hp.1] at e
      exact absurd e (hf i hi')
    · have : i = S.length := by omega
      subst this
      rw [(K.put_other _ _ (show j ≠ S.length by omega)).1, hp.1] at e
      exact absurd e.symm (hf j hj')
    · omega

theorem NewV.vr {x : AV} {v : Value} {b n : Nat} {cs : List AV} (h : NewV x v b S.length) : VR (K.put S.length b n) (S ++ [.cells cs 0 none true]) x v := by
  have hp := K.put_same S.length b n
  rcases h with ⟨rfl, rfl⟩ | ⟨l, rfl, rfl⟩
  · exact .p _ _ _ _ _ (new_at S _) (Nat.le_refl _) fun _ => by rw [hp.1]
  · exact .sl _ _ _ _ _ _ _ _ _ (new_at S _) (Nat.le_refl _) (Nat.le_refl _) (Nat.le_refl _) (fun _ => rfl) fun _ => ⟨by rw [hp.1], fun e => by cases e⟩
end

/-! ### What a plan says -/
def dflt : ROp := ⟨none, none, .op .bad⟩

structure PF (ops : List Oper) (rs : List ROp) (nt : Nat) (p : Plan) : Prop where
  dlt : ∀ i, i < rs.length → ∀ d ∈ directs (ops.getD i default), d < i
  anc : ∀ i, i < rs.length → ∀ j, p.isAnc i j = true → ∃ d ∈ directs (ops.getD i default), d = j ∨ p.isAnc d j = true
  ms : ∀ j, j < p.ms.length → p.ms.getD j 0 < rs.length ∧ p.cls.getD (p.ms.getD j 0) (.m rs.length) = .m j ∧ ∀ j', j' < j → p.isAnc (p.ms.getD j 0) (p.ms.getD j' 0) = true
  n : ∀ i, i < rs.length → ∀ lo hi, p.cls.getD i (.m rs.length) = .n lo hi → lo ≤ hi ∧ hi ≤ p.ms.length ∧ (lo = 0 ∨ p.isAnc i (p.ms.getD (lo - 1) 0) = true) ∧ (hi = p.ms.length ∨ p.isAnc (p.ms.getD hi 0) i = true) ∧ (rs.getD i dflt).io.still = true
  a : ∀ i, i < rs.length → ∀ c, p.cls.getD i (.m rs.length) = .a c → c ≤ p.ms.length ∧ (c = p.ms.length ∨ p.isAnc (p.ms.getD c 0) i = true) ∧ (rs.getD i dflt).io.laying = true ∧ (rs.getD i dflt).guard = none ∧ (∃ d, (rs.getD i dflt).dst = some d) ∧
    ∀ i', i' < rs.length → p.cls.getD i' (.m rs.length) = .a c → i' = i
  m : ∀ i, i < rs.length → ∀ j, p.cls.getD i (.m rs.length) = .m j → p.ms[j]? = some i
  late : ∀ i ∈ p.late, i < rs.length ∧ ∀ j, j < rs.length → p.isAnc j i = false
  use : ∀ i, i < rs.length → ∀ t ∈ (rs.getD i dflt).use, t < nt ∧ ∀ j, j < rs.length → (rs.getD j dflt).dst = some t → (j ∈ p.late ∧ p.isAnc j i = true) ∨
    (j ∉ p.late ∧ p.isAnc i j = true ∧ ∀ c, p.cls.getD j (.m rs.length) = .a c → ∃ jm, p.cls.getD i (.m rs.length) = .m jm ∧ c ≤ jm)
  dst : ∀ i, i < rs.length → ∀ t, (rs.getD i dflt).dst = some t → t < nt ∧ ∀ j, j < rs.length → (rs.getD j dflt).dst = some t → j = i

theorem dst_mem {r : ROp} {t : Nat} : t ∈ dstL r ↔ r.dst = some t := by
  unfold dstL
  cases r.dst with
  | none => simp
  | some d => simp [eq_comm]

theorem planOk_facts {ops : List Oper} {rs : List ROp} {nt : Nat} {p : Plan} (h : planOk ops rs nt p = true) : PF ops rs nt p := by
  unfold planOk at h
  simp only [Bool.and_eq_true, List.all_eq_true, List.mem_range] at h
  obtain ⟨⟨⟨⟨⟨⟨h1, h2⟩, h3⟩, h4⟩, h5⟩, h6⟩, h7⟩ := h
  refine ⟨fun i hi d hd => by simpa using h1 i hi d hd, fun i hi j hj => ?_, fun j hj => ?_, fun i hi lo hi' hc => ?_, fun i hi c hc => ?_, fun i hi j hc => ?_, fun i hi => ?_, fun i hi t ht => ?_, fun i hi t ht => ?_⟩
  · have := h2 i hi j (by unfold Plan.isAnc at hj; simpa using hj)
    simp only [List.any_eq_true, Bool.or_eq_true, beq_iff_eq] at this
    exact this
  · have := h3 j hj
    obtain ⟨⟨q1, q2⟩, q3⟩ := this
    refine ⟨by simpa using q1, ?_, fun j' hj' => q3 j' hj'⟩
    split at q2
    · rename_i j' hj'
      simp only [beq_iff_eq] at q2
      rw [q2] at hj'; exact hj'
    · cases q2
  · have := h4 i hi
    rw [hc] at this
    simp only [Bool.and_eq_true, Bool.or_eq_true, beq_iff_eq, decide_eq_true_eq] at this
    obtain ⟨⟨⟨⟨q1, q2⟩, q3⟩, q4⟩, q5⟩ := this
    exact ⟨q1, q2, q3, q4, q5⟩
  · have := h4 i hi
    rw [hc] at this
    simp only [Bool.and_eq_true, Bool.or_eq_true, beq_iff_eq, decide_eq_true_eq, List.all_eq_true, List.mem_range, Option.isNone_iff_eq_none] at this
    obtain ⟨⟨⟨⟨⟨q1, q2⟩, q3⟩, q4⟩, q5⟩, q6⟩ := this
    refine ⟨q1, q2, q3, q4, Option.isSome_iff_exists.1 q5, fun i' hi' hc' => ?_⟩
    have := q6 i' hi'
    rw [hc'] at this
    simpa using this
  · have := h4 i hi
    rw [hc] at this
    simpa using this
  · have := h5 i hi
    simp only [decide_eq_true_eq] at this
    refine ⟨this.1, fun j hj => by simpa using this.2 j hj⟩
  · have := h6 i hi t ht
    simp only [decide_eq_true_eq] at this
    refine ⟨this.1, fun j hj hd => ?_⟩
    have q := this.2 j hj
    simp only [Bool.or_eq_true, Bool.and_eq_true, Bool.not_eq_true', List.contains_eq_mem, decide_eq_true_eq, decide_eq_false_iff_not] at q
    rcases q with (q | q) | q
    · exact absurd (dst_mem.2 hd) q
    · exact .inl q
    · refine .inr ⟨q.1.1, q.1.2, fun c hc => ?_⟩
      have q2 := q.2
      rw [hc] at q2
      split at q2
      · rename_i c' jm e1 e2
        injection e1 with e1; subst e1
        exact ⟨jm, e2, by simpa using q2⟩
      · cases q2
      · rename_i hna _
        exact absurd rfl (hna c)
  · have := h7 i hi t (dst_mem.2 ht)
    simp only [decide_eq_true_eq] at this
    refine ⟨this.1, fun j hj hd => ?_⟩
    have q := this.2 j hj
    simp only [Bool.or_eq_true, beq_iff_eq, Bool.not_eq_true', List.contains_eq_mem, decide_eq_false_iff_not] at q
    rcases q with q | q
    · exact q
    · exact absurd (dst_mem.2 hd) q
end Go.Proofs.YtmolaemlenllmaaGreat

namespace Go.Proofs.YtmolaemlenllmaaGreat
set_option linter.unusedSimpArgs false
set_option linter.unusedVariables false
open Go.RowKit

/-- What is known of the stages. -/
structure DF (O : Orc) (er ef : Env) (e : Env) (S Sf : Mem) (rs : List ROp) (p : Plan) (Sp S2 : Nat → Mem) : Prop where
  zero : Sp 0 = S
  n : ∀ i, i < rs.length → ∀ lo hi, p.cls.getD i (.m rs.length) = .n lo hi → ∀ s, lo ≤ s → s ≤ hi → ∃ x, evOne O er (Sp s) (rs.getD i dflt) = some (x, Sp s) ∧ ∀ d, (rs.getD i dflt).dst = some d → x = ef.get d
  a : ∀ i, i < rs.length → ∀ c, p.cls.getD i (.m rs.length) = .a c → ∃ x, evOne O er (Sp c) (rs.getD i dflt) = some (x, S2 c) ∧ ∀ d, (rs.getD i dflt).dst = some d → x = ef.get d
  na : ∀ s, s ≤ p.ms.length → (∀ i, i < rs.length → p.cls.getD i (.m rs.length) ≠ .a s) → S2 s = Sp s
  m : ∀ s, s < p.ms.length → ∃ x, evOne O er (S2 s) (rs.getD (p.ms.getD s 0) dflt) = some (x, Sp (s + 1)) ∧ ∀ d, (rs.getD (p.ms.getD s 0) dflt).dst = some d → x = ef.get d
  last : S2 p.ms.length = Sf
  env : ∀ t, (∀ i, i < rs.length → (rs.getD i dflt).dst ≠ some t) → ef.get t = e.get t

theorem getD_of_lt {rs : List ROp} {i : Nat} (h : i < rs.length) : rs[i]? = some (rs.getD i dflt) := by
  simp [List.getD_eq_getElem?_getD, h]

theorem stage_at {rs : List ROp} {p : Plan} {s : Nat} (hs : s ≤ p.ms.length) : ∃ g, (stagesOf rs p)[s]? = some g ∧
    (∀ i, i < rs.length → ∀ lo hi, p.cls.getD i (.m rs.length) = .n lo hi → lo = s → (rs.getD i dflt, hi) ∈ g.ns) ∧
    g.a = aAt rs p s ∧
    g.m = mAt rs p s ∧
    (∀ q ∈ g.ns, ∃ i, i < rs.length ∧ q.1 = rs.getD i dflt) := by
  have hlt : s < p.ms.length + 1 := by omega
  refine ⟨⟨nsAt rs p s, aAt rs p s, mAt rs p s⟩, by simp only [stagesOf, List.getElem?_map, List.getElem?_range hlt, Option.map_some], fun i hi lo hi' hc hl => ?_, rfl, rfl, fun q hq => ?_⟩
  · simp only [nsAt, List.mem_filterMap, List.mem_range]
    refine ⟨i, hi, ?_⟩
    rw [hc, getD_of_lt hi]
    simp [hl]
  · simp only [nsAt, List.mem_filterMap, List.mem_range] at hq
    obtain ⟨i, hi, hq⟩ := hq
    refine ⟨i, hi, ?_⟩
    rw [getD_of_lt hi] at hq
    split at hq
    · rename_i lo hi' r _ hr
      split at hq
      · injection hr with hr
        injection hq with hq
        rw [← hq, ← hr]
      · cases hq
    · cases hq

theorem findSome_of {rs : List ROp} {p : Plan} {s i : Nat} (hi : i < rs.length) (hc : p.cls.getD i (.m rs.length) = .a s) (hu : ∀ i', i' < rs.length → p.cls.getD i' (.m rs.length) = .a s → i' = i) :
    (aAt rs p s) = some (rs.getD i dflt) := by
  generalize hF : aAt rs p s = F
  unfold aAt at hF
  cases F with
  | none =>
    rw [List.findSome?_eq_none_iff] at hF
    have := hF i (List.mem_range.2 hi)
    rw [hc, getD_of_lt hi] at this
    simp at this
  | some r =>
    obtain ⟨i', hi', hr⟩ := List.exists_of_findSome?_eq_some hF
    have hi' := List.mem_range.1 hi'
    rw [getD_of_lt hi'] at hr
    split at hr
    · rename_i c r' h1 h2
      split at hr
      · rename_i hcs
        simp only [beq_iff_eq] at hcs
        subst hcs
        obtain rfl := hu i' hi' h1
        rw [h2]; exact hr.symm
      · cases hr
    · cases hr

theorem findSome_none {rs : List ROp} {p : Plan} {s : Nat} (hu : ∀ i', i' < rs.length → p.cls.getD i' (.m rs.length) ≠ .a s) :
    aAt rs p s = none := by
  unfold aAt
  rw [List.findSome?_eq_none_iff]
  intro i hi
  have hi := List.mem_range.1 hi
  split
  · rename_i c r h1 h2
    split
    · rename_i hcs
      simp only [beq_iff_eq] at hcs
      subst hcs
      exact absurd h1 (hu i hi)
    · rfl
  · rfl

theorem findSome_mem {rs : List ROp} {p : Plan} {s : Nat} {r : ROp} (h : (aAt rs p s) = some r) :
    ∃ i, i < rs.length ∧ r = rs.getD i dflt := by
  unfold aAt at h
  obtain ⟨i', hi', hr⟩ := List.exists_of_findSome?_eq_some h
  have hi' := List.mem_range.1 hi'
  refine ⟨i', hi', ?_⟩
  rw [getD_of_lt hi'] at hr
  split at hr
  · rename_i c r' h1 h2
    split at hr
    · injection h2 with h2; injection hr with hr; rw [← hr, ← h2]
    · cases hr
  · cases hr

theorem df_of {O : Orc} {ops : List Oper} {rs : List ROp} {nt : Nat} {p : Plan} {e ef : Env} {S Sf : Mem} {pre : List Noted} (hp : PF ops rs nt p) (er : Env)
    (hv : evStages O (stagesOf rs p) e S = some (ef, Sf, pre)) (hc : chkStages O er ef pre (stagesOf rs p) pre 0 = true) : ∃ Sp S2, DF O er ef e S Sf rs p Sp S2 := by
  obtain ⟨hlen, hst, hz, henv⟩ := stages_ok _ e S pre 0 hv hc
  have hl : (stagesOf rs p).length = p.ms.length + 1 := by simp [stagesOf]
  have key : ∀ s, ∃ q : Mem × Mem, ∀ g, (stagesOf rs p)[s]? = some g → ∃ N S3, pre[s]? = some N ∧ N.S = q.1 ∧ (∀ q ∈ g.ns, chkN O er ef pre q.1 q.2 (q.2 + 1) s = true) ∧ OptF O er ef q.1 q.2 g.a ∧ OptF O er ef q.2 S3 g.m ∧
      (s + 1 < (stagesOf rs p).length → ∃ N', pre[s + 1]? = some N' ∧ N'.S = S3) ∧ (s + 1 = (stagesOf rs p).length → S3 = Sf) := by
    intro s
    cases hg : (stagesOf rs p)[s]? with
    | none => exact ⟨([], []), fun g hg' => by cases hg'⟩
    | some g =>
      obtain ⟨N, S2, S3, h1, h2, h3, h4, h5, h6⟩ := (hst s g hg).out
      exact ⟨(N.S, S2), fun g' hg' => by
        injection hg' with hg'; subst hg'
        exact ⟨N, S3, h1, rfl, by simpa using h2, h3, h4, h5, h6⟩⟩
  obtain ⟨Q, hQ⟩ := Classical.axiomOfChoice key
  have hN : ∀ s N, s ≤ p.ms.length → pre[s]? = some N → N.S = (Q s).1 := by
    intro s N hs hN
    obtain ⟨g, hg, _⟩ := stage_at (rs := rs) hs
    obtain ⟨N', _, h1, h2, _⟩ := hQ s g hg
    rw [hN] at h1; injection h1 with h1; rw [h1]; exact h2
  refine ⟨fun s => (Q s).1, fun s => (Q s).2, ⟨?_, fun i hi lo hi' hcl s h1 h2 => ?_, fun i hi c hcl => ?_, fun s hs hna => ?_, fun s hs => ?_, ?_, fun t ht => ?_⟩⟩
  · obtain ⟨g, hg, _⟩ := stage_at (rs := rs) (p := p) (Nat.zero_le _)
    obtain ⟨N', _, h1, h2, _⟩ := hQ 0 g hg
    rw [← h2]; exact hz _ h1
  · obtain ⟨q1, q2, _, _, q5⟩ := hp.n i hi lo hi' hcl
    obtain ⟨g, hg, hm, _⟩ := stage_at (rs := rs) (p := p) (s := lo) (by omega)
    obtain ⟨N', _, _, _, h3, _⟩ := hQ lo g hg
    obtain ⟨N, x, S', r1, r2, r3⟩ := chkN_ok _ _ (h3 _ (hm i hi lo hi' hcl rfl)) s h1 h2 (by omega)
    rw [hN s N (by omega) r1] at r2
    obtain rfl := still_one q5 r2
    exact ⟨x, r2, r3⟩
  · obtain ⟨q1, q2, q3, q4, q5, q6⟩ := hp.a i hi c hcl
    obtain ⟨g, hg, _, ha, _⟩ := stage_at (rs := rs) (p := p) (s := c) q1
    obtain ⟨N', _, _, _, _, h4, _⟩ := hQ c g hg
    rw [ha, findSome_of hi hcl q6] at h4
    exact h4
  · obtain ⟨g, hg, _, ha, _⟩ := stage_at (rs := rs) (p := p) hs
    obtain ⟨N', _, _, _, _, h4, _⟩ := hQ s g hg
    rw [ha, findSome_none hna] at h4
    exact h4
  · obtain ⟨g, hg, _, _, hm, _⟩ := stage_at (rs := rs) (p := p) (Nat.le_of_lt hs)
    obtain ⟨N', S3, _, _, _, _, h5, h6, _⟩ := hQ s g hg
    obtain ⟨N2, h7, h8⟩ := h6 (by rw [hl]; omega)
    have hmi := hp.ms s hs
    have e1 : p.ms[s]? = some (p.ms.getD s 0) := by simp [List.getD_eq_getElem?_getD, hs]
    rw [hm, mAt, e1] at h5
    simp only [getD_of_lt hmi.1] at h5
    rw [hN (s + 1) N2 (by omega) h7] at h8
    rw [h8]; exact h5
  · obtain ⟨g, hg, _, _, hm, _⟩ := stage_at (rs := rs) (p := p) (Nat.le_refl _)
    obtain ⟨N', S3, _, _, _, _, h5, _, h7⟩ := hQ _ g hg
    have e1 : p.ms[p.ms.length]? = none := by simp
    rw [hm, mAt, e1] at h5
    simp only [OptF] at h5
    rw [← h7 (by rw [hl]), h5]
  · refine henv t fun g hg => ?_
    obtain ⟨s, hs, hgs⟩ := List.mem_iff_getElem.1 hg
    rw [hl] at hs
    obtain ⟨g', hg', _, ha, hm, hns⟩ := stage_at (rs := rs) (p := p) (s := s) (by omega)
    have : g' = g := by
      have h2 : (stagesOf rs p)[s]? = some g := by rw [← hgs]; exact List.getElem?_eq_getElem _
      rw [hg'] at h2; injection h2
    subst this
    refine ⟨fun q hq => ?_, fun x hx => ?_, fun x hx => ?_⟩
    · obtain ⟨i, hi, e⟩ := hns q hq
      rw [e]; exact ht i hi
    · rw [ha] at hx
      obtain ⟨i, hi, e⟩ := findSome_mem hx
      rw [e]; exact ht i hi
    · rw [hm, mAt] at hx
      split at hx
      · rename_i i hmi
        obtain ⟨hi, e⟩ := List.getElem?_eq_some_iff.1 hx
        have : x = rs.getD i dflt := by rw [List.getD_eq_getElem?_getD, hx]; rfl
        rw [this]; exact ht i hi
      · cases hx
end Go.Proofs.YtmolaemlenllmaaGreat

namespace Go.Proofs.YtmolaemlenllmaaGreat
set_option linter.unusedSimpArgs false
set_option linter.unusedVariables false
open Go.RowKit

section
variable {P : Program} {base : Bs} {w0 : World} {O : Orc} {ops : Array Oper} {rs : List ROp} {nt : Nat} {p : Plan} {ef e : Env} {Sp S2 : Nat → Mem} {S Sf : Mem} {K0 : Ctx} {wS : World} {dd : List Deferred}

/-- A new row that was laid ahead of its stage. -/
structure Pend (nt : Nat) (ef : Env) (wS : World) (Sc S2c : Mem) (r : ROp) (K : Ctx) (Ss : Mem) (a : Act) (w : World) (b : Nat) : Prop where
  out : ∃ (cs : List AV) (arr : Array Value) (et : TypeId) (t : Nat), S2c = Sc ++ [.cells cs 0 none true] ∧ RowR K Ss cs arr ∧ w.heap[b]? = some (.cells arr et) ∧ r.dst = some t ∧ NewV (ef.get t) (a.tmps.getD t undef) b Sc.length
  lo : wS.heap.size ≤ b
  fresh : ∀ q, q < Ss.length → K.μ q ≠ b

/-- A state on the way: s of the operations that may turn memory are done. -/
structure TS (base : Bs) (w0 : World) (rs : List ROp) (nt : Nat) (p : Plan) (ef e : Env) (Sp S2 : Nat → Mem) (S : Mem) (K0 : Ctx) (wS : World) (dd : List Deferred) (s : Nat) (L : Array Bool) (a : Act) (w : World) (K : Ctx) (β : Nat → Nat) : Prop where
  hs : s ≤ p.ms.length
  sz : L.size = rs.length
  msL : ∀ j, j < p.ms.length → (L.getD (p.ms.getD j 0) false = true ↔ j < s)
  down : ∀ i j, i < rs.length → L.getD i false = true → p.isAnc i j = true → L.getD j false = true
  sim : Sim base w0 K (Sp s) w
  stp : Stp K0 S wS K (Sp s) w
  tsz : a.tmps.size = nt
  dfr : a.defers = dd
  old : ∀ t, (∀ i, i < rs.length → L.getD i false = true → (rs.getD i dflt).dst ≠ some t) → VR K (Sp s) (e.get t) (a.tmps.getD t undef)
  new : ∀ i, i < rs.length → L.getD i false = true → (∀ c, p.cls.getD i (.m rs.length) = .a c → c < s) → ∀ t, (rs.getD i dflt).dst = some t → VR K (Sp s) (ef.get t) (a.tmps.getD t undef)
  pend : ∀ i, i < rs.length → L.getD i false = true → ∀ c, p.cls.getD i (.m rs.length) = .a c → s ≤ c → Pend nt ef wS (Sp c) (S2 c) (rs.getD i dflt) K (Sp s) a w (β i)
  dist : ∀ i i' c c', i < rs.length → i' < rs.length → L.getD i false = true → L.getD i' false = true → p.cls.getD i (.m rs.length) = .a c → p.cls.getD i' (.m rs.length) = .a c' → s ≤ c → s ≤ c' → β i = β i' → i = i'

theorem getD_set (L : Array Bool) (i j : Nat) (hi : i < L.size) : (L.setIfInBounds i true).getD j false = if j = i then true else L.getD j false := by
  simp only [Array.getD_eq_getD_getElem?, Array.getElem?_setIfInBounds]
  by_cases h : i = j
  · subst h; simp [hi]
  · simp [h, Ne.symm h]

theorem tmps_put_ne (a : Act) (d : Option Tmp) (v : Value) (t : Nat) (h : d ≠ some t) : (a.put d v).tmps.getD t undef = a.tmps.getD t undef := by
  cases d with
  | none => rfl
  | some k =>
    have hk : k ≠ t := fun e => h (by rw [e])
    simp only [Act.put, Array.getD_eq_getD_getElem?, Array.getElem?_setIfInBounds_ne hk]

theorem tmps_put_same (a : Act) (t : Nat) (v : Value) (h : t < a.tmps.size) : (a.put (some t) v).tmps.getD t undef = v := by
  simp [Act.put, Array.getD, h]

theorem tmps_put_size (a : Act) (d : Option Tmp) (v : Value) : (a.put d v).tmps.size = a.tmps.size := by
  cases d with
  | none => rfl
  | some k => simp [Act.put]

/-- At a stage's end its new row is taken in. -/
theorem adopt_ok {er : Env} (hP : PF ops.toList rs nt p) (hD : DF O er ef e S Sf rs p Sp S2) {s : Nat} {L : Array Bool} {a : Act} {w : World} {K : Ctx} {β : Nat → Nat} (hT : TS base w0 rs nt p ef e Sp S2 S K0 wS dd s L a w K β) (hb : base ≤ wS.heap.size)
    (hall : ∀ i, i < rs.length → p.cls.getD i (.m rs.length) = .a s → L.getD i false = true) :
    ∃ K', Sim base w0 K' (S2 s) w ∧ Stp K0 S wS K' (S2 s) w ∧ Ext K (Sp s) K' (S2 s) ∧ (∀ i, i < rs.length → p.cls.getD i (.m rs.length) = .a s → ∀ t, (rs.getD i dflt).dst = some t → VR K' (S2 s) (ef.get t) (a.tmps.getD t undef)) ∧
      ∀ i, i < rs.length → L.getD i false = true → ∀ c, p.cls.getD i (.m rs.length) = .a c → s < c → ∀ q, q < (S2 s).length → K'.μ q ≠ β i := by
  by_cases hex : ∃ i, i < rs.length ∧ p.cls.getD i (.m rs.length) = .a s
  · obtain ⟨i, hi, hc⟩ := hex
    obtain ⟨⟨cs, arr, et, t, h1, h2, h3, h4, h5⟩, hlo, hfr⟩ := hT.pend i hi (hall i hi hc) s hc (Nat.le_refl _)
    obtain ⟨g1, g2⟩ := hT.sim.adopt (b := β i) (Nat.le_trans hb hlo) h3 hfr h2
    rw [h1]
    refine ⟨_, g1, ?_, g2, fun i' hi' hc' t' ht' => ?_, fun i' hi' hl' c hc' hsc q hq => ?_⟩
    · have hs := hT.stp
      refine ⟨hs.ext.trans g2, hs.os, hs.tape, hs.output, hs.size, hs.keep, fun q B hB => ?_⟩
      rcases Nat.lt_or_ge q (Sp s).length with hq | hq
      · rw [List.getElem?_append_left hq] at hB
        rw [(K.put_other _ _ (by omega)).1]
        exact hs.own q B hB
      · have : q = (Sp s).length := by
          have := (List.getElem?_eq_some_iff.1 hB).1
          simp at this; omega
        subst this
        exact .inr (by rw [(K.put_same _ _ _).1]; exact hlo)
    · obtain ⟨_, _, _, _, _, hu⟩ := hP.a i hi s hc
      obtain rfl := hu i' hi' hc'
      rw [h4] at ht'; obtain rfl := Option.some.inj ht'
      exact h5.vr
    · rcases Nat.lt_or_ge q (Sp s).length with hq' | hq'
      · rw [(K.put_other _ _ (by omega)).1]
        exact (hT.pend i' hi' hl' c hc' (Nat.le_of_lt hsc)).fresh q hq'
      · have : q = (Sp s).length := by simp at hq; omega
        subst this
        rw [(K.put_same _ _ _).1]
        intro hβ
        have := hT.dist i i' s c hi hi' (hall i hi hc) hl' hc hc' (Nat.le_refl _) (Nat.le_of_lt hsc) hβ
        subst this
        rw [hc] at hc'; injection hc' with hc'; omega
  · have hna : S2 s = Sp s := hD.na s hT.hs fun i hi hc => hex ⟨i, hi, hc⟩
    rw [hna]
    exact ⟨K, hT.sim, hT.stp, .refl _ _, fun i hi hc => absurd ⟨i, hi, hc⟩ hex, fun i hi hl c hc hsc q hq => (hT.pend i hi hl c hc (Nat.le_of_lt hsc)).fresh q hq⟩

theorem mem_late {t : Nat} (hP : PF ops.toList rs nt p) : t ∈ lateSlots rs p ↔ ∃ j, j ∈ p.late ∧ (rs.getD j dflt).dst = some t := by
  unfold lateSlots
  simp only [List.mem_flatMap]
  constructor
  · rintro ⟨j, hj, ht⟩
    have hlt := (hP.late j hj).1
    rw [getD_of_lt hlt] at ht
    exact ⟨j, hj, dst_mem.1 ht⟩
  · rintro ⟨j, hj, ht⟩
    have hlt := (hP.late j hj).1
    exact ⟨j, hj, by rw [getD_of_lt hlt]; exact dst_mem.2 ht⟩

/-- The slots that an operation looks at, when it comes up. -/
theorem used_ok {er : Env} (her : er = keepE e (lateSlots rs p) ++ ef) (hP : PF ops.toList rs nt p) (hD : DF O er ef e S Sf rs p Sp S2) {s : Nat} {L : Array Bool} {a : Act} {w : World} {K : Ctx} {β : Nat → Nat} (hT : TS base w0 rs nt p ef e Sp S2 S K0 wS dd s L a w K β)
    {i : Nat} (hi : i < rs.length) (hnl : L.getD i false = false) (hanc : ∀ j, p.isAnc i j = true → L.getD j false = true) {K' : Ctx} {M : Mem} (hE : Ext K (Sp s) K' M)
    (hA : ∀ jm, p.cls.getD i (.m rs.length) = .m jm → jm = s ∧ ∀ i', i' < rs.length → p.cls.getD i' (.m rs.length) = .a s → ∀ t, (rs.getD i' dflt).dst = some t → VR K' M (ef.get t) (a.tmps.getD t undef)) :
    ∀ t ∈ (rs.getD i dflt).use, VR K' M (er.get t) (a.tmps.getD t undef) := by
  intro t ht
  obtain ⟨_, hu⟩ := hP.use i hi t ht
  rw [her, get_keepE_append]
  by_cases hex : ∃ j, j < rs.length ∧ (rs.getD j dflt).dst = some t
  · obtain ⟨j, hj, hd⟩ := hex
    obtain ⟨_, huniq⟩ := hP.dst j hj t hd
    rcases hu j hj hd with ⟨hl, ha⟩ | ⟨hl, ha, hc⟩
    · have hjn : L.getD j false = false := by
        cases h : L.getD j false with
        | false => rfl
        | true => rw [hT.down j i hj h ha] at hnl; cases hnl
      rw [if_pos ((mem_late hP).2 ⟨j, hl, hd⟩)]
      refine (hT.old t fun i' hi' hl' hd' => ?_).mono hE
      obtain rfl := huniq i' hi' hd'
      rw [hjn] at hl'; cases hl'
    · have hnm : t ∉ lateSlots rs p := fun hm => by
        obtain ⟨j', hj', hd'⟩ := (mem_late hP).1 hm
        obtain rfl := huniq j' (hP.late j' hj').1 hd'
        exact hl hj'
      rw [if_neg hnm]
      have hjl := hanc j ha
      by_cases hsm : ∀ c, p.cls.getD j (.m rs.length) = .a c → c < s
      · exact (hT.new j hj hjl hsm t hd).mono hE
      · obtain ⟨c, hqq⟩ := Classical.not_forall.1 hsm
        obtain ⟨hcj, hcs⟩ := Classical.not_imp.1 hqq
        obtain ⟨jm, hjm, hle⟩ := hc c hcj
        obtain ⟨rfl, hA⟩ := hA jm hjm
        have : c = jm := by omega
        subst this
        exact hA j hj hcj t hd
  · have hno : ∀ j, j < rs.length → (rs.getD j dflt).dst ≠ some t := fun j hj hd => hex ⟨j, hj, hd⟩
    have hef := hD.env t hno
    have : (if t ∈ lateSlots rs p then e.get t else ef.get t) = e.get t := by split; rfl; exact hef
    rw [this]
    exact (hT.old t fun i' hi' _ => hno i' hi').mono hE

/-- An operation that lays no row early is done. -/
theorem advance (hP : PF ops.toList rs nt p) {s s1 : Nat} {L : Array Bool} {a : Act} {w : World} {K : Ctx} {β : Nat → Nat} (hT : TS base w0 rs nt p ef e Sp S2 S K0 wS dd s L a w K β) {i : Nat} (hi : i < rs.length) (hnl : L.getD i false = false)
    (hanc : ∀ j, p.isAnc i j = true → L.getD j false = true) (hcl : ∀ c, p.cls.getD i (.m rs.length) ≠ .a c) (h1 : s ≤ s1) (h2 : s1 ≤ p.ms.length)
    (hms : ∀ j, j < p.ms.length → ((L.setIfInBounds i true).getD (p.ms.getD j 0) false = true ↔ j < s1)) {K' : Ctx} {M : Mem} (hE : Ext K (Sp s) K' M) (hst : Stp K0 S wS K' M w)
    (hA : ∀ i', i' < rs.length → L.getD i' false = true → ∀ c, p.cls.getD i' (.m rs.length) = .a c → s ≤ c → c < s1 → ∀ t, (rs.getD i' dflt).dst = some t → VR K' M (ef.get t) (a.tmps.getD t undef))
    (hF : ∀ i', i' < rs.length → L.getD i' false = true → ∀ c, p.cls.getD i' (.m rs.length) = .a c → s1 ≤ c → ∀ q, q < M.length → K'.μ q ≠ β i')
    {K1 : Ctx} {w1 : World} {v : Value} (hS1 : Sim base w0 K1 (Sp s1) w1) (hst1 : Stp K' M w K1 (Sp s1) w1) (hV : ∀ t, (rs.getD i dflt).dst = some t → VR K1 (Sp s1) (ef.get t) v) :
    TS base w0 rs nt p ef e Sp S2 S K0 wS dd s1 (L.setIfInBounds i true) (a.put (rs.getD i dflt).dst v) w1 K1 β := by
  have hiL : i < L.size := by rw [hT.sz]; exact hi
  have hEx : Ext K (Sp s) K1 (Sp s1) := hE.trans hst1.ext
  have lst : ∀ j, j ≠ i → (L.setIfInBounds i true).getD j false = true → L.getD j false = true := fun j hj h => by
    rw [getD_set L i j hiL, if_neg hj] at h; exact h
  have lst' : ∀ j, L.getD j false = true → (L.setIfInBounds i true).getD j false = true := fun j h => by
    rw [getD_set L i j hiL]; split; rfl; exact h
  have hne : ∀ i', L.getD i' false = true → i' ≠ i := fun i' h e => by rw [e, hnl] at h; cases h
  have dne : ∀ i', i' < rs.length → i' ≠ i → ∀ t, (rs.getD i' dflt).dst = some t → (rs.getD i dflt).dst ≠ some t := fun i' hi' hn t ht hd => hn ((hP.dst i hi t hd).2 i' hi' ht)
  refine ⟨h2, by simpa using hT.sz, hms, fun i' j hi' hl ha => ?_, hS1, hst.trans hst1, by rw [tmps_put_size, hT.tsz], by rw [put_defers, hT.dfr], fun t ht => ?_, fun i' hi' hl hc t ht => ?_, fun i' hi' hl c hc hs => ?_, fun i1 i2 c c' hi1 hi2 hl1 hl2 hc1 hc2 hs1 hs2 hβ => ?_⟩
  · by_cases e1 : i' = i
    · subst e1; exact lst' j (hanc j ha)
    · exact lst' j (hT.down i' j hi' (lst i' e1 hl) ha)
  · have hd : (rs.getD i dflt).dst ≠ some t := ht i hi (by rw [getD_set L i i hiL, if_pos rfl])
    rw [tmps_put_ne _ _ _ _ hd]
    exact (hT.old t fun i' hi' hl => ht i' hi' (lst' i' hl)).mono hEx
  · by_cases e1 : i' = i
    · subst e1
      have htn := (hP.dst i' hi' t ht).1
      rw [ht, tmps_put_same _ _ _ (by rw [hT.tsz]; exact htn)]
      exact hV t ht
    · rw [tmps_put_ne _ _ _ _ (dne i' hi' e1 t ht)]
      have hl' := lst i' e1 hl
      by_cases hsm : ∀ c, p.cls.getD i' (.m rs.length) = .a c → c < s
      · exact (hT.new i' hi' hl' hsm t ht).mono hEx
      · obtain ⟨c, hqq⟩ := Classical.not_forall.1 hsm
        obtain ⟨hcj, hcs⟩ := Classical.not_imp.1 hqq
        exact (hA i' hi' hl' c hcj (by omega) (hc c hcj) t ht).mono hst1.ext
  · have e1 : i' ≠ i := fun e => hcl c (e ▸ hc)
    have hl' := lst i' e1 hl
    obtain ⟨⟨cs, arr, et, t, g1, g2, g3, g4, g5⟩, hlo, hfr⟩ := hT.pend i' hi' hl' c hc (by omega)
    have hfr' := hF i' hi' hl' c hc hs
    have hbw : β i' < w.heap.size := (Array.getElem?_eq_some_iff.1 g3).1
    refine ⟨⟨cs, arr, et, t, g1, ⟨g2.1, fun k => (g2.2 k).mono hEx⟩, ?_, g4, ?_⟩, hlo, fun q hq => ?_⟩
    · rw [hst1.keep _ hbw fun q B hB _ => hfr' q (List.getElem?_eq_some_iff.1 hB).1]; exact g3
    · rw [tmps_put_ne _ _ _ _ (dne i' hi' e1 t g4)]; exact g5
    · rcases hst1.own q _ (List.getElem?_eq_getElem hq) with ⟨B, hB, _, hμ⟩ | hge
      · rw [hμ]; exact hfr' q (List.getElem?_eq_some_iff.1 hB).1
      · omega
  · have e1 : i1 ≠ i := fun e => hcl c (e ▸ hc1)
    have e2 : i2 ≠ i := fun e => hcl c' (e ▸ hc2)
    exact hT.dist i1 i2 c c' hi1 hi2 (lst i1 e1 hl1) (lst i2 e2 hl2) hc1 hc2 (by omega) (by omega) hβ

/-- A block of which the abstract memory knows nothing. -/
theorem Sim.junk {K : Ctx} {S : Mem} {w : World} (h : Sim base w0 K S w) (o : Obj) : Sim base w0 K S (w.alloc o) ∧ Stp K S w K S (w.alloc o) := by
  have hold : ∀ k, k < w.heap.size → (w.alloc o).heap[k]? = w.heap[k]? := fun k hk => Below.heap_alloc w o k hk
  have hs : Stp K S w K S (w.alloc o) := ⟨.refl K S, rfl, rfl, rfl, by simp, fun b hb _ => hold b hb, fun _ B' h => .inl ⟨B', h, id, rfl⟩⟩
  exact ⟨⟨fun i B hB => (h.blk i B hB).mono (.refl K S) rfl rfl (hold _ (h.blk i B hB).lt), h.inj, h.step_below hs, Nat.le_trans h.hb hs.size, h.door⟩, hs⟩

/-- A new row is laid early. -/
theorem laid_ok (hP : PF ops.toList rs nt p) {s : Nat} {L : Array Bool} {a : Act} {w : World} {K : Ctx} {β : Nat → Nat} (hT : TS base w0 rs nt p ef e Sp S2 S K0 wS dd s L a w K β) {i c : Nat} (hi : i < rs.length) (hnl : L.getD i false = false)
    (hanc : ∀ j, p.isAnc i j = true → L.getD j false = true) (hcl : p.cls.getD i (.m rs.length) = .a c) (hsc : s ≤ c) {cs : List AV} {arr : Array Value} {et : TypeId} {v : Value} {t : Nat} (hd : (rs.getD i dflt).dst = some t)
    (h1 : S2 c = Sp c ++ [.cells cs 0 none true]) (h2 : RowR K (Sp s) cs arr) (h3 : NewV (ef.get t) v w.heap.size (Sp c).length) :
    TS base w0 rs nt p ef e Sp S2 S K0 wS dd s (L.setIfInBounds i true) (a.put (rs.getD i dflt).dst v) (w.alloc (.cells arr et)) K (fun j => if j = i then w.heap.size else β j) := by
  have hiL : i < L.size := by rw [hT.sz]; exact hi
  obtain ⟨q1, q2⟩ := hT.sim.junk (.cells arr et)
  have lst : ∀ j, j ≠ i → (L.setIfInBounds i true).getD j false = true → L.getD j false = true := fun j hj h => by
    rw [getD_set L i j hiL, if_neg hj] at h; exact h
  have lst' : ∀ j, L.getD j false = true → (L.setIfInBounds i true).getD j false = true := fun j h => by
    rw [getD_set L i j hiL]; split; rfl; exact h
  have dne : ∀ i', i' < rs.length → i' ≠ i → ∀ t, (rs.getD i' dflt).dst = some t → (rs.getD i dflt).dst ≠ some t := fun i' hi' hn t ht hd => hn ((hP.dst i hi t hd).2 i' hi' ht)
  have htn := (hP.dst i hi t hd).1
  refine ⟨hT.hs, by simpa using hT.sz, fun j hj => ?_, fun i' j hi' hl ha => ?_, q1, hT.stp.trans q2, by rw [tmps_put_size, hT.tsz], by rw [put_defers, hT.dfr], fun t ht => ?_, fun i' hi' hl hc t ht => ?_, fun i' hi' hl c' hc' hs => ?_, fun i1 i2 c1 c2 hi1 hi2 hl1 hl2 hc1 hc2 hs1 hs2 hβ => ?_⟩
  · have hne : p.ms.getD j 0 ≠ i := fun e => by
      have := (hP.ms j hj).2.1
      rw [e, hcl] at this; cases this
    rw [getD_set L i _ hiL, if_neg hne]
    exact hT.msL j hj
  · by_cases e1 : i' = i
    · subst e1; exact lst' j (hanc j ha)
    · exact lst' j (hT.down i' j hi' (lst i' e1 hl) ha)
  · have hd' : (rs.getD i dflt).dst ≠ some t := ht i hi (by rw [getD_set L i i hiL, if_pos rfl])
    rw [tmps_put_ne _ _ _ _ hd']
    exact hT.old t fun i' hi' hl => ht i' hi' (lst' i' hl)
  · have e1 : i' ≠ i := fun e => by
      subst e
      have := hc c hcl
      omega
    rw [tmps_put_ne _ _ _ _ (dne i' hi' e1 t ht)]
    exact hT.new i' hi' (lst i' e1 hl) hc t ht
  · by_cases e1 : i' = i
    · subst e1
      rw [hcl] at hc'; injection hc' with hc'; subst hc'
      rw [if_pos rfl]
      refine ⟨⟨cs, arr, et, t, h1, h2, heap_new w _, hd, ?_⟩, hT.stp.size, fun q hq => ?_⟩
      · rw [hd, tmps_put_same _ _ _ (by rw [hT.tsz]; exact htn)]; exact h3
      · have := (hT.sim.blk q _ (List.getElem?_eq_getElem hq)).lt
        omega
    · rw [if_neg e1]
      obtain ⟨⟨cs', arr', et', t', g1, g2, g3, g4, g5⟩, hlo, hfr⟩ := hT.pend i' hi' (lst i' e1 hl) c' hc' hs
      have hbw : β i' < w.heap.size := (Array.getElem?_eq_some_iff.1 g3).1
      exact ⟨⟨cs', arr', et', t', g1, g2, by rw [Below.heap_alloc w _ _ hbw]; exact g3, g4, by rw [tmps_put_ne _ _ _ _ (dne i' hi' e1 t' g4)]; exact g5⟩, hlo, hfr⟩
  · have key : ∀ i' c', i' ≠ i → i' < rs.length → (L.setIfInBounds i true).getD i' false = true → p.cls.getD i' (.m rs.length) = .a c' → s ≤ c' → β i' < w.heap.size := fun i' c' e1 hi' hl hc' hs => by
      obtain ⟨⟨cs', arr', et', t', g1, g2, g3, g4, g5⟩, _, _⟩ := hT.pend i' hi' (lst i' e1 hl) c' hc' hs
      exact (Array.getElem?_eq_some_iff.1 g3).1
    by_cases e1 : i1 = i <;> by_cases e2 : i2 = i
    · rw [e1, e2]
    · simp only [e1, if_true, e2, if_false] at hβ
      have := key i2 c2 e2 hi2 hl2 hc2 hs2
      omega
    · simp only [e1, if_false, e2, if_true] at hβ
      have := key i1 c1 e1 hi1 hl1 hc1 hs1
      omega
    · simp only [e1, e2, if_false] at hβ
      exact hT.dist i1 i2 c1 c2 hi1 hi2 (lst i1 e1 hl1) (lst i2 e2 hl2) hc1 hc2 hs1 hs2 hβ
end
end Go.Proofs.YtmolaemlenllmaaGreat

namespace Go.Proofs.YtmolaemlenllmaaGreat
set_option linter.unusedSimpArgs false
set_option linter.unusedVariables false
open Go.RowKit

section
variable {P : Program} {base : Bs} {w0 : World} {O : Orc} {ops : Array Oper} {rs : List ROp} {nt : Nat} {p : Plan} {ef e : Env} {Sp S2 : Nat → Mem} {S Sf : Mem} {K0 : Ctx} {wS : World} {dd : List Deferred}
  {n : Nat} {rd : Option Nat} {Q : Exit → Act → World → Prop}

theorem ER.kept {K : Ctx} {S : Mem} {er : Env} {l : List Nat} {a : Act} (hsz : a.tmps.size = nt) (hu : ∀ t ∈ l, VR K S (er.get t) (a.tmps.getD t undef)) : ER K S nt (keepE er l) a := by
  refine ⟨hsz, fun t => ?_⟩
  rw [get_keepE]
  split
  · rename_i ht; exact hu t ht
  · exact .u _

theorem wpOp_one (hO : OK P base.Λ O) {K : Ctx} {S : Mem} {w : World} (h : Sim base w0 K S w) {a : Act} {er : Env} {i : Nat} {o : Oper} {r : ROp} (ho : ops[i]? = some o) (hc : compOper P ops o = some r) (hsz : a.tmps.size = nt)
    (hu : ∀ t ∈ r.use, VR K S (er.get t) (a.tmps.getD t undef)) {x : AV} {S' : Mem} (hv : evOne O er S r = some (x, S')) {Kont : Act → World → Prop}
    (hK : ∀ K' w' v, VR K' S' x v → Sim base w0 K' S' w' → Stp K S w K' S' w' → Kont (a.put r.dst v) w') : wpOpIn (FW rd) n P ops Q i Kont a w := by
  have hr := ER.kept (nt := nt) hsz hu
  obtain ⟨hio, hdst⟩ := compOper_io hc
  rw [evOne_congr (e' := keepE er r.use) S (fun t ht => by rw [get_keepE, if_pos ht])] at hv
  unfold wpOpIn
  simp only [ho]
  unfold evOne at hv
  cases hw : wantV (keepE er r.use) r.guard with
  | none => simp [hw] at hv
  | some b =>
    have hwant := want_ok (ops := ops) (o := o) (fun t _ _ => hr.slot t) hr.size hc hw
    cases b with
    | false =>
      rw [hwant, if_neg (by simp)]
      simp only [hw, Option.some.injEq, Prod.mk.injEq] at hv
      obtain ⟨rfl, rfl⟩ := hv
      refine ⟨fun _ _ => trivial, ?_⟩
      have := hK K w undef .ud h (.refl K S w)
      rwa [hdst] at this
    | true =>
      rw [hwant, if_pos rfl]
      simp only [hw] at hv
      rw [hio] at hv
      refine oper_ok hO h hr hv fun K' w' v a1 a2 a3 => ?_
      have := hK K' w' v a1 a2 a3
      rwa [hdst] at this

theorem compIO_op {op : Op} {io : IO'} (h : compIO P op = .op io) (hl : io.laying = true) : compOp P op = some io := by
  unfold compIO at h
  split at h
  · rename_i x hx
    subst h
    unfold compCall at hx
    split at hx
    · split at hx
      · split at hx
        · cases hx
        · cases hx
      · obtain ⟨y, _, hy⟩ := Option.map_eq_some_iff.1 hx
        cases hy
      · cases hx
    · cases hx
  · split at h
    · rename_i x hx
      injection h with h; subst h; exact hx
    · injection h with h; subst h; cases hl

theorem mapM_at {rs : List ROp} (hm : ops.toList.mapM (compOper P ops) = some rs) {i : Nat} (hi : i < rs.length) : ∃ o, ops[i]? = some o ∧ ops.toList.getD i default = o ∧ compOper P ops o = some (rs.getD i dflt) := by
  obtain ⟨h1, h2⟩ := mapM_ok hm
  have hi' : i < ops.toList.length := by omega
  have hi2 : i < ops.size := by simpa using hi'
  refine ⟨ops.toList[i], ?_, by simp [List.getD_eq_getElem?_getD, hi2], ?_⟩
  · simp [hi2]
  · rw [h2 i hi' hi]
    simp [List.getD_eq_getElem?_getD, hi]

theorem ready_mem {L : Array Bool} (hm : ops.toList.mapM (compOper P ops) = some rs) (hsz : L.size = rs.length) {i : Nat} (h : i ∈ Region.ready .any ops L) :
    i < rs.length ∧ L.getD i false = false ∧ ∀ d ∈ directs (ops.toList.getD i default), L.getD d false = true := by
  simp only [Region.ready, List.mem_filter, List.mem_range, Bool.and_eq_true, Bool.not_eq_true'] at h
  obtain ⟨h1, h2, h3⟩ := h
  have hl := (mapM_ok hm).1
  have hi : i < rs.length := by rw [hl]; simpa using h1
  obtain ⟨o, ho, ho2, _⟩ := mapM_at hm hi
  have hiL : i < L.size := by omega
  refine ⟨hi, by simpa [Array.getD, hiL] using h2, fun d hd => ?_⟩
  rw [ho2] at hd
  rw [ho] at h3
  simp only [Option.map_some, Option.getD_some, Array.all_eq_true_iff_forall_mem] at h3
  simp only [directs, List.mem_map, List.mem_filter] at hd
  obtain ⟨ed, ⟨hed, hb⟩, rfl⟩ := hd
  have := h3 ed (by simpa using hed)
  rw [hb] at this
  simpa using this

theorem ready_nil {L : Array Bool} (hP : PF ops.toList rs nt p) (hm : ops.toList.mapM (compOper P ops) = some rs) (hsz : L.size = rs.length) (h : Region.ready .any ops L = []) : ∀ i, i < rs.length → L.getD i false = true := by
  intro i
  induction i using Nat.strongRecOn with
  | _ i ih =>
    intro hi
    cases hL : L.getD i false with
    | true => rfl
    | false =>
      exfalso
      obtain ⟨o, ho, ho2, _⟩ := mapM_at hm hi
      have hl := (mapM_ok hm).1
      have hiL : i < L.size := by omega
      have : i ∈ Region.ready .any ops L := by
        simp only [Region.ready, List.mem_filter, List.mem_range, Bool.and_eq_true, Bool.not_eq_true']
        have hrl : rs.length = ops.size := by simpa using hl
        refine ⟨by omega, by simpa [Array.getD, hiL] using hL, ?_⟩
        rw [ho]
        simp only [Option.map_some, Option.getD_some, Array.all_eq_true_iff_forall_mem]
        intro ed hed
        cases hb : Region.binds .any ed with
        | false => rfl
        | true =>
          have hd : ed.on ∈ directs (ops.toList.getD i default) := by
            rw [ho2]
            simp only [directs, List.mem_map, List.mem_filter]
            exact ⟨ed, ⟨by simpa using hed, hb⟩, rfl⟩
          have hlt := hP.dlt i hi _ hd
          simpa using ih _ hlt (by omega)
      rw [h] at this; cases this

theorem count_set (L : Array Bool) (i : Nat) (hi : i < L.size) (hn : L.getD i false = false) : ∀ l : List Nat, l.Nodup → i ∈ l → l.countP (fun j => (L.setIfInBounds i true).getD j false) = l.countP (fun j => L.getD j false) + 1
  | [], _, h => by cases h
  | j :: l, hd, h => by
    simp only [List.nodup_cons] at hd
    by_cases e : j = i
    · subst e
      have h1 : (L.setIfInBounds j true).getD j false = true := by rw [getD_set L j j hi, if_pos rfl]
      have h2 : l.countP (fun k => (L.setIfInBounds j true).getD k false) = l.countP (fun k => L.getD k false) := by
        refine List.countP_congr fun k hk => ?_
        have : k ≠ j := fun e => hd.1 (e ▸ hk)
        rw [getD_set L j k hi, if_neg this]
      rw [List.countP_cons, List.countP_cons, h2]
      simp [h1, hn]
    · have hil : i ∈ l := by
        rcases List.mem_cons.1 h with h | h
        · exact absurd h.symm e
        · exact h
      have ih := count_set L i hi hn l hd.2 hil
      have h1 : (L.setIfInBounds i true).getD j false = L.getD j false := by rw [getD_set L i j hi, if_neg e]
      rw [List.countP_cons, List.countP_cons, ih]
      simp only [h1]
      omega

theorem any_ok (hO : OK P base.Λ O) {er : Env} (her : er = keepE e (lateSlots rs p) ++ ef) (hm : ops.toList.mapM (compOper P ops) = some rs) (hP : PF ops.toList rs nt p) (hD : DF O er ef e S Sf rs p Sp S2) (hb : base ≤ wS.heap.size)
    (hQ : ∀ K' a' w', ER K' Sf nt ef a' → a'.defers = dd → Sim base w0 K' Sf w' → Stp K0 S wS K' Sf w' → Q .normal a' w') :
    ∀ (fuel s : Nat) (L : Array Bool) (a : Act) (w : World) (K : Ctx) (β : Nat → Nat), TS base w0 rs nt p ef e Sp S2 S K0 wS dd s L a w K β → rs.length ≤ (List.range rs.length).countP (fun j => L.getD j false) + fuel → wpAnyIn (FW rd) n P .any ops Q fuel L a w := by
  have fin : ∀ s L a w K β, TS base w0 rs nt p ef e Sp S2 S K0 wS dd s L a w K β → (∀ i, i < rs.length → L.getD i false = true) → Q .normal a w := by
    intro s L a w K β hT hall
    have hsk : s = p.ms.length := by
      rcases Nat.lt_or_ge s p.ms.length with hlt | hge
      · have := (hT.msL s hlt).1 (hall _ (hP.ms s hlt).1)
        omega
      · have := hT.hs; omega
    subst hsk
    obtain ⟨K', g1, g2, g3, g4, g5⟩ := adopt_ok hP hD hT hb (fun i hi _ => hall i hi)
    rw [hD.last] at g1 g2 g3 g4
    refine hQ K' a w ⟨hT.tsz, fun t => ?_⟩ hT.dfr g1 g2
    by_cases hex : ∃ j, j < rs.length ∧ (rs.getD j dflt).dst = some t
    · obtain ⟨j, hj, hd⟩ := hex
      by_cases hsm : ∀ c, p.cls.getD j (.m rs.length) = .a c → c < p.ms.length
      · exact (hT.new j hj (hall j hj) hsm t hd).mono g3
      · obtain ⟨c, hqq⟩ := Classical.not_forall.1 hsm
        obtain ⟨hcj, hcs⟩ := Classical.not_imp.1 hqq
        have := (hP.a j hj c hcj).1
        have : c = p.ms.length := by omega
        subst this
        exact g4 j hj hcj t hd
    · have hno : ∀ j, j < rs.length → (rs.getD j dflt).dst ≠ some t := fun j hj hd => hex ⟨j, hj, hd⟩
      rw [hD.env t hno]
      exact (hT.old t fun i' hi' _ => hno i' hi').mono g3
  intro fuel
  induction fuel with
  | zero =>
    intro s L a w K β hT hcnt
    have hall : ∀ i, i < rs.length → L.getD i false = true := by
      have : (List.range rs.length).countP (fun j => L.getD j false) = (List.range rs.length).length := by
        have := List.countP_le_length (p := fun j => L.getD j false) (l := List.range rs.length)
        simp only [List.length_range] at this ⊢
        omega
      intro i hi
      exact List.countP_eq_length.1 this i (List.mem_range.2 hi)
    refine ⟨?_, fin s L a w K β hT hall⟩
    cases hr : Region.ready .any ops L with
    | nil => rfl
    | cons i l =>
      have := ready_mem hm hT.sz (i := i) (by rw [hr]; simp)
      rw [hall i this.1] at this
      exact absurd this.2.1 (by simp)
  | succ fuel ih =>
    intro s L a w K β hT hcnt
    refine ⟨fun hr => fin s L a w K β hT (ready_nil hP hm hT.sz hr), fun i hi => ?_⟩
    obtain ⟨hi, hnl, hdir⟩ := ready_mem hm hT.sz hi
    obtain ⟨o, ho, ho2, hco⟩ := mapM_at hm hi
    have hiL : i < L.size := by rw [hT.sz]; exact hi
    have hanc : ∀ j, p.isAnc i j = true → L.getD j false = true := fun j hj => by
      obtain ⟨d, hd, hj⟩ := hP.anc i hi j hj
      have hdl := hdir d hd
      rcases hj with rfl | hj
      · exact hdl
      · exact hT.down d j (by have := hP.dlt i hi d hd; omega) hdl hj
    have hcnt' : rs.length ≤ (List.range rs.length).countP (fun j => (L.setIfInBounds i true).getD j false) + fuel := by
      rw [count_set L i hiL hnl _ List.nodup_range (List.mem_range.2 hi)]
      omega
    cases hcl : p.cls.getD i (.m rs.length) with
    | n lo hi' =>
      obtain ⟨q1, q2, q3, q4, q5⟩ := hP.n i hi lo hi' hcl
      have hlo : lo ≤ s := by
        rcases q3 with rfl | q3
        · omega
        · rcases Nat.eq_zero_or_pos lo with h0 | h0
          · omega
          · have := (hT.msL (lo - 1) (by omega)).1 (hanc _ q3)
            omega
      have hhi : s ≤ hi' := by
        rcases q4 with rfl | q4
        · exact hT.hs
        · rcases Nat.lt_or_ge hi' s with hlt | hge
          · have hk : hi' < p.ms.length := by have := hT.hs; omega
            have := hT.down _ i (hP.ms hi' hk).1 ((hT.msL hi' hk).2 hlt) q4
            rw [hnl] at this; cases this
          · exact hge
      obtain ⟨x, hx, hxd⟩ := hD.n i hi lo hi' hcl s hlo hhi
      have hu := used_ok her hP hD hT hi hnl hanc (.refl _ _) (fun jm hjm => by rw [hcl] at hjm; cases hjm)
      refine wpOp_one (nt := nt) hO hT.sim ho hco hT.tsz hu hx fun K1 w1 v hV hS1 hst => ih s _ _ _ K1 β ?_ hcnt'
      refine advance hP hT hi hnl hanc (fun c hc => by rw [hcl] at hc; cases hc) (Nat.le_refl _) hT.hs (fun j hj => ?_) (.refl _ _) hT.stp (fun i' _ _ c _ h1 h2 => by omega) (fun i' hi' hl c hc hs => (hT.pend i' hi' hl c hc hs).fresh) hS1 hst (fun t ht => ?_)
      · have hne : p.ms.getD j 0 ≠ i := fun e => by
          have := (hP.ms j hj).2.1
          rw [e, hcl] at this; cases this
        rw [getD_set L i _ hiL, if_neg hne]
        exact hT.msL j hj
      · rw [← hxd t ht]; exact hV
    | m j =>
      have hmj := hP.m i hi j hcl
      obtain ⟨hjk, hje⟩ := List.getElem?_eq_some_iff.1 hmj
      have hjd : p.ms.getD j 0 = i := by simp [List.getD_eq_getElem?_getD, hmj]
      have hjs : j = s := by
        have h1 : ¬ j < s := fun hlt => by
          have := (hT.msL j hjk).2 hlt
          rw [hjd, hnl] at this; cases this
        rcases Nat.lt_or_ge s j with hlt | hge
        · have := (hP.ms j hjk).2.2 s hlt
          rw [hjd] at this
          have := (hT.msL s (by omega)).1 (hanc _ this)
          omega
        · omega
      subst hjs
      obtain ⟨K', g1, g2, g3, g4, g5⟩ := adopt_ok hP hD hT hb (fun i' hi' hc' => by
        rcases (hP.a i' hi' j hc').2.1 with h | h
        · omega
        · rw [hjd] at h; exact hanc i' h)
      obtain ⟨x, hx, hxd⟩ := hD.m j hjk
      rw [hjd] at hx hxd
      have hu := used_ok her hP hD hT hi hnl hanc g3 (fun jm hjm => by
        rw [hcl] at hjm; injection hjm with hjm; exact ⟨hjm.symm, g4⟩)
      refine wpOp_one (nt := nt) hO g1 ho hco hT.tsz hu hx fun K1 w1 v hV hS1 hst => ih (j + 1) _ _ _ K1 β ?_ hcnt'
      refine advance hP hT hi hnl hanc (fun c hc => by rw [hcl] at hc; cases hc) (by omega) (by omega) (fun j' hj' => ?_) g3 g2 (fun i' hi' hl' c hc h1 h2 t ht => ?_) (fun i' hi' hl c hc hs => g5 i' hi' hl c hc (by omega)) hS1 hst (fun t ht => ?_)
      · rw [getD_set L i _ hiL]
        by_cases e1 : p.ms.getD j' 0 = i
        · rw [if_pos e1]
          have := (hP.ms j' hj').2.1
          rw [e1, hcl] at this
          injection this with this
          simp only [true_iff]; omega
        · rw [if_neg e1, hT.msL j' hj']
          have : j' ≠ j := fun e => e1 (by rw [e]; exact hjd)
          omega
      · have : c = j := by omega
        subst this
        exact g4 i' hi' hc t ht
      · rw [← hxd t ht]; exact hV
    | a c =>
      obtain ⟨q1, q2, q3, q4, ⟨d, hd⟩, q6⟩ := hP.a i hi c hcl
      have hsc : s ≤ c := by
        rcases q2 with h | h
        · have := hT.hs; omega
        · rcases Nat.lt_or_ge c s with hlt | hge
          · have hk : c < p.ms.length := by have := hT.hs; omega
            have := hT.down _ i (hP.ms c hk).1 ((hT.msL c hk).2 hlt) h
            rw [hnl] at this; cases this
          · exact hge
      obtain ⟨x, hx, hxd⟩ := hD.a i hi c hcl
      have hu := used_ok her hP hD hT hi hnl hanc (.refl _ _) (fun jm hjm => by rw [hcl] at hjm; cases hjm)
      have hr := ER.kept (nt := nt) hT.tsz hu
      obtain ⟨hio, hdst⟩ := compOper_io hco
      rw [evOne_congr (e' := keepE er (rs.getD i dflt).use) (Sp c) (fun t ht => by rw [get_keepE, if_pos ht])] at hx
      generalize hrr : rs.getD i dflt = r at *
      have hopio : ∃ io, r.io = .op io ∧ io.laying = true := by
        cases hio2 : r.io with
        | op io => rw [hio2] at q3; exact ⟨io, rfl, q3⟩
        | call f xs => rw [hio2] at q3; simp [IOp.laying] at q3
        | callv y xs => rw [hio2] at q3; simp [IOp.laying] at q3
      obtain ⟨io, hio2, hlay⟩ := hopio
      have hcomp : compOp P o.op = some io := compIO_op (by rw [← hio, hio2]) hlay
      unfold evOne at hx
      have hw : wantV (keepE er r.use) r.guard = some true := by rw [q4]; rfl
      simp only [hw, hio2, evOp] at hx
      obtain ⟨cs, arr, et, v, e1, e2, e3, e4⟩ := early_ok (w := w) hr hcomp hlay hx
      unfold wpOpIn
      simp only [ho]
      rw [want_ok (ops := ops) (o := o) (fun t _ _ => hr.slot t) hr.size hco hw, if_pos rfl]
      unfold Oper.wpIn
      refine ⟨fun _ _ => trivial, ?_⟩
      rw [semAt_ok (fun c e => by rw [e] at hcomp; simp [compOp] at hcomp), e3, Oper.uponIn_value, ← hdst]
      refine ih s _ _ _ K (fun j => if j = i then w.heap.size else β j) ?_ hcnt'
      have := laid_ok (et := et) (t := d) hP hT hi hnl hanc hcl hsc (by rw [hrr]; exact hd) e1 e2 (by rw [← hxd d hd]; exact e4)
      rw [hrr] at this
      exact this

theorem draw_ok (hO : OK P base.Λ O) (hmix : P.follows .mixedOrders = true) {id : Nat} {K : Ctx} {w : World} {a : Act} (hm : ops.toList.mapM (compOper P ops) = some rs) (hp : planOk ops.toList rs nt p = true) (h : Sim base w0 K S w) (hr : ER K S nt e a)
    (hv : evDraw O (stagesOf rs p) (lateSlots rs p) e S = some (ef, Sf)) (hQ : ∀ K' a' w', ER K' Sf nt ef a' → a'.defers = a.defers → Sim base w0 K' Sf w' → Stp K S w K' Sf w' → Q .normal a' w') : (Code.region id ops true).wpIn (FW rd) n P Q a w := by
  have hP := planOk_facts hp
  unfold evDraw at hv
  split at hv
  · rename_i ef' Sf' pre hst
    split at hv
    · rename_i hc
      simp only [Option.some.injEq, Prod.mk.injEq] at hv
      obtain ⟨rfl, rfl⟩ := hv
      obtain ⟨Sp, S2, hD⟩ := df_of hP _ hst hc
      obtain ⟨hd1, hd2⟩ := h.drew
      refine wpIn_region_any hmix ?_
      have hl : rs.length = ops.size := by simpa using (mapM_ok hm).1
      have hrep : ∀ j, (Array.replicate ops.size false).getD j false = false := fun j => by
        simp only [Array.getD_eq_getD_getElem?, Array.getElem?_replicate]; split <;> rfl
      refine any_ok (K0 := K) (wS := w.drew) (dd := a.defers) (S := S) hO rfl hm hP hD hd1.hb (fun K' a' w' q1 q2 q3 q4 => hQ K' a' w' q1 q2 q3 (hd2.trans q4)) ops.size 0 _ a w.drew K (fun _ => 0) ?_ (by omega)
      refine ⟨Nat.zero_le _, by simp [hl], fun j _ => ?_, fun i j _ hi => ?_, by rw [hD.zero]; exact hd1, by rw [hD.zero]; exact .refl _ _ _, hr.size, rfl, fun t _ => by rw [hD.zero]; exact hr.slot t, fun i _ hi => ?_, fun i _ hi => ?_, fun i i' c c' _ _ hi => ?_⟩
      · rw [hrep]; simp
      · rw [hrep] at hi; cases hi
      · rw [hrep] at hi; cases hi
      · rw [hrep] at hi; cases hi
      · rw [hrep] at hi; cases hi
    · cases hv
  · cases hv
end
end Go.Proofs.YtmolaemlenllmaaGreat

namespace Go.Proofs.YtmolaemlenllmaaGreat
set_option linter.unusedSimpArgs false
set_option linter.unusedVariables false
open Go.RowKit

/-- The compiled code is of the code. -/
inductive CodeR (P : Program) (Λ : Nat → List Bool → Option (Array Tmp × Code × Code × Nat)) (nt : Nat) : Code → ICode → Prop
  | bad (c : Code) : CodeR P Λ nt c .bad
  | skip : CodeR P Λ nt .skip .skip
  | label (l : Nat) : CodeR P Λ nt (.label l) .skip
  | region (id : Nat) (ops : Array Oper) (l : List ROp) (hm : ops.toList.mapM (compOper P ops) = some l) (hd : dstOk nt l = true) : CodeR P Λ nt (.region id ops false) (.region l)
  | draw (id : Nat) (ops : Array Oper) (l : List ROp) (p : Plan) (hm : ops.toList.mapM (compOper P ops) = some l) (hp : planOk ops.toList l nt p = true) : CodeR P Λ nt (.region id ops true) (.draw (stagesOf l p) (lateSlots l p))
  | seq {a b : Code} {ia ib : ICode} (ha : CodeR P Λ nt a ia) (hb : CodeR P Λ nt b ib) : CodeR P Λ nt (.seq a b) (.seq ia ib)
  | cond {c : Operand} {x : X} {a b : Code} {ia ib : ICode} (hc : compX c = some x) (ha : CodeR P Λ nt a ia) (hb : CodeR P Λ nt b ib) : CodeR P Λ nt (.cond c a b) (.cond x ia ib)
  | block (id : Nat) {a : Code} {ia : ICode} (ha : CodeR P Λ nt a ia) : CodeR P Λ nt (.block id a) (.block id ia)
  | loop (l : List Nat) {a : Code} {ia : ICode} (ha : CodeR P Λ nt a ia) : CodeR P Λ nt (.loop a) (.loop l ia)
  | exit (id : Nat) : CodeR P Λ nt (.exit id) (.exit id)
  | ret : CodeR P Λ nt .ret .ret
  | goto (l : Nat) : CodeR P Λ nt (.goto l) (.goto l)
  | scope (l : List Nat) (lab : Nat) {a b : Code} {ia ib : ICode} (hf : findLabel a lab = some b) (ha : CodeR P Λ nt a ia) (hb : CodeR P Λ nt b ib) : CodeR P Λ nt (.scope a) (.scope l ia lab ib)
  | live (l : List Nat) {c : Code} {ic : ICode} (h : CodeR P Λ nt c ic) : CodeR P Λ nt c (.live l ic)
  | rf {g : Operand} {x : X} {ps : Array Tmp} {a b : Code} (f : Nat) (path : List Bool) (keep : List Nat) (hg : compX g = some x) (hL : Λ f path = some (ps, a, b, nt)) : CodeR P Λ nt (.rangeFunc g ps a b) (.rf x f path keep)

/-- The marks among the deferred calls. -/
def DR (K : Ctx) (S : Mem) : List Nat → List Deferred → Prop
  | [], [] => True
  | i :: d, x :: ds => (∃ r, x = { target := .collected r, args := #[] } ∧ VR K S (.m i) (.map (some r))) ∧ DR K S d ds
  | _, _ => False

theorem DR.mono {K K' : Ctx} {S S' : Mem} (hE : Ext K S K' S') : ∀ {d : List Nat} {ds : List Deferred}, DR K S d ds → DR K' S' d ds
  | [], [], _ => trivial
  | _ :: _, _ :: _, h => ⟨let ⟨r, e, hV⟩ := h.1; ⟨r, e, hV.mono hE⟩, DR.mono hE h.2⟩
  | [], _ :: _, h => h.elim
  | _ :: _, [], h => h.elim

def IX.out : IX → Exit
  | .normal => .normal
  | .exit id => .exit id
  | .ret => .ret
  | .goto l => .goto l

section
variable {P : Program} {base : Bs} {w0 : World} {O : Orc} {F : Fence} {n : Nat} {Q : Exit → Act → World → Prop} {a : Act} {w : World}

/-- A loop, by a number that gets less. -/
theorem wpIn_loop_idx {c : Code} (I : Nat → Act → World → Prop) {j : Nat} (h₀ : I j a w) (round : ∀ j a w, I j a w → c.wpIn F n P (Exit.then (fun a' w' => ∃ j', j' < j ∧ I j' a' w') Q) a w) : (Code.loop c).wpIn F n P Q a w := by
  intro b k cs hro hb hr
  have key : ∀ j a w, I j a w → ∃ e a' w', Q e a' w' ∧ ArrivesIn (Machine.fenced P F) P (lone (b.atR a (.code c :: .inLoop c :: k)) cs w) b k cs e a' w' := by
    intro j
    induction j using Nat.strongRecOn with
    | _ j ih =>
      intro a w hI
      obtain ⟨e, a₁, w₁, hq, harr⟩ := round j a w hI b (.inLoop c :: k) cs hro hb hr
      cases e with
      | normal =>
        obtain ⟨j', hlt, hI₁⟩ := hq
        obtain ⟨e₂, a₂, w₂, hq₂, harr₂⟩ := ih j' hlt a₁ w₁ hI₁
        exact ⟨e₂, a₂, w₂, hq₂, .of_steps (StepsIn.trans harr (.one (fenced_calm hb hr rfl) stepR_inLoop)) harr₂⟩
      | exit id => exact ⟨_, a₁, w₁, hq, .pass (x := .inLoop c) rfl (fun _ _ => .inl (by simp)) harr⟩
      | goto l => exact ⟨_, a₁, w₁, hq, .pass (x := .inLoop c) rfl (fun _ _ => .inl (by simp)) harr⟩
      | ret => exact ⟨_, a₁, w₁, hq, .pass (x := .inLoop c) rfl (fun _ _ => .inl (by simp)) harr⟩
      | panic ch => exact ⟨_, a₁, w₁, hq, .pass (x := .inLoop c) rfl (fun _ _ => .inl (by simp)) harr⟩
      | outgrown => exact ⟨_, a₁, w₁, hq, .pass (x := .inLoop c) rfl (fun _ _ => .inl (by simp)) harr⟩
  obtain ⟨e, a', w', hq, harr⟩ := key _ a w h₀
  exact ⟨e, a', w', hq, .of_steps (.one (fenced_calm hb hr rfl) stepR_loop) harr⟩

theorem stepR_scope' {b : Frame} {k : List Item} {cs : List Frame} {c : Code} : step P (lone (b.atR a (.code (.scope c) :: k)) cs w) = .next (lone (b.atR a (.code c :: .inScope c :: k)) cs w) :=
  step_lone_go (by simp [stepG, stepG.exec, Frame.atR])
theorem stepR_inScope' {b : Frame} {k : List Item} {cs : List Frame} {c : Code} : step P (lone (b.atR a (.inScope c :: k)) cs w) = .next (lone (b.atR a k) cs w) :=
  step_lone_go (by simp [stepG, stepG.exec, Frame.atR])

/-- A scope, by a number that gets less. 'I false': at its head; 'I true': behind the label. -/
theorem wpIn_scope_idx {c rest : Code} (lab : Nat) (hf : findLabel c lab = some rest) (I : Nat → Act → World → Prop)
    (first : c.wpIn F n P (Exit.jump lab (fun a' w' => ∃ j, I j a' w') Q) a w) (pass : ∀ j a w, I j a w → rest.wpIn F n P (Exit.jump lab (fun a' w' => ∃ j', j' < j ∧ I j' a' w') Q) a w) (hq : ∀ l a w, ¬ Q (.goto l) a w) :
    (Code.scope c).wpIn F n P Q a w := by
  intro b k cs hro hb hr
  have hg : gotoIn lab (.inScope c :: k) = some (.code rest :: .inScope c :: k) := by simp [gotoIn, hf]
  have out : ∀ {m : Machine} {e : Exit} {a₁ : Act} {w₁ : World}, (∀ l, e ≠ .goto l) → Q e a₁ w₁ → ArrivesIn (Machine.fenced P F) P m b (.inScope c :: k) cs e a₁ w₁ → ∃ e a' w', Q e a' w' ∧ ArrivesIn (Machine.fenced P F) P m b k cs e a' w' := by
    intro m e a₁ w₁ hng hQ harr
    cases e with
    | normal => exact ⟨.normal, a₁, w₁, hQ, StepsIn.trans harr (.one (fenced_calm hb hr rfl) stepR_inScope')⟩
    | exit id => exact ⟨.exit id, a₁, w₁, hQ, fun k' hk => harr.1 k' (by simp [exitTo, hk]), fun hrr hk => harr.2 hrr (by simp [exitTo, hk])⟩
    | goto l => exact absurd rfl (hng l)
    | ret => exact ⟨_, a₁, w₁, hQ, harr⟩
    | panic ch => exact ⟨_, a₁, w₁, hQ, harr⟩
    | outgrown => exact ⟨_, a₁, w₁, hQ, harr⟩
  have key : ∀ j a w, I j a w → ∃ e a' w', Q e a' w' ∧ ArrivesIn (Machine.fenced P F) P (lone (b.atR a (.code rest :: .inScope c :: k)) cs w) b k cs e a' w' := by
    intro j
    induction j using Nat.strongRecOn with
    | _ j ih =>
      intro a w hI
      obtain ⟨e, a₁, w₁, hq', harr⟩ := pass j a w hI b (.inScope c :: k) cs hro hb hr
      cases e with
      | goto l' =>
        obtain ⟨rfl, j', hlt, hI'⟩ := hq'
        obtain ⟨e₂, a₂, w₂, hq₂, harr₂⟩ := ih j' hlt a₁ w₁ hI'
        exact ⟨e₂, a₂, w₂, hq₂, .of_steps (harr.1 _ hg) harr₂⟩
      | normal => exact out (by simp) hq' harr
      | exit id => exact out (by simp) hq' harr
      | ret => exact out (by simp) hq' harr
      | panic ch => exact out (by simp) hq' harr
      | outgrown => exact out (by simp) hq' harr
  have h0 : (lone (b.atR a (.code (.scope c) :: k)) cs w).fenced P F := fenced_calm hb hr rfl
  obtain ⟨e, a₁, w₁, hq', harr⟩ := first b (.inScope c :: k) cs hro hb hr
  have wrap : (∃ e a' w', Q e a' w' ∧ ArrivesIn (Machine.fenced P F) P (lone (b.atR a (.code c :: .inScope c :: k)) cs w) b k cs e a' w') → ∃ e a' w', Q e a' w' ∧ ArrivesIn (Machine.fenced P F) P (lone (b.atR a (.code (.scope c) :: k)) cs w) b k cs e a' w' :=
    fun ⟨e, a', w', q, r⟩ => ⟨e, a', w', q, .of_steps (.one h0 stepR_scope') r⟩
  cases e with
  | goto l' =>
    obtain ⟨rfl, j, hI⟩ := hq'
    obtain ⟨e₂, a₂, w₂, hq₂, harr₂⟩ := key j a₁ w₁ hI
    exact ⟨e₂, a₂, w₂, hq₂, .of_steps (.head h0 stepR_scope' (harr.1 _ hg)) harr₂⟩
  | normal => exact wrap (out (by simp) hq' harr)
  | exit id => exact wrap (out (by simp) hq' harr)
  | ret => exact wrap (out (by simp) hq' harr)
  | panic ch => exact wrap (out (by simp) hq' harr)
  | outgrown => exact wrap (out (by simp) hq' harr)

end
end Go.Proofs.YtmolaemlenllmaaGreat

namespace Go.Proofs.YtmolaemlenllmaaGreat
set_option linter.unusedSimpArgs false
set_option linter.unusedVariables false
open Go.RowKit

/-- Where code leads. -/
def QR (base : Bs) (w0 : World) (nt : Nat) (K : Ctx) (S : Mem) (w : World) (x : IX) (e' : Env) (S' : Mem) (d' : List Nat) : Exit → Act → World → Prop := fun ex a' w' =>
  ex = x.out ∧ ∃ K', ER K' S' nt e' a' ∧ DR K' S' d' a'.defers ∧ Sim base w0 K' S' w' ∧ Stp K S w K' S' w'

theorem QR.trans {base : Bs} {w0 : World} {nt : Nat} {K K1 : Ctx} {S S1 : Mem} {w w1 : World} {x : IX} {e' : Env} {S' : Mem} {d' : List Nat} {ex : Exit} {a' : Act} {w' : World} (hst : Stp K S w K1 S1 w1) (h : QR base w0 nt K1 S1 w1 x e' S' d' ex a' w') : QR base w0 nt K S w x e' S' d' ex a' w' :=
  let ⟨h1, K', h2, h3, h4, h5⟩ := h
  ⟨h1, K', h2, h3, h4, hst.trans h5⟩

section
variable {P : Program} {base : Bs} {w0 : World} {O : Orc} {nt : Nat} {rd : Option Nat} {n : Nat}

theorem ER.keep {K : Ctx} {S : Mem} {e : Env} {a : Act} (h : ER K S nt e a) (l : List Nat) : ER K S nt (keepE e l) a := ER.kept h.size fun t _ => h.slot t

theorem scope_no_goto {b : Bool} : ∀ (m : Nat) (l : List Nat) (ia : ICode) (lab : Nat) (ib : ICode) (e : Env) (S : Mem) (d : List Nat) (x : IX) (e' : Env) (S' : Mem) (d' : List Nat), evCode O b m (.scope l ia lab ib) e S d = some (x, e', S', d') → ∀ g, x ≠ .goto g
  | 0, _, _, _, _, _, _, _, _, _, _, _, h => by simp [evCode] at h
  | m + 1, l, ia, lab, ib, e, S, d, x, e', S', d', h => by
    simp only [evCode] at h
    split at h
    · split at h
      · exact scope_no_goto m _ _ _ _ _ _ _ _ _ _ _ h
      · cases h
    · rename_i hne
      intro g hg
      subst hg
      exact hne _ _ _ _ h

theorem rf_ok (hO : OK P base.Λ O) {g : Operand} {xg : X} {ps : Array Tmp} {ca cb : Code} {f : Nat} {path : List Bool} {keep : List Nat} (hg : compX g = some xg) (hL : base.Λ f path = some (ps, ca, cb, nt)) {m : Nat} {K : Ctx} {S : Mem} {e : Env} {a : Act} {d : List Nat} {w : World} {x : IX} {e' : Env} {S' : Mem} {d' : List Nat}
    (h : Sim base w0 K S w) (hr : ER K S nt e a) (hd : DR K S d a.defers) (hv : evCode O rd.isSome (m + 1) (.rf xg f path keep) e S d = some (x, e', S', d')) : (Code.rangeFunc g ps ca cb).wpIn (FW rd) n P (QR base w0 nt K S w x e' S' d') a w := by
  simp only [evCode] at hv
  cases rd with
  | some l => simp at hv
  | none =>
    simp only [Option.isSome_none, Bool.false_eq_true, if_false] at hv
    split at hv
    · rename_i gf fa fb hf
      split at hv
      · rename_i y S2 hcall
        split at hv
        · rename_i f' path' env st pend hS2
          split at hv
          · cases hv
          · rename_i hbusy
            simp only [Option.some.injEq, Prod.mk.injEq] at hv
            obtain ⟨hx, rfl, rfl, rfl⟩ := hv
            have hG := compX_ok (K := K) (S := S) hg hr
            rw [hf] at hG
            generalize hvg : a.eval g = vg at hG
            cases hG with
            | f _ _ _ x' y' hxl hyl h1 h2 =>
              refine wpIn_rangeFunc fun fn _ => ?_
              -- the two blocks
              obtain ⟨s1, t1⟩ := h.alloc (.dfr true) (.deferred (some [])) 0 fun K' S' w' hE e1 e2 e3 hb => ⟨by rw [e1]; exact e3, by rw [e1]; exact hb⟩
              have hp1 := K.put_same S.length w.heap.size 0
              generalize hK1 : K.put S.length w.heap.size 0 = K1 at s1 t1 hp1
              have hr1 := hr.mono t1.ext
              obtain ⟨s2, t2⟩ := s1.alloc (.loop f path (keepE e keep) .ready none) (.loop { state := .ready, pending := none, fn := fn, tmps := a.tmps, params := ps, assign := ca, body := cb, defers := w.heap.size }) 0 fun K' S' w' hE e1 e2 e3 hb =>
                ⟨_, by rw [e1]; exact e3, by rw [hL, hr.size], rfl, rfl, by rw [e1]; exact hb, fun t => ((hr1.keep keep).slot t).mono hE⟩
              have hl1 : (S ++ [Blk.dfr true]).length = S.length + 1 := by simp
              have hw1 : (w.alloc (.deferred (some []))).heap.size = w.heap.size + 1 := by simp
              rw [hl1, hw1] at s2 t2
              have hp2 := K1.put_same (S.length + 1) (w.heap.size + 1) 0
              have hp3 := K1.put_other (w.heap.size + 1) 0 (show S.length ≠ S.length + 1 by omega)
              generalize hK2 : K1.put (S.length + 1) (w.heap.size + 1) 0 = K2 at s2 t2 hp2 hp3
              have happ : S ++ [Blk.dfr true] ++ [.loop f path (keepE e keep) .ready none] = S ++ [.dfr true, .loop f path (keepE e keep) .ready none] := by simp
              rw [happ] at s2 t2
              obtain ⟨W, hW⟩ : ∃ W, W = (w.alloc (.deferred (some []))).alloc (.loop { state := .ready, pending := none, fn := fn, tmps := a.tmps, params := ps, assign := ca, body := cb, defers := w.heap.size }) := ⟨_, rfl⟩
              rw [← hW] at s2 t2
              have hst := t1.trans t2
              have hat : (S ++ [Blk.dfr true, .loop f path (keepE e keep) .ready none])[S.length + 1]? = some (.loop f path (keepE e keep) .ready none) := by
                rw [List.getElem?_append_right (by omega)]; simp
              have hat0 : (S ++ [Blk.dfr true, .loop f path (keepE e keep) .ready none])[S.length]? = some (.dfr true) := by
                rw [List.getElem?_append_right (by omega)]; simp
              obtain ⟨hen, hcl⟩ := hO.fn _ _ _ _ _ hcall
              have hy1 : VR K2 (S ++ [.dfr true, .loop f path (keepE e keep) .ready none]) (.y (S.length + 1)) (.func (.yield (w.heap.size + 1)) #[] #[]) := .y _ _ _ hat fun _ => hp2.1.symm
              have hargs : ArgsR K2 (S ++ [.dfr true, .loop f path (keepE e keep) .ready none]) (fa ++ [.y (S.length + 1)] ++ fb) (x' ++ #[Value.func (.yield (w.heap.size + 1)) #[] #[]] ++ y').toList := by
                simp only [Array.toList_append]
                refine (((ArgsR.of_arr hxl h1).mono hst.ext).append ?_).append ((ArgsR.of_arr hyl h2).mono hst.ext)
                exact ⟨rfl, fun k hk hk' => by
                  obtain rfl : k = 0 := by simp at hk; omega
                  exact hy1⟩
              refine ⟨w.heap.size + 1, [{ target := .collected w.heap.size, args := #[] }], W, { target := .fn (.func gf) y', args := x' ++ #[Value.func (.yield (w.heap.size + 1)) #[] #[]] }, W, gf, x' ++ #[Value.func (.yield (w.heap.size + 1)) #[] #[]] ++ y', W, by rw [hW]; exact run_enterLoop_outer fn a.tmps ps ca cb, ?_, fun _ _ => trivial, ?_, fun e => (by cases e), ?_⟩
              · simp [resolve, rangeCall, hvg, Deferred.ofValue]; rfl
              · simp [invoke, run_callFunc hen]
              · refine CallsIn.mono (callsW (rd := none) (hcl base w0 K2 W _ rfl hargs s2)) fun en w3 hp => ?_
                obtain ⟨K3, v, rfl, hV, s3, t3⟩ := hp
                have hμ : K3.μ (S.length + 1) = w.heap.size + 1 := by
                  obtain ⟨B', hB', _, hs⟩ := t3.ext.blk _ _ hat
                  rw [hS2] at hB'; obtain rfl := Option.some.inj hB'
                  rw [(hs rfl).1, hp2.1]
                obtain ⟨r, hh, g1, g2, g3, g4, g5⟩ := s3.blk _ _ hS2
                rw [hμ] at hh g4
                refine ⟨pend.map Jump.code, w3.putObj (w.heap.size + 1) (.loop { r with state := .exhausted }), by rw [← g3]; exact run_endLoop hh (by rw [g2]; exact hbusy), ?_⟩
                obtain ⟨s4, t4⟩ := s3.putObj (B' := .loop f' path' env .exhausted pend) (o := .loop { r with state := .exhausted }) hS2 rfl rfl rfl fun S'' w'' hE he => ⟨{ r with state := .exhausted }, he, g1, rfl, g3, by rw [hμ]; exact g4, fun t => (g5 t).mono hE⟩
                rw [hμ] at s4 t4
                have hall := (hst.trans t3).trans t4
                have hER : ER K3 (S2.set (S.length + 1) (.loop f' path' env .exhausted pend)) nt e { a with defers := [{ target := .collected w.heap.size, args := #[] }] ++ a.defers } := ⟨hr.size, fun t => (hr.slot t).mono hall.ext⟩
                have hDR : DR K3 (S2.set (S.length + 1) (.loop f' path' env .exhausted pend)) (S.length :: d) ([{ target := .collected w.heap.size, args := #[] }] ++ a.defers) :=
                  ⟨⟨w.heap.size, rfl, (VR.m S.length w.heap.size _ hat0 (fun _ => by rw [hp3.1, hp1.1])).mono (t3.trans t4).ext⟩, hd.mono hall.ext⟩
                cases pend with
                | none => subst hx; exact ⟨rfl, K3, hER, hDR, s4, hall⟩
                | some j =>
                  subst hx
                  cases j with
                  | ret => exact wpIn_ret ⟨rfl, K3, hER, hDR, s4, hall⟩
                  | exit id => exact wpIn_exit ⟨rfl, K3, hER, hDR, s4, hall⟩
                  | goto l => exact wpIn_goto ⟨rfl, K3, hER, hDR, s4, hall⟩
        · cases hv
      · cases hv
    · cases hv

theorem code_ok (hO : OK P base.Λ O) (hmix : P.follows .mixedOrders = true) : ∀ (m : Nat) (c : Code) (ic : ICode) (K : Ctx) (S : Mem) (e : Env) (a : Act) (d : List Nat) (w : World) (x : IX) (e' : Env) (S' : Mem) (d' : List Nat), CodeR P base.Λ nt c ic → Sim base w0 K S w → ER K S nt e a → DR K S d a.defers →
    evCode O rd.isSome m ic e S d = some (x, e', S', d') → c.wpIn (FW rd) n P (QR base w0 nt K S w x e' S' d') a w := by
  intro m
  induction m using Nat.strongRecOn with
  | _ m ih =>
    intro c ic K S e a d w x e' S' d' hc h hr hd hv
    cases m with
    | zero => simp [evCode] at hv
    | succ m =>
      have one : ∀ {x1 x2 : IX} {e1 e2 : Env} {S1 S2 : Mem} {d1 d2 : List Nat}, some (x1, e1, S1, d1) = some (x2, e2, S2, d2) → x1 = x2 ∧ e1 = e2 ∧ S1 = S2 ∧ d1 = d2 := by
        intro x1 x2 e1 e2 S1 S2 d1 d2 h
        simpa using h
      cases hc with
      | bad => simp [evCode] at hv
      | skip =>
        obtain ⟨rfl, rfl, rfl, rfl⟩ := one hv
        exact wpIn_skip ⟨rfl, K, hr, hd, h, .refl K S w⟩
      | label l =>
        obtain ⟨rfl, rfl, rfl, rfl⟩ := one hv
        exact wpIn_label ⟨rfl, K, hr, hd, h, .refl K S w⟩
      | region id ops l hm hdst =>
        simp only [evCode] at hv
        split at hv
        · rename_i e1 S1 hops
          obtain ⟨rfl, rfl, rfl, rfl⟩ := one hv
          exact wpIn_region_list (list_ok hO ops.toList l K S e a w e1 S1 hm hdst h hr hops fun K' a' w' q1 q2 q3 q4 => ⟨rfl, K', q1, by rw [q2]; exact hd.mono q4.ext, q3, q4⟩)
        · cases hv
      | draw id ops l p hm hp =>
        simp only [evCode] at hv
        split at hv
        · rename_i e1 S1 hops
          obtain ⟨rfl, rfl, rfl, rfl⟩ := one hv
          exact draw_ok hO hmix hm hp h hr hops fun K' a' w' q1 q2 q3 q4 => ⟨rfl, K', q1, by rw [q2]; exact hd.mono q4.ext, q3, q4⟩
        · cases hv
      | seq ha hb =>
        simp only [evCode] at hv
        refine wpIn_seq ?_
        split at hv
        · rename_i e1 S1 d1 h1
          refine Code.wpIn_mono (fun ex a1 w1 hq => ?_) (ih m (by omega) _ _ K S e a d w _ _ _ _ ha h hr hd h1)
          obtain ⟨rfl, K1, q1, q2, q3, q4⟩ := hq
          exact Code.wpIn_mono (fun ex a2 w2 hq => hq.trans q4) (ih m (by omega) _ _ K1 S1 e1 a1 d1 w1 _ _ _ _ hb q3 q1 q2 hv)
        · rename_i hne
          refine Code.wpIn_mono (fun ex a1 w1 hq => ?_) (ih m (by omega) _ _ K S e a d w _ _ _ _ ha h hr hd hv)
          obtain ⟨rfl, hq⟩ := hq
          cases x with
          | normal => exact absurd hv (hne _ _ _)
          | exit id => exact ⟨rfl, hq⟩
          | ret => exact ⟨rfl, hq⟩
          | goto l => exact ⟨rfl, hq⟩
      | cond hcx ha hb =>
        have hC := compX_ok (K := K) (S := S) hcx hr
        simp only [evCode] at hv
        split at hv
        · rename_i hb1
          rw [hb1] at hC
          refine wpIn_cond_true ?_ (ih m (by omega) _ _ K S e a d w _ _ _ _ ha h hr hd hv)
          generalize a.eval _ = v at hC ⊢
          cases hC; rfl
        · rename_i hb1
          rw [hb1] at hC
          refine wpIn_cond_false ?_ (ih m (by omega) _ _ K S e a d w _ _ _ _ hb h hr hd hv)
          generalize a.eval _ = v at hC ⊢
          cases hC; rfl
        · cases hv
      | block id ha =>
        simp only [evCode] at hv
        refine wpIn_block ?_
        split at hv
        · rename_i id' e1 S1 d1 h1
          refine Code.wpIn_mono (fun ex a1 w1 hq => ?_) (ih m (by omega) _ _ K S e a d w _ _ _ _ ha h hr hd h1)
          obtain ⟨rfl, hq⟩ := hq
          simp only [IX.out, Exit.inBlock]
          split at hv
          · rename_i hid
            obtain ⟨rfl, rfl, rfl, rfl⟩ := one hv
            rw [if_pos hid]; exact ⟨rfl, hq⟩
          · rename_i hid
            obtain ⟨rfl, rfl, rfl, rfl⟩ := one hv
            rw [if_neg hid]; exact ⟨rfl, hq⟩
        · rename_i hne
          refine Code.wpIn_mono (fun ex a1 w1 hq => ?_) (ih m (by omega) _ _ K S e a d w _ _ _ _ ha h hr hd hv)
          obtain ⟨rfl, hq⟩ := hq
          cases x with
          | normal => exact ⟨rfl, hq⟩
          | exit id' => exact absurd hv (hne _ _ _ _)
          | ret => exact ⟨rfl, hq⟩
          | goto l => exact ⟨rfl, hq⟩
      | loop l ha =>
        rename_i ca ia
        refine wpIn_loop_idx (fun j a1 w1 => j ≤ m + 1 ∧ ∃ K1 S1 e1 d1, ER K1 S1 nt e1 a1 ∧ DR K1 S1 d1 a1.defers ∧ Sim base w0 K1 S1 w1 ∧ Stp K S w K1 S1 w1 ∧ evCode O rd.isSome j (.loop l ia) e1 S1 d1 = some (x, e', S', d')) (j := m + 1)
          ⟨Nat.le_refl _, K, S, e, d, hr, hd, h, .refl K S w, hv⟩ fun j a1 w1 hI => ?_
        obtain ⟨hj, K1, S1, e1, d1, q1, q2, q3, q4, q5⟩ := hI
        cases j with
        | zero => simp [evCode] at q5
        | succ j =>
          simp only [evCode] at q5
          split at q5
          · rename_i e2 S2 d2 h2
            refine Code.wpIn_mono (fun ex a2 w2 hq => ?_) (ih j (by omega) _ _ K1 S1 (keepE e1 l) a1 d1 w1 _ _ _ _ ha q3 (q1.keep l) q2 h2)
            obtain ⟨rfl, K2, r1, r2, r3, r4⟩ := hq
            exact ⟨j, by omega, by omega, K2, S2, e2, d2, r1, r2, r3, q4.trans r4, q5⟩
          · rename_i hne
            refine Code.wpIn_mono (fun ex a2 w2 hq => ?_) (ih j (by omega) _ _ K1 S1 (keepE e1 l) a1 d1 w1 _ _ _ _ ha q3 (q1.keep l) q2 q5)
            obtain ⟨hx1, hq2⟩ := hq.trans q4
            subst hx1
            cases x with
            | normal => exact absurd q5 (hne _ _ _)
            | exit id => exact ⟨rfl, hq2⟩
            | ret => exact ⟨rfl, hq2⟩
            | goto l => exact ⟨rfl, hq2⟩
      | exit id =>
        obtain ⟨rfl, rfl, rfl, rfl⟩ := one hv
        exact wpIn_exit ⟨rfl, K, hr, hd, h, .refl K S w⟩
      | ret =>
        obtain ⟨rfl, rfl, rfl, rfl⟩ := one hv
        exact wpIn_ret ⟨rfl, K, hr, hd, h, .refl K S w⟩
      | goto l =>
        obtain ⟨rfl, rfl, rfl, rfl⟩ := one hv
        exact wpIn_goto ⟨rfl, K, hr, hd, h, .refl K S w⟩
      | scope l lab hf ha hb =>
        rename_i ca cb ia ib
        have hng := scope_no_goto _ _ _ _ _ _ _ _ _ _ _ _ hv
        simp only [evCode] at hv
        refine wpIn_scope_idx lab hf (fun j a1 w1 => j ≤ m ∧ ∃ K1 S1 e1 d1, ER K1 S1 nt e1 a1 ∧ DR K1 S1 d1 a1.defers ∧ Sim base w0 K1 S1 w1 ∧ Stp K S w K1 S1 w1 ∧ evCode O rd.isSome j (.scope l ib lab ib) e1 S1 d1 = some (x, e', S', d')) ?_ (fun j a1 w1 hI => ?_) (fun g a1 w1 hq => ?_)
        · split at hv
          · rename_i g e1 S1 d1 h1
            split at hv
            · rename_i hg
              subst hg
              refine Code.wpIn_mono (fun ex a1 w1 hq => ?_) (ih m (by omega) _ _ K S e a d w _ _ _ _ ha h hr hd h1)
              obtain ⟨rfl, K1, q1, q2, q3, q4⟩ := hq
              exact ⟨rfl, m, Nat.le_refl _, K1, S1, keepE e1 l, d1, q1.keep l, q2, q3, q4, hv⟩
            · cases hv
          · rename_i hne
            refine Code.wpIn_mono (fun ex a1 w1 hq => ?_) (ih m (by omega) _ _ K S e a d w _ _ _ _ ha h hr hd hv)
            obtain ⟨rfl, hq⟩ := hq
            cases x with
            | normal => exact ⟨rfl, hq⟩
            | exit id => exact ⟨rfl, hq⟩
            | ret => exact ⟨rfl, hq⟩
            | goto g => exact absurd rfl (hng g)
        · obtain ⟨hj, K1, S1, e1, d1, q1, q2, q3, q4, q5⟩ := hI
          cases j with
          | zero => simp [evCode] at q5
          | succ j =>
            simp only [evCode] at q5
            split at q5
            · rename_i g e2 S2 d2 h2
              split at q5
              · rename_i hg
                subst hg
                refine Code.wpIn_mono (fun ex a2 w2 hq => ?_) (ih j (by omega) _ _ K1 S1 e1 a1 d1 w1 _ _ _ _ hb q3 q1 q2 h2)
                obtain ⟨rfl, K2, r1, r2, r3, r4⟩ := hq
                exact ⟨rfl, j, by omega, by omega, K2, S2, keepE e2 l, d2, r1.keep l, r2, r3, q4.trans r4, q5⟩
              · cases q5
            · rename_i hne
              refine Code.wpIn_mono (fun ex a2 w2 hq => ?_) (ih j (by omega) _ _ K1 S1 e1 a1 d1 w1 _ _ _ _ hb q3 q1 q2 q5)
              obtain ⟨hx1, hq2⟩ := hq.trans q4
              subst hx1
              cases x with
              | normal => exact ⟨rfl, hq2⟩
              | exit id => exact ⟨rfl, hq2⟩
              | ret => exact ⟨rfl, hq2⟩
              | goto g => exact absurd rfl (hng g)
        · have := hq.1
          cases x <;> first | (simp [IX.out] at this; done) | (rename_i g'; exact hng g' rfl)
      | live l hc =>
        simp only [evCode] at hv
        exact ih m (by omega) _ _ K S (keepE e l) a d w _ _ _ _ hc h (hr.keep l) hd hv
      | rf f path keep hg hL => exact rf_ok hO hg hL h hr hd hv
end
end Go.Proofs.YtmolaemlenllmaaGreat

namespace Go.Proofs.YtmolaemlenllmaaGreat
set_option linter.unusedSimpArgs false
set_option linter.unusedVariables false
open Go.RowKit

section
variable {P : Program} {base : Bs} {w0 : World} {K : Ctx} {S : Mem} {w : World} {O : Orc}

/-! ### What the compiler gives -/
theorem sub_append : ∀ (p r : List Bool) (c : Code), sub c (p ++ r) = (sub c p).bind fun d => sub d r
  | [], r, c => by simp [sub]
  | x :: p, r, c => by
    cases c <;> simp only [List.cons_append, sub, Option.bind_none] <;> first | rfl | exact sub_append p r _

theorem sub_snoc {root c : Code} {q : List Bool} (h : sub root q.reverse = some c) (x : Bool) : sub root (x :: q).reverse = sub c [x] := by
  rw [List.reverse_cons, sub_append, h]; rfl

theorem compCode_ok {f : Nat} {fn : Func} {root : Code} (hf : P.funcs[f]? = some fn) (hb : fn.body = some root) (c : Code) : ∀ (path : Option (List Bool)), (∀ q, path = some q → sub root q.reverse = some c) → CodeR P (lamOf P) fn.ntmps c (compCode P f fn.ntmps path c) := by
  have step : ∀ {c d : Code} {path : Option (List Bool)} (x : Bool), (∀ q, path = some q → sub root q.reverse = some c) → sub c [x] = some d → ∀ q, path.map (x :: ·) = some q → sub root q.reverse = some d := by
    intro c d path x h hd q hq
    obtain ⟨q', rfl, rfl⟩ := Option.map_eq_some_iff.1 hq
    rw [sub_snoc (h q' rfl), hd]
  induction c with
  | skip => intro path _; exact .skip
  | label l => intro path _; exact .label l
  | region id ops dr =>
    intro path _
    simp only [compCode]
    split
    · rename_i l hm
      cases dr with
      | true =>
        simp only [if_true]
        split
        · rename_i hp; exact .draw id ops l _ hm hp
        · exact .bad _
      | false =>
        simp only [Bool.false_eq_true, if_false]
        split
        · rename_i hd; exact .region id ops l hm hd
        · exact .bad _
    · exact .bad _
  | seq a b iha ihb =>
    intro path h
    exact .seq (iha _ (step false h (by simp [sub]))) (ihb _ (step true h (by simp [sub])))
  | cond c a b iha ihb =>
    intro path h
    simp only [compCode]
    split
    · rename_i x hx
      exact .cond hx (iha _ (step false h (by simp [sub]))) (ihb _ (step true h (by simp [sub])))
    · exact .bad _
  | block id a iha => intro path h; exact .block id (iha _ (step false h (by simp [sub])))
  | loop a iha => intro path h; exact .loop [] (iha _ (step false h (by simp [sub])))
  | exit id => intro path _; exact .exit id
  | ret => intro path _; exact .ret
  | goto l => intro path _; exact .goto l
  | rangeFunc g ps a b iha ihb =>
    intro path h
    simp only [compCode]
    split
    · rename_i x q hx
      have hq := h q rfl
      exact .rf f q.reverse _ hx (by simp [lamOf, hf, hb, hq])
    · exact .bad _
  | _ => intro path _; exact .bad _

theorem compTop_ok {f : Nat} {fn : Func} {root : Code} (hf : P.funcs[f]? = some fn) (hb : fn.body = some root) (c : Code) : ∀ (path : Option (List Bool)), (∀ q, path = some q → sub root q.reverse = some c) → CodeR P (lamOf P) fn.ntmps c (compTop P f fn.ntmps path c) := by
  have step : ∀ {c d : Code} {path : Option (List Bool)} (x : Bool), (∀ q, path = some q → sub root q.reverse = some c) → sub c [x] = some d → ∀ q, path.map (x :: ·) = some q → sub root q.reverse = some d := by
    intro c d path x h hd q hq
    obtain ⟨q', rfl, rfl⟩ := Option.map_eq_some_iff.1 hq
    rw [sub_snoc (h q' rfl), hd]
  induction c with
  | seq a b iha ihb =>
    intro path h
    exact .seq (iha _ (step false h (by simp [sub]))) (ihb _ (step true h (by simp [sub])))
  | block id a iha => intro path h; exact .block id (iha _ (step false h (by simp [sub])))
  | scope c _ =>
    intro path h
    simp only [compTop]
    split
    · rename_i lab hl
      split
      · rename_i k hk
        exact .scope [] lab hk (compCode_ok hf hb c none (fun q hq => by cases hq)) (compCode_ok hf hb k none (fun q hq => by cases hq))
      · exact .bad _
    · exact .bad _
  | _ => intro path h; exact compCode_ok hf hb _ path h

theorem strip_ok {Λ : Nat → List Bool → Option (Array Tmp × Code × Code × Nat)} {nt : Nat} : ∀ (ic : ICode) (c : Code), CodeR P Λ nt c (strip ic) → CodeR P Λ nt c ic := by
  intro ic
  induction ic with
  | seq a b iha ihb => intro c h; simp only [strip] at h; cases h with | seq ha hb => exact .seq (iha _ ha) (ihb _ hb)
  | cond x a b iha ihb => intro c h; simp only [strip] at h; cases h with | cond hc ha hb => exact .cond hc (iha _ ha) (ihb _ hb)
  | block id a iha => intro c h; simp only [strip] at h; cases h with | block _ ha => exact .block id (iha _ ha)
  | loop l a iha => intro c h; simp only [strip] at h; cases h with | loop _ ha => exact .loop l (iha _ ha)
  | scope l a lab b iha ihb => intro c h; simp only [strip] at h; cases h with | scope _ _ hf ha hb => exact .scope l lab hf (iha _ ha) (ihb _ hb)
  | live l a iha => intro c h; simp only [strip] at h; exact .live l (iha _ h)
  | _ => intro c h; exact h

/-- What is known of a compiled function. -/
structure FuncF (P : Program) (f : Nat) (F : IFunc) : Prop where
  out : ∃ fn c, P.funcs[f]? = some fn ∧ fn.body = some c ∧ enterable P f = true ∧ F.nparams ≤ fn.ntmps ∧ fn.results.toList.mapM (compRes P) = some F.results ∧ CodeR P (lamOf P) fn.ntmps c F.body ∧
    ∀ path ps ia ib, (path, ps, ia, ib) ∈ F.loops → ∃ qs a b, lamOf P f path = some (qs, a, b, fn.ntmps) ∧ qs.toList = ps ∧ (∀ t ∈ ps, t < fn.ntmps) ∧ CodeR P (lamOf P) fn.ntmps a ia ∧ CodeR P (lamOf P) fn.ntmps b ib

theorem compFunc_ok0 {f : Nat} {F : IFunc} (h : compFunc P f = some F) : FuncF P f F := by
  unfold compFunc at h
  split at h
  · cases h
  · rename_i fn hf
    split at h
    · cases h
    · rename_i c hb
      split at h
      · rename_i hen
        simp only [Bool.and_eq_true, decide_eq_true_eq] at hen
        split at h
        · rename_i rs hrs
          injection h with h
          subst h
          refine ⟨fn, c, hf, hb, hen.1, hen.2, hrs, compTop_ok hf hb c (some []) (fun q hq => by injection hq with hq; subst hq; rfl), fun path ps ia ib hm => ?_⟩
          simp only [List.mem_filterMap] at hm
          obtain ⟨p, _, hp⟩ := hm
          unfold compLoop at hp
          split at hp
          · rename_i g qs a b hs
            split at hp
            · rename_i hlt
              simp only [Option.some.injEq, Prod.mk.injEq] at hp
              obtain ⟨rfl, rfl, rfl, rfl⟩ := hp
              refine ⟨qs, a, b, by simp [lamOf, hf, hb, hs], rfl, fun t ht => by simpa using List.all_eq_true.1 hlt t ht, compCode_ok hf hb a none (fun q hq => by cases hq), compCode_ok hf hb b none (fun q hq => by cases hq)⟩
            · cases hp
          · cases hp
        · cases h
      · cases h

/-- Whatever is noted. -/
theorem compFunc_ok {f : Nat} {F : IFunc} (h : compFunc P f = some (stripF F)) : FuncF P f F := by
  obtain ⟨fn, c, h1, h2, h3, h4, h5, h6, h7⟩ := (compFunc_ok0 h).out
  refine ⟨fn, c, h1, h2, h3, h4, h5, strip_ok _ _ h6, fun path ps ia ib hm => ?_⟩
  obtain ⟨qs, a, b, g1, g2, g3, g4, g5⟩ := h7 path ps (strip ia) (strip ib) (List.mem_map.2 ⟨_, hm, rfl⟩)
  exact ⟨qs, a, b, g1, g2, g3, strip_ok _ _ g4, strip_ok _ _ g5⟩

/-! ### Results -/
theorem run_loadVar (h : Sim base w0 K S w) {t : TypeId} {n : Option Nat} {x y : AV} {v : Value} (hs : shapeOf P t = some n) (hx : VR K S x v) (hl : ldCells S n x = some y) : ∃ r, (do loadVar t (← asAddr v) : Sem Value).run P w = .ok r w ∧ VR K S y r := by
  unfold shapeOf at hs
  split at hs
  · rename_i d inf hd hinf
    injection hs with hs
    unfold ldCells at hl
    split at hl
    · rename_i i off ver
      split at hl
      · rename_i n'
        obtain ⟨xs, hxs, rfl⟩ := Option.map_eq_some_iff.1 hl
        obtain ⟨B, hB, hv⟩ := rowAt_ver hxs
        obtain rfl := hx.addr hB hv
        obtain ⟨hlen, g, hg, hV⟩ := rowAt_ok h hxs
        have hagg : aggB d = true := by
          cases e : aggB d with
          | true => rfl
          | false => rw [e] at hs; cases hs
        simp only [hagg, if_true, Option.some.injEq] at hs
        subst hs
        exact ⟨_, by simp [asAddr, loadVar, run_isAgg' hd, hagg, run_sizeOf' hinf, run_loadCells w _ _ g hg], VR.agg hlen hV⟩
      · have hagg : aggB d = false := by
          cases e : aggB d with
          | false => rfl
          | true => rw [e] at hs; cases hs
        split at hl
        · rename_i z hz
          injection hl with hl
          subst hl
          obtain ⟨B, hB, hv⟩ := rowAt_ver hz
          obtain rfl := hx.addr hB hv
          obtain ⟨hlen, g, hg, hV⟩ := rowAt_ok h hz
          have hg0 := hg 0 (by omega)
          have hV0 := hV 0 (by omega)
          have hadd : (⟨K.μ i, off, none⟩ : Addr).add 0 = ⟨K.μ i, off, none⟩ := rfl
          rw [hadd] at hg0
          exact ⟨g 0, by simp [asAddr, loadVar, run_isAgg' hd, hagg, hg0], by simpa using hV0⟩
        · cases hl
    · cases hl
  · cases hs

theorem run_results1 (h : Sim base w0 K S w) {nt : Nat} {e : Env} {a : Act} (hr : ER K S nt e a) (fm : ResultVar → Sem Value) (hfm : ∀ t, fm (.tmp t) = pure (a.tmps.getD t undef)) (hfc : ∀ c t, fm (.cell c t) = (do loadVar t (← asAddr (a.tmps.getD c undef)))) : ∀ (l : List ResultVar) (rs : List IR) (xs : List AV), l.mapM (compRes P) = some rs → evResults e S rs = some xs →
    ∃ vs, (l.mapM fm).run P w = .ok vs w ∧ ArgsR K S xs vs
  | [], rs, xs, hm, hv => by
    simp at hm; subst hm
    simp only [evResults, Option.some.injEq] at hv
    subst hv
    exact ⟨[], by simp, rfl, fun k hk => by simp at hk⟩
  | r :: l, rs, xs, hm, hv => by
    simp only [List.mapM_cons, Option.bind_eq_bind, Option.bind_eq_some_iff, Option.pure_def, Option.some.injEq] at hm
    obtain ⟨ir, hir, rs', hrs, rfl⟩ := hm
    simp only [evResults] at hv
    split at hv
    · rename_i x xs' hx hxs
      injection hv with hv; subst hv
      obtain ⟨vs, hvs, hA⟩ := run_results1 h hr fm hfm hfc l rs' xs' hrs hxs
      have one : ∃ v, (fm r).run P w = .ok v w ∧ VR K S x v := by
        cases r with
        | tmp t =>
          simp only [compRes, Option.some.injEq] at hir; subst hir
          simp only [evRes, Option.some.injEq] at hx; subst hx
          exact ⟨_, by rw [hfm]; simp, hr.slot t⟩
        | cell c t =>
          obtain ⟨n, hn, rfl⟩ := Option.map_eq_some_iff.1 hir
          simp only [evRes] at hx
          rw [hfc]
          exact run_loadVar h hn (hr.slot c) hx
      obtain ⟨v, hv1, hV⟩ := one
      refine ⟨v :: vs, ?_, ⟨by simp [hA.1], fun k hk hk' => ?_⟩⟩
      · rw [List.mapM_cons]
        simp only [Sem.run_bind, hv1, Result.andThen_ok, hvs, Sem.run_pure]
      · cases k with
        | zero => exact hV
        | succ k => exact hA.2 k (by simpa using hk) (by simpa using hk')
    · cases hv

theorem run_results (h : Sim base w0 K S w) {nt : Nat} {e : Env} {a : Act} (hr : ER K S nt e a) {fn : Func} {rs : List IR} {xs : List AV} (hm : fn.results.toList.mapM (compRes P) = some rs) (hv : evResults e S rs = some xs) :
    ∃ v, (results fn a.tmps).run P w = .ok v w ∧ VR K S (resV xs) v := by
  have key : ∀ fm : ResultVar → Sem Value, (∀ t, fm (.tmp t) = pure (a.tmps.getD t undef)) → (∀ c t, fm (.cell c t) = (do loadVar t (← asAddr (a.tmps.getD c undef)))) →
      ∃ v, (do let vs ← List.toArray <$> fn.results.toList.mapM fm; pure (if h : vs.size = 1 then vs[0] else .tuple vs) : Sem Value).run P w = .ok v w ∧ VR K S (resV xs) v := by
    intro fm h1 h2
    obtain ⟨vs, hvs, hA⟩ := run_results1 h hr fm h1 h2 fn.results.toList rs xs hm hv
    refine ⟨if h : vs.toArray.size = 1 then vs.toArray[0] else .tuple vs.toArray, by simp only [Sem.run_bind, map_eq_pure_bind, hvs, Result.andThen_ok, Sem.run_pure], ?_⟩
    have hl := hA.1
    by_cases h1 : vs.toArray.size = 1
    · rw [dif_pos h1]
      have h2 : vs.length = 1 := by simpa using h1
      obtain ⟨v, rfl⟩ := (two h2).1 rfl
      obtain ⟨x, rfl⟩ := (two hl).1 rfl
      exact hA.2 0 (by simp) (by simp)
    · rw [dif_neg h1]
      have h2 : xs.length ≠ 1 := by rw [hl]; simpa using h1
      have : resV xs = .tu xs := by
        match xs, h2 with
        | [], _ => rfl
        | _ :: _ :: _, _ => rfl
      rw [this]
      exact .tu _ _ (by simp [hl]) fun k => by
        have := hA.getD k
        rw [← toList_getD]; simpa using this
  unfold results
  rw [Array.mapM_eq_mapM_toList]
  exact key _ (fun _ => rfl) (fun _ _ => rfl)

theorem leave_ok {fn : Func} {tmps : Array Value} {R : Ending → World → Prop} : ∀ (d : List Nat) (ds : List Deferred) (S S' : Mem) (w : World), DR K S d ds → Sim base w0 K S w → evLeave d S = some S' →
    (∀ w', Sim base w0 K S' w' → Stp K S w K S' w' → ∃ v, (results fn tmps).run P w' = .ok v w' ∧ R (.returned v) w') → LeavesInM (FW none) 0 P fn tmps R ds .returning w
  | [], [], S, S', w, _, h, hv, hK => by
    simp only [evLeave, Option.some.injEq] at hv
    subst hv
    exact hK w h (.refl K S w)
  | i :: d, x :: ds, S, S', w, hD, h, hv, hK => by
    obtain ⟨⟨r, rfl, hV⟩, hD⟩ := hD
    simp only [evLeave] at hv
    split at hv
    · rename_i hB
      have hr := hV.m_at hB rfl
      obtain ⟨h1, h2⟩ := h.blk i _ hB
      obtain ⟨s1, t1⟩ := h.putObj (B' := .dfr false) (o := .deferred none) hB rfl rfl rfl fun S'' w'' hE he => ⟨he, h2⟩
      refine ⟨by simp, .inl ⟨r, w.putObj r (.deferred none), rfl, run_takeDeferred (by rw [hr]; exact h1), ?_⟩⟩
      rw [hr]
      exact leave_ok d ds _ S' _ (hD.mono t1.ext) s1 hv fun w' a b => hK w' a (t1.trans b)
    · cases hv
  | [], _ :: _, _, _, _, hD, _, _, _ => hD.elim
  | _ :: _, [], _, _, _, hD, _, _, _ => hD.elim

theorem argsE_get : ∀ (xs : List AV) (k t : Nat), (argsE k xs).get t = if k ≤ t then xs.getD (t - k) .u else .u
  | [], k, t => by simp [argsE, Env.get]
  | x :: xs, k, t => by
    rw [argsE]
    by_cases h : k = t
    · subst h
      rw [get_put_same]; simp
    · rw [get_put_ne _ _ h, argsE_get xs (k + 1) t]
      by_cases h1 : k ≤ t
      · rw [if_pos h1, if_pos (by omega)]
        obtain ⟨j, hj⟩ : ∃ j, t - k = j + 1 := ⟨t - k - 1, by omega⟩
        rw [hj, show t - (k + 1) = j by omega]
        simp
      · rw [if_neg h1, if_neg (by omega)]

theorem func_ok (hO : OK P (lamOf P) O) (hmix : P.follows .mixedOrders = true) {f : FuncId} {F : IFunc} (hF : compFunc P f = some (stripF F)) {m : Nat} {args : List AV} {S : Mem} {x : AV} {S' : Mem} (hv : evFunc O m F args S = some (x, S')) :
    enterable P f = true ∧ ∀ (base : Bs) (w0 : World) (K : Ctx) (w : World) (vs : Array Value), base.Λ = lamOf P → ArgsR K S args vs.toList → Sim base w0 K S w → Calls P f vs w (Post base w0 K S w x S') := by
  obtain ⟨fn, c, hf, hb, hen, hnp, hres, hcode, _⟩ := (compFunc_ok hF).out
  refine ⟨hen, fun base w0 K w vs hΛ hA h => ?_⟩
  unfold evFunc at hv
  split at hv
  · rename_i hl
    split at hv
    · rename_i ix e S1 d hc
      split at hv
      · rename_i hix
        split at hv
        · rename_i S2 hlv
          split at hv
          · rename_i xs hxs
            simp only [Option.some.injEq, Prod.mk.injEq] at hv
            obtain ⟨rfl, rfl⟩ := hv
            have hsz : vs.size = F.nparams := by have := hA.1; rw [hl] at this; simpa using this.symm
            have hr : ER K S fn.ntmps (argsE 0 args) { tmps := vs ++ Array.replicate (fn.ntmps - vs.size) undef, defers := [] } := by
              refine ⟨by show (vs ++ Array.replicate (fn.ntmps - vs.size) undef).size = fn.ntmps; simp; omega, fun t => ?_⟩
              show VR K S _ ((vs ++ Array.replicate (fn.ntmps - vs.size) undef).getD t undef)
              rw [argsE_get, if_pos (Nat.zero_le _), Nat.sub_zero]
              by_cases ht : t < args.length
              · have := hA.getD t
                rw [toList_getD] at this
                have e1 : (vs ++ Array.replicate (fn.ntmps - vs.size) undef).getD t undef = vs.getD t undef := by
                  simp only [Array.getD_eq_getD_getElem?]
                  rw [Array.getElem?_append_left (by omega)]
                rw [e1]; exact this
              · have : args.getD t .u = .u := by simp [List.getD_eq_getElem?_getD, List.getElem?_eq_none (show args.length ≤ t by omega)]
                rw [this]; exact .u _
            rw [← hΛ] at hO hcode
            have hwp := code_ok (rd := none) (n := 0) (w0 := w0) hO hmix m c F.body K S _ _ [] w ix e S1 d hcode h hr trivial hc
            refine (callsIn_wide (n := 0)).1 ?_
            show CallsIn (FW none) 0 P f vs w _
            refine callsIn_of_wp_marks hf hb trivial ?_ rfl
            refine Code.wpIn_mono (fun ex a1 w1 hq => ?_) hwp
            obtain ⟨rfl, K1, q1, q2, q3, q4⟩ := hq
            have key : LeavesInM (FW none) 0 P fn a1.tmps (Post base w0 K S w (resV xs) S2) a1.defers .returning w1 := by
              refine leave_ok d a1.defers S1 S2 w1 q2 q3 hlv fun w2 s2 t2 => ?_
              obtain ⟨v, hv1, hV⟩ := run_results s2 (q1.mono t2.ext) hres hxs
              exact ⟨v, hv1, K1, v, rfl, hV, s2, q4.trans t2⟩
            cases ix with
            | normal => exact key
            | ret => exact key
            | exit id => cases hix
            | goto l => cases hix
          · cases hv
        · cases hv
      · cases hv
    · cases hv
  · cases hv
end
end Go.Proofs.YtmolaemlenllmaaGreat

namespace Go.Proofs.YtmolaemlenllmaaGreat
set_option linter.unusedSimpArgs false
set_option linter.unusedVariables false
open Go.RowKit

section
variable {P : Program} {K : Ctx} {S : Mem} {w : World} {O : Orc}

theorem ER.binds {K : Ctx} {S : Mem} {nt : Nat} : ∀ (ps : List Nat) (xs : List AV) (vs : List Value) (e : Env) (tmps : Array Value) (ds : List Deferred), ps.length = xs.length → ArgsR K S xs vs → (∀ t ∈ ps, t < nt) → ER K S nt e ⟨tmps, ds⟩ →
    ER K S nt (bindE ps xs e) ⟨(ps.zip vs).foldl (fun tmps p => tmps.setIfInBounds p.1 p.2) tmps, ds⟩
  | [], xs, vs, e, tmps, ds, hl, hA, _, hr => by
    have e1 : xs = [] := List.length_eq_zero_iff.1 (by simpa using hl.symm)
    subst e1
    simpa [bindE] using hr
  | p :: ps, x :: xs, v :: vs, e, tmps, ds, hl, hA, hlt, hr => by
    have hx : VR K S x v := hA.2 0 (by simp) (by simp)
    have := ER.binds ps xs vs ((p, x) :: e) (tmps.setIfInBounds p v) ds (by simpa using hl) ⟨by have := hA.1; simpa using this, fun k h1 h2 => hA.2 (k + 1) (by simp; omega) (by simp; omega)⟩ (fun t ht => hlt t (by simp [ht])) (hr.put hx p (hlt p (by simp)))
    simpa [bindE] using this
  | _ :: _, [], _, _, _, _, hl, _, _, _ => by simp at hl
  | _ :: _, _ :: _, [], _, _, _, _, hA, _, _ => by have := hA.1; simp at this

theorem round_ok (hO : OK P (lamOf P) O) (hmix : P.follows .mixedOrders = true) {T : FuncId → Option IFunc} (hT : ∀ f F, T f = some F → compFunc P f = some (stripF F)) {m i : Nat} {args : List AV} {S : Mem} {x : AV} {S' : Mem} (hv : evRound O m T i args S = some (x, S'))
    (base : Bs) (w0 : World) (K : Ctx) (w : World) (l : Nat) (vs : Array Value) (hΛ : base.Λ = lamOf P) (hy : VR K S (.y i) (.func (.yield l) #[] #[])) (hA : ArgsR K S args vs.toList) (h : Sim base w0 K S w) :
    ∃ f tmps assign body, (Instr.yield l vs).run P w = .ok (.round l f tmps assign body) w ∧ ∀ n, RoundIn Fence.wide n P l f tmps assign body w (Post base w0 K S w x S') := by
  unfold evRound at hv
  split at hv
  · rename_i f path env st0 pe0 hB
    split at hv
    · rename_i F hF
      split at hv
      · rename_i path' ps ia ib hfind
        split at hv
        · rename_i hlen
          split at hv
          · rename_i e1 S1 h1
            split at hv
            · rename_i f1 p1 env1 pe1 hB1
              split at hv
              · rename_i ix e2 S2 d2 h2
                split at hv
                · rename_i f2 p2 env2 st2 pe2 hB2
                  simp only [Option.some.injEq, Prod.mk.injEq] at hv
                  obtain ⟨rfl, rfl⟩ := hv
                  -- the record
                  have hl : l = K.μ i := by
                    cases hy with
                    | y _ _ B hB' hr => rw [hB] at hB'; obtain rfl := Option.some.inj hB'; exact hr rfl
                  obtain ⟨r, hh, hr1, hr2, hr3, hr4, hr5⟩ := h.blk _ _ hB
                  rw [← hl] at hh hr4
                  rw [hΛ] at hr1
                  obtain ⟨fn, c, _, _, _, _, _, _, hloops⟩ := (compFunc_ok (hT f F hF)).out
                  have hmem := List.mem_of_find?_eq_some hfind
                  have hpath : path' = path := by have := List.find?_some hfind; simpa using this
                  subst hpath
                  obtain ⟨qs, a, b, q1, q2, q3, q4, q5⟩ := hloops _ _ _ _ hmem
                  rw [q1] at hr1
                  simp only [Option.some.injEq, Prod.mk.injEq] at hr1
                  obtain ⟨rfl, rfl, rfl, hsz⟩ := hr1
                  have hvl : vs.size = r.params.size := by
                    have h1 := hA.1
                    have h2 : r.params.size = ps.length := by rw [← q2]; simp
                    rw [h2, ← hlen]; simpa using h1.symm
                  refine ⟨r.fn, _, r.assign, r.body, run_yield hh hvl, fun n => ?_⟩
                  have hr0 : ER K S fn.ntmps env ⟨r.tmps, []⟩ := ⟨hsz.symm, hr5⟩
                  have hr1 := ER.binds ps args vs.toList env r.tmps [] hlen.symm hA q3 hr0
                  have hz : (r.params.zip vs).foldl (fun tmps (t, a) => tmps.setIfInBounds t a) r.tmps = (ps.zip vs.toList).foldl (fun tmps p => tmps.setIfInBounds p.1 p.2) r.tmps := by
                    rw [← Array.foldl_toList, Array.toList_zip, q2]
                  rw [hz]
                  rw [← hΛ] at hO q4 q5
                  have w1 := code_ok (rd := some l) (n := n) (w0 := w0) hO hmix m r.assign ia K S _ _ [] w _ _ _ _ q4 h hr1 trivial h1
                  refine roundIn_of_wpIn (F := Fence.wide) trivial (Code.wpIn_mono (fun ex a1 w1 hq => ?_) w1)
                  obtain ⟨rfl, K1, g1, g2, g3, g4⟩ := hq
                  have hμ1 : K1.μ i = l := by
                    obtain ⟨B', hB', _, hs⟩ := g4.ext.blk _ _ hB
                    rw [hB1] at hB'; obtain rfl := Option.some.inj hB'
                    rw [(hs rfl).1, hl]
                  obtain ⟨r1, k1, k2, k3, k4, k5, k6⟩ := g3.blk _ _ hB1
                  rw [hμ1] at k1 k5
                  obtain ⟨s2, t2⟩ := g3.putObj (B' := .loop f1 p1 env1 .busy pe1) (o := .loop { r1 with state := .busy }) hB1 rfl rfl rfl fun S'' w'' hE he => ⟨{ r1 with state := .busy }, he, k2, rfl, k4, by rw [hμ1]; exact k5, fun t => (k6 t).mono hE⟩
                  rw [hμ1] at s2 t2
                  refine ⟨_, run_beginRound k1 k3, ?_⟩
                  have w2 := code_ok (rd := some l) (n := n) (w0 := w0) hO hmix m r.body ib K1 (S1.set i (.loop f1 p1 env1 .busy pe1)) e1 a1 [] _ _ _ _ _ q5 s2 (g1.mono t2.ext) (g2.mono t2.ext) h2
                  refine Code.wpIn_mono (fun ex a2 w3 hq => ?_) w2
                  obtain ⟨rfl, K2, j1, j2, j3, j4⟩ := hq
                  have hat2 : (S1.set i (.loop f1 p1 env1 .busy pe1))[i]? = some (.loop f1 p1 env1 .busy pe1) := by
                    have := (List.getElem?_eq_some_iff.1 hB1).1
                    simp [this]
                  have hμ2 : K2.μ i = l := by
                    obtain ⟨B', hB', _, hs⟩ := j4.ext.blk _ _ hat2
                    rw [hB2] at hB'; obtain rfl := Option.some.inj hB'
                    rw [(hs rfl).1, hμ1]
                  obtain ⟨r2, n1, n2, n3, n4, n5, n6⟩ := j3.blk _ _ hB2
                  rw [hμ2] at n1 n5
                  have fin : ∀ (jp : Option Jump) (cd : Option Code), cd = jp.map Jump.code → ixJump ix = jp → ∃ v w', (Instr.endRound l cd).run P w3 = .ok v w' ∧
                      Post base w0 K S w (.b (ixJump ix).isNone) (S2.set i (.loop f2 p2 env2 (if (ixJump ix).isNone then .ready else .done) (ixJump ix))) (.returned v) w' := by
                    intro jp cd hcd hjp
                    rw [hjp]
                    have hcn : cd.isNone = jp.isNone := by rw [hcd]; cases jp <;> rfl
                    obtain ⟨s3, t3⟩ := j3.putObj (B' := .loop f2 p2 env2 (if jp.isNone then .ready else .done) jp) (o := .loop { r2 with state := if cd.isNone then .ready else .done, pending := cd }) hB2 rfl rfl rfl fun S'' w'' hE he =>
                      ⟨{ r2 with state := if cd.isNone then .ready else .done, pending := cd }, he, n2, by simp only [hcn], hcd, by rw [hμ2]; exact n5, fun t => (n6 t).mono hE⟩
                    rw [hμ2] at s3 t3
                    refine ⟨_, _, run_endRound cd n1, K2, .bool cd.isNone, rfl, ?_, s3, ((g4.trans t2).trans j4).trans t3⟩
                    rw [hcn]; exact .b _
                  cases ix with
                  | normal => exact fin none none rfl rfl
                  | ret => exact fin (some .ret) (some .ret) rfl rfl
                  | exit id => exact fin (some (.exit id)) (some (.exit id)) rfl rfl
                  | goto g => exact fin (some (.goto g)) (some (.goto g)) rfl rfl
                · cases hv
              · cases hv
            · cases hv
          · cases hv
        · cases hv
      · cases hv
    · cases hv
  · cases hv

/-- Nothing is known of the memory; it is not touched. -/
theorem Sim.start (Λ : Nat → List Bool → Option (Array Tmp × Code × Code × Nat)) (w : World) (hd : Door w.heap.size w) : Sim ⟨w.heap.size, Λ⟩ w ⟨fun _ => 0, fun _ => 0⟩ [] w :=
  ⟨fun i B h => by simp at h, fun i j h => by simp at h, Below.refl _ _, Nat.le_refl _, hd⟩

/-- It is 'true'. -/
def isTrue : Option (AV × Mem) → Bool
  | some (.b true, _) => true
  | _ => false

/-- A table of functions. -/
def look : List (Nat × IFunc) → Nat → Option IFunc
  | [], _ => none
  | (k, F) :: r, f => bif Nat.beq k f then some F else look r f
theorem look_ok : ∀ (l : List (Nat × IFunc)), (∀ p ∈ l, compFunc P p.1 = some (stripF p.2)) → ∀ f F, look l f = some F → compFunc P f = some (stripF F)
  | [], _, f, F, h => by cases h
  | (k, G) :: r, hl, f, F, h => by
    simp only [look] at h
    cases hb : Nat.beq k f with
    | true =>
      rw [hb] at h
      simp only [cond_true, Option.some.injEq] at h
      have := Nat.eq_of_beq_eq_true hb
      subst this; subst h
      exact hl (k, G) List.mem_cons_self
    | false =>
      rw [hb] at h
      exact look_ok r (fun p hp => hl p (by simp [hp])) f F h
end
end Go.Proofs.YtmolaemlenllmaaGreat

namespace Go.Proofs.YtmolaemlenllmaaGreat
set_option linter.unusedSimpArgs false
set_option linter.unusedVariables false
open Go.RowKit

abbrev Kont := IX → Env → Mem → List Nat → Prop

/-- Where code leads: 'S0' is the memory in which the function was entered. -/
def QP (base : Bs) (w0 : World) (nt : Nat) (K0 : Ctx) (S0 : Mem) (wE : World) (Q : Kont) : Exit → Act → World → Prop := fun ex a' w' =>
  ∃ x e' S' d' K', ex = x.out ∧ Q x e' S' d' ∧ ER K' S' nt e' a' ∧ DR K' S' d' a'.defers ∧ Sim base w0 K' S' w' ∧ Stp K0 S0 wE K' S' w'

def WP (P : Program) (S0 : Mem) (rd : Bool) (ic : ICode) (e : Env) (S : Mem) (d : List Nat) (Q : Kont) : Prop :=
  ∀ (nt : Nat) (c : Code) (base : Bs) (w0 : World) (r : Option Nat) (m : Nat) (K0 : Ctx) (wE : World) (K : Ctx) (a : Act) (w : World),
    base.Λ = lamOf P → r.isSome = rd → CodeR P (lamOf P) nt c ic → Sim base w0 K0 S0 wE → Sim base w0 K S w → ER K S nt e a → DR K S d a.defers → Stp K0 S0 wE K S w →
    c.wpIn (FW r) m P (QP base w0 nt K0 S0 wE Q) a w

section
variable {P : Program} {S0 : Mem} {rd : Bool} {e : Env} {S : Mem} {d : List Nat} {Q Q' : Kont}

theorem QP.mono {base : Bs} {w0 : World} {nt : Nat} {K0 : Ctx} {wE : World} (hQ : ∀ x e S d, Q x e S d → Q' x e S d) {ex : Exit} {a : Act} {w : World} (h : QP base w0 nt K0 S0 wE Q ex a w) : QP base w0 nt K0 S0 wE Q' ex a w :=
  let ⟨x, e', S', d', K', h1, h2, h3⟩ := h
  ⟨x, e', S', d', K', h1, hQ _ _ _ _ h2, h3⟩

theorem WP.mono {ic : ICode} (h : WP P S0 rd ic e S d Q) (hQ : ∀ x e S d, Q x e S d → Q' x e S d) : WP P S0 rd ic e S d Q' :=
  fun nt c base w0 r m K0 wE K a w h1 h2 h3 h4 h5 h6 h7 h8 => Code.wpIn_mono (fun _ _ _ => QP.mono hQ) (h nt c base w0 r m K0 wE K a w h1 h2 h3 h4 h5 h6 h7 h8)

/-- Behind the first of two. -/
def seqK (f : Env → Mem → List Nat → Kont → Prop) (Q : Kont) : Kont := fun x e S d => match x with
  | .normal => f e S d Q
  | x => Q x e S d
theorem seqK_normal (f : Env → Mem → List Nat → Kont → Prop) : seqK f Q .normal e S d = f e S d Q := (rfl)
theorem seqK_ret (f : Env → Mem → List Nat → Kont → Prop) : seqK f Q .ret e S d = Q .ret e S d := (rfl)
theorem seqK_exit (f : Env → Mem → List Nat → Kont → Prop) (id : Nat) : seqK f Q (.exit id) e S d = Q (.exit id) e S d := (rfl)
theorem seqK_goto (f : Env → Mem → List Nat → Kont → Prop) (l : Nat) : seqK f Q (.goto l) e S d = Q (.goto l) e S d := (rfl)

/-- Behind a block. -/
def blockK (id : Nat) (Q : Kont) : Kont := fun x e S d => match x with
  | .exit id' => if id' = id then Q .normal e S d else Q (.exit id') e S d
  | x => Q x e S d
theorem blockK_normal (id : Nat) : blockK id Q .normal e S d = Q .normal e S d := (rfl)
theorem blockK_ret (id : Nat) : blockK id Q .ret e S d = Q .ret e S d := (rfl)
theorem blockK_goto (id l : Nat) : blockK id Q (.goto l) e S d = Q (.goto l) e S d := (rfl)
theorem blockK_exit (id id' : Nat) : blockK id Q (.exit id') e S d = if id' = id then Q .normal e S d else Q (.exit id') e S d := (rfl)

/-- Behind a round of a loop. -/
def loopK (j : Nat) (I : Nat → Env → Mem → List Nat → Prop) (Q : Kont) : Kont := fun x e S d => match x with
  | .normal => ∃ j', j' < j ∧ I j' e S d
  | x => Q x e S d
theorem loopK_normal {j : Nat} {I : Nat → Env → Mem → List Nat → Prop} : loopK j I Q .normal e S d = ∃ j', j' < j ∧ I j' e S d := (rfl)
theorem loopK_ret {j : Nat} {I : Nat → Env → Mem → List Nat → Prop} : loopK j I Q .ret e S d = Q .ret e S d := (rfl)
theorem loopK_exit {j : Nat} {I : Nat → Env → Mem → List Nat → Prop} (id : Nat) : loopK j I Q (.exit id) e S d = Q (.exit id) e S d := (rfl)
theorem loopK_goto {j : Nat} {I : Nat → Env → Mem → List Nat → Prop} (l : Nat) : loopK j I Q (.goto l) e S d = Q (.goto l) e S d := (rfl)

/-- Behind a part of a scope. -/
def jumpK (lab : Nat) (R : Env → Mem → List Nat → Prop) (Q : Kont) : Kont := fun x e S d => match x with
  | .goto g => g = lab ∧ R e S d
  | x => Q x e S d
theorem jumpK_normal {lab : Nat} {R : Env → Mem → List Nat → Prop} : jumpK lab R Q .normal e S d = Q .normal e S d := (rfl)
theorem jumpK_ret {lab : Nat} {R : Env → Mem → List Nat → Prop} : jumpK lab R Q .ret e S d = Q .ret e S d := (rfl)
theorem jumpK_exit {lab : Nat} {R : Env → Mem → List Nat → Prop} (id : Nat) : jumpK lab R Q (.exit id) e S d = Q (.exit id) e S d := (rfl)
theorem jumpK_goto {lab : Nat} {R : Env → Mem → List Nat → Prop} (g : Nat) : jumpK lab R Q (.goto g) e S d = (g = lab ∧ R e S d) := (rfl)

/-- The second state stands for whatever the first stands for. -/
def Wk (S0 : Mem) (e : Env) (S : Mem) (e2 : Env) (S2 : Mem) : Prop :=
  ∀ (base : Bs) (w0 : World) (K0 : Ctx) (wE : World) (K : Ctx) (w : World), Sim base w0 K0 S0 wE → Sim base w0 K S w → Stp K0 S0 wE K S w →
    ∃ K2, Sim base w0 K2 S2 w ∧ (∀ t v, VR K S (e.get t) v → VR K2 S2 (e2.get t) v) ∧ Stp K0 S0 wE K2 S2 w

theorem Wk.refl (S0 : Mem) (e : Env) (S : Mem) : Wk S0 e S e S := fun _ _ _ _ K _ _ h2 h3 => ⟨K, h2, fun _ _ h => h, h3⟩

/-- What is known of a call. -/
def FnOK (P : Program) (f : FuncId) (args : List AV) (S : Mem) (x : AV) (S' : Mem) : Prop :=
  enterable P f = true ∧ ∀ (base : Bs) (w0 : World) (K : Ctx) (w : World) (vs : Array Value), base.Λ = lamOf P → ArgsR K S args vs.toList → Sim base w0 K S w → Calls P f vs w (Post base w0 K S w x S')

/-- Behind a function's body. -/
def retK (S0 : Mem) (rs : List IR) (R : AV → Mem → Prop) : Kont := fun ix e S1 d => isEnd ix = true ∧ ∃ S2 xs, evLeave d S1 = some S2 ∧ evResults e S2 rs = some xs ∧ R (resV xs) S2

/-- A function does what is specified. -/
def SpecOK (P : Program) (f : FuncId) (s : Spec) : Prop := ∀ args S x S', s args S = some (x, S') → FnOK P f args S x S'

end
end Go.Proofs.YtmolaemlenllmaaGreat

namespace Go.Proofs.YtmolaemlenllmaaGreat
set_option linter.unusedSimpArgs false
set_option linter.unusedVariables false
open Go.RowKit

/-! ### What reads goes on reading the same where memory has grown -/
/-- It looks at the memory. -/
def IO'.reads : IO' → Bool
  | .mv _ | .pick .. | .build .. | .nilck _ | .bin .. | .un .. | .toInt .. | .faddr .. | .fld .. | .iaddr .. | .ixa .. | .ixs .. | .sla .. | .sls .. | .ext .. | .mkf .. | .mm .. | .eqag .. | .same _ | .cap _ | .ixbyte .. => false
  | _ => true
def IOp.reads : IOp → Bool
  | .op io => io.reads
  | _ => true

def optD : Option ROp → List Nat
  | some o => dstL o
  | none => []
def nsD (l : List (ROp × Nat)) : List Nat := l.flatMap fun q => dstL q.1
def Stage.dsts (g : Stage) : List Nat := nsD g.ns ++ (optD g.a ++ optD g.m)
def stD (st : List Stage) : List Nat := st.flatMap Stage.dsts

/-- 'W': what is written already; 'rest': what is written later. -/
def opOk (late W rest : List Nat) (o : ROp) : Bool := o.use.all (fun t => if late.contains t then !W.contains t else !(dstL o ++ rest).contains t) && (dstL o).all fun d => !rest.contains d
def optOk (late W rest : List Nat) : Option ROp → Bool
  | some o => opOk late W rest o
  | none => true
def nsOk (late : List Nat) : List (ROp × Nat) → List Nat → List Nat → Bool
  | [], _, _ => true
  | q :: r, W, rest => opOk late W (nsD r ++ rest) q.1 && nsOk late r (dstL q.1 ++ W) rest
def stOk (late : List Nat) : List Stage → List Nat → Bool
  | [], _ => true
  | g :: r, W => nsOk late g.ns W (optD g.a ++ (optD g.m ++ stD r)) && optOk late (nsD g.ns ++ W) (optD g.m ++ stD r) g.a && optOk late (optD g.a ++ (nsD g.ns ++ W)) (stD r) g.m && stOk late r (g.dsts ++ W)

/-- The last stages of what reads, up to a stage. -/
def hisOf (g : Stage) : List Nat := (g.ns.filter fun q => q.1.io.reads).map (·.2)
/-- Must memory grow behind the stages? Where what reads ahead of it may come later, too. 's': the stage's number; 'acc': the last stages of what reads ahead of it. -/
def marks : List Stage → Nat → List Nat → List Bool
  | [], _, _ => []
  | g :: r, s, acc => (acc ++ hisOf g).any (fun h => decide (s < h)) :: marks r (s + 1) (acc ++ hisOf g)

/-- From stage to stage memory grows, where it must. -/
def Grows : List Bool → List Noted → Prop
  | m :: ms, N :: N' :: r => (m = true → ∃ T, N'.S = N.S ++ T) ∧ Grows ms (N' :: r)
  | _, _ => True

theorem Grows.at : ∀ {ms : List Bool} {l : List Noted} {s : Nat} {N N' : Noted}, Grows ms l → ms[s]? = some true → l[s]? = some N → l[s + 1]? = some N' → ∃ T, N'.S = N.S ++ T
  | [], _, s, _, _, _, h, _, _ => by simp at h
  | m :: ms, [], s, _, _, _, _, h, _ => by simp at h
  | m :: ms, [A], s, _, _, _, _, _, h => by simp at h
  | m :: ms, A :: B :: r, s, N, N', hg, hm, h1, h2 => by
    cases s with
    | zero =>
      simp only [List.getElem?_cons_zero, List.getElem?_cons_succ, Option.some.injEq] at hm h1 h2
      subst h1; subst h2
      exact hg.1 hm
    | succ s =>
      simp only [List.getElem?_cons_succ] at hm h1 h2
      exact Grows.at hg.2 hm h1 h2

section
variable {P : Program} {base : Bs} {w0 : World} {O : Orc} {ops : Array Oper} {rs : List ROp} {nt : Nat} {p : Plan} {ef e : Env} {S Sf : Mem} {n : Nat} {rd : Option Nat} {Q : Exit → Act → World → Prop}

end
end Go.Proofs.YtmolaemlenllmaaGreat

namespace Go.Proofs.YtmolaemlenllmaaGreat
set_option linter.unusedSimpArgs false
set_option linter.unusedVariables false
open Go.RowKit

/-! ### The walk, by recursion over the code -/
def optK (o : Option (AV × Mem)) (k : AV → Mem → Prop) : Prop := match o with
  | some p => k p.1 p.2
  | none => False
/-- A value, at a memory that stays. -/
def optV (o : Option AV) (S : Mem) (k : AV → Mem → Prop) : Prop := match o with
  | some x => k x S
  | none => False
/-- A memory, without a value. -/
def optM (o : Option Mem) (x : AV) (k : AV → Mem → Prop) : Prop := match o with
  | some S => k x S
  | none => False

def wGd (x : AV) (e : Env) (t : Nat) (b : Bool) (A B : Env → Prop) : Prop := match x with
  | .b y => (y = b → A ((t, .b b) :: e)) ∧ (y = !b → B ((t, .b !b) :: e))
  | .u => False
  | _ => B e

def wOps (O : Orc) : List ROp → Env → Mem → (Env → Mem → Prop) → Prop
  | [], e, S, k => k e S
  | ⟨dst, none, io⟩ :: r, e, S, k => optK (evOp O e S io) fun x S' => wOps O r (putE e dst x) S' k
  | ⟨dst, some (t, b), io⟩ :: r, e, S, k => wGd (e.get t) e t b (fun e => optK (evOp O e S io) fun x S' => wOps O r (putE e dst x) S' k) (fun e => wOps O r (putE e dst .ud) S k)

/-- In a region whose order is drawn; 'true': memory may grow. -/
def wFl (O : Orc) : List (ROp × Bool) → Env → Mem → (Env → Mem → Prop) → Prop
  | [], e, S, k => k e S
  | (⟨dst, none, io⟩, m) :: r, e, S, k => optK (evOp O e S io) fun x S' => (m = true → S <+: S') ∧ wFl O r (putE e dst x) S' k
  | (⟨dst, some (t, b), io⟩, m) :: r, e, S, k => wGd (e.get t) e t b (fun e => optK (evOp O e S io) fun x S' => (m = true → S <+: S') ∧ wFl O r (putE e dst x) S' k) (fun e => wFl O r (putE e dst .ud) S k)

def flatG (g : Stage) (m : Bool) : List (ROp × Bool) := g.ns.map (fun q => (q.1, false)) ++ ((g.a.toList.map fun o => (o, true)) ++ g.m.toList.map fun o => (o, m))
def flatS : List Stage → List Bool → List (ROp × Bool)
  | g :: st, m :: ms => flatG g m ++ flatS st ms
  | _, _ => []
def flatSt (st : List Stage) : List (ROp × Bool) := flatS st (marks st 0 [])

def wCond (x : AV) (A B : Prop) : Prop := match x with
  | .b y => (y = true → A) ∧ (y = false → B)
  | _ => False

def normK (Q : Kont) (d : List Nat) : Env → Mem → Prop := fun e S => Q .normal e S d

/-- A run of a drawn region, with its own second look. -/
def drawK (o : Option (Env × Mem)) (k : Env → Mem → Prop) : Prop := match o with
  | some p => k p.1 p.2
  | none => False
/-- It may lay blocks, but turns none of those that are there. -/
def IOp.grows : IOp → Bool
  | .op (.app ..) | .op (.appz ..) | .op (.store ..) | .op (.copy ..) | .op (.clear ..) | .op (.mentry ..) | .op (.mstore ..) | .op (.mupd ..) | .op (.mdel ..) => false
  | _ => true
def growsSt (late : List Nat) (st : List Stage) : Bool := stOk late st [] && (flatSt st).all fun p => !p.2 || p.1.io.grows

def W (P : Program) (O : Orc) (S0 : Mem) (rd : Bool) : ICode → Env → Mem → List Nat → Kont → Prop
  | .bad, _, _, _, _ => False
  | .skip, e, S, d, Q => Q .normal e S d
  | .region ops, e, S, d, Q => wOps O ops e S (normK Q d)
  | .draw st late, e, S, d, Q => if growsSt late st = true then stOk late st [] = true ∧ wFl O (flatSt st) e S (normK Q d) else drawK (evDraw O st late e S) (normK Q d)
  | .seq a b, e, S, d, Q => W P O S0 rd a e S d (seqK (W P O S0 rd b) Q)
  | .cond c a b, e, S, d, Q => wCond (c.ev e) (W P O S0 rd a e S d Q) (W P O S0 rd b e S d Q)
  | .block id c, e, S, d, Q => W P O S0 rd c e S d (blockK id Q)
  | .loop l c, e, S, d, Q => WP P S0 rd (.loop l c) e S d Q
  | .exit id, e, S, d, Q => Q (.exit id) e S d
  | .ret, e, S, d, Q => Q .ret e S d
  | .goto l, e, S, d, Q => Q (.goto l) e S d
  | .scope l c lab k, e, S, d, Q => WP P S0 rd (.scope l c lab k) e S d Q
  | .rf x f p l, e, S, d, Q => WP P S0 rd (.rf x f p l) e S d Q
  | .live l c, e, S, d, Q => W P O S0 rd c (keepE e l) S d Q

/-! ### It is sound -/
section
variable {P : Program} {O : Orc} {S0 : Mem} {rd : Bool}

end
end Go.Proofs.YtmolaemlenllmaaGreat

namespace Go.Proofs.YtmolaemlenllmaaGreat
set_option linter.unusedSimpArgs false
set_option linter.unusedVariables false
open Go.RowKit

/-! ### Numbers anew: below n all stays; 'g i': the new number of block i, and its version -/
mutual
def ren (n : Nat) (g : Nat → Option (Nat × Nat)) : AV → AV
  | .p i o v => if i < n then .p i o v else match g i with
    | some (j, v') => if v = v' then .p j o 0 else .u
    | none => .u
  | .sl i o v l c x => if i < n then .sl i o v l c x else match g i with
    | some (j, v') => if v = v' then .sl j o 0 l c x else .u
    | none => .u
  | .m i => if i < n then .m i else match g i with
    | some (j, v') => if v' = 0 then .m j else .u
    | none => .u
  | .y i => if i < n then .y i else .u
  | .f fn a b => .f fn (renL n g a) (renL n g b)
  | .it t v => .it t (ren n g v)
  | .ag cs => .ag (renL n g cs)
  | .tu cs => .tu (renL n g cs)
  | .u => .u
  | .ud => .ud
  | .b x => .b x
  | .i k z => .i k z
  | .s l => .s l
  | .pn => .pn
  | .sn => .sn
  | .se => .se
  | .mn => .mn
  | .nf => .nf
  | .ni => .ni
def renL (n : Nat) (g : Nat → Option (Nat × Nat)) : List AV → List AV
  | [] => []
  | x :: r => ren n g x :: renL n g r
end

/-- A block with its contents numbered anew, at version v. -/
def renB (n : Nat) (g : Nat → Option (Nat × Nat)) (ver : Nat) : Blk → Blk
  | .cells cs _ o r => .cells (renL n g cs) ver o r
  | .map es cl => .map (es.map fun e => (ren n g e.1, ren n g e.2.1, e.2.2)) cl
  | B => B

/-- Blocks that can be numbered anew. -/
def Blk.plain : Blk → Bool
  | .cells .. => true
  | .map .. => true
  | _ => false

/-- What is asked of the new numbers. -/
structure Ren (S0 : Mem) (g : Nat → Option (Nat × Nat)) (S S2 : Mem) : Prop where
  len : S0.length ≤ S2.length
  num : ∀ i j v, g i = some (j, v) → S0.length ≤ i ∧ S0.length ≤ j ∧ ∃ B, S[i]? = some B ∧ B.ver = v ∧ S2[j]? = some (renB S0.length g 0 B)
  inj : ∀ i i' j v v', g i = some (j, v) → g i' = some (j, v') → i = i'
  old : ∀ i B2, i < S0.length → S2[i]? = some B2 → ∃ B, S[i]? = some B ∧ ((S0[i]? = some B ∧ B2 = B) ∨ (B.plain = true ∧ B2 = renB S0.length g B.ver B))
  new : ∀ j B2, S0.length ≤ j → S2[j]? = some B2 → ∃ i v B, g i = some (j, v) ∧ S[i]? = some B ∧ B.plain = true

def gKeep (n : Nat) (L : Mem) (keep : List Nat) : Nat → Option (Nat × Nat) := fun i => if i < n then none else match keep.findIdx? (· == i - n) with
  | some p => match L[i - n]? with
    | some B => some (n + p, B.ver)
    | none => none
  | none => none

def keepB (n : Nat) (L : Mem) (keep : List Nat) : Mem := keep.map fun k => renB n (gKeep n L keep) 0 (L.getD k (.dfr false))

end Go.Proofs.YtmolaemlenllmaaGreat

namespace Go.Proofs.YtmolaemlenllmaaGreat
set_option linter.unusedSimpArgs false
set_option linter.unusedVariables false
open Go.RowKit

section
variable {P : Program} {O : Orc} {S0 : Mem} {rd : Bool} {e : Env} {S : Mem} {d : List Nat} {Q : Kont} {k : AV → Mem → Prop} {k' : Env → Mem → Prop}

/-! ### Code -/
theorem W_skip : W P O S0 rd .skip e S d Q = Q .normal e S d := (rfl)
theorem W_region {ops : List ROp} : W P O S0 rd (.region ops) e S d Q = wOps O ops e S (normK Q d) := (rfl)
theorem W_seq {a b : ICode} : W P O S0 rd (.seq a b) e S d Q = W P O S0 rd a e S d (seqK (W P O S0 rd b) Q) := (rfl)
theorem W_live {l : List Nat} {c : ICode} : W P O S0 rd (.live l c) e S d Q = W P O S0 rd c (keepE e l) S d Q := (rfl)
theorem W_cond {c : X} {a b : ICode} : W P O S0 rd (.cond c a b) e S d Q = wCond (c.ev e) (W P O S0 rd a e S d Q) (W P O S0 rd b e S d Q) := (rfl)
theorem W_block {id : Nat} {c : ICode} : W P O S0 rd (.block id c) e S d Q = W P O S0 rd c e S d (blockK id Q) := (rfl)
theorem W_exit {id : Nat} : W P O S0 rd (.exit id) e S d Q = Q (.exit id) e S d := (rfl)
theorem W_ret : W P O S0 rd .ret e S d Q = Q .ret e S d := (rfl)
theorem W_goto {l : Nat} : W P O S0 rd (.goto l) e S d Q = Q (.goto l) e S d := (rfl)
theorem normK_app : normK Q d e S = Q .normal e S d := (rfl)
theorem blockK_exit_same {id : Nat} : blockK id Q (.exit id) e S d = Q .normal e S d := by rw [blockK_exit, if_pos rfl]
theorem wCond_true {A B : Prop} : wCond (.b true) A B = A := by simp [wCond]
theorem wCond_false {A B : Prop} : wCond (.b false) A B = B := by simp [wCond]
theorem wCond_dec {p : Prop} [Decidable p] {A B : Prop} : wCond (.b (decide p)) A B = ((p → A) ∧ (¬ p → B)) := by simp [wCond]

/-! ### Operations in the order of the text -/
def opsK (O : Orc) (r : List ROp) (e : Env) (dst : Option Nat) (k : Env → Mem → Prop) : AV → Mem → Prop := fun x S => wOps O r (putE e dst x) S k
def gA (O : Orc) (io : IOp) (S : Mem) (r : List ROp) (dst : Option Nat) (k : Env → Mem → Prop) : Env → Prop := fun e => optK (evOp O e S io) (opsK O r e dst k)
def gB (O : Orc) (r : List ROp) (S : Mem) (dst : Option Nat) (k : Env → Mem → Prop) : Env → Prop := fun e => wOps O r (putE e dst .ud) S k
theorem wOps_nil : wOps O [] e S k' = k' e S := (rfl)
theorem wOps_op {dst : Option Nat} {io : IOp} {r : List ROp} : wOps O (⟨dst, none, io⟩ :: r) e S k' = optK (evOp O e S io) (opsK O r e dst k') := (rfl)
theorem wOps_gd {dst : Option Nat} {t : Nat} {b : Bool} {io : IOp} {r : List ROp} : wOps O (⟨dst, some (t, b), io⟩ :: r) e S k' = wGd (e.get t) e t b (gA O io S r dst k') (gB O r S dst k') := (rfl)
theorem opsK_some {r : List ROp} {t : Nat} {x : AV} : opsK O r e (some t) k' x S = wOps O r ((t, x) :: e) S k' := (rfl)
theorem opsK_none {r : List ROp} {x : AV} : opsK O r e none k' x S = wOps O r e S k' := (rfl)
theorem gA_app {io : IOp} {r : List ROp} {dst : Option Nat} : gA O io S r dst k' e = optK (evOp O e S io) (opsK O r e dst k') := (rfl)
theorem gB_some {r : List ROp} {t : Nat} : gB O r S (some t) k' e = wOps O r ((t, .ud) :: e) S k' := (rfl)
theorem gB_none {r : List ROp} : gB O r S none k' e = wOps O r e S k' := (rfl)

theorem wGd_tt {t : Nat} {A B : Env → Prop} : wGd (.b true) e t true A B = A ((t, .b true) :: e) := by simp [wGd]
theorem wGd_tf {t : Nat} {A B : Env → Prop} : wGd (.b true) e t false A B = B ((t, .b true) :: e) := by simp [wGd]
theorem wGd_ft {t : Nat} {A B : Env → Prop} : wGd (.b false) e t true A B = B ((t, .b false) :: e) := by simp [wGd]
theorem wGd_ff {t : Nat} {A B : Env → Prop} : wGd (.b false) e t false A B = A ((t, .b false) :: e) := by simp [wGd]
theorem wGd_dect {p : Prop} [Decidable p] {t : Nat} {A B : Env → Prop} : wGd (.b (decide p)) e t true A B = ((p → A ((t, .b true) :: e)) ∧ (¬ p → B ((t, .b false) :: e))) := by simp [wGd]
theorem wGd_decf {p : Prop} [Decidable p] {t : Nat} {A B : Env → Prop} : wGd (.b (decide p)) e t false A B = ((¬ p → A ((t, .b false) :: e)) ∧ (p → B ((t, .b true) :: e))) := by simp [wGd]
theorem wGd_ud {t : Nat} {b : Bool} {A B : Env → Prop} : wGd .ud e t b A B = B e := (rfl)
def flK (O : Orc) (r : List (ROp × Bool)) (e : Env) (dst : Option Nat) (k : Env → Mem → Prop) : AV → Mem → Prop := fun x S => wFl O r (putE e dst x) S k
def flM (O : Orc) (r : List (ROp × Bool)) (e : Env) (dst : Option Nat) (k : Env → Mem → Prop) (S : Mem) : AV → Mem → Prop := fun x S' => S <+: S' ∧ wFl O r (putE e dst x) S' k
def fA (O : Orc) (io : IOp) (S : Mem) (r : List (ROp × Bool)) (dst : Option Nat) (k : Env → Mem → Prop) : Env → Prop := fun e => optK (evOp O e S io) (flK O r e dst k)
def fAM (O : Orc) (io : IOp) (S : Mem) (r : List (ROp × Bool)) (dst : Option Nat) (k : Env → Mem → Prop) : Env → Prop := fun e => optK (evOp O e S io) (flM O r e dst k S)
def fB (O : Orc) (r : List (ROp × Bool)) (S : Mem) (dst : Option Nat) (k : Env → Mem → Prop) : Env → Prop := fun e => wFl O r (putE e dst .ud) S k
theorem wFl_nil : wFl O [] e S k' = k' e S := (rfl)
theorem wFl_op {dst : Option Nat} {io : IOp} {r : List (ROp × Bool)} : wFl O ((⟨dst, none, io⟩, false) :: r) e S k' = optK (evOp O e S io) (flK O r e dst k') := by
  simp only [wFl]; congr 1; funext x S'; simp [flK]
theorem wFl_m {dst : Option Nat} {io : IOp} {r : List (ROp × Bool)} : wFl O ((⟨dst, none, io⟩, true) :: r) e S k' = optK (evOp O e S io) (flM O r e dst k' S) := by
  simp only [wFl]; congr 1; funext x S'; simp [flM]
theorem wFl_gd {dst : Option Nat} {t : Nat} {b : Bool} {io : IOp} {r : List (ROp × Bool)} : wFl O ((⟨dst, some (t, b), io⟩, false) :: r) e S k' = wGd (e.get t) e t b (fA O io S r dst k') (fB O r S dst k') := by
  simp only [wFl]; congr 1; funext e; simp only [fA]; congr 1; funext x S'; simp [flK]
theorem wFl_gm {dst : Option Nat} {t : Nat} {b : Bool} {io : IOp} {r : List (ROp × Bool)} : wFl O ((⟨dst, some (t, b), io⟩, true) :: r) e S k' = wGd (e.get t) e t b (fAM O io S r dst k') (fB O r S dst k') := by
  simp only [wFl]; congr 1; funext e; simp only [fAM]; congr 1; funext x S'; simp [flM]
theorem flK_some {r : List (ROp × Bool)} {t : Nat} {x : AV} : flK O r e (some t) k' x S = wFl O r ((t, x) :: e) S k' := (rfl)
theorem flK_none {r : List (ROp × Bool)} {x : AV} : flK O r e none k' x S = wFl O r e S k' := (rfl)
theorem flM_some {r : List (ROp × Bool)} {t : Nat} {x : AV} {S' : Mem} : flM O r e (some t) k' S x S' = (S <+: S' ∧ wFl O r ((t, x) :: e) S' k') := (rfl)
theorem flM_none {r : List (ROp × Bool)} {x : AV} {S' : Mem} : flM O r e none k' S x S' = (S <+: S' ∧ wFl O r e S' k') := (rfl)
theorem fA_app {io : IOp} {r : List (ROp × Bool)} {dst : Option Nat} : fA O io S r dst k' e = optK (evOp O e S io) (flK O r e dst k') := (rfl)
theorem fAM_app {io : IOp} {r : List (ROp × Bool)} {dst : Option Nat} : fAM O io S r dst k' e = optK (evOp O e S io) (flM O r e dst k' S) := (rfl)
theorem fB_some {r : List (ROp × Bool)} {t : Nat} : fB O r S (some t) k' e = wFl O r ((t, .ud) :: e) S k' := (rfl)
theorem fB_none {r : List (ROp × Bool)} : fB O r S none k' e = wFl O r e S k' := (rfl)
theorem W_draw' {st : List Stage} {late : List Nat} {l : List (ROp × Bool)} (hk : growsSt late st = true) (hl : flatSt st = l) : W P O S0 rd (.draw st late) e S d Q = wFl O l e S (normK Q d) := by
  have h1 : stOk late st [] = true := by unfold growsSt at hk; simp only [Bool.and_eq_true] at hk; exact hk.1
  simp only [W, hk, if_true, hl, h1, true_and]
theorem W_drawE {st : List Stage} {late : List Nat} (hk : growsSt late st = false) : W P O S0 rd (.draw st late) e S d Q = drawK (evDraw O st late e S) (normK Q d) := by
  simp only [W, hk, Bool.false_eq_true, if_false]
theorem pre_same : (S <+: S) = True := by simp
theorem pre_app {T : Mem} : (S <+: S ++ T) = True := by simp

/-! ### One operation -/
theorem evOp_op {io : IO'} : evOp O e S (.op io) = evIO e S io := (rfl)
theorem evOp_call {f : FuncId} {xs : List X} : evOp O e S (.call f xs) = O.fn f (xs.map (·.ev e)) S := (rfl)
theorem evOp_callv {x : X} {xs : List X} : evOp O e S (.callv x xs) = (match x.ev e with | .f (.func f) a b => O.fn f (a ++ xs.map (·.ev e) ++ b) S | .y i => O.y i (xs.map (·.ev e)) S | _ => none) := (rfl)
theorem optK_some {x : AV} : optK (some (x, S)) k = k x S := (rfl)
theorem optV_some {x : AV} : optV (some x) S k = k x S := (rfl)
theorem optM_some {x : AV} : optM (some S) x k = k x S := (rfl)
theorem xev_t {t : Nat} : X.ev e (.t t) = e.get t := (rfl)
theorem xev_c {v : AV} : X.ev e (.c v) = v := (rfl)
theorem get_ite {t t' : Nat} {x : AV} : Env.get ((t, x) :: e) t' = if t = t' then x else e.get t' := by
  by_cases h : t = t'
  · subst h; rw [get_put_same, if_pos rfl]
  · rw [get_put_ne _ _ h, if_neg h]
theorem get_nil {t : Nat} : Env.get [] t = .u := (rfl)

theorem oK (o : Option AV) : optK (match o with | some y => some (y, S) | none => none) k = optV o S k := by cases o <;> rfl
theorem oi_mv {x : X} : optK (evIO e S (.mv x)) k = k (x.ev e) S := (rfl)
def pickV (c a b : AV) : Option AV := match c with
  | .b true => some a
  | .b false => some b
  | _ => none
theorem oi_pick {c a b : X} : optK (evIO e S (.pick c a b)) k = optV (pickV (c.ev e) (a.ev e) (b.ev e)) S k := by
  simp only [evIO, pickV]
  generalize c.ev e = y
  cases y with
  | b x => cases x <;> rfl
  | _ => rfl
theorem pickV_t {a b : AV} : pickV (.b true) a b = some a := (rfl)
theorem pickV_f {a b : AV} : pickV (.b false) a b = some b := (rfl)
theorem oi_fresh {z : List AV} : optK (evIO e S (.fresh z)) k = k (.p S.length 0 0) (S ++ [.cells z 0 none true]) := (rfl)
def boxV (S : Mem) (c : Option (List AV)) : Option (AV × Mem) := match c with
  | some cs => some (.p S.length 0 0, S ++ [.cells cs 0 none true])
  | none => none
theorem oi_box {x : X} : optK (evIO e S (.box x)) k = optK (boxV S (x.ev e).cells) k := (rfl)
theorem boxV_some {cs : List AV} : boxV S (some cs) = some (.p S.length 0 0, S ++ [.cells cs 0 none true]) := (rfl)
def agV (o : Option (List AV)) : Option AV := o.map .ag
theorem agV_some {cs : List AV} : agV (some cs) = some (.ag cs) := (rfl)
theorem oi_build {z : List AV} {ps : List (Nat × Nat × X)} : optK (evIO e S (.build z ps)) k = optV (agV (fillV z (evParts e ps))) S k := by
  simp only [evIO]; cases fillV z (evParts e ps) <;> rfl
def bsV (S : Mem) (len : Nat) (o : Option (List AV)) : Option (AV × Mem) := match o with
  | some r => some (.sl S.length 0 0 len len true, S ++ [.cells r 0 none true])
  | none => none
theorem bsV_some {len : Nat} {r : List AV} : bsV S len (some r) = some (.sl S.length 0 0 len len true, S ++ [.cells r 0 none true]) := (rfl)
theorem oi_bslice {z : List AV} {len : Nat} {ps : List (Nat × Nat × X)} : optK (evIO e S (.bslice z len ps)) k = optK (bsV S len (fillV (zerosV z len) (evParts e ps))) k := (rfl)
theorem oi_load {n : Option Nat} {x : X} : optK (evIO e S (.load n x)) k = optV (ldCells S n (x.ev e)) S k := oK _
theorem oi_store {n : Nat} {x y : X} : optK (evIO e S (.store n x y)) k = optM (stCells S n (x.ev e) (y.ev e)) .u k := by
  simp only [evIO]; cases stCells S n (x.ev e) (y.ev e) <;> rfl
theorem oi_nilck {x : X} : optK (evIO e S (.nilck x)) k = optV (nilV (x.ev e)) S k := oK _
theorem oi_bin {tk : TK} {c : Bool} {op : BinOp} {x y : X} : optK (evIO e S (.bin tk c op x y)) k = optV (binV tk c op (x.ev e) (y.ev e)) S k := oK _
theorem oi_un {op : UnOp} {x : X} : optK (evIO e S (.un op x)) k = optV (unV op (x.ev e)) S k := oK _
theorem oi_toInt {q : IntKind} {x : X} : optK (evIO e S (.toInt q x)) k = optV (toIntV q (x.ev e)) S k := oK _
theorem oi_faddr {o : Nat} {x : X} : optK (evIO e S (.faddr o x)) k = optV (faddrV o (x.ev e)) S k := oK _
theorem oi_fld {o : Nat} {n : Option Nat} {x : X} : optK (evIO e S (.fld o n x)) k = optV (fldV o n (x.ev e)) S k := oK _
theorem oi_iaddr {a : Option Nat} {s : Nat} {x y : X} : optK (evIO e S (.iaddr a s x y)) k = optV (iaddrV a s (x.ev e) (y.ev e)) S k := oK _
theorem oi_ixa {l s : Nat} {m : Option Nat} {x y : X} : optK (evIO e S (.ixa l s m x y)) k = optV (ixaV l s m (x.ev e) (y.ev e)) S k := oK _
theorem oi_ixs {x y : X} : optK (evIO e S (.ixs x y)) k = optV (ixsV (x.ev e) (y.ev e)) S k := oK _
theorem oi_slice {s : Nat} {x : X} {a b c : Option X} : optK (evIO e S (.slice s x a b c)) k = optV (sliceV S s (x.ev e) (a.map (·.ev e)) (b.map (·.ev e)) (c.map (·.ev e))) S k := oK _
theorem oi_sla {n s : Nat} {x : X} {a b c : Option X} : optK (evIO e S (.sla n s x a b c)) k = optV (slaV n s (x.ev e) (a.map (·.ev e)) (b.map (·.ev e)) (c.map (·.ev e))) S k := oK _
theorem oi_sls {x : X} {a b : Option X} : optK (evIO e S (.sls x a b)) k = optV (slsV (x.ev e) (a.map (·.ev e)) (b.map (·.ev e))) S k := oK _
theorem oi_ext {x : X} {n : Nat} : optK (evIO e S (.ext x n)) k = optV (extV n (x.ev e)) S k := oK _
theorem oi_mkf {fn : Fn} {a b : List X} : optK (evIO e S (.mkf fn a b)) k = k (.f fn (a.map (·.ev e)) (b.map (·.ev e))) S := (rfl)
def mksV (S : Mem) (z : List AV) (bytes : Nat) (l c : Option Nat) : Option (AV × Mem) := match l, c with
  | some l, some c => if l ≤ c ∧ bytes * c ≤ 140737488355328 ∧ c ≤ 140737488355328 then some (.sl S.length 0 0 l c true, S ++ [.cells (zerosV z c) 0 none true]) else none
  | _, _ => none
theorem oi_mks {z : List AV} {b : Nat} {l c : X} : optK (evIO e S (.mks z b l c)) k = optK (mksV S z b (natV (l.ev e)) (natV (c.ev e))) k := (rfl)
theorem mksV_some {z : List AV} {b l c : Nat} : mksV S z b (some l) (some c) = if l ≤ c ∧ b * c ≤ 140737488355328 ∧ c ≤ 140737488355328 then some (.sl S.length 0 0 l c true, S ++ [.cells (zerosV z c) 0 none true]) else none := (rfl)
def lenQ (q : LK) (S : Mem) (x : AV) : Option AV := if lenOk q x then (lenV S x).map fun n => .i .i64 n else none
theorem oi_len {q : LK} {x : X} : optK (evIO e S (.len q x)) k = optV (lenQ q S (x.ev e)) S k := by
  simp only [evIO, lenQ]; split
  · cases lenV S (x.ev e) <;> rfl
  · rfl
theorem lenQ_s {l : List UInt8} : lenQ .str S (.s l) = some (.i .i64 l.length) := (rfl)
theorem lenQ_sn : lenQ .slice S .sn = some (.i .i64 0) := (rfl)
theorem lenQ_se : lenQ .slice S .se = some (.i .i64 0) := (rfl)
theorem lenQ_sl {i o v l c : Nat} {x : Bool} : lenQ .slice S (.sl i o v l c x) = some (.i .i64 l) := (rfl)
def copyQ (o : Option (Nat × Mem)) : Option (AV × Mem) := o.map fun p => (.i .i64 p.1, p.2)
theorem copyQ_some {n : Nat} : copyQ (some (n, S)) = some (.i .i64 n, S) := (rfl)
theorem oi_copy {s : Nat} {x y : X} : optK (evIO e S (.copy s x y)) k = optK (copyQ (copyV S s (x.ev e) (y.ev e))) k := by
  simp only [evIO, copyQ]; cases copyV S s (x.ev e) (y.ev e) <;> rfl
def appQ (S : Mem) (s b : Nat) (x : AV) (o : Option (List AV × Nat)) : Option (AV × Mem) := match o with
  | some p => appV S s b x p.1 p.2
  | none => none
theorem oi_app {s b : Nat} {x y : X} : optK (evIO e S (.app s b x y)) k = optK (appQ S s b (x.ev e) (srcV S s (y.ev e))) k := by
  simp only [evIO, appQ]; cases srcV S s (y.ev e) <;> rfl
theorem appQ_some {s b n : Nat} {x : AV} {cs : List AV} : appQ S s b x (some (cs, n)) = appV S s b x cs n := (rfl)
def mmQ (m : Bool) (xs : List AV) : Option AV := match xs with
  | x :: r => mmV m x r
  | [] => none
theorem oi_mm {m : Bool} {xs : List X} : optK (evIO e S (.mm m xs)) k = optV (mmQ m (xs.map (·.ev e))) S k := by
  simp only [evIO, mmQ]
  generalize xs.map (·.ev e) = l
  cases l with
  | nil => rfl
  | cons x r => exact oK _
theorem mmQ_max {q : IntKind} {a b : Int} : mmQ true [.i q a, .i q b] = some (.i q (max a b)) := by
  simp only [mmQ, mmV, if_true]; congr 2; rw [Int.max_def]; split <;> split <;> omega
theorem mmQ_min {q : IntKind} {a b : Int} : mmQ false [.i q a, .i q b] = some (.i q (min a b)) := by
  simp only [mmQ, mmV, if_true]; congr 2; rw [Int.min_def]; simp; split <;> split <;> omega
theorem oi_eqag {n : Bool} {ks : List TK} {x y : X} : optK (evIO e S (.eqag n ks x y)) k = optV (eqAgV n ks (x.ev e) (y.ev e)) S k := oK _
def sameV (x : AV) : Option AV := match x with
  | .s l => some (.s l)
  | _ => none
theorem oi_same {x : X} : optK (evIO e S (.same x)) k = optV (sameV (x.ev e)) S k := by
  simp only [evIO, sameV]
  generalize x.ev e = y
  cases y <;> rfl
theorem sameV_s {l : List UInt8} : sameV (.s l) = some (.s l) := (rfl)
theorem oi_toStr {x : X} : optK (evIO e S (.toStr x)) k = optV (toStrV S (x.ev e)) S k := oK _
def toBytesV (S : Mem) (x : AV) : Option (AV × Mem) := match x with
  | .s l => some (if l.length = 0 then .se else .sl S.length 0 0 l.length l.length false, S ++ [.cells (l.map fun b => .i .u8 b.toNat) 0 (some 1) true])
  | _ => none
theorem oi_toBytes {x : X} : optK (evIO e S (.toBytes x)) k = optK (toBytesV S (x.ev e)) k := by
  simp only [evIO, toBytesV]
  generalize x.ev e = y
  cases y <;> rfl
theorem oi_clear {z : List AV} {x : X} : optK (evIO e S (.clear z x)) k = optK (clearV S z (x.ev e)) k := (rfl)
def ixbyteV (x y : AV) : Option AV := match x, y with
  | .s l, .i .u8 c => some (.i .i64 (Lib.indexByte l c.toNat.toUInt8))
  | _, _ => none
theorem oi_ixbyte {x y : X} : optK (evIO e S (.ixbyte x y)) k = optV (ixbyteV (x.ev e) (y.ev e)) S k := by
  simp only [evIO, ixbyteV]
  generalize x.ev e = a
  generalize y.ev e = b
  cases a <;> first | rfl | skip
  all_goals (cases b <;> first | rfl | skip)
  all_goals (rename_i k n; cases k <;> rfl)
theorem ixbyteV_s {l : List UInt8} {c : Int} : ixbyteV (.s l) (.i .u8 c) = some (.i .i64 (Lib.indexByte l c.toNat.toUInt8)) := (rfl)
def ovlV (S : Mem) (x y : AV) : Option AV := match x, y with
  | .sl i o v _ _ _, .sl j _ v2 _ _ _ => if i ≠ j ∧ apartB (S[i]?) (S[j]?) o v v2 = true then some (.b false) else none
  | _, _ => none
theorem oi_ovl {x y : X} : optK (evIO e S (.ovl x y)) k = optV (ovlV S (x.ev e) (y.ev e)) S k := by
  simp only [evIO, ovlV]
  generalize x.ev e = a
  generalize y.ev e = b
  cases a <;> first | rfl | skip
  all_goals (cases b <;> first | rfl | skip)
  rename_i i o v l c ex j o2 v2 l2 c2 ex2
  by_cases hc : i ≠ j ∧ apartB (S[i]?) (S[j]?) o v v2 = true
  · simp only [if_pos hc]; rfl
  · simp only [if_neg hc]; rfl
def mknoV (S : Mem) (x : AV) : Option (AV × Mem) := match x with
  | .i .i64 z => if 0 < z ∧ z ≤ 140737488355328 then some (.sl S.length 0 0 z.toNat z.toNat false, S ++ [.cells (List.replicate z.toNat .u) 0 (some 1) true]) else none
  | _ => none
theorem oi_mkno {x : X} : optK (evIO e S (.mkno x)) k = optK (mknoV S (x.ev e)) k := by
  simp only [evIO, mknoV]
  generalize x.ev e = y
  cases y <;> first | rfl | skip
  all_goals (rename_i q z; cases q <;> rfl)
def capQ (x : AV) : Option AV := (capV x).map fun n => .i .i64 n
theorem oi_cap {x : X} : optK (evIO e S (.cap x)) k = optV (capQ (x.ev e)) S k := by
  simp only [evIO, capQ]; cases capV (x.ev e) <;> rfl
def mkmapV (S : Mem) (h : Option AV) : Option (AV × Mem) := match h with
  | none => some (.m S.length, S ++ [.map [] 0])
  | some (.i _ _) => some (.m S.length, S ++ [.map [] 0])
  | _ => none
theorem oi_mkmap {h : Option X} : optK (evIO e S (.mkmap h)) k = optK (mkmapV S (h.map (·.ev e))) k := by
  simp only [evIO, mkmapV]
  generalize h.map (·.ev e) = y
  cases y with
  | none => rfl
  | some y => cases y <;> rfl
theorem mkmapV_none : mkmapV S none = some (.m S.length, S ++ [.map [] 0]) := (rfl)
theorem mkmapV_some {q : IntKind} {n : Int} : mkmapV S (some (.i q n)) = some (.m S.length, S ++ [.map [] 0]) := (rfl)
theorem oi_mlook {ag : Bool} {ks : List TK} {z : AV} {ok : Bool} {x y : X} : optK (evIO e S (.mlook ag ks z ok x y)) k = optV (mlookV S ag ks z ok (x.ev e) (y.ev e)) S k := oK _
theorem oi_mentry {ag : Bool} {ks : List TK} {z : AV} {x y : X} : optK (evIO e S (.mentry ag ks z x y)) k = optK (mentryV S ag ks z (x.ev e) (y.ev e)) k := (rfl)
theorem oi_mstore {x s v : X} : optK (evIO e S (.mstore x s v)) k = optM (mstoreV S (x.ev e) (s.ev e) (v.ev e)) .u k := by
  simp only [evIO]; cases mstoreV S (x.ev e) (s.ev e) (v.ev e) <;> rfl
theorem oi_mupd {ag : Bool} {ks : List TK} {x y v : X} : optK (evIO e S (.mupd ag ks x y v)) k = optM (mupdV S ag ks (x.ev e) (y.ev e) (v.ev e)) .u k := by
  simp only [evIO]; cases mupdV S ag ks (x.ev e) (y.ev e) (v.ev e) <;> rfl
theorem oi_mdel {ag : Bool} {ks : List TK} {x y : X} : optK (evIO e S (.mdel ag ks x y)) k = optM (mdelV S ag ks (x.ev e) (y.ev e)) (.tu []) k := by
  simp only [evIO]; cases mdelV S ag ks (x.ev e) (y.ev e) <;> rfl

/-! ### Values -/
theorem bin_i {cst : Bool} {op : BinOp} {q : IntKind} {a b : Int} (h : isShift op = false) : binV .int cst op (.i q a) (.i q b) = intV op q a b := by simp [binV, h]
theorem bin_add {cst : Bool} {q : IntKind} {a b : Int} : binV .int cst .add (.i q a) (.i q b) = some (.i q (wrapV q (a + b))) := bin_i rfl
theorem bin_sub {cst : Bool} {q : IntKind} {a b : Int} : binV .int cst .sub (.i q a) (.i q b) = some (.i q (wrapV q (a - b))) := bin_i rfl
theorem bin_mul {cst : Bool} {q : IntKind} {a b : Int} : binV .int cst .mul (.i q a) (.i q b) = some (.i q (wrapV q (a * b))) := bin_i rfl
theorem bin_quo {cst : Bool} {q : IntKind} {a b : Int} (h : b ≠ 0) : binV .int cst .quo (.i q a) (.i q b) = some (.i q (wrapV q (a.tdiv b))) := by rw [bin_i rfl]; simp [intV, h]
theorem bin_rem {cst : Bool} {q : IntKind} {a b : Int} (h : b ≠ 0) : binV .int cst .rem (.i q a) (.i q b) = some (.i q (a.tmod b)) := by rw [bin_i rfl]; simp [intV, h]
theorem bin_rem_pos {cst : Bool} {q : IntKind} {a b : Int} (ha : 0 ≤ a) (h : 0 < b) : binV .int cst .rem (.i q a) (.i q b) = some (.i q (a % b)) := by
  rw [bin_rem (by omega), Int.tmod_eq_emod_of_nonneg ha]
theorem bin_quo_pos {cst : Bool} {q : IntKind} {a b : Int} (ha : 0 ≤ a) (h : 0 < b) : binV .int cst .quo (.i q a) (.i q b) = some (.i q (wrapV q (a / b))) := by
  rw [bin_quo (by omega), Int.tdiv_eq_ediv_of_nonneg ha]
theorem bin_eql {cst : Bool} {q : IntKind} {a b : Int} : binV .int cst .eql (.i q a) (.i q b) = some (.b (decide (a = b))) := by
  rw [bin_i rfl]; simp only [intV]; congr 2
theorem bin_neq {cst : Bool} {q : IntKind} {a b : Int} : binV .int cst .neq (.i q a) (.i q b) = some (.b (decide (a ≠ b))) := by
  rw [bin_i rfl]; simp only [intV]; congr 2; simp [bne]; rfl
theorem bin_lss {cst : Bool} {q : IntKind} {a b : Int} : binV .int cst .lss (.i q a) (.i q b) = some (.b (decide (a < b))) := bin_i rfl
theorem bin_leq {cst : Bool} {q : IntKind} {a b : Int} : binV .int cst .leq (.i q a) (.i q b) = some (.b (decide (a ≤ b))) := bin_i rfl
theorem bin_gtr {cst : Bool} {q : IntKind} {a b : Int} : binV .int cst .gtr (.i q a) (.i q b) = some (.b (decide (b < a))) := bin_i rfl
theorem bin_geq {cst : Bool} {q : IntKind} {a b : Int} : binV .int cst .geq (.i q a) (.i q b) = some (.b (decide (b ≤ a))) := bin_i rfl
theorem bin_shl {cst : Bool} {q q' : IntKind} {a b : Int} : binV .int cst .shl (.i q a) (.i q' b) = shiftV .shl q a b := by simp [binV, isShift]
theorem bin_shr {cst : Bool} {q q' : IntKind} {a b : Int} : binV .int cst .shr (.i q a) (.i q' b) = shiftV .shr q a b := by simp [binV, isShift]
theorem bin_beql {cst : Bool} {a b : Bool} : binV .bool cst .eql (.b a) (.b b) = some (.b (decide (a = b))) := by
  simp only [binV, eqOp]; congr 2
theorem bin_bneq {cst : Bool} {a b : Bool} : binV .bool cst .neq (.b a) (.b b) = some (.b (decide (a ≠ b))) := by
  simp only [binV, eqOp]; congr 2; cases a <;> cases b <;> rfl
theorem bin_seql {cst : Bool} {a b : List UInt8} : binV .str cst .eql (.s a) (.s b) = some (.b (decide (a = b))) := by
  have h : (a == b) = decide (a = b) := by rw [Bool.eq_iff_iff]; simp
  simp only [binV, strV, h]
theorem bin_sneq {cst : Bool} {a b : List UInt8} : binV .str cst .neq (.s a) (.s b) = some (.b (decide (a ≠ b))) := by
  have h : (a == b) = decide (a = b) := by rw [Bool.eq_iff_iff]; simp
  simp only [binV, strV, h, ne_eq, decide_not]
theorem un_not_true : unV .not (.b true) = some (.b false) := (rfl)
theorem un_not_false : unV .not (.b false) = some (.b true) := (rfl)
theorem un_not_dec {p : Prop} [Decidable p] : unV .not (.b (decide p)) = some (.b (decide (¬ p))) := by simp [unV]
theorem un_neg {q : IntKind} {n : Int} : unV .neg (.i q n) = some (.i q (wrapV q (0 - n))) := by rw [unV]; congr 2; exact wrapV_eq q _
theorem nilV_p {i o v : Nat} : nilV (.p i o v) = some (.p i o v) := (rfl)
theorem nilV_f {f : FuncId} {a b : List AV} : nilV (.f (.func f) a b) = some (.f (.func f) a b) := (rfl)
theorem nilV_y {i : Nat} : nilV (.y i) = some (.y i) := (rfl)
theorem toInt_i {q q' : IntKind} {n : Int} : toIntV q (.i q' n) = some (.i q (wrapV q n)) := by rw [toIntV]; congr 2; exact wrapV_eq q n
theorem faddr_p {o i o' v : Nat} : faddrV o (.p i o' v) = some (.p i (o' + o) v) := (rfl)
theorem fld_ag {o : Nat} {n : Option Nat} {cs : List AV} : fldV o n (.ag cs) = partV o n cs := (rfl)
theorem part_none {o : Nat} {cs : List AV} : partV o none cs = cs[o]? := (rfl)
theorem part_some {o n : Nat} {cs : List AV} : partV o (some n) cs = if o + n ≤ cs.length then some (.ag ((cs.drop o).take n)) else none := (rfl)
theorem ext_tu {n : Nat} {cs : List AV} : extV n (.tu cs) = cs[n]? := (rfl)
theorem natV_i {q : IntKind} {n : Int} (h : 0 ≤ n) : natV (.i q n) = some n.toNat := by simp [natV, h]
theorem natV_nat {q : IntKind} {n : Nat} : natV (.i q (n : Int)) = some n := by simp [natV]
theorem cells_i {q : IntKind} {n : Int} : AV.cells (.i q n) = some [.i q n] := (rfl)
theorem cells_b {x : Bool} : AV.cells (.b x) = some [.b x] := (rfl)
theorem cells_s {l : List UInt8} : AV.cells (.s l) = some [.s l] := (rfl)
theorem cells_p {i o v : Nat} : AV.cells (.p i o v) = some [.p i o v] := (rfl)
theorem cells_pn : AV.cells .pn = some [.pn] := (rfl)
theorem cells_sn : AV.cells .sn = some [.sn] := (rfl)
theorem cells_se : AV.cells .se = some [.se] := (rfl)
theorem cells_sl {i o v l c : Nat} {x : Bool} : AV.cells (.sl i o v l c x) = some [.sl i o v l c x] := (rfl)
theorem cells_ag {cs : List AV} : AV.cells (.ag cs) = some cs := (rfl)
theorem cells_f {fn : Fn} {a b : List AV} : AV.cells (.f fn a b) = some [.f fn a b] := (rfl)
theorem cells_m {i : Nat} : AV.cells (.m i) = some [.m i] := (rfl)
theorem cells_mn : AV.cells .mn = some [.mn] := (rfl)
theorem one_i {q : IntKind} {n : Int} : AV.one (.i q n) = true := (rfl)
theorem one_b {x : Bool} : AV.one (.b x) = true := (rfl)
theorem one_s {l : List UInt8} : AV.one (.s l) = true := (rfl)
theorem one_p {i o v : Nat} : AV.one (.p i o v) = true := (rfl)
theorem one_pn : AV.one .pn = true := (rfl)
theorem one_sn : AV.one .sn = true := (rfl)
theorem one_se : AV.one .se = true := (rfl)
theorem one_sl {i o v l c : Nat} {x : Bool} : AV.one (.sl i o v l c x) = true := (rfl)
theorem one_f {fn : Fn} {a b : List AV} : AV.one (.f fn a b) = true := (rfl)
theorem one_m {i : Nat} : AV.one (.m i) = true := (rfl)
theorem one_mn : AV.one .mn = true := (rfl)

/-! ### Memory -/
def cellB (o : Option Blk) (off v : Nat) : Option AV := match o with
  | some (.cells cs ver _ _) => if ver = v then cs[off]? else none
  | _ => none
def rowB (o : Option Blk) (off v n : Nat) : Option (List AV) := match o with
  | some (.cells cs ver _ _) => if ver = v ∧ off + n ≤ cs.length then some ((cs.drop off).take n) else none
  | _ => none
theorem cellB_some {cs : List AV} {v off : Nat} {op : Option Nat} {r : Bool} : cellB (some (.cells cs v op r)) off v = cs[off]? := by simp [cellB]
theorem rowB_some {cs : List AV} {v off n : Nat} {op : Option Nat} {r : Bool} : rowB (some (.cells cs v op r)) off v n = if off + n ≤ cs.length then some ((cs.drop off).take n) else none := by simp [rowB]
theorem rowAt_B {i o v n : Nat} : rowAt S i o v n = rowB (S[i]?) o v n := by
  unfold rowAt rowB; rfl
theorem ld_one {i o v : Nat} : ldCells S none (.p i o v) = cellB (S[i]?) o v := by
  simp only [ldCells, rowAt_B]
  cases S[i]? with
  | none => rfl
  | some B =>
    cases B with
    | cells cs ver op r =>
      simp only [rowB, cellB]
      by_cases hv : ver = v
      · by_cases h : o < cs.length
        · have e1 : (cs.drop o).take 1 = [cs[o]] := by rw [List.drop_eq_getElem_cons h]; rfl
          rw [if_pos ⟨hv, by omega⟩, if_pos hv, e1, List.getElem?_eq_getElem h]
        · rw [if_neg (by omega), if_pos hv, List.getElem?_eq_none (by omega)]
      · rw [if_neg (by omega), if_neg hv]
    | _ => rfl
theorem ld_row {i o v n : Nat} : ldCells S (some n) (.p i o v) = agV (rowB (S[i]?) o v n) := by simp only [ldCells, rowAt_B, agV]
def stB (S : Mem) (i : Nat) (o : Option Blk) (off v n : Nat) (ys : Option (List AV)) : Option Mem := match o, ys with
  | some (.cells cs ver op true), some ys => if ver = v ∧ ys.length = n ∧ off + n ≤ cs.length ∧ ys.all AV.one = true then some (S.set i (.cells (splice cs off ys) v op true)) else none
  | _, _ => none
theorem st_B {i o v n : Nat} {y : AV} : stCells S n (.p i o v) y = stB S i (S[i]?) o v n y.cells := by
  unfold stCells stB
  cases y.cells with
  | none => cases S[i]? with
    | none => rfl
    | some B => cases B with
      | cells cs ver op r => cases r <;> rfl
      | _ => rfl
  | some ys =>
    dsimp only
    cases S[i]? with
    | none => rfl
    | some B => cases B with
      | cells cs ver op r => cases r <;> rfl
      | _ => rfl
theorem stB_some {i off v n : Nat} {cs ys : List AV} {op : Option Nat} : stB S i (some (.cells cs v op true)) off v n (some ys) = if ys.length = n ∧ off + n ≤ cs.length ∧ ys.all AV.one = true then some (S.set i (.cells (splice cs off ys) v op true)) else none := by simp [stB]

theorem at_app {L : Mem} {n : Nat} : (S ++ L)[S.length + n]? = L[n]? := by rw [List.getElem?_append_right (by omega)]; congr 1; omega
theorem at_app0 {L : Mem} : (S ++ L)[S.length]? = L[0]? := at_app (n := 0)
theorem set_app {L : Mem} {n : Nat} {B : Blk} : (S ++ L).set (S.length + n) B = S ++ L.set n B := by
  rw [List.set_append_right _ _ (by omega)]; congr 2; omega
theorem set_app0 {L : Mem} {B : Blk} : (S ++ L).set S.length B = S ++ L.set 0 B := set_app (n := 0)
theorem retK_ret {rs : List IR} {R : AV → Mem → Prop} {S1 : Mem} {xs : List AV} (h : evResults e S1 rs = some xs) (hR : R (resV xs) S1) : retK S0 rs R .ret e S1 [] := ⟨rfl, S1, xs, rfl, h, hR⟩
def resQ (o : Option (List AV)) (S : Mem) (R : AV → Mem → Prop) : Prop := match o with
  | some xs => R (resV xs) S
  | none => False
theorem ret_eq {rs : List IR} {R : AV → Mem → Prop} {S1 : Mem} : retK S0 rs R .ret e S1 [] = resQ (evResults e S1 rs) S1 R := by
  apply propext
  constructor
  · rintro ⟨_, S2, xs, h1, h2, h3⟩
    simp only [evLeave, Option.some.injEq] at h1
    subst h1
    simp only [resQ, h2]; exact h3
  · intro h
    unfold resQ at h
    split at h
    · rename_i xs hx; exact retK_ret hx h
    · exact h.elim
theorem ret_eq' {rs : List IR} {R : AV → Mem → Prop} {S1 : Mem} : retK S0 rs R .normal e S1 [] = resQ (evResults e S1 rs) S1 R := by
  rw [← ret_eq (S0 := S0)]; rfl
theorem resQ_some {xs : List AV} {R : AV → Mem → Prop} : resQ (some xs) S R = R (resV xs) S := (rfl)
def consQ (x : Option AV) (xs : Option (List AV)) : Option (List AV) := match x, xs with
  | some x, some xs => some (x :: xs)
  | _, _ => none
theorem res_nil : evResults e S [] = some [] := (rfl)
theorem res_cons {r : IR} {rs : List IR} : evResults e S (r :: rs) = consQ (evRes e S r) (evResults e S rs) := by
  simp only [evResults, consQ]
  cases evRes e S r <;> cases evResults e S rs <;> rfl
theorem consQ_some {x : AV} {xs : List AV} : consQ (some x) (some xs) = some (x :: xs) := (rfl)
theorem res_tmp {t : Nat} : evRes e S (.tmp t) = some (e.get t) := (rfl)
theorem res_cell {t : Nat} {n : Option Nat} : evRes e S (.cell t n) = ldCells S n (e.get t) := (rfl)
theorem resV_one {x : AV} : resV [x] = x := (rfl)
theorem resV_two {x y : AV} {r : List AV} : resV (x :: y :: r) = .tu (x :: y :: r) := (rfl)
theorem resV_nil : resV [] = .tu [] := (rfl)
theorem argsE_nil {n : Nat} : argsE n [] = [] := (rfl)
theorem argsE_cons {n : Nat} {x : AV} {r : List AV} : argsE n (x :: r) = (n, x) :: argsE (n + 1) r := (rfl)
theorem keepE_nil : keepE e [] = [] := (rfl)
theorem keepE_cons {t : Nat} {r : List Nat} : keepE e (t :: r) = (t, e.get t) :: keepE e r := (rfl)
end

/-- A number that fits is not turned. -/
theorem wrap_i64 {n : Int} (h1 : -9223372036854775808 ≤ n) (h2 : n ≤ 9223372036854775807) : wrapV .i64 n = n := by simp only [wrapV]; omega
theorem wrap_u64 {n : Int} (h1 : 0 ≤ n) (h2 : n ≤ 18446744073709551615) : wrapV .u64 n = n := by simp only [wrapV]; omega
theorem wrap_u32 {n : Int} (h1 : 0 ≤ n) (h2 : n ≤ 4294967295) : wrapV .u32 n = n := by simp only [wrapV]; omega
theorem wrap_u8 {n : Int} (h1 : 0 ≤ n) (h2 : n ≤ 255) : wrapV .u8 n = n := by simp only [wrapV]; omega
theorem iaddr_i {l s i o v : Nat} {q : IntKind} {n : Int} (h0 : 0 ≤ n) (h : n.toNat < l) : iaddrV (some l) s (.p i o v) (.i q n) = some (.p i (o + n.toNat * s) v) := by simp [iaddrV, natV_i h0, h]
theorem iaddr_sl_i {s i o v l c : Nat} {x : Bool} {q : IntKind} {n : Int} (h0 : 0 ≤ n) (h : n.toNat < l) : iaddrV none s (.sl i o v l c x) (.i q n) = some (.p i (o + n.toNat * s) v) := by simp [iaddrV, natV_i h0, h]
theorem fillV_nil {z : List AV} : fillV z [] = some z := (rfl)
def fillQ (z : List AV) (off n : Nat) (ys : Option (List AV)) (r : List (Nat × Nat × AV)) : Option (List AV) := match ys with
  | some ys => if ys.length = n ∧ off + n ≤ z.length then fillV (splice z off ys) r else none
  | none => none
theorem fillV_cons {z : List AV} {off n : Nat} {x : AV} {r : List (Nat × Nat × AV)} : fillV z ((off, n, x) :: r) = fillQ z off n x.cells r := (rfl)
theorem fillQ_some {z : List AV} {off n : Nat} {ys : List AV} {r : List (Nat × Nat × AV)} : fillQ z off n (some ys) r = if ys.length = n ∧ off + n ≤ z.length then fillV (splice z off ys) r else none := (rfl)
theorem parts_nil {e : Env} : evParts e [] = [] := (rfl)
theorem parts_cons {e : Env} {a b : Nat} {x : X} {r : List (Nat × Nat × X)} : evParts e ((a, b, x) :: r) = (a, b, x.ev e) :: evParts e r := (rfl)
theorem splice_eq {cs xs : List AV} {o : Nat} : splice cs o xs = cs.take o ++ (xs ++ cs.drop (o + xs.length)) := (rfl)
theorem zerosV_one {z : AV} {n : Nat} : zerosV [z] n = List.replicate n z := by
  simp only [zerosV, List.length_singleton, Nat.mul_one]
  apply List.ext_getElem (by simp)
  intro k h1 h2
  simp [Nat.mod_one]
theorem all_nil {p : AV → Bool} : List.all [] p = true := (rfl)
theorem all_cons {p : AV → Bool} {x : AV} {r : List AV} : List.all (x :: r) p = (p x && List.all r p) := (rfl)
attribute [go_sem] W_skip W_region W_live W_seq W_cond W_block W_exit W_ret W_goto normK_app blockK_exit_same blockK_normal blockK_ret blockK_goto blockK_exit seqK_normal seqK_ret seqK_exit seqK_goto wCond_true wCond_false wCond_dec
  loopK_normal loopK_ret loopK_exit loopK_goto jumpK_normal jumpK_ret jumpK_exit jumpK_goto
  wOps_nil wOps_op wOps_gd opsK_some opsK_none gA_app gB_some gB_none wGd_tt wGd_tf wGd_ft wGd_ff wGd_dect wGd_decf wGd_ud
  wFl_nil wFl_op wFl_m wFl_gd wFl_gm flK_some flK_none flM_some flM_none fA_app fAM_app fB_some fB_none pre_same pre_app Option.toList List.nil_append List.cons_append List.append_nil List.append_assoc List.map_cons List.map_nil true_and and_true
  evOp_op evOp_call evOp_callv optK_some optV_some optM_some xev_t xev_c get_ite get_nil oi_mv oi_pick pickV_t pickV_f oi_fresh oi_box boxV_some oi_build agV_some oi_bslice bsV_some oi_load oi_store oi_nilck oi_bin oi_un oi_toInt oi_faddr oi_fld oi_iaddr oi_ixa oi_ixs oi_slice oi_sla oi_sls oi_ext oi_mkf oi_mks mksV_some oi_len lenQ_s lenQ_sn lenQ_se lenQ_sl oi_copy copyQ_some oi_app appQ_some oi_mm mmQ_max mmQ_min oi_eqag oi_same sameV_s oi_toStr oi_toBytes oi_clear oi_ixbyte ixbyteV_s oi_ovl oi_mkno oi_cap oi_mkmap mkmapV_none mkmapV_some oi_mlook oi_mentry oi_mstore oi_mupd oi_mdel
  bin_add bin_sub bin_mul bin_rem_pos bin_quo_pos wrap_i64 wrap_u64 wrap_u32 wrap_u8 bin_eql bin_neq bin_lss bin_leq bin_gtr bin_geq bin_shl bin_shr bin_beql bin_bneq bin_seql bin_sneq un_not_true un_not_false un_not_dec un_neg nilV_p nilV_f nilV_y toInt_i faddr_p fld_ag part_none part_some ext_tu natV_nat
  cells_i cells_b cells_s cells_p cells_pn cells_sn cells_se cells_sl cells_ag cells_f cells_m cells_mn one_i one_b one_s one_p one_pn one_sn one_se one_sl one_f one_m one_mn
  rowAt_B ld_one ld_row st_B cellB_some rowB_some stB_some at_app at_app0 set_app set_app0 List.getElem?_cons_zero List.getElem?_cons_succ List.set_cons_zero List.set_cons_succ
  fillV_nil fillV_cons fillQ_some parts_nil parts_cons splice_eq zerosV_one all_nil all_cons Bool.and_true Bool.true_and Bool.and_self eq_self List.length_cons List.length_nil List.length_append List.take_zero List.drop_zero List.take_succ_cons List.drop_succ_cons List.take_nil List.drop_nil Nat.zero_add Nat.add_zero
  ret_eq ret_eq' resQ_some res_nil res_cons consQ_some res_tmp res_cell resV_one resV_two resV_nil argsE_nil argsE_cons keepE_nil keepE_cons
end Go.Proofs.YtmolaemlenllmaaGreat

namespace Go.Proofs.YtmolaemlenllmaaGreat
set_option linter.unusedSimpArgs false
set_option linter.unusedVariables false
open Go.RowKit

/-! ### The memory that was there -/
/-- The kinds of cells. -/
inductive CS where
  | int (k : IntKind)
  | bool
  | str
  | slice (e : TypeId)

/-- What a cell holds, if it can be read. -/
def CellIs {H : Type} (enc : TypeId × Value → H) (P : Program) (w : World) : CS → Value → Prop
  | .int k, v => ∃ n, v = .int k n ∧ (Lit.int k n).wf = true
  | .bool, v => ∃ x, v = .bool x
  | .str, v => ∃ s, v = .string s ∧ s.size ≤ maxLen
  | .slice e, v => v = .slice none 0 0 ∨ ∃ a len cap, v = .slice (some a) len cap ∧ len ≤ cap ∧ cap ≤ maxLen ∧
      ∀ i, i < cap → ∃ cs, w.cells? 0 (a.add (i * P.cellsOf e)) (P.cellsOf e) = some cs ∧ ∃ fuel d ps, DataW.trod enc P w 0 (fun _ => true) true fuel e cs = some (d, ps)

def RowIs {H : Type} (enc : TypeId × Value → H) (P : Program) (w : World) (sh : List CS) (cs : List Value) : Prop := cs.length = sh.length ∧ ∀ i (h : i < sh.length) (h' : i < cs.length), CellIs enc P w sh[i] cs[i]

section
variable {H : Type} {enc : TypeId × Value → H} {P : Program} {w : World}

theorem RowIs.append {s1 s2 : List CS} {c1 c2 : List Value} (h1 : RowIs enc P w s1 c1) (h2 : RowIs enc P w s2 c2) : RowIs enc P w (s1 ++ s2) (c1 ++ c2) := by
  refine ⟨by simp [h1.1, h2.1], fun i h h' => ?_⟩
  have hl := h1.1
  by_cases e : i < s1.length
  · rw [List.getElem_append_left e, List.getElem_append_left (by omega)]
    exact h1.2 i e (by omega)
  · rw [List.getElem_append_right (by omega), List.getElem_append_right (by omega)]
    simp only [List.length_append] at h h'
    have := h2.2 (i - s1.length) (by omega) (by omega)
    simpa [hl] using this

end
end Go.Proofs.YtmolaemlenllmaaGreat

namespace Go.Proofs.YtmolaemlenllmaaGreat
set_option linter.unusedSimpArgs false
set_option linter.unusedVariables false
open Go.RowKit

section
variable {P : Program} {O : Orc} {S0 : Mem} {rd : Bool} {e : Env} {S : Mem} {d : List Nat} {Q : Kont}

/-- At most j rounds of a loop. -/
def LW (P : Program) (O : Orc) (S0 : Mem) (rd : Bool) (l : List Nat) (c : ICode) (Q : Kont) : Nat → Env → Mem → List Nat → Prop
  | 0, _, _, _ => False
  | j + 1, e, S, d => W P O S0 rd c (keepE e l) S d (seqK (fun e S d _ => LW P O S0 rd l c Q j e S d) Q)

def lwK (P : Program) (O : Orc) (S0 : Mem) (rd : Bool) (l : List Nat) (c : ICode) (Q : Kont) (j : Nat) : Env → Mem → List Nat → Kont → Prop := fun e S d _ => LW P O S0 rd l c Q j e S d
theorem LW_succ {l : List Nat} {c : ICode} {j : Nat} : LW P O S0 rd l c Q (j + 1) e S d = W P O S0 rd c (keepE e l) S d (seqK (lwK P O S0 rd l c Q j) Q) := (rfl)
theorem lwK_app {l : List Nat} {c : ICode} {j : Nat} {Q' : Kont} : lwK P O S0 rd l c Q j e S d Q' = LW P O S0 rd l c Q j e S d := (rfl)

section
variable {n k : Nat} {g : Nat → Option (Nat × Nat)} {L : Mem} {keep : List Nat}
def renP (q : Option (Nat × Nat)) (o v : Nat) : AV := match q with
  | some (j, v') => if v = v' then .p j o 0 else .u
  | none => .u
def renS (q : Option (Nat × Nat)) (o v l c : Nat) (x : Bool) : AV := match q with
  | some (j, v') => if v = v' then .sl j o 0 l c x else .u
  | none => .u
def renM (q : Option (Nat × Nat)) : AV := match q with
  | some (j, v') => if v' = 0 then .m j else .u
  | none => .u
theorem ren_p {o v : Nat} : ren n g (.p (n + k) o v) = renP (g (n + k)) o v := by rw [ren, if_neg (by omega)]; rfl
theorem ren_p0 {o v : Nat} : ren n g (.p n o v) = renP (g n) o v := by rw [ren, if_neg (by omega)]; rfl
theorem ren_sl {o v l c : Nat} {x : Bool} : ren n g (.sl (n + k) o v l c x) = renS (g (n + k)) o v l c x := by rw [ren, if_neg (by omega)]; rfl
theorem ren_sl0 {o v l c : Nat} {x : Bool} : ren n g (.sl n o v l c x) = renS (g n) o v l c x := by rw [ren, if_neg (by omega)]; rfl
theorem ren_m : ren n g (.m (n + k)) = renM (g (n + k)) := by rw [ren, if_neg (by omega)]; rfl
theorem ren_m0 : ren n g (.m n) = renM (g n) := by rw [ren, if_neg (by omega)]; rfl
theorem renP_some {j v' o v : Nat} : renP (some (j, v')) o v = if v = v' then .p j o 0 else .u := rfl
theorem renS_some {j v' o v l c : Nat} {x : Bool} : renS (some (j, v')) o v l c x = if v = v' then .sl j o 0 l c x else .u := rfl
theorem renM_some {j v' : Nat} : renM (some (j, v')) = if v' = 0 then .m j else .u := rfl
def gQ (n : Nat) (p : Option Nat) (B : Option Blk) : Option (Nat × Nat) := match p, B with
  | some p, some B => some (n + p, B.ver)
  | _, _ => none
theorem gKeep_at : gKeep n L keep (n + k) = gQ n (keep.findIdx? (· == k)) (L[k]?) := by
  unfold gKeep gQ
  rw [if_neg (by omega), show n + k - n = k by omega]
  cases keep.findIdx? (· == k) <;> cases L[k]? <;> rfl
theorem gKeep_at0 : gKeep n L keep n = gQ n (keep.findIdx? (· == 0)) (L[0]?) := by
  have := gKeep_at (n := n) (k := 0) (L := L) (keep := keep)
  simpa using this
theorem gQ_some {p : Nat} {B : Blk} : gQ n (some p) (some B) = some (n + p, B.ver) := rfl
theorem ver_cells {cs : List AV} {v : Nat} {o : Option Nat} {r : Bool} : Blk.ver (.cells cs v o r) = v := rfl
theorem ver_map {es : List (AV × AV × Nat)} {c : Nat} : Blk.ver (.map es c) = 0 := rfl
theorem renL_nil : renL n g [] = [] := by rw [renL]
theorem renL_cons {x : AV} {r : List AV} : renL n g (x :: r) = ren n g x :: renL n g r := by rw [renL]
theorem ren_ag {cs : List AV} : ren n g (.ag cs) = .ag (renL n g cs) := by rw [ren]
theorem ren_tu {cs : List AV} : ren n g (.tu cs) = .tu (renL n g cs) := by rw [ren]
theorem ren_i {q : IntKind} {z : Int} : ren n g (.i q z) = .i q z := by rw [ren]
theorem ren_b {z : Bool} : ren n g (.b z) = .b z := by rw [ren]
theorem ren_s {z : List UInt8} : ren n g (.s z) = .s z := by rw [ren]
theorem ren_pn : ren n g .pn = .pn := by rw [ren]
theorem ren_sn : ren n g .sn = .sn := by rw [ren]
theorem ren_se : ren n g .se = .se := by rw [ren]
theorem keepB_eq : keepB n L keep = keep.map fun k => renB n (gKeep n L keep) 0 (L.getD k (.dfr false)) := rfl
theorem renB_cells {cs : List AV} {v v' : Nat} {o : Option Nat} {r : Bool} : renB n g v' (.cells cs v o r) = .cells (renL n g cs) v' o r := rfl
end

/-! ### Elements of a slice that came in -/
theorem bin_peql_nn {cst : Bool} : binV .ptr cst .eql .pn .pn = some (.b true) := rfl
theorem bin_peql_pn {cst : Bool} {i o v : Nat} : binV .ptr cst .eql (.p i o v) .pn = some (.b false) := rfl
theorem bin_peql_np {cst : Bool} {i o v : Nat} : binV .ptr cst .eql .pn (.p i o v) = some (.b false) := rfl
theorem bin_pneq_nn {cst : Bool} : binV .ptr cst .neq .pn .pn = some (.b false) := rfl
theorem bin_pneq_pn {cst : Bool} {i o v : Nat} : binV .ptr cst .neq (.p i o v) .pn = some (.b true) := rfl
theorem bin_pneq_np {cst : Bool} {i o v : Nat} : binV .ptr cst .neq .pn (.p i o v) = some (.b true) := rfl
theorem bin_sleql_nn {cst : Bool} : binV .slice cst .eql .sn .sn = some (.b true) := rfl
theorem bin_sleql_en {cst : Bool} : binV .slice cst .eql .se .sn = some (.b false) := rfl
theorem bin_sleql_sn {cst : Bool} {i o v l c : Nat} {x : Bool} : binV .slice cst .eql (.sl i o v l c x) .sn = some (.b false) := rfl

end
attribute [go_sem] bin_peql_nn bin_peql_pn bin_peql_np bin_pneq_nn bin_pneq_pn bin_pneq_np bin_sleql_nn bin_sleql_en bin_sleql_sn LW_succ lwK_app ren_p ren_p0 ren_sl ren_sl0 ren_m ren_m0 renP_some renS_some renM_some gKeep_at gKeep_at0 gQ_some ver_cells ver_map renL_nil renL_cons ren_ag ren_tu ren_i ren_b ren_s ren_pn ren_sn ren_se keepB_eq renB_cells
end Go.Proofs.YtmolaemlenllmaaGreat

namespace Go.Proofs.YtmolaemlenllmaaGreat
open Go.RowKit
set_option linter.unusedSimpArgs false
set_option linter.unusedVariables false

section
variable {P : Program}

/-- The evaluator, some functions by their contracts. -/
def evMix (sp : List (FuncId × Spec)) (T : FuncId → Option IFunc) (m : Nat) : Nat → Orc
  | 0 => ⟨fun _ _ _ => none, fun _ _ _ => none⟩
  | n + 1 => ⟨fun f => match sp.find? (fun p => Nat.beq p.1 f) with
    | some p => p.2
    | none => match T f with
      | some F => evFunc (evMix sp T m n) m F
      | none => fun _ _ => none, evRound (evMix sp T m n) m T⟩

theorem evMix_ok (hmix : P.follows .mixedOrders = true) {sp : List (FuncId × Spec)} (hsp : ∀ p ∈ sp, SpecOK P p.1 p.2) {T : FuncId → Option IFunc} (hT : ∀ f F, T f = some F → compFunc P f = some (stripF F)) (m : Nat) : ∀ n, OK P (lamOf P) (evMix sp T m n)
  | 0 => ⟨fun f args S x S' h => by simp [evMix] at h, fun i args S x S' h => by simp [evMix] at h⟩
  | n + 1 => by
    have ih := evMix_ok hmix hsp hT m n
    refine ⟨fun f args S x S' h => ?_, fun i args S x S' h base w0 K w l vs hΛ hy hA hS => round_ok ih hmix hT h base w0 K w l vs hΛ hy hA hS⟩
    cases hq : sp.find? (fun p => Nat.beq p.1 f) with
    | some p =>
      simp only [evMix, hq] at h
      have hp := List.mem_of_find?_eq_some hq
      have he := List.find?_some hq
      have he := Nat.eq_of_beq_eq_true he
      subst he
      exact hsp p hp args S x S' h
    | none =>
      cases hF : T f with
      | none => simp [evMix, hq, hF] at h
      | some F =>
        simp only [evMix, hq, hF] at h
        exact func_ok ih hmix (hT f F hF) h

theorem calls_of_mix (hmix : P.follows .mixedOrders = true) {sp : List (FuncId × Spec)} (hsp : ∀ p ∈ sp, SpecOK P p.1 p.2) {T : FuncId → Option IFunc} (hT : ∀ f F, T f = some F → compFunc P f = some (stripF F)) {m n : Nat} {f : FuncId}
    (hv : isTrue ((evMix sp T m n).fn f [] []) = true) (w : World) (hd : Door w.heap.size w := by exact Door.triv) : Calls P f #[] w fun e w' => e = .returned (.bool true) ∧ Below w.heap.size w w' := by
  have hO := evMix_ok (P := P) hmix hsp (T := T) hT m n
  cases hr : (evMix sp T m n).fn f [] [] with
  | none => rw [hr] at hv; cases hv
  | some p =>
    obtain ⟨x, S'⟩ := p
    rw [hr] at hv
    have hx : x = .b true := by
      unfold isTrue at hv
      split at hv
      · rename_i h; simp only [Option.some.injEq, Prod.mk.injEq] at h; exact h.1
      · cases hv
    subst hx
    refine ((hO.fn _ _ _ _ _ hr).2 ⟨w.heap.size, lamOf P⟩ w _ w #[] rfl ⟨rfl, fun k hk => by simp at hk⟩ (Sim.start _ w hd)).mono fun e w' hp => ?_
    obtain ⟨K', v, rfl, hV, hS, _⟩ := hp
    cases hV
    exact ⟨rfl, hS.below⟩

/-- A call that changes nothing that was there, with whatever arguments. -/
theorem post_of_below {base : Bs} {w0 : World} {K : Ctx} {S : Mem} {w w' : World} {x : AV} {v : Value} (hS : Sim base w0 K S w) (hb : Below w.heap.size w w') (hv : VR K S x v) : Post base w0 K S w x S (.returned v) w' := by
  obtain ⟨h1, h2, h3, h4, h5⟩ := hb
  have hst : Stp K S w K S w' := ⟨.refl K S, h1, h2, h3, h4, fun b hb _ => h5 b hb, fun _ B' h => .inl ⟨B', h, id, rfl⟩⟩
  exact ⟨K, v, rfl, hv, ⟨fun i B hB => (hS.blk i B hB).mono (.refl K S) rfl rfl (h5 _ (hS.blk i B hB).lt), hS.inj, hS.step_below hst, Nat.le_trans hS.hb h4, hS.door⟩, hst⟩

/-! ### strings.Join -/
end
end Go.Proofs.YtmolaemlenllmaaGreat

