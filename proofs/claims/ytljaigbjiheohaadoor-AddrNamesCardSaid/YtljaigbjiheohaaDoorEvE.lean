/- Proved here: what the compiler makes of an operation that calls nothing stands for it. No condition. -/
import Derived.Lib.Overlaps
import Derived.Test.YtljaigbjiheohaaDoorEvD6
namespace Go.Proofs.YtljaigbjiheohaaDoor
set_option linter.unusedSimpArgs false
set_option linter.unusedVariables false
open Go.RowKit

section
variable {P : Program} {base : Bs} {w0 : World} {K : Ctx} {S : Mem} {w : World}

theorem Good.val (h : Sim base w0 K S w) {x : AV} {s : Sem Value} (hr : ∃ v, s.run P w = .ok v w ∧ VR K S x v) : Good base w0 K S w x S ((do let v ← s; pure (Next.value v) : Sem Next).run P w) := by
  obtain ⟨v, hv, hV⟩ := hr
  exact Good.same (v := v) h (by simp [hv]) hV

theorem two {α : Type} {l : List α} {n : Nat} (h : l.length = n) : (n = 1 → ∃ a, l = [a]) ∧ (n = 2 → ∃ a b, l = [a, b]) := by
  constructor
  · intro e; subst e
    match l, h with
    | [a], _ => exact ⟨a, rfl⟩
  · intro e; subst e
    match l, h with
    | [a, b], _ => exact ⟨a, b, rfl⟩

theorem builtin_ok (h : Sim base w0 K S w) {n : Nat} {e : Env} {a : Act} (hr : ER K S n e a) {b : Builtin} {args : Array Operand} {ts : Array TypeId} {ty : TypeId} {consts : Array Bool} {xs : List X} {io : IO'} {x : AV} {S' : Mem}
    (hxs : compXs args.toList = some xs) (hc : compBuiltin P b xs ts.toList = some io) (hv : evIO e S io = some (x, S')) :
    Good base w0 K S w x S' ((builtin b ts ty consts (args.map a.eval)).run P w) := by
  have hA := compXs_ok hr hxs
  have hl : args.toList.length = xs.length := by have := hA.1; simpa using this.symm
  have one : ∀ y, xs = [y] → ∃ o, args.map a.eval = #[a.eval o] ∧ VR K S (y.ev e) (a.eval o) := by
    intro y hy
    subst hy
    obtain ⟨o, ho⟩ := (two hl).1 rfl
    have : args = #[o] := by rw [← Array.toArray_toList (xs := args), ho]
    subst this
    exact ⟨o, by simp, hA.2 0 (by simp) (by simp)⟩
  have twoA : ∀ y z, xs = [y, z] → ∃ o p, args.map a.eval = #[a.eval o, a.eval p] ∧ VR K S (y.ev e) (a.eval o) ∧ VR K S (z.ev e) (a.eval p) := by
    intro y z hy
    subst hy
    obtain ⟨o, p, ho⟩ := (two hl).2 rfl
    have : args = #[o, p] := by rw [← Array.toArray_toList (xs := args), ho]
    subst this
    exact ⟨o, p, by simp, hA.2 0 (by simp) (by simp), hA.2 1 (by simp) (by simp)⟩
  have ts1 : ∀ t, ts.toList = [t] → ts = #[t] := fun t ht => by rw [← Array.toArray_toList (xs := ts), ht]
  have ts2 : ∀ t u, ts.toList = [t, u] → ts = #[t, u] := fun t u ht => by rw [← Array.toArray_toList (xs := ts), ht]
  unfold compBuiltin at hc
  split at hc
  · -- len
    rename_i y t hts
    obtain ⟨o, ho, hy⟩ := one y rfl
    rw [ho]
    obtain rfl := ts1 t hts
    have fin : ∀ (k : LK), (lenOk k (y.ev e) = true → lenFits P t (y.ev e) = true) → io = .len k y → Good base w0 K S w x S' ((builtin .len #[t] ty consts #[a.eval o]).run P w) := by
      intro k hk hio
      subst hio
      simp only [evIO] at hv
      split at hv
      · rename_i hok
        split at hv
        · rename_i m hm
          injection hv with hv; injection hv with h1 h2; subst h1; subst h2
          exact Good.val h ⟨_, run_len h hy hm (hk hok), .i _ _⟩
        · cases hv
      · cases hv
    split at hc
    · rename_i hu; injection hc with hc
      exact fin .str (by generalize y.ev e = q; cases q <;> simp [lenOk, lenFits, hu]) hc.symm
    · rename_i hu; injection hc with hc
      exact fin .slice (by generalize y.ev e = q; cases q <;> simp [lenOk, lenFits, hu]) hc.symm
    · rename_i hu; injection hc with hc
      exact fin .map (by generalize y.ev e = q; cases q <;> simp [lenOk, lenFits, hu]) hc.symm
    · cases hc
  · -- copy
    rename_i y z t u hts
    obtain ⟨o, p, ho, hy, hz⟩ := twoA y z rfl
    rw [ho]
    obtain rfl := ts2 t u hts
    split at hc
    · rename_i el hu
      split at hc
      · rename_i i hi
        injection hc with hc; subst hc
        simp only [evIO] at hv
        split at hv
        · rename_i m S'' hm
          injection hv with hv; injection hv with h1 h2; subst h1; subst h2
          exact good_copy h hu hi hy hz hm
        · cases hv
      · cases hc
    · cases hc
  · -- append
    rename_i y z t u hts
    obtain ⟨o, p, ho, hy, hz⟩ := twoA y z rfl
    rw [ho]
    obtain rfl := ts2 t u hts
    split at hc
    · rename_i el d hu hd
      split at hc
      · rename_i i zs hi hzs
        split at hc
        · rename_i hsz
          split at hc
          · injection hc with hc; subst hc
            simp only [evIO] at hv
            split at hv
            · rename_i m hm
              split at hv
              · rename_i hb
                rw [hsz] at hv
                exact good_appz h hu hd hi hzs hsz hy hz hm hb hv
              · cases hv
            · cases hv
          · rename_i hint
            injection hc with hc; subst hc
            simp only [evIO] at hv
            split at hv
            · rename_i cs m hm
              exact good_app h hu hd (fun k e => hint k e) hi hzs hsz hy hz hm hv
            · cases hv
        · cases hc
      · cases hc
    · cases hc
  · -- clear
    rename_i y t hts
    obtain ⟨o, ho, hy⟩ := one y rfl
    rw [ho]
    obtain rfl := ts1 t hts
    split at hc
    · rename_i el hu
      obtain ⟨z, hz, rfl⟩ := Option.map_eq_some_iff.1 hc
      exact good_clear h hu hz hy hv
    · cases hc
  · -- delete
    rename_i y z t tl hts
    obtain ⟨o, p, ho, hy, hz⟩ := twoA y z rfl
    rw [ho]
    have ht0 : ts[0]? = some t := by rw [← Array.getElem?_toList, hts]; rfl
    split at hc
    · rename_i kt el hu
      obtain ⟨q, hq, rfl⟩ := Option.map_eq_some_iff.1 hc
      simp only [evIO] at hv
      split at hv
      · rename_i S'' hm
        injection hv with hv; injection hv with h1 h2; subst h1; subst h2
        exact good_mdel h ht0 hu hq hy hz hm
      · cases hv
    · cases hc
  · -- cap
    rename_i y t hts
    obtain ⟨o, ho, hy⟩ := one y rfl
    rw [ho]
    obtain rfl := ts1 t hts
    split at hc
    · rename_i el hu
      injection hc with hc; subst hc
      simp only [evIO] at hv
      split at hv
      · rename_i m hm
        injection hv with hv; injection hv with h1 h2; subst h1; subst h2
        exact good_cap h hu hy hm
      · cases hv
    · cases hc
  · -- max
    injection hc with hc; subst hc
    simp only [evIO] at hv
    split at hv
    · rename_i y r hy
      split at hv
      · rename_i z hz
        injection hv with hv; injection hv with h1 h2; subst h1; subst h2
        rw [hy] at hA
        obtain ⟨v, vs, hvs⟩ : ∃ v vs, args.toList.map a.eval = v :: vs := by
          cases hh : args.toList.map a.eval with
          | nil => rw [hh] at hA; have := hA.1; simp at this
          | cons v vs => exact ⟨v, vs, rfl⟩
        rw [hvs] at hA
        obtain ⟨q, hq, hV⟩ := run_mm (P := P) (w := w) (mx := true) r y z v vs (hA.2 0 (by simp) (by simp)) ⟨by have := hA.1; simpa using this, fun k h1 h2 => hA.2 (k + 1) (by simp; omega) (by simp; omega)⟩ hz
        refine Good.val h ⟨q, ?_, hV⟩
        simp only [Builtin.max_, Array.toList_map, hvs]
        simpa using hq
      · cases hv
    · cases hv
  · -- min
    injection hc with hc; subst hc
    simp only [evIO] at hv
    split at hv
    · rename_i y r hy
      split at hv
      · rename_i z hz
        injection hv with hv; injection hv with h1 h2; subst h1; subst h2
        rw [hy] at hA
        obtain ⟨v, vs, hvs⟩ : ∃ v vs, args.toList.map a.eval = v :: vs := by
          cases hh : args.toList.map a.eval with
          | nil => rw [hh] at hA; have := hA.1; simp at this
          | cons v vs => exact ⟨v, vs, rfl⟩
        rw [hvs] at hA
        obtain ⟨q, hq, hV⟩ := run_mm (P := P) (w := w) (mx := false) r y z v vs (hA.2 0 (by simp) (by simp)) ⟨by have := hA.1; simpa using this, fun k h1 h2 => hA.2 (k + 1) (by simp; omega) (by simp; omega)⟩ hz
        refine Good.val h ⟨q, ?_, hV⟩
        simp only [Builtin.min_, Array.toList_map, hvs]
        simpa using hq
      · cases hv
    · cases hv
  · cases hc

theorem find_ixbyte {fn : Func} (h : fn.name = "internal/bytealg.IndexByteString") : Extern.find fn = some Extern.BytealgIndexByte.indexByte := by
  unfold Extern.find
  rw [h]
  have e1 : Extern.allGenericRows.lookup "internal/bytealg.IndexByteString" = none := by kernel_rfl
  have e2 : Extern.allTypedRows.lookup "internal/bytealg.IndexByteString" = none := by kernel_rfl
  have e3 : Extern.allRows.lookup "internal/bytealg.IndexByteString" = some Extern.BytealgIndexByte.indexByte := by kernel_rfl
  simp only [e1, e2, e3]
  rfl

theorem find_mkno {fn : Func} (h : fn.name = "internal/bytealg.MakeNoZero") : Extern.find fn = some (Extern.BytealgMakeNoZero.makeNoZero fn.params fn.resultTypes) := by
  unfold Extern.find
  rw [h]
  have e1 : Extern.allGenericRows.lookup "internal/bytealg.MakeNoZero" = none := by kernel_rfl
  have e2 : Extern.allTypedRows.lookup "internal/bytealg.MakeNoZero" = some Extern.BytealgMakeNoZero.makeNoZero := by kernel_rfl
  simp only [e1, e2]
  rfl

theorem find_ovl {fn : Func} (h : fn.origin = "slices.overlaps") (h1 : (Extern.allGenericRows.lookup fn.name).isNone = true) (h2 : (Extern.allTypedRows.lookup fn.name).isNone = true) (h3 : (Extern.allRows.lookup fn.name).isNone = true) : Extern.find fn = some (Extern.SlicesOverlaps.overlaps fn.params fn.resultTypes) := by
  unfold Extern.find
  have e1 : Extern.allGenericRows.lookup "slices.overlaps" = none := by kernel_rfl
  have e2 : Extern.allTypedRows.lookup "slices.overlaps" = some Extern.SlicesOverlaps.overlaps := by kernel_rfl
  rw [Option.isNone_iff_eq_none] at h1 h2 h3
  simp only [h, h1, h2, h3, e1, e2]
  rfl
theorem good_ovl (h : Sim base w0 K S w) {t e tR : TypeId} (ht : P.underlying t = some (.slice e)) {inf : TypeInfo} (hi : P.info? e = some inf) {i o v l c j o2 v2 l2 c2 : Nat} {ex ex2 : Bool} (hij : i ≠ j) (ha : apartB (S[i]?) (S[j]?) o v v2 = true) {x y : Value} (hx : VR K S (.sl i o v l c ex) x) (hy : VR K S (.sl j o2 v2 l2 c2 ex2) y) :
    (Extern.SlicesOverlaps.overlaps #[t, t] #[tR] #[x, y]).run P w = .ok (.bool false) w := by
  unfold apartB at ha
  split at ha
  · rename_i cs ver op cs2 ver2 op2 r2 hA hB
    simp only [decide_eq_true_eq] at ha
    obtain ⟨rfl, rfl, hop, ho, hpos⟩ := ha
    have hend : ∀ n, endOf op n = n + 1 := fun n => by unfold endOf; rw [if_neg hop]
    cases hx with
    | sl _ _ _ _ _ _ ax cx Bx g1 g2 g3 g4 g5 g6 =>
      rw [hA] at g1; injection g1 with g1; subst g1
      obtain ⟨rfl, _⟩ := g6 rfl
      cases hy with
      | sl _ _ _ _ _ _ ay cy By k1 k2 k3 k4 k5 k6 =>
        rw [hB] at k1; injection k1 with k1; subst k1
        obtain ⟨rfl, _⟩ := k6 rfl
        obtain ⟨c1, et1, fz1, p1, p2, p3, p4, p5, p6⟩ := h.blk i _ hA
        obtain ⟨c2', et2, fz2, q1, q2, q3, q4, q5, q6⟩ := h.blk j _ hB
        have hne : K.μ i ≠ K.μ j := fun q => hij (h.inj i j (List.getElem?_eq_some_iff.1 hA).1 (List.getElem?_eq_some_iff.1 hB).1 q)
        have hfz := (p6 rfl).2
        refine Lib.run_overlaps_apart w t tR e ht inf.size (fun w => run_sizeOf' hi) ⟨K.μ i, o, none⟩ ⟨K.μ j, o2, none⟩ l cx l2 cy hne et1 et2 c1.size c2'.size ?_ ?_ (by omega) ?_ ?_
        · simp [World.shape?, p1]
        · simp [World.shape?, q1]
        · have := hfz o (by rw [hend]; omega)
          simp [World.frozen?, p1]
          omega
        · have := hfz c1.size (by rw [hend]; omega)
          simp [World.frozen?, p1]
          omega
  · cases ha
theorem good_ixbyte (h : Sim base w0 K S w) {fn : Func} (hn : fn.name = "internal/bytealg.IndexByteString") {l : List UInt8} {c : Int} {v v2 : Value} (hx : VR K S (.s l) v) (hy : VR K S (.i .u8 c) v2) :
    ∃ z, (Extern.BytealgIndexByte.indexByte #[v, v2]).run P w = .ok z w ∧ VR K S (.i .i64 (Lib.indexByte l c.toNat.toUInt8)) z := by
  cases hx
  cases hy
  exact ⟨_, Lib.run_indexByteString _ _ w, .i _ _⟩

theorem good_mkno (h : Sim base w0 K S w) {ps : Array TypeId} {t el : TypeId} (ht : P.underlying t = some (.slice el)) {n : Nat} (h0 : 0 < n) (hn : n ≤ 140737488355328) :
    ∃ z w' K', (Extern.BytealgMakeNoZero.makeNoZero ps #[t] #[.int .i64 n]).run P w = .ok z w' ∧ VR K' (S ++ [.cells (List.replicate n .u) 0 (some 1) true]) (.sl S.length 0 0 n n false) z ∧ Sim base w0 K' (S ++ [.cells (List.replicate n .u) 0 (some 1) true]) w' ∧ Stp K S w K' (S ++ [.cells (List.replicate n .u) 0 (some 1) true]) w' := by
  obtain ⟨hd1, hd2⟩ := h.drew
  obtain ⟨hd3, hd4⟩ := hd1.drew
  obtain ⟨cs, hrun, hge, _⟩ := Lib.run_makeNoZero (P := P) w ps t el ht n (by omega)
  obtain ⟨K', g1, g2, g3, g4⟩ := good_row2 hd3 (List.replicate n .u) cs el (some 1) (0, 0)
    (by simpa using hge) (fun e => by cases e) (fun k hk => by
      rw [show (List.replicate n AV.u).getD k .u = .u by simp only [List.length_replicate] at hk; simp [List.getD_eq_getElem?_getD, hk]]
      exact .u _) (fun o ho => by omega)
  refine ⟨_, _, K', hrun, ?_, g1, (hd2.trans hd4).trans g2⟩
  refine .sl _ _ _ _ _ _ _ _ _ (new_at S _) (Nat.le_refl _) (Nat.le_refl _) hge (fun e => by cases e) fun _ => ⟨by rw [g3]; rfl, fun _ => ⟨1, rfl, ?_⟩⟩
  rw [g4]; omega

set_option maxHeartbeats 400000 in
theorem op_ok (h : Sim base w0 K S w) {n : Nat} {e : Env} {a : Act} (hr : ER K S n e a) {o : Oper} {io : IO'} {x : AV} {S' : Mem} (hc : compOp P o.op = some io) (hv : evIO e S io = some (x, S')) :
    Good base w0 K S w x S' ((execOp a.eval o).run P w) := by
  obtain ⟨dst, op, ty, pos, aft, grd⟩ := o
  have one1 : ∀ {x y : AV} {S1 S2 : Mem}, some (x, S1) = some (y, S2) → x = y ∧ S1 = S2 := by
    intro x y S1 S2 h; injection h with h; injection h with h1 h2; exact ⟨h1, h2⟩
  unfold compOp at hc
  simp only at hc
  split at hc
  · -- move
    obtain ⟨y, hy, rfl⟩ := Option.map_eq_some_iff.1 hc
    obtain ⟨h1, h2⟩ := one1 hv; subst h1; subst h2
    exact Good.same h (by simp [execOp]) (compX_ok hy hr)
  · -- assign
    obtain ⟨y, hy, rfl⟩ := Option.map_eq_some_iff.1 hc
    obtain ⟨h1, h2⟩ := one1 hv; subst h1; subst h2
    exact Good.same h (by simp [execOp]) (compX_ok hy hr)
  · -- pick
    split at hc
    · rename_i c' a' b' c a1 b1 h1 h2 h3
      injection hc with hc; subst hc
      simp only [evIO] at hv
      split at hv
      · rename_i hb
        obtain ⟨e1, e2⟩ := one1 hv; subst e1; subst e2
        exact good_pick (b := true) h (compX_ok h1 hr) (compX_ok h2 hr) (compX_ok h3 hr) hb rfl
      · rename_i hb
        obtain ⟨e1, e2⟩ := one1 hv; subst e1; subst e2
        exact good_pick (b := false) h (compX_ok h1 hr) (compX_ok h2 hr) (compX_ok h3 hr) hb rfl
      · cases hv
    · cases hc
  · -- alloc
    obtain ⟨z, hz, rfl⟩ := Option.map_eq_some_iff.1 hc
    obtain ⟨h1, h2⟩ := one1 hv; subst h1; subst h2
    exact good_fresh h hz
  · -- box
    obtain ⟨y, hy, rfl⟩ := Option.map_eq_some_iff.1 hc
    simp only [evIO] at hv
    split at hv
    · rename_i cs hcs
      obtain ⟨h1, h2⟩ := one1 hv; subst h1; subst h2
      exact good_box h (compX_ok hy hr) hcs
    · cases hv
  · -- build
    rename_i t ps
    split at hc
    · rename_i z pl hz hpl
      obtain ⟨r, hp, rfl⟩ := Option.map_eq_some_iff.1 hc
      simp only [evIO] at hv
      split at hv
      · rename_i rr hf
        obtain ⟨h1, h2⟩ := one1 hv; subst h1; subst h2
        obtain ⟨q1, q2⟩ := compParts_ok hr hp
        refine good_build h (vs := ps.map fun (i, x) => (i, a.eval x)) hz hpl (by simpa using q1) (fun k hk hk' => ?_) hf
        have e1 : (ps.map fun (i, x) => (i, a.eval x)).toList = evPs a ps.toList := by simp [evPs]
        have := q2 k hk (by rw [← e1]; exact hk')
        simp only [e1]; exact this
      · cases hv
    · cases hc
  · -- buildSlice
    rename_i t len ps
    split at hc
    · rename_i el hu
      split at hc
      · rename_i z i hz hi
        split at hc
        · rename_i hcond
          obtain ⟨r, hp, rfl⟩ := Option.map_eq_some_iff.1 hc
          simp only [evIO] at hv
          split at hv
          · rename_i rr hf
            obtain ⟨h1, h2⟩ := one1 hv; subst h1; subst h2
            obtain ⟨q1, q2⟩ := compParts_ok hr hp
            obtain ⟨hc1, hc2⟩ := hcond
            simp only [execOp]
            generalize hvs : Array.map _ ps = vs
            have e1 : vs.toList = evPs a ps.toList := by rw [← hvs]; simp [evPs]
            have e2 : (evParts e r).length = vs.size := by rw [← hvs]; simpa using q1
            refine good_bslice h hu hz hi hc1 hc2 e2 (fun k hk hk' => ?_) hf
            have := q2 k hk (by rw [← e1]; exact hk')
            simp only [e1]; exact ⟨Option.some.inj this.1, this.2⟩
          · cases hv
        · cases hc
      · cases hc
    · cases hc
  · -- load
    split at hc
    · rename_i t x n y hs hy
      injection hc with hc; subst hc
      simp only [evIO] at hv
      split at hv
      · rename_i z hz
        obtain ⟨h1, h2⟩ := one1 hv; subst h1; subst h2
        exact good_load h hs (compX_ok hy hr) hz
      · cases hv
    · cases hc
  · -- store
    split at hc
    · rename_i t x y i x' y' hi hx hy
      injection hc with hc; subst hc
      simp only [evIO] at hv
      split at hv
      · rename_i S'' hz
        obtain ⟨h1, h2⟩ := one1 hv; subst h1; subst h2
        exact good_store h hi (compX_ok hx hr) (compX_ok hy hr) hz
      · cases hv
    · cases hc
  · -- nilCheck
    obtain ⟨y, hy, rfl⟩ := Option.map_eq_some_iff.1 hc
    simp only [evIO] at hv
    split at hv
    · rename_i z hz
      obtain ⟨h1, h2⟩ := one1 hv; subst h1; subst h2
      exact good_nil h rfl (compX_ok hy hr) hz
    · cases hv
  · -- binOp
    rename_i bop t x y yt
    split at hc
    · rename_i x' y' hx hy
      split at hc
      · rename_i tk htk
        injection hc with hc; subst hc
        simp only [evIO] at hv
        split at hv
        · rename_i z hz
          obtain ⟨h1, h2⟩ := one1 hv; subst h1; subst h2
          exact Good.val h (run_bin htk (compX_ok hx hr) (compX_ok hy hr) hz)
        · cases hv
      · rename_i hnk
        split at hc
        · rename_i ks hks
          split at hc
          · rename_i hg
            have hagg : ∀ z neg, eqAgV neg ks (x'.ev e) (y'.ev e) = some z → ∃ d, P.underlying t = some d ∧ aggB d = true := by
              intro z neg hz
              have hxx := compX_ok hx hr
              cases hu : P.underlying t with
              | none => simp [flatOf, hu] at hks
              | some d =>
                refine ⟨d, rfl, ?_⟩
                unfold kindOf at hnk
                rw [hu] at hnk
                cases d <;> simp at hnk <;> simp [flatOf, hu] at hks <;> rfl
            split at hc
            · injection hc with hc; subst hc
              simp only [evIO] at hv
              split at hv
              · rename_i z hz
                obtain ⟨h1, h2⟩ := one1 hv; subst h1; subst h2
                exact good_eqag h (.inl ⟨rfl, rfl⟩) hks hg (compX_ok hx hr) (compX_ok hy hr) hz (hagg _ _ hz)
              · cases hv
            · injection hc with hc; subst hc
              simp only [evIO] at hv
              split at hv
              · rename_i z hz
                obtain ⟨h1, h2⟩ := one1 hv; subst h1; subst h2
                exact good_eqag h (.inr ⟨rfl, rfl⟩) hks hg (compX_ok hx hr) (compX_ok hy hr) hz (hagg _ _ hz)
              · cases hv
            · cases hc
          · cases hc
        · cases hc
    · cases hc
  · -- unOp
    obtain ⟨y, hy, rfl⟩ := Option.map_eq_some_iff.1 hc
    simp only [evIO] at hv
    split at hv
    · rename_i z hz
      obtain ⟨h1, h2⟩ := one1 hv; subst h1; subst h2
      exact good_un h (compX_ok hy hr) hz
    · cases hv
  · -- convert
    rename_i src dt x
    split at hc
    · rename_i d k x' hs hd hx
      injection hc with hc; subst hc
      simp only [evIO] at hv
      split at hv
      · rename_i z hz
        obtain ⟨h1, h2⟩ := one1 hv; subst h1; subst h2
        exact good_toInt h hs hd (compX_ok hx hr) hz
      · cases hv
    · rename_i x' hs hd hx
      injection hc with hc; subst hc
      simp only [evIO] at hv
      split at hv
      · rename_i l hl
        obtain ⟨h1, h2⟩ := one1 hv; subst h1; subst h2
        have hX := compX_ok hx hr
        rw [hl] at hX
        generalize hvv : a.eval x = v at hX
        cases hX
        refine Good.same h ?_ (.s l)
        simp [execOp, hvv, convert, run_underlying' hs, run_underlying' hd]
      · cases hv
    · rename_i el x' hs hd hx
      split at hc
      · rename_i he
        injection hc with hc; subst hc
        simp only [evIO] at hv
        split at hv
        · rename_i l hl
          obtain ⟨h1, h2⟩ := one1 hv; subst h1; subst h2
          have hX := compX_ok hx hr
          rw [hl] at hX
          exact good_toBytes h hs hd he hX
        · cases hv
      · cases hc
    · rename_i el x' hs hd hx
      split at hc
      · rename_i he
        injection hc with hc; subst hc
        simp only [evIO] at hv
        split at hv
        · rename_i z hz
          obtain ⟨h1, h2⟩ := one1 hv; subst h1; subst h2
          exact good_toStr h hs he hd (compX_ok hx hr) hz
        · cases hv
      · cases hc
    · cases hc
  · -- makeFunc
    split at hc
    · rename_i fn f c f' c' hf hcap
      injection hc with hc; subst hc
      obtain ⟨h1, h2⟩ := one1 hv; subst h1; subst h2
      have e1 := compXs_ok (K := K) (S := S) hr hf
      have e2 := compXs_ok (K := K) (S := S) hr hcap
      exact good_mkf h (by simpa using e1) (by simpa using e2)
    · cases hc
  · -- makeSlice
    split at hc
    · rename_i t l c el hu
      split at hc
      · rename_i z i l' c' hz hi hl hcc
        split at hc
        · rename_i hsz
          injection hc with hc; subst hc
          simp only [evIO] at hv
          split at hv
          · rename_i m k hm hk
            split at hv
            · rename_i hb
              obtain ⟨h1, h2⟩ := one1 hv; subst h1; subst h2
              exact good_mks h hu hz hi hsz (compX_ok hl hr) (compX_ok hcc hr) hm hk hb.1 hb.2.1 hb.2.2
            · cases hv
          · cases hv
        · cases hc
      · cases hc
    · cases hc
  · -- slice
    rename_i t x lo hi mx
    split at hc
    · rename_i el x' lo' hi' mx' hu hx hlo hhi hmx
      split at hc
      · rename_i i hinf
        injection hc with hc; subst hc
        simp only [evIO] at hv
        split at hv
        · rename_i z hz
          obtain ⟨h1, h2⟩ := one1 hv; subst h1; subst h2
          exact good_slice h hu hinf (compX_ok hx hr) (compXo_ok hr hlo) (compXo_ok hr hhi) (compXo_ok hr hmx) hz
        · cases hv
      · cases hc
    · rename_i n el x' lo' hi' mx' hu hx hlo hhi hmx
      split at hc
      · rename_i i hinf
        injection hc with hc; subst hc
        simp only [evIO] at hv
        split at hv
        · rename_i z hz
          obtain ⟨h1, h2⟩ := one1 hv; subst h1; subst h2
          exact good_sla h hu hinf (compX_ok hx hr) (compXo_ok hr hlo) (compXo_ok hr hhi) (compXo_ok hr hmx) hz
        · cases hv
      · cases hc
    · rename_i x' lo' hi' hu hx hlo hhi hmx
      injection hc with hc; subst hc
      simp only [evIO] at hv
      have hmn : mx = none := by
        cases mx with
        | none => rfl
        | some m => simp [compXo] at hmx
      subst hmn
      split at hv
      · rename_i z hz
        obtain ⟨h1, h2⟩ := one1 hv; subst h1; subst h2
        exact good_sls h hu (compX_ok hx hr) (compXo_ok hr hlo) (compXo_ok hr hhi) hz
      · cases hv
    · cases hc
  · -- fieldAddr
    split at hc
    · rename_i t x k f i x' hf hx
      injection hc with hc; subst hc
      simp only [evIO] at hv
      split at hv
      · rename_i z hz
        obtain ⟨h1, h2⟩ := one1 hv; subst h1; subst h2
        exact good_faddr h hf (compX_ok hx hr) hz
      · cases hv
    · cases hc
  · -- field
    split at hc
    · rename_i t x k f i x' hf hx
      split at hc
      · rename_i n hn
        injection hc with hc; subst hc
        simp only [evIO] at hv
        split at hv
        · rename_i z hz
          obtain ⟨h1, h2⟩ := one1 hv; subst h1; subst h2
          exact good_fld h hf hn (compX_ok hx hr) hz
        · cases hv
      · cases hc
    · cases hc
  · -- indexAddr
    split at hc
    · rename_i t x ix arr el i x' ix' hi hx hix
      injection hc with hc; subst hc
      simp only [evIO] at hv
      split at hv
      · rename_i z hz
        obtain ⟨h1, h2⟩ := one1 hv; subst h1; subst h2
        exact good_iaddr h hi (compX_ok hx hr) (compX_ok hix hr) hz
      · cases hv
    · cases hc
  · -- index
    rename_i t x ix
    split at hc
    · rename_i x' ix' hu hx hix
      injection hc with hc; subst hc
      simp only [evIO] at hv
      split at hv
      · rename_i z hz
        obtain ⟨h1, h2⟩ := one1 hv; subst h1; subst h2
        exact good_ixs h hu (compX_ok hx hr) (compX_ok hix hr) hz
      · cases hv
    · rename_i x' ix' hu hx hix
      split at hc
      · rename_i len el i hi
        split at hc
        · rename_i m hm
          injection hc with hc; subst hc
          simp only [evIO] at hv
          split at hv
          · rename_i z hz
            obtain ⟨h1, h2⟩ := one1 hv; subst h1; subst h2
            exact good_ixa h hi hm (compX_ok hx hr) (compX_ok hix hr) hz
          · cases hv
        · cases hc
      · cases hc
    · cases hc
  · -- extract
    obtain ⟨y, hy, rfl⟩ := Option.map_eq_some_iff.1 hc
    simp only [evIO] at hv
    split at hv
    · rename_i z hz
      obtain ⟨h1, h2⟩ := one1 hv; subst h1; subst h2
      exact good_ext h (compX_ok hy hr) hz
    · cases hv
  · -- makeMap
    rename_i t r
    split at hc
    · rename_i kt el hu
      obtain ⟨y, hy, rfl⟩ := Option.map_eq_some_iff.1 hc
      have hO := compXo_ok (K := K) (S := S) hr hy
      simp only [evIO] at hv
      split at hv
      · rename_i he
        obtain ⟨h1, h2⟩ := one1 hv; subst h1; subst h2
        rw [he] at hO
        refine good_mkmap h hu fun v hv => ?_
        rw [hv] at hO
        exact hO.elim
      · rename_i k n he
        obtain ⟨h1, h2⟩ := one1 hv; subst h1; subst h2
        rw [he] at hO
        refine good_mkmap h hu fun v hv => ?_
        rw [hv] at hO
        change VR K S (.i k n) v at hO
        cases hO
        exact ⟨k, n, rfl⟩
      · cases hv
    · cases hc
  · -- lookup
    rename_i t x k ok
    split at hc
    · rename_i kt el hu
      split at hc
      · rename_i q z x' k' hq hz hx hk
        injection hc with hc; subst hc
        simp only [evIO] at hv
        split at hv
        · rename_i y hy
          obtain ⟨h1, h2⟩ := one1 hv; subst h1; subst h2
          exact good_mlook h hu hq hz (compX_ok hx hr) (compX_ok hk hr) hy
        · cases hv
      · cases hc
    · cases hc
  · -- mapEntry
    rename_i t x k
    split at hc
    · rename_i kt el hu
      split at hc
      · rename_i q z x' k' hq hz hx hk
        injection hc with hc; subst hc
        exact good_mentry h hu hq hz (compX_ok hx hr) (compX_ok hk hr) hv
      · cases hc
    · cases hc
  · -- entryStore
    split at hc
    · rename_i x s v hx hs hv'
      injection hc with hc; subst hc
      simp only [evIO] at hv
      split at hv
      · rename_i S'' hm
        obtain ⟨h1, h2⟩ := one1 hv; subst h1; subst h2
        exact good_mstore h (compX_ok hx hr) (compX_ok hs hr) (compX_ok hv' hr) hm
      · cases hv
    · cases hc
  · -- mapUpdate
    rename_i t x k v
    split at hc
    · rename_i kt el hu
      split at hc
      · rename_i q x' k' v' hq hx hk hv'
        injection hc with hc; subst hc
        simp only [evIO] at hv
        split at hv
        · rename_i S'' hm
          obtain ⟨h1, h2⟩ := one1 hv; subst h1; subst h2
          exact good_mupd h hu hq (compX_ok hx hr) (compX_ok hk hr) (compX_ok hv' hr) hm
        · cases hv
      · cases hc
    · cases hc
  · -- insert
    rename_i t x k v
    split at hc
    · rename_i kt el hu
      split at hc
      · rename_i q x' k' v' hq hx hk hv'
        injection hc with hc; subst hc
        simp only [evIO] at hv
        split at hv
        · rename_i S'' hm
          obtain ⟨h1, h2⟩ := one1 hv; subst h1; subst h2
          exact good_mupd h hu hq (compX_ok hx hr) (compX_ok hk hr) (compX_ok hv' hr) hm
        · cases hv
      · cases hc
    · cases hc
  · -- call
    rename_i c
    split at hc
    · rename_i b xs hcal hxs
      have := fun consts => builtin_ok (ts := c.argTypes) (ty := ty) (consts := consts) h hr hxs hc hv
      simp only [execOp, resolve, hcal, Sem.run_bind, Sem.run_pure, Result.andThen_ok, invoke]
      exact this _
    · rename_i f xs hcal hxs
      have hA := compXs_ok (K := K) (S := S) hr hxs
      unfold compExtern at hc
      split at hc
      · rename_i fn hfn
        split at hc
        · rename_i hb
          obtain ⟨hb1, hb2⟩ := hb
          have hb2 : Extern.findNext fn = none := by simpa using hb2
          split at hc
          · rename_i y z
            split at hc
            · rename_i hname
              injection hc with hc; subst hc
              have hng : (fn.name == "runtime.NumGoroutine") = false := by rw [hname]; decide
              simp only [evIO] at hv
              split at hv
              · rename_i l k hy hz
                obtain ⟨h1, h2⟩ := one1 hv; subst h1; subst h2
                obtain ⟨v1, v2, hvs⟩ : ∃ v1 v2, c.args.toList.map a.eval = [v1, v2] := by
                  match hh : c.args.toList.map a.eval, hA.1 with
                  | [p, q], _ => exact ⟨p, q, rfl⟩
                rw [hvs] at hA
                have q1 := hA.2 0 (by simp) (by simp)
                have q2 := hA.2 1 (by simp) (by simp)
                simp only [List.map_cons, List.map_nil, List.getElem_cons_zero, List.getElem_cons_succ, hy, hz] at q1 q2
                obtain ⟨r, hr1, hr2⟩ := good_ixbyte (P := P) h hname q1 q2
                have hargs : c.args.map a.eval = #[v1, v2] := by rw [← Array.toArray_toList (xs := c.args.map a.eval), Array.toList_map, hvs]
                refine Good.same (v := r) h ?_ hr2
                simp only [execOp, resolve, hcal, Act.eval, Deferred.ofValue, Sem.run_bind, Sem.run_pure, Result.andThen_ok, invoke]
                rw [Array.empty_append, Array.append_empty, run_callFunc_extern hfn hng hb1 hb2 (find_ixbyte hname), hargs, hr1]
                rfl
              · cases hv
            · split at hc
              · rename_i hname2
                obtain ⟨ho, hl1, hl2, hl3, hng⟩ := hname2
                split at hc
                · rename_i t1 t2 t hps hres
                  split at hc
                  · rename_i ht12
                    subst ht12
                    split at hc
                    · rename_i e' hu
                      split at hc
                      · rename_i inf hinf
                        injection hc with hc; subst hc
                        simp only [evIO] at hv
                        split at hv
                        · rename_i i o v l c' ex j o2 v2 l2 c2 ex2 hy hz
                          split at hv
                          · rename_i hcond
                            obtain ⟨hij, hap⟩ := hcond
                            obtain ⟨h1, h2⟩ := one1 hv; subst h1; subst h2
                            obtain ⟨v1, v2', hvs⟩ : ∃ v1 v2, c.args.toList.map a.eval = [v1, v2] := by
                              match hh : c.args.toList.map a.eval, hA.1 with
                              | [p, q], _ => exact ⟨p, q, rfl⟩
                            rw [hvs] at hA
                            have q1 := hA.2 0 (by simp) (by simp)
                            have q2 := hA.2 1 (by simp) (by simp)
                            simp only [List.map_cons, List.map_nil, List.getElem_cons_zero, List.getElem_cons_succ, hy, hz] at q1 q2
                            have hr1 := good_ovl (P := P) (tR := t) h hu hinf hij hap q1 q2
                            have hargs : c.args.map a.eval = #[v1, v2'] := by rw [← Array.toArray_toList (xs := c.args.map a.eval), Array.toList_map, hvs]
                            have hps' : fn.params = #[t1, t1] := by rw [← Array.toArray_toList (xs := fn.params), hps]
                            have hres' : fn.resultTypes = #[t] := by rw [← Array.toArray_toList (xs := fn.resultTypes), hres]
                            refine Good.same (v := .bool false) h ?_ (.b false)
                            simp only [execOp, resolve, hcal, Act.eval, Deferred.ofValue, Sem.run_bind, Sem.run_pure, Result.andThen_ok, invoke]
                            rw [Array.empty_append, Array.append_empty, run_callFunc_extern hfn hng hb1 hb2 (find_ovl ho hl1 hl2 hl3), hargs, hps', hres', hr1]
                            rfl
                          · cases hv
                        · cases hv
                      · cases hc
                    · cases hc
                  · cases hc
                · cases hc
              · cases hc
          · rename_i y
            split at hc
            · rename_i hname
              have hng : (fn.name == "runtime.NumGoroutine") = false := by rw [hname]; decide
              split at hc
              · rename_i t hres
                split at hc
                · rename_i el hu
                  injection hc with hc; subst hc
                  simp only [evIO] at hv
                  split at hv
                  · rename_i z hm
                    split at hv
                    · rename_i hlim
                      obtain ⟨h1, h2⟩ := one1 hv; subst h1; subst h2
                      obtain ⟨m, rfl⟩ := Int.eq_ofNat_of_zero_le (show 0 ≤ z by omega)
                      obtain ⟨v1, hvs⟩ : ∃ v1, c.args.toList.map a.eval = [v1] := by
                        match hh : c.args.toList.map a.eval, hA.1 with
                        | [p], _ => exact ⟨p, rfl⟩
                      rw [hvs] at hA
                      have q1 := hA.2 0 (by simp) (by simp)
                      simp only [List.map_cons, List.map_nil, List.getElem_cons_zero, hm] at q1
                      cases q1
                      have hargs : c.args.map a.eval = #[.int .i64 m] := by rw [← Array.toArray_toList (xs := c.args.map a.eval), Array.toList_map, hvs]
                      have hres' : fn.resultTypes = #[t] := by rw [← Array.toArray_toList (xs := fn.resultTypes), hres]
                      obtain ⟨r, w', K', hr1, hr2, hr3, hr4⟩ := good_mkno (ps := fn.params) h hu (n := m) (by omega) (by omega)
                      simp only [Int.toNat_natCast]
                      refine ⟨K', w', r, .inl ?_, hr2, hr3, hr4⟩
                      simp only [execOp, resolve, hcal, Act.eval, Deferred.ofValue, Sem.run_bind, Sem.run_pure, Result.andThen_ok, invoke]
                      rw [Array.empty_append, Array.append_empty, run_callFunc_extern hfn hng hb1 hb2 (find_mkno hname), hargs, hres', hr1]
                      rfl
                    · cases hv
                  · cases hv
                · cases hc
              · cases hc
            · cases hc
          · cases hc
        · cases hc
      · cases hc
    · cases hc
  · cases hc
end
end Go.Proofs.YtljaigbjiheohaaDoor
