/- Proved here: the evaluator's copies and appends stand for the model's. No condition. -/
import Derived.Test.YtljaigbjiheohaaDoorEv8
namespace Go.Proofs.YtljaigbjiheohaaDoor
set_option linter.unusedSimpArgs false
set_option linter.unusedVariables false
open Go.RowKit

section
variable {P : Program} {base : Bs} {w0 : World} {K : Ctx} {S : Mem} {w : World}

/-! ### Copies -/
def copyV (S : Mem) (size : Nat) (x y : AV) : Option (Nat × Mem) :=
  match srcV S size y with
  | none => none
  | some (cs, n) => match x with
    | .sn => some (0, S)
    | .se => some (0, S)
    | .sl i o v len _ _ =>
      let m := Nat.min n len
      match S[i]? with
      | some (.cells c0 ver op true) => if ver = v ∧ o + m * size ≤ c0.length ∧ (cs.take (m * size)).all AV.one = true then some (m, S.set i (.cells (splice c0 o (cs.take (m * size))) v op true)) else none
      | _ => none
    | _ => none

theorem good_copy (h : Sim base w0 K S w) {dT sT ty e : TypeId} {inf : TypeInfo} (ht : P.underlying dT = some (.slice e)) (hinf : P.info? e = some inf) {x y : AV} {vx vy : Value} {n : Nat} {S' : Mem} (hx : VR K S x vx) (hy : VR K S y vy) (hc : copyV S inf.size x y = some (n, S')) :
    Good base w0 K S w (.i .i64 n) S' ((do let v ← Builtin.copy_ #[dT, sT] ty #[vx, vy]; pure (Next.value v) : Sem Next).run P w) := by
  unfold copyV at hc
  split at hc
  · cases hc
  · rename_i cs m0 hs
    obtain ⟨h1, h2, h3⟩ := src_ok (P := P) h hy hs
    split at hc
    · injection hc with hc; injection hc with hc1 hc2; subst hc1; subst hc2
      cases hx
      obtain ⟨c, h4, _⟩ := h3 0 (Nat.zero_le _)
      refine Good.same h ?_ (.i _ _)
      simp [Builtin.copy_, run_underlying' ht, h1, run_sizeOf' hinf, h4, goInt]
    · injection hc with hc; injection hc with hc1 hc2; subst hc1; subst hc2
      cases hx
      obtain ⟨c, h4, h5, _⟩ := h3 0 (Nat.zero_le _)
      have hc0 : c = #[] := by
        apply Array.eq_empty_of_size_eq_zero; simpa using h5.symm
      subst hc0
      refine Good.same h ?_ (.i _ _)
      simp [Builtin.copy_, run_underlying' ht, h1, run_sizeOf' hinf, h4, goInt, storeCells]
    · rename_i i o v len cap ex
      dsimp only at hc
      split at hc
      · rename_i c0 ver op hB
        split at hc
        · rename_i hcond
          obtain ⟨rfl, hle, hone⟩ := hcond
          injection hc with hc; injection hc with hc1 hc2; subst hc1; subst hc2
          obtain ⟨c, h4, h5⟩ := h3 (Nat.min m0 len) (Nat.min_le_left _ _)
          cases hx with
          | sl _ _ _ _ _ _ a c' B' hB' hle' hl hcc he ha =>
            rw [hB] at hB'; obtain rfl := Option.some.inj hB'
            obtain ⟨rfl, _⟩ := ha rfl
            have hmn : Nat.min m0 len * inf.size ≤ m0 * inf.size := Nat.mul_le_mul_right _ (Nat.min_le_left _ _)
            have hlen : (cs.take (Nat.min m0 len * inf.size)).length = Nat.min m0 len * inf.size := by simp; omega
            obtain ⟨w', hrun, hS', hst⟩ := Sim.storeCells (P := P) (cs.take (Nat.min m0 len * inf.size)) c.toList S w i ver c0 op o 0 h hB (by omega) (by simpa using h5.1)
              (fun k hk => by
                have := h5.2 k
                have hk' : k < c.size := by have := h5.1; omega
                have e : c.toList.getD k undef = c.getD k undef := by simp [Array.getD, hk']
                rw [e]; exact this) hone
            simp only [Nat.add_zero] at hS' hst
            rw [setList_eq _ _ _ (by omega)] at hS' hst
            refine ⟨K, w', .int .i64 (Nat.min m0 len), .inl ?_, .i _ _, hS', hst⟩
            simp only [Builtin.copy_, List.getElem?_toArray, List.getElem?_cons_zero, List.getElem?_cons_succ, Sem.run_bind, run_underlying' ht, Result.andThen_ok, h1, run_sizeOf' hinf, h4]
            simp [hrun, goInt]
        · cases hc
      · cases hc
    · cases hc

/-! ### Cells of a block that is not wholly known -/
theorem run_storeCells_conc : ∀ (vs : List Value) (b o j : Nat) (c : Array Value) (et : TypeId) (fz : Nat × Nat) (w : World), w.heap[b]? = some (.cells c et fz) → o + j + vs.length ≤ c.size → (∀ k, k < c.size → ¬ (fz.1 ≤ k ∧ k < fz.2)) →
    (∀ v ∈ vs, (∀ c, v ≠ .agg c) ∧ (∀ c, v ≠ .tuple c)) →
    ∃ w' c', (storeCells ⟨b, o, none⟩ vs j).run P w = .ok () w' ∧ w'.heap[b]? = some (.cells c' et fz) ∧ c'.size = c.size ∧ (∀ k, k < o + j → c'.getD k undef = c.getD k undef) ∧
      (∀ k, k < vs.length → c'.getD (o + j + k) undef = vs.getD k undef) ∧ w'.heap.size = w.heap.size ∧ (∀ k, k ≠ b → w'.heap[k]? = w.heap[k]?) ∧ w'.os = w.os ∧ w'.tape = w.tape ∧ w'.output = w.output
  | [], b, o, j, c, et, fz, w, hb, _, _, _ => ⟨w, c, by simp [storeCells], hb, rfl, fun _ _ => rfl, fun k hk => by simp at hk, rfl, fun _ _ => rfl, rfl, rfl, rfl⟩
  | v :: vs, b, o, j, c, et, fz, w, hb, hl, hf, h1 => by
    simp only [List.length_cons] at hl
    have hlt : o + j < c.size := by omega
    have hcell : w.cell? ⟨b, o + j, none⟩ = some c[o + j] := by
      unfold World.cell?; simp [hb, hlt]
    have hfz : w.frozen? ⟨b, o + j, none⟩ = false := by
      unfold World.frozen?; simp only [hb]
      have := hf (o + j) hlt
      simpa using this
    have hnew : (w.setCell ⟨b, o + j, none⟩ v).heap[b]? = some (.cells (c.setIfInBounds (o + j) v) et fz) := heap_setCell_same' w ⟨b, o + j, none⟩ v c et fz rfl hb
    obtain ⟨w', c', hrun, q1, q2, q3, q4, q5, q6, q7, q8, q9⟩ := run_storeCells_conc vs b o (j + 1) (c.setIfInBounds (o + j) v) et fz (w.setCell ⟨b, o + j, none⟩ v) hnew (by simp; omega) (fun k hk => hf k (by simpa using hk)) (fun u hu => h1 u (by simp [hu]))
    refine ⟨w', c', ?_, q1, by simpa using q2, fun k hk => ?_, fun k hk => ?_, by simpa using q5, fun k hk => ?_, q7, q8, q9⟩
    · rw [storeCells, run_bind, add_eq, run_store_one (h1 v (by simp)) hcell hfz]
      exact hrun
    · rw [q3 k (by omega)]
      simp only [Array.getD_eq_getD_getElem?]
      rw [Array.getElem?_setIfInBounds_ne (by omega)]
    · cases k with
      | zero =>
        rw [q3 (o + j + 0) (by omega)]
        simp [Array.getD, hlt]
      | succ k =>
        have := q4 k (by simp at hk; omega)
        rw [show o + j + (k + 1) = o + (j + 1) + k by omega, this]
        simp
    · rw [q6 k hk]
      exact Below.heap_setCell _ _ _ _ hk

/-- A block is another one now, perhaps at another place. -/
theorem Sim.turn (h : Sim base w0 K S w) {i : Nat} {B B' : Blk} {m n : Nat} {w' : World} (hB : S[i]? = some B) (hv : B.ver < B'.ver) (hrw : B.rw = true) (hm : m = K.μ i ∨ w.heap.size ≤ m)
    (hos : w'.os = w.os) (htape : w'.tape = w.tape) (hout : w'.output = w.output) (hsz : w.heap.size ≤ w'.heap.size) (hkeep : ∀ k, k < w.heap.size → k ≠ K.μ i → w'.heap[k]? = w.heap[k]?)
    (hbr : ∀ K' S', Ext K S K' S' → K'.μ i = m → K'.σ i = n → BRel base K' S' w' i B') :
    Sim base w0 (K.put i m n) (S.set i B') w' ∧ Stp K S w (K.put i m n) (S.set i B') w' := by
  have hil : i < S.length := (List.getElem?_eq_some_iff.1 hB).1
  have hE : Ext K S (K.put i m n) (S.set i B') := by
    refine ⟨by simp, fun j C hC => ?_⟩
    by_cases e : j = i
    · subst e
      rw [hB] at hC; obtain rfl := Option.some.inj hC
      exact ⟨B', by simp [hil], by omega, fun e => by omega⟩
    · exact ⟨C, by rw [List.getElem?_set_ne (Ne.symm e)]; exact hC, Nat.le_refl _, fun _ => ⟨(K.put_other _ _ e).1, (K.put_other _ _ e).2, rfl⟩⟩
  have hs : Stp K S w (K.put i m n) (S.set i B') w' := by
    refine ⟨hE, hos, htape, hout, hsz, fun b hb hn => hkeep b hb fun e => hn i B hB hrw e.symm, fun j C hC => ?_⟩
    by_cases e : j = i
    · subst e
      rw [(K.put_same _ _ _).1]
      rcases hm with hm | hm
      · exact .inl ⟨B, hB, fun _ => hrw, hm⟩
      · exact .inr hm
    · rw [List.getElem?_set_ne (Ne.symm e)] at hC
      exact .inl ⟨C, hC, id, (K.put_other _ _ e).1⟩
  refine ⟨⟨fun j C hC => ?_, fun a b ha hb e => ?_, h.step_below hs, Nat.le_trans h.hb hsz, h.door⟩, hs⟩
  · by_cases e : j = i
    · subst e
      simp only [List.getElem?_set_self hil, Option.some.injEq] at hC
      subst hC
      exact hbr _ _ hE (K.put_same _ _ _).1 (K.put_same _ _ _).2
    · rw [List.getElem?_set_ne (Ne.symm e)] at hC
      have hj := h.blk j C hC
      have hjl : j < S.length := (List.getElem?_eq_some_iff.1 hC).1
      exact hj.mono hE (K.put_other _ _ e).1 (K.put_other _ _ e).2 (hkeep _ hj.lt fun e' => e (h.inj j i hjl hil e'))
  · simp only [List.length_set] at ha hb
    have lt : ∀ k, k < S.length → K.μ k < w.heap.size := fun k hk => (h.blk k S[k] (List.getElem?_eq_getElem hk)).lt
    by_cases ea : a = i <;> by_cases eb : b = i
    · omega
    · subst ea
      rw [(K.put_same _ _ _).1, (K.put_other _ _ eb).1] at e
      have := lt b hb
      rcases hm with hm | hm
      · exact h.inj a b ha hb (hm ▸ e)
      · omega
    · subst eb
      rw [(K.put_same _ _ _).1, (K.put_other _ _ ea).1] at e
      have := lt a ha
      rcases hm with hm | hm
      · exact h.inj a b ha hb (hm ▸ e)
      · omega
    · rw [(K.put_other _ _ ea).1, (K.put_other _ _ eb).1] at e
      exact h.inj a b ha hb e

/-! ### Appends -/
def lim : Nat := 140737488355328

def appV (S : Mem) (size bytes : Nat) (x : AV) (cs : List AV) (n : Nat) : Option (AV × Mem) :=
  match x with
  | .sn => if n = 0 then some (.sn, S) else if n * bytes ≤ lim ∧ n ≤ lim then some (.sl S.length 0 0 n n false, S ++ [.cells cs 0 (some size) true]) else none
  | .se => if n = 0 then some (.se, S) else none
  | .sl i o v len cap ex =>
    if n = 0 then some (.sl i o v len cap ex, S)
    else if len + n ≤ cap then match S[i]? with
      | some (.cells c0 ver op true) => if ver = v ∧ o + (len + n) * size ≤ c0.length ∧ cs.all AV.one = true then some (.sl i o v (len + n) cap ex, S.set i (.cells (splice c0 (o + len * size) cs) v op true)) else none
      | _ => none
    else if (len + n) * bytes ≤ lim ∧ len + n ≤ lim then
      if ex then match rowAt S i o v (len * size) with
        | some old => some (.sl S.length 0 0 (len + n) (len + n) false, S ++ [.cells (old ++ cs) 0 (some size) true])
        | none => none
      else match S[i]? with
        | some (.cells c0 ver op true) => if ver = v ∧ o = 0 ∧ op = some size ∧ len * size ≤ c0.length ∧ cs.all AV.one = true then some (.sl i 0 (v + 1) (len + n) (len + n) false, S.set i (.cells (c0.take (len * size) ++ cs) (v + 1) (some size) true)) else none
        | _ => none
    else none
  | _ => none

theorem run_app_grow {sT xT ty e : TypeId} {inf : TypeInfo} {z : Value} {d : TypeDesc} (ht : P.underlying sT = some (.slice e)) (hxT : P.underlying xT = some d) (hd : ∀ k, d ≠ .int k) (hinf : P.info? e = some inf) (hz : inf.zero = some z)
    {b : Option Addr} {len c n : Nat} {vy : Value} {old new : Array Value} (hn : (Builtin.lenOf vy).run P w = .ok n w) (ho : (Builtin.firstCells inf.size len (.slice b len c)).run P w.drew = .ok old w.drew)
    (hw : (Builtin.firstCells inf.size n vy).run P w.drew = .ok new w.drew) (hc : c < len + n) (hb : (len + n) * inf.bytes ≤ lim) (hb' : len + n ≤ lim) :
    ∃ cap, len + n ≤ cap ∧ (Builtin.append_ #[sT, xT] ty #[.slice b len c, vy]).run P w =
      .ok (.slice (some ⟨w.heap.size, 0, none⟩) (len + n) cap) (w.drew.alloc (.cells (old ++ new ++ Builtin.zeroCells z.cells (cap - (len + n))) e)) := by
  refine ⟨(Question.appendCap (len + n) c e).cut (w.tape w.drawn (.appendCap (len + n) c e)), by simp [Question.cut], ?_⟩
  unfold lim at hb hb'
  have hg := growslice_fits (bytes := inf.bytes) hc (by omega)
  have hm : ¬ (IntKind.i64.max < ((len + n : Nat) : Int)) := by
    have : IntKind.i64.max = 9223372036854775807 := by decide
    rw [this]; omega
  have hnot : ¬ (len + n ≤ c) := by omega
  have hg' : ¬ (Builtin.nextslicecap (len + n) c * inf.bytes > 2 ^ 48) := by omega
  have hdi : (d matches .int _) = false := by
    cases d <;> first | rfl | exact absurd rfl (hd _)
  have hm' : ¬ (((len : Int) + (n : Int)) > IntKind.i64.max) := by
    intro hh; apply hm; push_cast; omega
  simp only [Builtin.append_, List.getElem?_toArray, List.getElem?_cons_zero, List.getElem?_cons_succ, Sem.run_bind, run_underlying' ht, Result.andThen_ok, run_sizeOf' hinf, run_underlying' hxT, Sem.run_pure, hdi, Bool.false_eq_true, if_false, hn,
    hnot, run_typeInfo' hinf, false_or]
  have hA : ¬ (((len + n : Nat) : Int) > IntKind.i64.max ∧ inf.bytes = 0) := fun hh => hm hh.1
  rw [if_neg hA]
  simp only [Sem.run_bind, run_typeInfo' hinf, Result.andThen_ok]
  rw [if_neg hg']
  simp [Question.forced, run_typeInfo' hinf, ho, hw, run_zeroValue' hinf hz, newRow]

theorem run_app_in {sT xT ty e : TypeId} {inf : TypeInfo} {d : TypeDesc} (ht : P.underlying sT = some (.slice e)) (hxT : P.underlying xT = some d) (hd : ∀ k, d ≠ .int k) (hinf : P.info? e = some inf)
    {b : Option Addr} {len c n : Nat} {vy : Value} {new : Array Value} {w' : World} (hn : (Builtin.lenOf vy).run P w = .ok n w) (hw : (Builtin.firstCells inf.size n vy).run P w = .ok new w) (hc : len + n ≤ c)
    (hst : (match b with | some a => storeCells (a.add (len * inf.size)) new.toList | none => pure () : Sem Unit).run P w = .ok () w') :
    (Builtin.append_ #[sT, xT] ty #[.slice b len c, vy]).run P w = .ok (.slice b (len + n) c) w' := by
  have hdi : (d matches .int _) = false := by
    cases d <;> first | rfl | exact absurd rfl (hd _)
  simp only [Builtin.append_, List.getElem?_toArray, List.getElem?_cons_zero, List.getElem?_cons_succ, Sem.run_bind, run_underlying' ht, Result.andThen_ok, run_sizeOf' hinf, run_underlying' hxT, Sem.run_pure, hdi, Bool.false_eq_true, if_false, hn,
    hc, if_true, Bool.not_false, hw]
  cases b with
  | none => simp only at hst ⊢; simp at hst ⊢; exact hst
  | some a => simp only [Sem.run_bind, hst, Result.andThen_ok]; rfl

theorem take_all {cs : List AV} {n : Nat} (h : cs.length = n) : cs.take n = cs := List.take_of_length_le (by omega)

theorem good_app_core (h : Sim base w0 K S w) {ts : Array TypeId} {ty e : TypeId} {inf : TypeInfo} {zv : Value} (hzsz : zv.cells.size = inf.size)
    {x r : AV} {vx vy : Value} {cs : List AV} {n : Nat} {S' : Mem} (hx : VR K S x vx) {new new' : Array Value} (hnR : RowR K S cs new) (hnR' : RowR K S cs new') (s2 : cs.length = n * inf.size)
    (Hin : ∀ (b : Option Addr) (len c : Nat) (w' : World), len + n ≤ c → (match b with | some a => storeCells (a.add (len * inf.size)) new.toList | none => pure () : Sem Unit).run P w = .ok () w' →
      (Builtin.append_ ts ty #[.slice b len c, vy]).run P w = .ok (.slice b (len + n) c) w')
    (Hgrow : ∀ (b : Option Addr) (len c : Nat) (old : Array Value), (Builtin.firstCells inf.size len (.slice b len c)).run P w.drew = .ok old w.drew → c < len + n → (len + n) * inf.bytes ≤ lim → len + n ≤ lim →
      ∃ cap, len + n ≤ cap ∧ (Builtin.append_ ts ty #[.slice b len c, vy]).run P w = .ok (.slice (some ⟨w.heap.size, 0, none⟩) (len + n) cap) (w.drew.alloc (.cells (old ++ new' ++ Builtin.zeroCells zv.cells (cap - (len + n))) e)))
    (ha : appV S inf.size inf.bytes x cs n = some (r, S')) :
    Good base w0 K S w r S' ((do let v ← Builtin.append_ ts ty #[vx, vy]; pure (Next.value v) : Sem Next).run P w) := by
  obtain ⟨hd1, hd2⟩ := h.drew
  -- a new block: the old cells and the new ones
  have grown : ∀ (b : Option Addr) (len c : Nat) (olds : List AV) (old : Array Value), vx = .slice b len c → (Builtin.firstCells inf.size len (.slice b len c)).run P w.drew = .ok old w.drew → RowR K S olds old → olds.length = len * inf.size →
      c < len + n → (len + n) * inf.bytes ≤ lim → len + n ≤ lim →
      Good base w0 K S w (.sl S.length 0 0 (len + n) (len + n) false) (S ++ [.cells (olds ++ cs) 0 (some inf.size) true]) ((do let v ← Builtin.append_ ts ty #[vx, vy]; pure (Next.value v) : Sem Next).run P w) := by
    intro b len c olds old hvx hold hoR hol hc hb hb'
    subst hvx
    obtain ⟨cap, hcap, hrun⟩ := Hgrow b len c old hold hc hb hb'
    have hosz : old.size = len * inf.size := by rw [← hoR.1, hol]
    have hnsz : new'.size = n * inf.size := by rw [← hnR'.1, s2]
    have hsz : (old ++ new' ++ Builtin.zeroCells zv.cells (cap - (len + n))).size = cap * inf.size := by
      simp only [Array.size_append, size_zeroCells, hzsz, hosz, hnsz, ← Nat.add_mul]
      congr 1; omega
    have hln : (len + n) * inf.size ≤ cap * inf.size := Nat.mul_le_mul_right _ hcap
    have hlen : (olds ++ cs).length = (len + n) * inf.size := by rw [List.length_append, hol, s2, Nat.add_mul]
    obtain ⟨K', g1, g2, g3, g4⟩ := good_row2 hd1 (olds ++ cs) (old ++ new' ++ Builtin.zeroCells zv.cells (cap - (len + n))) e (some inf.size) (0, 0) (by rw [hsz, hlen]; exact hln) (fun e => by cases e) (fun k hk => by
        by_cases hk1 : k < olds.length
        · have e1 : (olds ++ cs).getD k .u = olds.getD k .u := by simp [List.getD_eq_getElem?_getD, List.getElem?_append_left hk1]
          have hk2 : k < old.size := by have := hoR.1; omega
          have e2 : (old ++ new' ++ Builtin.zeroCells zv.cells (cap - (len + n))).getD k undef = old.getD k undef := by
            simp only [Array.getD_eq_getD_getElem?, Array.append_assoc]
            rw [Array.getElem?_append_left hk2]
          rw [e1, e2]; exact hoR.2 k
        · have hk3 : k - olds.length < cs.length := by rw [List.length_append] at hk; omega
          have e1 : (olds ++ cs).getD k .u = cs.getD (k - olds.length) .u := by
            simp only [List.getD_eq_getElem?_getD]
            rw [List.getElem?_append_right (by omega)]
          have hol2 : old.size = olds.length := hoR.1.symm
          have hk4 : k - old.size < new'.size := by have := hnR'.1; omega
          have e2 : (old ++ new' ++ Builtin.zeroCells zv.cells (cap - (len + n))).getD k undef = new'.getD (k - old.size) undef := by
            simp only [Array.getD_eq_getD_getElem?, Array.append_assoc]
            rw [Array.getElem?_append_right (by omega), Array.getElem?_append_left hk4]
          rw [e1, e2, hol2]; exact hnR'.2 _) (fun o _ => by simp)
    refine ⟨K', _, .slice (some ⟨w.heap.size, 0, none⟩) (len + n) cap, .inl (by simp [hrun]), ?_, g1, hd2.trans g2⟩
    refine .sl _ _ _ _ _ _ _ _ _ (new_at S _) (Nat.le_refl _) (Nat.le_refl _) hcap (fun e => by cases e) fun _ => ⟨by rw [g3]; rfl, fun _ => ⟨inf.size, rfl, ?_⟩⟩
    rw [g4, hsz]; omega
  unfold appV at ha
  split at ha
  · -- the nil slice
    cases hx
    split at ha
    · rename_i hn0
      injection ha with ha; injection ha with ha1 ha2; subst ha1; subst ha2
      subst hn0
      have hrun := Hin none 0 0 w (by omega) (by simp)
      exact Good.same h (by simp [hrun]) .sn
    · rename_i hn0
      split at ha
      · rename_i hb
        injection ha with ha; injection ha with ha1 ha2; subst ha1; subst ha2
        have := grown none 0 0 [] #[] rfl rfl ⟨by simp, fun k => by simp; exact .u _⟩ (by simp) (by omega) (by simpa using hb.1) (by omega)
        simpa using this
      · cases ha
  · split at ha
    · rename_i hn0
      injection ha with ha; injection ha with ha1 ha2; subst ha1; subst ha2
      subst hn0
      cases hx with
      | se a c =>
        have hnz : new = #[] := by
          apply Array.eq_empty_of_size_eq_zero; rw [← hnR.1, s2]; simp
        subst hnz
        have hrun := Hin (some a) 0 c w (by omega) (by simp [storeCells])
        exact Good.same (v := .slice (some a) 0 c) h (by simp [hrun]) (.se _ _)
    · cases ha
  · rename_i i o v len cap ex
    split at ha
    · rename_i hn0
      injection ha with ha; injection ha with ha1 ha2; subst ha1; subst ha2
      subst hn0
      have hx' := hx
      cases hx with
      | sl _ _ _ _ _ _ a c B hB hv hl hcc he hcur =>
        have hnz : new = #[] := by
          apply Array.eq_empty_of_size_eq_zero; rw [← hnR.1, s2]; simp
        subst hnz
        have hrun := Hin (some a) len c w (by omega) (by simp [storeCells])
        exact Good.same (v := .slice (some a) len c) h (by simp [hrun]) hx'
    · rename_i hn0
      split at ha
      · -- there is room that is known
        rename_i hroom
        split at ha
        · rename_i c0 ver op hB
          split at ha
          · rename_i hcond
            obtain ⟨rfl, hle, hone⟩ := hcond
            injection ha with ha; injection ha with ha1 ha2; subst ha1; subst ha2
            cases hx with
            | sl _ _ _ _ _ _ a c B hB' hv hl hcc he hcur =>
              rw [hB] at hB'; obtain rfl := Option.some.inj hB'
              obtain ⟨rfl, hop⟩ := hcur rfl
              have hmul : (len + n) * inf.size = len * inf.size + n * inf.size := Nat.add_mul _ _ _
              obtain ⟨w', hrun, hS', hst⟩ := Sim.storeCells (P := P) cs new.toList S w i ver c0 op (o + len * inf.size) 0 h hB (by omega) (by simpa using hnR.1)
                (fun k hk => by
                  have := hnR.2 k
                  have hk' : k < new.size := by have := hnR.1; omega
                  have e : new.toList.getD k undef = new.getD k undef := by simp [Array.getD, hk']
                  rw [e]; exact this) hone
              simp only [Nat.add_zero] at hS' hst
              rw [setList_eq _ _ _ (by omega)] at hS' hst
              have happ := Hin (some ⟨K.μ i, o, none⟩) len c w' (by omega) (by simp only [add_eq]; exact hrun)
              refine ⟨K, w', .slice (some ⟨K.μ i, o, none⟩) (len + n) c, .inl (by simp [happ]), ?_, hS', hst⟩
              have hil : i < S.length := (List.getElem?_eq_some_iff.1 hB).1
              exact .sl _ _ _ _ _ _ _ _ (.cells (splice c0 (o + len * inf.size) cs) ver op true) (by simp [hil]) (Nat.le_refl _) (by omega) hcc he fun _ => ⟨rfl, hop⟩
          · cases ha
        · cases ha
      · rename_i hroom
        split at ha
        · rename_i hb
          split at ha
          · -- certainly a new block
            rename_i hex
            split at ha
            · rename_i old hold
              injection ha with ha; injection ha with ha1 ha2; subst ha1; subst ha2
              obtain ⟨B, hB, hver⟩ := rowAt_ver hold
              cases hx with
              | sl _ _ _ _ _ _ a c B' hB' hv hl hcc he hcur =>
                rw [hB] at hB'; obtain rfl := Option.some.inj hB'
                obtain ⟨rfl, hop⟩ := hcur hver
                obtain ⟨hlen, g, hg, hV⟩ := rowAt_ok hd1 hold
                have hc' := he hex
                refine grown (some ⟨K.μ i, o, none⟩) len c old ((List.range (len * inf.size)).map g).toArray rfl ?_ (.of_lt (by simp [hlen]) fun k hk => ?_) hlen (by omega) hb.1 hb.2
                · simp only [Builtin.firstCells]; exact run_loadCells w.drew _ _ g hg
                · rw [range_getD _ _ _ (by omega)]; exact hV k (by omega)
            · cases ha
          · rename_i hex
            split at ha
            · rename_i c0 ver op hB
              split at ha
              · rename_i hcond
                obtain ⟨rfl, rfl, rfl, hle, hone⟩ := hcond
                injection ha with ha; injection ha with ha1 ha2; subst ha1; subst ha2
                have hexf : ex = false := by cases ex <;> simp at hex ⊢
                have hil : i < S.length := (List.getElem?_eq_some_iff.1 hB).1
                cases hx with
                | sl _ _ _ _ _ _ a c B' hB' hv hl hcc he hcur =>
                  rw [hB] at hB'; obtain rfl := Option.some.inj hB'
                  obtain ⟨rfl, hop⟩ := hcur rfl
                  obtain ⟨es, hes, hfit⟩ := hop hexf
                  simp only [Blk.opn, Option.some.injEq] at hes
                  subst hes
                  have hmul : (len + n) * inf.size = len * inf.size + n * inf.size := Nat.add_mul _ _ _
                  have hlen' : (c0.take (len * inf.size) ++ cs).length = (len + n) * inf.size := by
                    rw [List.length_append, List.length_take, s2, hmul]; omega
                  obtain ⟨cc, et, fz, q1, q2, q3, q4, q5, q6⟩ := h.blk i _ hB
                  obtain ⟨q7, q8⟩ := q6 rfl
                  by_cases hin : len + n ≤ c
                  · -- in place
                    have hcs : (len + n) * inf.size ≤ c * inf.size := Nat.mul_le_mul_right _ hin
                    obtain ⟨w', c', p1, p2, p3, p4, p5, p6, p7, p8, p9, p10⟩ := run_storeCells_conc (P := P) new.toList (K.μ i) (len * inf.size) 0 cc et fz w q1 (by
                        have : new.toList.length = n * inf.size := by rw [Array.length_toList, ← hnR.1, s2]
                        omega) (fun k hk => q8 k (Nat.lt_of_lt_of_le hk (endOf_ge _ _))) (fun u hu => by
                        obtain ⟨k, hk, rfl⟩ := List.mem_iff_getElem.1 hu
                        have hk' : k < new.size := by simpa using hk
                        have hkc : k < cs.length := by rw [hnR.1]; exact hk'
                        have hv := hnR.2 k
                        have e1 : new.getD k undef = new.toList[k] := by simp [Array.getD, hk']
                        have e2 : cs.getD k .u = cs[k] := by simp [List.getD_eq_getElem?_getD, hkc]
                        rw [e1, e2] at hv
                        exact hv.one (List.all_eq_true.1 hone _ (List.getElem_mem hkc)))
                    have happ := Hin (some ⟨K.μ i, 0, none⟩) len c w' hin (by simp only [add_eq, Nat.zero_add]; exact p1)
                    obtain ⟨g1, g2⟩ := h.turn (B' := .cells (c0.take (len * inf.size) ++ cs) (ver + 1) (some inf.size) true) (m := K.μ i) (n := K.σ i) (w' := w') hB (by simp [Blk.ver]) rfl (.inl rfl) p8 p9 p10 (by omega)
                      (fun k _ hk => p7 k hk) (fun K' S' hE e1 e2 => ⟨c', et, fz, by rw [e1]; exact p2, by rw [e2, p3]; exact q2, by rw [hlen', p3, q2]; omega, fun e => (by cases e), fun k hk => (by
                        by_cases hk1 : k < len * inf.size
                        · have e1 : (c0.take (len * inf.size) ++ cs).getD k .u = c0.getD k .u := by
                            simp only [List.getD_eq_getElem?_getD]
                            rw [List.getElem?_append_left (by simp; omega)]
                            simp [List.getElem?_take, hk1]
                          rw [e1, p4 k (by omega)]
                          exact (q5 k (by omega)).mono hE
                        · have hk3 : k - len * inf.size < cs.length := by rw [hlen', hmul] at hk; omega
                          have e1 : (c0.take (len * inf.size) ++ cs).getD k .u = cs.getD (k - len * inf.size) .u := by
                            simp only [List.getD_eq_getElem?_getD]
                            rw [List.getElem?_append_right (by simp; omega)]
                            congr 2; simp; omega
                          have hk4 : k - len * inf.size < new.toList.length := by rw [Array.length_toList, ← hnR.1]; exact hk3
                          have e2 := p5 (k - len * inf.size) hk4
                          rw [show len * inf.size + 0 + (k - len * inf.size) = k by omega] at e2
                          have hk5 : k - len * inf.size < new.size := by simpa using hk4
                          have e3 : new.toList.getD (k - len * inf.size) undef = new.getD (k - len * inf.size) undef := by simp [Array.getD, hk5]
                          rw [e1, e2, e3]
                          exact (hnR.2 _).mono hE), fun _ => ⟨by rw [e1]; exact q7, fun o ho => q8 o ((show c'.size = cc.size by omega) ▸ ho)⟩⟩)
                    refine ⟨_, w', .slice (some ⟨K.μ i, 0, none⟩) (len + n) c, .inl (by simp [happ]), ?_, g1, g2⟩
                    refine .sl _ _ _ _ _ _ _ _ (.cells (c0.take (len * inf.size) ++ cs) (ver + 1) (some inf.size) true) (by simp [hil]) (Nat.le_refl _) (Nat.le_refl _) hin (fun e => by cases e) fun _ => ⟨by rw [(K.put_same _ _ _).1], fun _ => ⟨inf.size, rfl, ?_⟩⟩
                    rw [(K.put_same _ _ _).2]; exact hfit
                  · -- elsewhere
                    have hrow : rowAt S i 0 ver (len * inf.size) = some (c0.take (len * inf.size)) := by
                      unfold rowAt
                      simp only [hB]
                      rw [if_pos ⟨trivial, by omega⟩, List.drop_zero]
                    obtain ⟨hlen, g, hg, hV⟩ := rowAt_ok hd1 hrow
                    obtain ⟨cap', hcap, hrun⟩ := Hgrow (some ⟨K.μ i, 0, none⟩) len c ((List.range (len * inf.size)).map g).toArray
                      (by simp only [Builtin.firstCells]; exact run_loadCells w.drew _ _ g hg) (by omega) hb.1 hb.2
                    have hnsz : new'.size = n * inf.size := by rw [← hnR'.1, s2]
                    generalize hold : ((List.range (len * inf.size)).map g).toArray = old at hrun
                    have hoR : RowR K S (c0.take (len * inf.size)) old := by
                      subst hold
                      refine .of_lt (by simp; omega) fun k hk => ?_
                      rw [range_getD _ _ _ (by omega)]; exact hV k (by omega)
                    have hosz : old.size = len * inf.size := by rw [← hoR.1, hlen]
                    have hsz : (old ++ new' ++ Builtin.zeroCells zv.cells (cap' - (len + n))).size = cap' * inf.size := by
                      simp only [Array.size_append, size_zeroCells, hzsz, hosz, hnsz, ← Nat.add_mul]
                      congr 1; omega
                    have hln : (len + n) * inf.size ≤ cap' * inf.size := Nat.mul_le_mul_right _ hcap
                    generalize hblk : old ++ new' ++ Builtin.zeroCells zv.cells (cap' - (len + n)) = blk at hrun hsz
                    obtain ⟨g1, g2⟩ := hd1.turn (B' := .cells (c0.take (len * inf.size) ++ cs) (ver + 1) (some inf.size) true) (m := w.heap.size) (n := cap' * inf.size) (w' := w.drew.alloc (.cells blk e)) hB (by simp [Blk.ver]) rfl (.inr (Nat.le_refl _)) rfl rfl rfl (by simp)
                      (fun k hk _ => Below.heap_alloc _ _ _ hk) (fun K' S' hE e1 e2 => ⟨blk, e, (0, 0), by rw [e1]; exact heap_new w.drew _, by rw [e2, hsz], by rw [hlen', hsz]; exact hln, fun e => (by cases e), fun k hk => (by
                        subst hblk
                        by_cases hk1 : k < len * inf.size
                        · have e1 : (c0.take (len * inf.size) ++ cs).getD k .u = (c0.take (len * inf.size)).getD k .u := by
                            simp only [List.getD_eq_getElem?_getD]
                            rw [List.getElem?_append_left (by omega)]
                          have e2 : (old ++ new' ++ Builtin.zeroCells zv.cells (cap' - (len + n))).getD k undef = old.getD k undef := by
                            simp only [Array.getD_eq_getD_getElem?, Array.append_assoc]
                            rw [Array.getElem?_append_left (by omega)]
                          rw [e1, e2]; exact (hoR.2 k).mono hE
                        · have hk3 : k - len * inf.size < cs.length := by rw [hlen', hmul] at hk; omega
                          have e1 : (c0.take (len * inf.size) ++ cs).getD k .u = cs.getD (k - len * inf.size) .u := by
                            simp only [List.getD_eq_getElem?_getD]
                            rw [List.getElem?_append_right (by omega), hlen]
                          have hk4 : k - old.size < new'.size := by rw [hosz, ← hnR'.1]; exact hk3
                          have e2 : (old ++ new' ++ Builtin.zeroCells zv.cells (cap' - (len + n))).getD k undef = new'.getD (k - old.size) undef := by
                            simp only [Array.getD_eq_getD_getElem?, Array.append_assoc]
                            rw [Array.getElem?_append_right (by omega), Array.getElem?_append_left hk4]
                          rw [e1, e2, hosz]; exact (hnR'.2 _).mono hE), fun _ => ⟨by rw [e1]; exact h.hb, fun o _ => by simp⟩⟩)
                    refine ⟨_, w.drew.alloc (.cells blk e), .slice (some ⟨w.heap.size, 0, none⟩) (len + n) cap', .inl (by simp [hrun]), ?_, g1, hd2.trans g2⟩
                    refine .sl _ _ _ _ _ _ _ _ (.cells (c0.take (len * inf.size) ++ cs) (ver + 1) (some inf.size) true) (by simp [hil]) (Nat.le_refl _) (Nat.le_refl _) hcap (fun e => by cases e) fun _ => ⟨by rw [(K.put_same _ _ _).1], fun _ => ⟨inf.size, rfl, ?_⟩⟩
                    rw [(K.put_same _ _ _).2]; omega
              · cases ha
            · cases ha
        · cases ha
  · cases ha

theorem good_app (h : Sim base w0 K S w) {sT xT ty e : TypeId} {inf : TypeInfo} {z : List AV} {d : TypeDesc} (ht : P.underlying sT = some (.slice e)) (hxT : P.underlying xT = some d) (hd : ∀ k, d ≠ .int k) (hinf : P.info? e = some inf) (hz : zeroOf P e = some z) (hzs : z.length = inf.size)
    {x y r : AV} {vx vy : Value} {cs : List AV} {n : Nat} {S' : Mem} (hx : VR K S x vx) (hy : VR K S y vy) (hs : srcV S inf.size y = some (cs, n)) (ha : appV S inf.size inf.bytes x cs n = some (r, S')) :
    Good base w0 K S w r S' ((do let v ← Builtin.append_ #[sT, xT] ty #[vx, vy]; pure (Next.value v) : Sem Next).run P w) := by
  obtain ⟨inf', zv, hi2, hz2, hz3⟩ := zeroOf_row hz
  rw [hinf] at hi2; obtain rfl := Option.some.inj hi2
  obtain ⟨s1, s2, s3⟩ := src_ok (P := P) h hy hs
  obtain ⟨new, hnew, hnR⟩ := s3 n (Nat.le_refl _)
  rw [take_all s2] at hnR
  obtain ⟨hd1, hd2⟩ := h.drew
  obtain ⟨_, _, t3⟩ := src_ok (P := P) hd1 hy hs
  obtain ⟨new', hnew', hnR'⟩ := t3 n (Nat.le_refl _)
  rw [take_all s2] at hnR'
  exact good_app_core h (by rw [← (hz3 K S).1, hzs]) hx hnR hnR' s2 (fun b len c w' hc hst => run_app_in ht hxT hd hinf s1 hnew hc hst)
    (fun b len c old ho hc hb hb' => run_app_grow ht hxT hd hinf hz2 s1 ho hnew' hc hb hb') ha

/-! ### append(x, make([]T, n)...) -/
theorem good_appz (h : Sim base w0 K S w) {sT xT ty e : TypeId} {inf : TypeInfo} {z : List AV} {q : IntKind} (ht : P.underlying sT = some (.slice e)) (hxT : P.underlying xT = some (.int q)) (hinf : P.info? e = some inf) (hz : zeroOf P e = some z) (hzs : z.length = inf.size)
    {x y r : AV} {vx vy : Value} {n : Nat} {S' : Mem} (hx : VR K S x vx) (hy : VR K S y vy) (hn : natV y = some n) (hl : n ≤ lim ∧ n * inf.bytes ≤ lim) (ha : appV S inf.size inf.bytes x (zerosV z n) n = some (r, S')) :
    Good base w0 K S w r S' ((do let v ← Builtin.append_ #[sT, xT] ty #[vx, vy]; pure (Next.value v) : Sem Next).run P w) := by
  obtain ⟨inf', zv, hi2, hz2, hz3⟩ := zeroOf_row hz
  rw [hinf] at hi2; obtain rfl := Option.some.inj hi2
  obtain ⟨k, rfl⟩ := natV_ok hy hn
  have hzl : zv.cells.size = inf.size := by rw [← (hz3 K S).1, hzs]
  have hzR : RowR K S (zerosV z n) (Builtin.zeroCells zv.cells n) := by
    have hq := zerosV_row (hz3 K S) n
    rw [show z.length = zv.cells.size by rw [hzs, hzl]] at hq
    exact hq
  have hlen : (zerosV z n).length = n * inf.size := by simp [zerosV, hzs]
  unfold lim at hl
  have hw : IntKind.i64.wrap (n : Int) = n := by
    rw [IntKind.wrap_i64]; omega
  have e0 : ¬ ((n : Int) < 0) := by omega
  have e1 : ¬ ((n : Int) * (inf.bytes : Int) > 2 ^ 48) := by
    have : ((n : Int) * (inf.bytes : Int)) = ((n * inf.bytes : Nat) : Int) := by push_cast; rfl
    rw [this]; omega
  have hnz : n * inf.size = 0 → Builtin.zeroCells zv.cells n = #[] := fun e => by
    apply Array.eq_empty_of_size_eq_zero
    rw [size_zeroCells, hzl, e]
  have new_run : ∀ w : World, ((if n * inf.size = 0 then pure #[] else do pure (Builtin.zeroCells (← zeroValue e).cells n)) : Sem (Array Value)).run P w = .ok (Builtin.zeroCells zv.cells n) w := by
    intro w
    split
    · rename_i e; rw [hnz e]; simp
    · simp only [Sem.run_bind, run_zeroValue' hinf hz2, Result.andThen_ok, Sem.run_pure]
  refine good_app_core (e := e) h hzl hx hzR hzR hlen (fun b len c w' hc hst => ?_) (fun b len c old ho hc hb hb' => ?_) ha
  · simp only [Builtin.append_, List.getElem?_toArray, List.getElem?_cons_zero, List.getElem?_cons_succ, Sem.run_bind, run_underlying' ht, Result.andThen_ok, run_sizeOf' hinf, run_underlying' hxT, Sem.run_pure, if_true, asInt, asIntOf, hw, e0, e1, if_false,
      run_typeInfo' hinf, Int.toNat_natCast, hc, Bool.not_true, Bool.false_eq_true, new_run]
    cases b with
    | none => simp only at hst ⊢; simp at hst ⊢; exact hst
    | some a => simp only [Sem.run_bind, hst, Result.andThen_ok]; rfl
  · refine ⟨(Question.appendCap (len + n) c e).cut (w.tape w.drawn (.appendCap (len + n) c e)), by simp [Question.cut], ?_⟩
    unfold lim at hb hb'
    have hg := growslice_fits (bytes := inf.bytes) hc (by omega)
    have hm : ¬ (IntKind.i64.max < ((len + n : Nat) : Int)) := by
      have : IntKind.i64.max = 9223372036854775807 := by decide
      rw [this]; omega
    have hnot : ¬ (len + n ≤ c) := by omega
    have hg' : ¬ (Builtin.nextslicecap (len + n) c * inf.bytes > 2 ^ 48) := by omega
    simp only [Builtin.append_, List.getElem?_toArray, List.getElem?_cons_zero, List.getElem?_cons_succ, Sem.run_bind, run_underlying' ht, Result.andThen_ok, run_sizeOf' hinf, run_underlying' hxT, Sem.run_pure, if_true, asInt, asIntOf, hw, e0, e1, if_false,
      run_typeInfo' hinf, Int.toNat_natCast, hnot, Bool.not_true, Bool.false_eq_true]
    have hA : ¬ (((len + n : Nat) : Int) > IntKind.i64.max ∧ (True ∨ inf.bytes = 0)) := fun hh => hm hh.1
    rw [if_neg hA]
    simp only [Sem.run_bind, run_typeInfo' hinf, Result.andThen_ok]
    rw [if_neg hg']
    simp [Question.forced, run_typeInfo' hinf, ho, new_run, run_zeroValue' hinf hz2, newRow]
    intro e0
    rw [hnz e0]
    simp
end
end Go.Proofs.YtljaigbjiheohaaDoor
