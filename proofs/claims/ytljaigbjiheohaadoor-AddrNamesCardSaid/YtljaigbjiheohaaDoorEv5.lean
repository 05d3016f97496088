/- Proved here: the evaluator's equality of structs and arrays, its literals of structs and slices, and its indexes, slices and lengths stand for the model's. No condition. -/
import Derived.Test.YtljaigbjiheohaaDoorEv4
namespace Go.Proofs.YtljaigbjiheohaaDoor
set_option linter.unusedSimpArgs false
set_option linter.unusedVariables false
open Go.RowKit

/-! ### Rows of cells -/
/-- A list of abstract cells stands for an array of cells. -/
def RowR (K : Ctx) (S : Mem) (x : List AV) (c : Array Value) : Prop := x.length = c.size ∧ ∀ k, VR K S (x.getD k .u) (c.getD k undef)

section
variable {P : Program} {base : Bs} {w0 : World} {K : Ctx} {S : Mem} {w : World}

theorem RowR.of_lt {x : List AV} {c : Array Value} (hl : x.length = c.size) (h : ∀ k, k < x.length → VR K S (x.getD k .u) (c.getD k undef)) : RowR K S x c := by
  refine ⟨hl, fun k => ?_⟩
  by_cases hk : k < x.length
  · exact h k hk
  · have : x.getD k .u = .u := by simp [List.getD_eq_getElem?_getD, List.getElem?_eq_none (show x.length ≤ k by omega)]
    rw [this]; exact .u _

theorem VR.row {x : AV} {v : Value} {cs : List AV} (h : VR K S x v) (hc : x.cells = some cs) : RowR K S cs v.cells := by
  obtain ⟨h1, h2⟩ := h.cells hc
  exact .of_lt h1 h2

theorem RowR.ag {x : List AV} {c : Array Value} (h : RowR K S x c) : VR K S (.ag x) (.agg c) := .ag _ _ h.1 h.2

theorem RowR.set {x : List AV} {c : Array Value} (h : RowR K S x c) {y : AV} {v : Value} (hy : VR K S y v) (k : Nat) (hk : k < x.length) : RowR K S (x.set k y) (c.setIfInBounds k v) := by
  refine ⟨by simp [h.1], fun j => ?_⟩
  by_cases e : j = k
  · subst e
    rw [getD_set_self hk]
    have : (c.setIfInBounds j v).getD j undef = v := by
      have hl := h.1
      simp [Array.getD, show j < c.size by omega]
    rw [this]; exact hy
  · rw [getD_set_ne e]
    have : (c.setIfInBounds k v).getD j undef = c.getD j undef := by
      simp only [Array.getD_eq_getD_getElem?, Array.getElem?_setIfInBounds_ne (Ne.symm e)]
    rw [this]; exact h.2 j

theorem RowR.fold (off : Nat) : ∀ (vs : List Value) (ys : List AV) (j : Nat) (x : List AV) (c : Array Value), RowR K S x c → ys.length = vs.length → (∀ k, k < ys.length → VR K S (ys.getD k .u) (vs.getD k undef)) → off + j + ys.length ≤ x.length →
    RowR K S (setList x (off + j) ys) ((vs.zipIdx j).foldl (fun cs (p : Value × Nat) => cs.setIfInBounds (off + p.2) p.1) c)
  | [], [], j, x, c, h, _, _, _ => by simpa [setList] using h
  | v :: vs, y :: ys, j, x, c, h, hl, hv, hb => by
    simp only [List.length_cons] at hl hb
    have h0 : VR K S y v := by simpa using hv 0 (by simp)
    have := RowR.fold off vs ys (j + 1) (x.set (off + j) y) (c.setIfInBounds (off + j) v) (h.set h0 _ (by omega)) (by omega)
      (fun k hk => by have := hv (k + 1) (by simp; omega); simpa using this) (by simp; omega)
    simpa [setList, List.zipIdx_cons, Nat.add_assoc] using this
  | [], _ :: _, _, _, _, _, hl, _, _ => by simp at hl
  | _ :: _, [], _, _, _, _, hl, _, _ => by simp at hl

/-- The parts of a literal. -/
def fillV (z : List AV) : List (Nat × Nat × AV) → Option (List AV)
  | [] => some z
  | (off, n, x) :: r => match x.cells with
    | some ys => if ys.length = n ∧ off + n ≤ z.length then fillV (splice z off ys) r else none
    | none => none

theorem run_fill (place : Nat → Option (Nat × Nat)) : ∀ (ps : List (Nat × Nat × AV)) (vs : List (Nat × Value)) (z : List AV) (c : Array Value) (r : List AV), RowR K S z c → ps.length = vs.length →
    (∀ k (h : k < ps.length) (h' : k < vs.length), place (vs[k]).1 = some ((ps[k]).1, (ps[k]).2.1) ∧ VR K S (ps[k]).2.2 (vs[k]).2) → fillV z ps = some r → ∃ c', Instr.fill place c vs = some c' ∧ RowR K S r c'
  | [], [], z, c, r, h, _, _, hf => by simp only [fillV, Option.some.injEq] at hf; subst hf; exact ⟨c, rfl, h⟩
  | (off, n, x) :: ps, (i, v) :: vs, z, c, r, h, hl, hp, hf => by
    simp only [List.length_cons] at hl
    have h0 := hp 0 (by simp) (by simp)
    simp only [List.getElem_cons_zero] at h0
    unfold fillV at hf
    split at hf
    · rename_i ys hys
      split at hf
      · rename_i hc
        obtain ⟨rfl, hle⟩ := hc
        have hr := h0.2.row hys
        have hz := h.1
        have h1 := RowR.fold (K := K) (S := S) off v.cells.toList ys 0 z c h (by simpa using hr.1) (fun k hk => by
          have := hr.2 k
          have hk' : k < v.cells.size := by have := hr.1; omega
          have e : v.cells.toList.getD k undef = v.cells.getD k undef := by simp [Array.getD, hk']
          rw [e]; exact this) (by omega)
        simp only [Nat.add_zero] at h1
        rw [setList_eq _ _ _ hle] at h1
        obtain ⟨c', hc', hR⟩ := run_fill place ps vs (splice z off ys) _ r h1 (by omega) (fun k a b => hp (k + 1) (by simp; omega) (by simp; omega)) hf
        refine ⟨c', ?_, hR⟩
        have hsz : v.cells.size = ys.length := hr.1.symm
        rw [Instr.fill, h0.1]
        simp only [hsz, ne_eq, not_true, decide_false, Bool.false_or, hz ▸ hle, gt_iff_lt]
        rw [if_neg (by simp; omega), ← Array.foldl_toList, Array.toList_zipIdx]
        exact hc'
      · cases hf
    · cases hf
  | [], _ :: _, _, _, _, _, hl, _, _ => by simp at hl
  | _ :: _, [], _, _, _, _, hl, _, _ => by simp at hl

theorem zeroOf_row {t : TypeId} {z : List AV} (h : zeroOf P t = some z) : ∃ i v, P.info? t = some i ∧ i.zero = some v ∧ ∀ K S, RowR K S z v.cells := by
  obtain ⟨i, v, h1, h2, h3, h4⟩ := zeroOf_ok h
  exact ⟨i, v, h1, h2, fun K S => .of_lt h3 (h4 K S)⟩

/-- Where the parts of a struct or an array lie. -/
def placesOf (P : Program) (t : TypeId) : Option (Nat → Option (Nat × Nat)) :=
  match P.underlying t with
  | some (.struct fs) => match fs.toList.mapM (fun f => (P.info? f.type).map fun i => (f.offset, i.size)) with
    | some l => some fun i => l[i]?
    | none => none
  | some (.array _ e) => match P.info? e with
    | some i => some fun k => some (k * i.size, i.size)
    | none => none
  | _ => none

theorem good_build (h : Sim base w0 K S w) {t : TypeId} {z : List AV} {pl : Nat → Option (Nat × Nat)} (hz : zeroOf P t = some z) (hp : placesOf P t = some pl) {ps : List (Nat × Nat × AV)} {vs : Array (Nat × Value)} {r : List AV}
    (hl : ps.length = vs.size) (hv : ∀ k (h : k < ps.length) (h' : k < vs.toList.length), pl (vs.toList[k]).1 = some ((ps[k]).1, (ps[k]).2.1) ∧ VR K S (ps[k]).2.2 (vs.toList[k]).2) (hf : fillV z ps = some r) :
    Good base w0 K S w (.ag r) S ((do let v ← Instr.build t vs; pure (Next.value v) : Sem Next).run P w) := by
  obtain ⟨i, v, h1, h2, h3⟩ := zeroOf_row hz
  obtain ⟨c', hc', hR⟩ := run_fill pl ps vs.toList z v.cells r (h3 K S) (by simpa using hl) hv hf
  refine Good.same h ?_ hR.ag
  unfold placesOf at hp
  split at hp
  · rename_i fs hfs
    split at hp
    · rename_i l hl'
      injection hp with hp
      subst hp
      have hm := run_places (P := P) w fs.toList l hl'
      have hc3 : Instr.fill (fun x => l[x]?) v.cells vs.toList = some c' := hc'
      simp [Instr.build, run_zeroValue' h1 h2, run_underlying' hfs, Array.mapM_eq_mapM_toList, hm, hc3]
    · cases hp
  · rename_i n e he
    split at hp
    · rename_i i' hi'
      injection hp with hp
      subst hp
      simp [Instr.build, run_zeroValue' h1 h2, run_underlying' he, run_sizeOf' hi', hc']
    · cases hp
  · cases hp

/-! ### New rows -/
/-- Zeros: n times the zero cells. -/
def zerosV (z : List AV) (n : Nat) : List AV := (List.range (n * z.length)).map fun k => z.getD (k % z.length) .u

theorem zerosV_row {z : List AV} {c : Array Value} (h : RowR K S z c) (n : Nat) : RowR K S (zerosV z n) ((Array.range (n * z.length)).map fun k => c[k % c.size]!) := by
  refine .of_lt (by simp [zerosV]) fun k hk => ?_
  have hk' : k < n * z.length := by simpa [zerosV] using hk
  have hz : 0 < z.length := by
    rcases Nat.eq_zero_or_pos z.length with e | e
    · rw [e] at hk'; simp at hk'
    · exact e
  have hm := Nat.mod_lt k hz
  have e1 : (zerosV z n).getD k .u = z.getD (k % z.length) .u := by
    simp [zerosV, List.getD_eq_getElem?_getD, hk']
  have e2 : ((Array.range (n * z.length)).map fun k => c[k % c.size]!).getD k undef = c.getD (k % z.length) undef := by
    have hs : k % c.size < c.size := by rw [← h.1]; exact hm
    have hk2 : k < n * c.size := by rw [← h.1]; exact hk'
    simp only [Array.getD_eq_getD_getElem?, Array.getElem?_map, Array.getElem?_range, h.1, if_pos hk2, Option.map_some, Option.getD_some]
    rw [getElem!_pos c (k % c.size) hs]
    simp [hs]
  rw [e1, e2]; exact h.2 _

theorem good_row2 (h : Sim base w0 K S w) (cs : List AV) (c : Array Value) (et : TypeId) (opn : Option Nat) (fz : Nat × Nat) (hl : cs.length ≤ c.size) (ho : opn = none → c.size = cs.length) (hx : ∀ k, k < cs.length → VR K S (cs.getD k .u) (c.getD k undef))
    (hfz : ∀ o, o < endOf opn c.size → ¬ (fz.1 ≤ o ∧ o < fz.2)) :
    ∃ K', Sim base w0 K' (S ++ [.cells cs 0 opn true]) (w.alloc (.cells c et fz)) ∧ Stp K S w K' (S ++ [.cells cs 0 opn true]) (w.alloc (.cells c et fz)) ∧
      K'.μ S.length = w.heap.size ∧ K'.σ S.length = c.size := by
  obtain ⟨h1, h2⟩ := h.alloc (.cells cs 0 opn true) (.cells c et fz) c.size fun K' S' w' hE e1 e2 e3 hb =>
    ⟨c, et, fz, by rw [e1]; exact e3, by rw [e2], hl, ho, fun k hk => (hx k hk).mono hE, fun _ => ⟨by rw [e1]; exact hb, hfz⟩⟩
  exact ⟨_, h1, h2, (K.put_same _ _ _).1, (K.put_same _ _ _).2⟩

/-- A new slice of which all is known. -/
theorem new_slice {K' : Ctx} {S : Mem} {cs : List AV} {len cap b : Nat} (hl : len ≤ cap) (hμ : K'.μ S.length = b) : VR K' (S ++ [.cells cs 0 none true]) (.sl S.length 0 0 len cap true) (.slice (some ⟨b, 0, none⟩) len cap) :=
  .sl _ _ _ _ _ _ _ _ _ (new_at S _) (Nat.le_refl _) hl (Nat.le_refl _) (fun _ => rfl) fun _ => ⟨by rw [hμ], fun e => by cases e⟩

theorem run_bslice {t e : TypeId} {z : List AV} {i : TypeInfo} (ht : P.underlying t = some (.slice e)) (hz : zeroOf P e = some z) (hi : P.info? e = some i) (hzs : z.length = i.size) {len : Nat} (hb : len * i.size ≤ 16777216)
    {ps : List (Nat × Nat × AV)} {vs : Array (Nat × Value)} {r : List AV} (hl : ps.length = vs.size)
    (hv : ∀ k (h : k < ps.length) (h' : k < vs.toList.length), ((vs.toList[k]).1 * i.size, i.size) = ((ps[k]).1, (ps[k]).2.1) ∧ VR K S (ps[k]).2.2 (vs.toList[k]).2) (hf : fillV (zerosV z len) ps = some r) :
    ∃ c' : Array Value, RowR K S r c' ∧ (do let v ← Instr.buildSlice t len vs; pure (Next.value v) : Sem Next).run P w = .ok (.value (.slice (some ⟨w.heap.size, 0, none⟩) len len)) (w.alloc (.cells c' e)) := by
  obtain ⟨i', v, h1, h2, h3⟩ := zeroOf_row hz
  rw [hi] at h1; obtain rfl := Option.some.inj h1
  have hz0 := zerosV_row (h3 K S) len
  have hnb : ¬ (len * i.size > 2 ^ 24) := by omega
  have go : ∀ zz : Array Value, RowR K S (zerosV z len) ((Array.range (len * i.size)).map (zz[· % zz.size]!)) →
      (∀ c', Instr.fill (fun k => some (k * i.size, i.size)) ((Array.range (len * i.size)).map (zz[· % zz.size]!)) vs.toList = some c' →
        (do let v ← Instr.buildSlice t len vs; pure (Next.value v) : Sem Next).run P w = .ok (.value (.slice (some ⟨w.heap.size, 0, none⟩) len len)) (w.alloc (.cells c' e))) →
      ∃ c' : Array Value, RowR K S r c' ∧ (do let v ← Instr.buildSlice t len vs; pure (Next.value v) : Sem Next).run P w = .ok (.value (.slice (some ⟨w.heap.size, 0, none⟩) len len)) (w.alloc (.cells c' e)) := by
    intro zz hzR hrun
    obtain ⟨c', hc', hR⟩ := run_fill (fun k => some (k * i.size, i.size)) ps vs.toList (zerosV z len) _ r hzR (by simpa using hl) (fun k a b => ⟨by rw [(hv k a b).1], (hv k a b).2⟩) hf
    exact ⟨c', hR, hrun c' hc'⟩
  by_cases h0 : len * i.size = 0
  · have hz00 : zerosV z len = [] := by simp [zerosV, hzs, h0]
    refine go #[] ?_ fun c' hc' => ?_
    · rw [hz00, h0]
      exact ⟨by simp, fun k => by simp; exact .u _⟩
    · rw [h0] at hc'
      simp only [Instr.buildSlice, Sem.run_bind, run_underlying' ht, Result.andThen_ok, run_sizeOf' hi, Sem.run_ite, hnb, if_false, h0, if_true, Sem.run_pure]
      simp only [hc', newRow, Sem.run_bind, run_newObj, Sem.run_pure, Result.andThen_ok]
      rfl
  · refine go v.cells (by rw [← hzs]; exact hz0) fun c' hc' => ?_
    simp only [Instr.buildSlice, Sem.run_bind, run_underlying' ht, Result.andThen_ok, run_sizeOf' hi, Sem.run_ite, hnb, if_false, h0, run_zeroValue' hi h2, Sem.run_pure]
    simp only [hc', newRow, Sem.run_bind, run_newObj, Sem.run_pure, Result.andThen_ok]
    rfl

theorem good_bslice (h : Sim base w0 K S w) {t e : TypeId} {z : List AV} {i : TypeInfo} (ht : P.underlying t = some (.slice e)) (hz : zeroOf P e = some z) (hi : P.info? e = some i) (hzs : z.length = i.size) {len : Nat} (hb : len * i.size ≤ 16777216)
    {ps : List (Nat × Nat × AV)} {vs : Array (Nat × Value)} {r : List AV} (hl : ps.length = vs.size)
    (hv : ∀ k (h : k < ps.length) (h' : k < vs.toList.length), ((vs.toList[k]).1 * i.size, i.size) = ((ps[k]).1, (ps[k]).2.1) ∧ VR K S (ps[k]).2.2 (vs.toList[k]).2) (hf : fillV (zerosV z len) ps = some r) :
    Good base w0 K S w (.sl S.length 0 0 len len true) (S ++ [.cells r 0 none true]) ((do let v ← Instr.buildSlice t len vs; pure (Next.value v) : Sem Next).run P w) := by
  obtain ⟨c', hR, hrun⟩ := run_bslice (w := w) ht hz hi hzs hb hl hv hf
  obtain ⟨K', s1, s2, s3, s4⟩ := good_row h r c' e hR.1 (fun k _ => hR.2 k)
  exact ⟨K', _, .slice (some ⟨w.heap.size, 0, none⟩) len len, .inl hrun, new_slice (Nat.le_refl _) s3, s1, s2⟩

/-- A number that is no less than 0. -/
def natV : AV → Option Nat
  | .i _ n => if 0 ≤ n then some n.toNat else none
  | _ => none

theorem natV_ok {x : AV} {v : Value} {n : Nat} (hx : VR K S x v) (h : natV x = some n) : ∃ k, v = .int k n := by
  unfold natV at h
  split at h
  · cases hx
    split at h
    · injection h with h; subst h
      exact ⟨_, by rw [Int.toNat_of_nonneg (by assumption)]⟩
    · cases h
  · cases h

theorem good_mks (h : Sim base w0 K S w) {t e : TypeId} {z : List AV} {i : TypeInfo} (ht : P.underlying t = some (.slice e)) (hz : zeroOf P e = some z) (hi : P.info? e = some i) (hzs : z.length = i.size) {x y : AV} {vx vy : Value} {l c : Nat}
    (hx : VR K S x vx) (hy : VR K S y vy) (hl : natV x = some l) (hc : natV y = some c) (hlc : l ≤ c) (hb : i.bytes * c ≤ 140737488355328) (hb' : c ≤ 140737488355328) :
    Good base w0 K S w (.sl S.length 0 0 l c true) (S ++ [.cells (zerosV z c) 0 none true]) ((do let v ← Instr.makeSlice t vx vy; pure (Next.value v) : Sem Next).run P w) := by
  obtain ⟨i', v, h1, h2, h3⟩ := zeroOf_row hz
  rw [hi] at h1; obtain rfl := Option.some.inj h1
  obtain ⟨kx, rfl⟩ := natV_ok hx hl
  obtain ⟨ky, rfl⟩ := natV_ok hy hc
  have wl : IntKind.i64.wrap (l : Int) = l := by rw [wrapV_eq]; simp only [wrapV]; omega
  have wc : IntKind.i64.wrap (c : Int) = c := by rw [wrapV_eq]; simp only [wrapV]; omega
  have hbc : ¬ ((i.bytes : Int) * (c : Int) > 2 ^ 48) := by
    have : ((i.bytes * c : Nat) : Int) = (i.bytes : Int) * (c : Int) := by simp
    rw [← this]; omega
  have hz0 := zerosV_row (h3 K S) c
  have n1 : ¬ ((l : Int) < 0) := by omega
  have n2 : ¬ ((c : Int) < 0) := by omega
  have n3 : ¬ ((l : Int) > (c : Int)) := by omega
  have q : (281474976710656 < (i.bytes : Int) * (c : Int)) = False := by
    have := hbc
    simp only [eq_iff_iff, iff_false]; omega
  have go : ∀ zz : Array Value, RowR K S (zerosV z c) ((Array.range (c * i.size)).map (zz[· % zz.size]!)) →
      ((do let v ← Instr.makeSlice t (.int kx l) (.int ky c); pure (Next.value v) : Sem Next).run P w = .ok (.value (.slice (some ⟨w.heap.size, 0, none⟩) l c)) (w.alloc (.cells ((Array.range (c * i.size)).map (zz[· % zz.size]!)) e))) →
      Good base w0 K S w (.sl S.length 0 0 l c true) (S ++ [.cells (zerosV z c) 0 none true]) ((do let v ← Instr.makeSlice t (.int kx l) (.int ky c); pure (Next.value v) : Sem Next).run P w) := by
    intro zz hzR hrun
    obtain ⟨K', s1, s2, s3, s4⟩ := good_row h (zerosV z c) _ e hzR.1 (fun k _ => hzR.2 k)
    exact ⟨K', _, .slice (some ⟨w.heap.size, 0, none⟩) l c, .inl hrun, new_slice hlc s3, s1, s2⟩
  by_cases h0 : c * i.size = 0
  · have hz00 : zerosV z c = [] := by simp [zerosV, hzs, h0]
    refine go #[] ?_ ?_
    · rw [hz00, h0]
      exact ⟨by simp, fun k => by simp; exact .u _⟩
    · rcases Nat.mul_eq_zero.1 h0 with e0 | e0
      · subst e0
        obtain rfl : l = 0 := by omega
        simp [Instr.makeSlice, run_underlying' ht, asInt, asIntOf, run_typeInfo' hi, wrapV_eq, wrapV, run_sizeOf' hi, newRow]
      · simp [Instr.makeSlice, run_underlying' ht, asInt, asIntOf, run_typeInfo' hi, wl, wc, n1, n2, n3, q, run_sizeOf' hi, e0, newRow]
  · refine go v.cells (by rw [← hzs]; exact hz0) ?_
    have h0' : ¬ (c = 0 ∨ i.size = 0) := fun e => h0 (Nat.mul_eq_zero.2 e)
    simp [Instr.makeSlice, run_underlying' ht, asInt, asIntOf, run_typeInfo' hi, wl, wc, n1, n2, n3, q, run_sizeOf' hi, h0', run_zeroValue' hi h2, newRow]
    exact fun e => absurd e h0
end
end Go.Proofs.YtljaigbjiheohaaDoor
