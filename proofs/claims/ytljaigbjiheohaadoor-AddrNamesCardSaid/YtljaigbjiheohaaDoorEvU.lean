/- Proved here: the memory in which a law is called, as abstract memory; what arguments that can be read look like there. No condition. -/
import Derived.Test.YtljaigbjiheohaaDoorEvT
import Derived.ChangeArms
import Derived.DataReads
import Derived.Carry
namespace Go.Proofs.YtljaigbjiheohaaDoor
set_option linter.unusedSimpArgs false
set_option linter.unusedVariables false
open Go.RowKit

/-! ### The memory that was there -/
def isCells : Obj → Bool
  | .cells .. => true
  | _ => false

/-- The blocks of cells. -/
def cellBlocks (w : World) : List Nat := (List.range w.heap.size).filter fun b => match w.heap[b]? with | some o => isCells o | none => false
/-- A block's number in the abstract memory. -/
def numOf (w : World) (b : Nat) : Option Nat := (cellBlocks w).findIdx? (· == b)

def absV (w : World) : Value → AV
  | .bool x => .b x
  | .int k n => .i k n
  | .string s => .s s.data.toList
  | .pointer none => .pn
  | .pointer (some ⟨b, o, none⟩) => match numOf w b with
    | some i => .p i o 0
    | none => .u
  | .slice none 0 0 => .sn
  | .slice (some ⟨b, o, sp⟩) l c => if l = 0 ∧ c = 0 then .se else match numOf w b, sp with
    | some i, none => if l ≤ c then .sl i o 0 l c true else .u
    | _, _ => .u
  | .nilFunc => .nf
  | .nilIface => .ni
  | .map none => .mn
  | _ => .u

def absB (w : World) (b : Nat) : Blk := match w.heap[b]? with
  | some (.cells c _ _) => .cells (c.toList.map (absV w)) 0 none false
  | _ => .cells [] 0 none false
def absS (w : World) : Mem := (cellBlocks w).map (absB w)
def absK (w : World) : Ctx := ⟨fun i => (cellBlocks w).getD i 0, fun i => match w.heap[(cellBlocks w).getD i 0]? with
  | some (.cells c _ _) => c.size
  | _ => 0⟩

theorem numOf_at {w : World} {b i : Nat} (h : numOf w b = some i) : (cellBlocks w)[i]? = some b := by
  obtain ⟨hlt, h1⟩ := List.findIdx?_eq_some_iff_getElem.1 h
  have := h1.1
  simp only [beq_iff_eq] at this
  rw [List.getElem?_eq_getElem hlt, this]

theorem mem_cellBlocks {w : World} {b : Nat} : b ∈ cellBlocks w ↔ ∃ c et fz, w.heap[b]? = some (.cells c et fz) := by
  simp only [cellBlocks, List.mem_filter, List.mem_range]
  constructor
  · rintro ⟨hb, h⟩
    split at h
    · rename_i o ho
      cases o with
      | cells c et fz => exact ⟨c, et, fz, ho⟩
      | _ => cases h
    · cases h
  · rintro ⟨c, et, fz, h⟩
    exact ⟨(Array.getElem?_eq_some_iff.1 h).1, by rw [h]; rfl⟩

theorem numOf_some {w : World} {b : Nat} {c : Array Value} {et : TypeId} {fz : Nat × Nat} (h : w.heap[b]? = some (.cells c et fz)) : ∃ i, numOf w b = some i := by
  have hm : b ∈ cellBlocks w := mem_cellBlocks.2 ⟨c, et, fz, h⟩
  cases hn : numOf w b with
  | some i => exact ⟨i, rfl⟩
  | none =>
    exfalso
    unfold numOf at hn
    rw [List.findIdx?_eq_none_iff] at hn
    have := hn b hm
    simp at this

theorem abs_at {w : World} {b i : Nat} (h : numOf w b = some i) : (absS w)[i]? = some (absB w b) := by
  rw [absS, List.getElem?_map, numOf_at h]; rfl
theorem abs_mu {w : World} {b i : Nat} (h : numOf w b = some i) : (absK w).μ i = b := by
  show (cellBlocks w).getD i 0 = b
  rw [List.getD_eq_getElem?_getD, numOf_at h]; rfl
theorem absB_ver (w : World) (b : Nat) : (absB w b).ver = 0 := by
  unfold absB; split <;> rfl

theorem absV_ok (w : World) (v : Value) : VR (absK w) (absS w) (absV w v) v := by
  unfold absV
  split
  · exact .b _
  · exact .i _ _
  · rename_i s; have := VR.s (K := absK w) (S := absS w) s.data.toList; simpa using this
  · exact .pn
  · split
    · rename_i i hi
      exact .p i _ 0 _ _ (abs_at hi) (Nat.zero_le _) fun _ => by rw [abs_mu hi]
    · exact .u _
  · exact .sn
  · split
    · rename_i hc; rw [hc.1]; exact .se _ _
    · split
      · rename_i i hi
        split
        · rename_i hl
          exact .sl i _ 0 _ _ true _ _ _ (abs_at hi) (Nat.zero_le _) hl (Nat.le_refl _) (fun _ => rfl) fun _ => ⟨by rw [abs_mu hi], fun e => by cases e⟩
        · exact .u _
      · exact .u _
  · exact .nf
  · exact .ni
  · exact .mn
  · exact .u _

theorem Sim.entry (Λ : Nat → List Bool → Option (Array Tmp × Code × Code × Nat)) (w : World) (hd : Door w.heap.size w) : Sim ⟨w.heap.size, Λ⟩ w (absK w) (absS w) w := by
  refine ⟨fun i B hB => ?_, fun i j hi hj e => ?_, Below.refl _ _, Nat.le_refl _, hd⟩
  · rw [absS, List.getElem?_map] at hB
    obtain ⟨b, hb, rfl⟩ := Option.map_eq_some_iff.1 hB
    obtain ⟨c, et, fz, hc⟩ := mem_cellBlocks.1 (List.mem_of_getElem? hb)
    have hm : (cellBlocks w).getD i 0 = b := by rw [List.getD_eq_getElem?_getD, hb]; rfl
    have hB' : absB w b = .cells (c.toList.map (absV w)) 0 none false := by unfold absB; rw [hc]
    rw [hB']
    refine ⟨c, et, fz, by show w.heap[(cellBlocks w).getD i 0]? = _; rw [hm]; exact hc, by show c.size = (match w.heap[(cellBlocks w).getD i 0]? with | some (.cells c _ _) => c.size | _ => 0); rw [hm, hc], by simp, fun _ => by simp, fun k hk => ?_, fun h => by cases h⟩
    simp only [List.length_map, Array.length_toList] at hk
    have e1 : (c.toList.map (absV w)).getD k .u = absV w (c.getD k undef) := by
      simp [List.getD_eq_getElem?_getD, Array.getD, hk]
    rw [e1]; exact absV_ok w _
  · simp only [absS, List.length_map] at hi hj
    have : (cellBlocks w)[i]'hi = (cellBlocks w)[j]'hj := by
      have e' : (cellBlocks w).getD i 0 = (cellBlocks w).getD j 0 := e
      simpa [List.getD_eq_getElem?_getD, hi, hj] using e'
    have hn : (cellBlocks w).Nodup := List.Pairwise.filter _ List.nodup_range
    exact (List.getElem_inj hn).1 this

/-- An argument. -/
def absA (w : World) (v : Value) : AV := match v with
  | .agg cs => .ag (cs.toList.map (absV w))
  | v => absV w v
theorem absA_ok (w : World) (v : Value) : VR (absK w) (absS w) (absA w v) v := by
  unfold absA
  split
  · rename_i cs
    refine .ag _ _ (by simp) fun k => ?_
    by_cases hk : k < cs.size
    · have e1 : (cs.toList.map (absV w)).getD k .u = absV w (cs.getD k undef) := by simp [List.getD_eq_getElem?_getD, Array.getD, hk]
      rw [e1]; exact absV_ok w _
    · have e1 : (cs.toList.map (absV w)).getD k .u = .u := by
        rw [List.getD_eq_getElem?_getD, List.getElem?_eq_none (by simp; omega)]; rfl
      rw [e1]; exact .u _
  · exact absV_ok w _

/-- A call at arguments as they lie. -/
theorem calls_of_fnOK {P : Program} {f : FuncId} {w : World} {vs : Array Value} {S' : Mem} (h : FnOK P f (vs.toList.map (absA w)) (absS w) (.b true) S') (hd : Door w.heap.size w := by exact Door.triv) : Calls P f vs w fun e w' => e = .returned (.bool true) ∧ Below w.heap.size w w' := by
  refine (h.2 ⟨w.heap.size, lamOf P⟩ w _ w vs rfl ⟨by simp, fun k hk hk' => ?_⟩ (Sim.entry _ w hd)).mono fun e w' hp => ?_
  · simp only [List.getElem_map]; exact absA_ok w _
  · obtain ⟨K', v, rfl, hV, hS, _⟩ := hp
    cases hV
    exact ⟨rfl, hS.below⟩

/-! ### What can be read -/
/-- The kinds of cells. -/
inductive CS where
  | int (k : IntKind)
  | bool
  | str
  | slice (e : TypeId)

def shapesFs (P : Program) (go : TypeId → Option (List CS)) : List Field → Nat → Option (List CS)
  | [], _ => some []
  | f :: fs, off => if f.offset = off then match go f.type with
    | some ks => if P.cellsOf f.type = ks.length then match shapesFs P go fs (off + ks.length) with
        | some r => some (ks ++ r)
        | none => none
      else none
    | none => none
  else none

/-- The cells of a type, in a row. -/
def shapes (P : Program) : Nat → TypeId → Option (List CS)
  | 0, _ => none
  | n + 1, t => match P.underlying t with
    | some (.int k) => some [.int k]
    | some .bool => some [.bool]
    | some .string => some [.str]
    | some (.slice e) => some [.slice e]
    | some (.struct fs) => match shapesFs P (shapes P n) fs.toList 0 with
      | some r => if P.cellsOf t = r.length then some r else none
      | none => none
    | some (.array len e) => match shapes P n e with
      | some ks => if P.cellsOf e = ks.length ∧ P.cellsOf t = len * ks.length then some (List.replicate len ks).flatten else none
      | none => none
    | _ => none

/-- What a cell holds, if it can be read. -/
def CellIs {H : Type} (enc : TypeId × Value → H) (P : Program) (w : World) : CS → Value → Prop
  | .int k, v => ∃ n, v = .int k n ∧ (Lit.int k n).wf = true
  | .bool, v => ∃ x, v = .bool x
  | .str, v => ∃ s, v = .string s ∧ s.size ≤ maxLen
  | .slice e, v => v = .slice none 0 0 ∨ ∃ a len cap, v = .slice (some a) len cap ∧ len ≤ cap ∧ cap ≤ maxLen ∧
      ∀ i, i < cap → ∃ cs, w.cells? 0 (a.add (i * P.cellsOf e)) (P.cellsOf e) = some cs ∧ ∃ fuel d ps, DataW.trod enc P w 0 (fun _ => true) true fuel e cs = some (d, ps)

def RowIs {H : Type} (enc : TypeId × Value → H) (P : Program) (w : World) (sh : List CS) (cs : List Value) : Prop := cs.length = sh.length ∧ ∀ i (h : i < sh.length) (h' : i < cs.length), CellIs enc P w sh[i] cs[i]

section
variable {H : Type} {enc : TypeId × Value → H} {P : Program} {w : World}

theorem RowIs.append {s1 s2 : List CS} {c1 c2 : List Value} (h1 : RowIs enc P w s1 c1) (h2 : RowIs enc P w s2 c2) : RowIs enc P w (s1 ++ s2) (c1 ++ c2) := by
  refine ⟨by simp [h1.1, h2.1], fun i h h' => ?_⟩
  have hl := h1.1
  by_cases e : i < s1.length
  · rw [List.getElem_append_left e, List.getElem_append_left (by omega)]
    exact h1.2 i e (by omega)
  · rw [List.getElem_append_right (by omega), List.getElem_append_right (by omega)]
    simp only [List.length_append] at h h'
    have := h2.2 (i - s1.length) (by omega) (by omega)
    simpa [hl] using this

theorem take_part (cs : List Value) (off n m : Nat) (h : m = n) : (cs.drop off).take m ++ cs.drop (off + n) = cs.drop off := by
  subst h
  rw [← List.drop_drop]
  exact List.take_append_drop _ _

theorem shapesFs_ok {go : TypeId → Option (List CS)} {fuel : Nat} (hgo : ∀ t cs x sh, DataW.trod enc P w 0 (fun _ => true) true fuel t cs = some x → go t = some sh → RowIs enc P w sh cs) {cs : List Value} :
    ∀ (fs : List Field) (off : Nat) (xs : List (DataW H × List MemPlace)) (sh : List CS), (fs.mapM fun f => DataW.trod enc P w 0 (fun _ => true) true fuel f.type ((cs.drop f.offset).take (P.cellsOf f.type))) = some xs → shapesFs P go fs off = some sh → off + sh.length = cs.length → RowIs enc P w sh (cs.drop off)
  | [], off, xs, sh, _, hs, hl => by
    obtain rfl : sh = [] := by simpa [shapesFs] using hs.symm
    have hl' : off = cs.length := hl
    exact ⟨by rw [hl']; simp, fun i h => absurd h (Nat.not_lt_zero i)⟩
  | f :: fs, off, xs, sh, hm, hs, hl => by
    simp only [List.mapM_cons, Option.bind_eq_bind, Option.bind_eq_some_iff, Option.pure_def, Option.some.injEq] at hm
    obtain ⟨x, hx, xs', hxs, rfl⟩ := hm
    simp only [shapesFs] at hs
    split at hs
    · rename_i hoff
      split at hs
      · rename_i ks hks
        split at hs
        · rename_i hsz
          split at hs
          · rename_i r hr
            injection hs with hs
            subst hs
            simp only [List.length_append] at hl
            have h1 := hgo _ _ _ _ hx hks
            have h2 := shapesFs_ok hgo fs (off + ks.length) xs' r hxs hr (by omega)
            have := h1.append h2
            rw [hoff, take_part cs off ks.length _ hsz] at this
            exact this
          · cases hs
        · cases hs
      · cases hs
    · cases hs

theorem shapesA_ok {ks : List CS} {cs : List Value} {m : Nat} (hm : m = ks.length) : ∀ (len off : Nat), (∀ i, i < len → RowIs enc P w ks ((cs.drop (off + i * m)).take m)) → cs.length = off + len * m → RowIs enc P w (List.replicate len ks).flatten (cs.drop off)
  | 0, off, _, hl => ⟨by simp at hl ⊢; omega, fun i h => by simp at h⟩
  | len + 1, off, h, hl => by
    rw [List.replicate_succ, List.flatten_cons]
    have h0 := h 0 (by omega)
    simp only [Nat.zero_mul, Nat.add_zero] at h0
    have h2 := shapesA_ok hm len (off + m) (fun i hi => by
      have := h (i + 1) (by omega)
      rwa [show off + (i + 1) * m = off + m + i * m by rw [Nat.add_mul]; omega] at this) (by rw [hl, Nat.add_mul]; omega)
    have := h0.append h2
    rw [take_part cs off m m rfl] at this
    exact this

theorem one_row {s : CS} {v : Value} (h : CellIs enc P w s v) : RowIs enc P w [s] [v] := ⟨rfl, fun i hi hi' => by
  obtain rfl : i = 0 := by simp at hi; omega
  exact h⟩

theorem shapes_ok : ∀ (n fuel : Nat) (t : TypeId) (cs : List Value) (x : DataW H × List MemPlace) (sh : List CS), DataW.trod enc P w 0 (fun _ => true) true fuel t cs = some x → shapes P n t = some sh → RowIs enc P w sh cs
  | 0, _, _, _, _, _, _, hs => by simp [shapes] at hs
  | n + 1, 0, _, _, _, _, h, _ => by simp [DataW.trod] at h
  | n + 1, fuel + 1, t, cs, x, sh, h, hs => by
    simp only [shapes] at hs
    split at hs
    · rename_i k hu
      injection hs with hs; subst hs
      unfold DataW.trod at h
      rw [hu] at h
      split at h <;> try (simp_all; done)
      rename_i k1 k' z e1
      simp only [Option.some.injEq, TypeDesc.int.injEq] at e1
      subst e1
      split at h
      · rename_i hc; obtain ⟨rfl, hw⟩ := hc; exact one_row ⟨z, rfl, hw⟩
      · cases h
    · rename_i hu
      injection hs with hs; subst hs
      unfold DataW.trod at h
      rw [hu] at h
      split at h <;> try (simp_all; done)
      exact one_row ⟨_, rfl⟩
    · rename_i hu
      injection hs with hs; subst hs
      unfold DataW.trod at h
      rw [hu] at h
      split at h <;> try (simp_all; done)
      split at h
      · rename_i hc; exact one_row ⟨_, rfl, hc⟩
      · cases h
    · rename_i e hu
      injection hs with hs; subst hs
      rcases DataW.trod_slice hu h with ⟨rfl, _⟩ | ⟨a, len, cap, elems, rest, m, hf, rfl, _, _, h1, h2, h3, h4, h5, _⟩
      · exact one_row (.inl rfl)
      · refine one_row (.inr ⟨a, len, cap, rfl, h1, h2, fun i hi => ?_⟩)
        obtain ⟨h5, h6⟩ := h5 rfl
        have key : ∃ y, (w.cells? 0 (a.add (i * P.cellsOf e)) (P.cellsOf e)).bind (DataW.trod enc P w 0 (fun _ => true) true m e) = some y := by
          by_cases hil : i < len
          · exact ⟨_, (h4 i hil).trans (List.getElem?_eq_getElem (by omega))⟩
          · have := h6 (i - len) (by omega)
            rw [show len + (i - len) = i by omega] at this
            exact ⟨_, this.trans (List.getElem?_eq_getElem (by omega))⟩
        obtain ⟨y, hy⟩ := key
        obtain ⟨cs, hcs, ht⟩ := Option.bind_eq_some_iff.1 hy
        exact ⟨cs, hcs, m, y.1, y.2, ht⟩
    · rename_i fs hu
      split at hs
      · rename_i r hr
        split at hs
        · rename_i hsz
          injection hs with hs; subst hs
          unfold DataW.trod at h
          rw [hu] at h
          split at h <;> try (simp_all; done)
          rename_i fs' _ e1
          simp only [Option.some.injEq, TypeDesc.struct.injEq] at e1
          subst e1
          split at h
          · rename_i hlen
            obtain ⟨xs, hxs, _⟩ := Option.map_eq_some_iff.1 h
            have := shapesFs_ok (fun t cs x sh h1 h2 => shapes_ok n fuel t cs x sh h1 h2) fs.toList 0 xs r hxs hr (by omega)
            simpa using this
          · cases h
        · cases hs
      · cases hs
    · rename_i len e hu
      split at hs
      · rename_i ks hks
        split at hs
        · rename_i hc
          injection hs with hs; subst hs
          unfold DataW.trod at h
          rw [hu] at h
          split at h <;> try (simp_all; done)
          rename_i n' e' cs' e1
          simp only [Option.some.injEq, TypeDesc.array.injEq] at e1
          obtain ⟨rfl, rfl⟩ := e1
          split at h
          · rename_i hlen
            obtain ⟨xs, hxs, _⟩ := Option.map_eq_some_iff.1 h
            have := shapesA_ok (enc := enc) (P := P) (w := w) (cs := _) hc.1 len 0 (fun i hi => by
              have h1 := mapM_some_get hxs i i (List.getElem?_range hi)
              have h2 := mapM_some_length hxs
              have h3 : i < xs.length := by rw [h2, List.length_range]; exact hi
              rw [List.getElem?_eq_getElem h3] at h1
              rw [Nat.zero_add]
              exact shapes_ok n fuel e _ _ ks h1 hks) (by rw [hlen, hc.2, hc.1]; omega)
            simpa using this
          · cases h
        · cases hs
      · cases hs
    · cases hs

/-- What is known of an argument. -/
theorem arg_row {t : TypeId} {v : Value} {d : DataW H} {ps : List MemPlace} {n : Nat} {sh : List CS} (h : DataW.Trod enc P w 0 (fun _ => true) true t v d ps) (hs : shapes P n t = some sh) : RowIs enc P w sh v.cells.toList := by
  obtain ⟨fuel, h⟩ := h
  exact shapes_ok n fuel t _ _ sh h hs

/-! ### Slices that came in -/
/-- A slice reads as a list. -/
def Lst {α : Type} (sz : Nat) (e : α → List AV) (S : Mem) (x : AV) (l : List α) : Prop :=
  (x = .sn ∧ l = []) ∨ (x = .se ∧ l = []) ∨ ∃ i o v len cap ex, x = .sl i o v len cap ex ∧ l.length = len ∧ rowAt S i o v (len * sz) = some (l.flatMap e)

theorem Lst.grow {α : Type} {sz : Nat} {e : α → List AV} {S : Mem} {x : AV} {l : List α} (h : Lst sz e S x l) (T : Mem) : Lst sz e (S ++ T) x l := by
  rcases h with h | h | ⟨i, o, v, len, cap, ex, h1, h2, h3⟩
  · exact .inl h
  · exact .inr (.inl h)
  · exact .inr (.inr ⟨i, o, v, len, cap, ex, h1, h2, rowAt_grow T h3⟩)

theorem cells_get {a : Addr} {n : Nat} {cs : List Value} (h : w.cells? 0 a n = some cs) : cs.length = n ∧ ∀ i, i < n → w.cell? (a.add i) = cs[i]? := by
  unfold World.cells? at h
  rw [if_pos (Nat.zero_le _)] at h
  have h1 := mapM_some_length h
  rw [List.length_range] at h1
  exact ⟨h1, fun i hi => mapM_some_get h i i (by simp [hi])⟩

theorem cell_at {a : Addr} {v : Value} (h : w.cell? a = some v) : a.spot = none ∧ ∃ c et fz, w.heap[a.block]? = some (.cells c et fz) ∧ c[a.off]? = some v := by
  unfold World.cell? at h
  split at h
  · rename_i c et fz hc
    split at h
    · cases h
    · rename_i hs
      exact ⟨by simpa using hs, c, et, fz, hc, h⟩
  · cases h

/-- What came in and is a slice reads as a list, if each of its elements does. -/
theorem lst_of {α : Type} {sz : Nat} {e : α → List AV} {et : TypeId} {v : Value} (hsz : P.cellsOf et = sz) (h0 : 0 < sz) (h : CellIs enc P w (.slice et) v)
    (he : ∀ cs fuel x, DataW.trod enc P w 0 (fun _ => true) true fuel et cs = some x → ∃ a, cs.map (absV w) = e a ∧ (e a).length = sz) {good : α → Prop} (hg : ∀ cs fuel x a, DataW.trod enc P w 0 (fun _ => true) true fuel et cs = some x → cs.map (absV w) = e a → good a) :
    ∃ l : List α, Lst sz e (absS w) (absV w v) l ∧ (∀ a ∈ l, good a) ∧ l.length ≤ maxLen := by
  rcases h with rfl | ⟨a, len, cap, rfl, hl, hc, hel⟩
  · exact ⟨[], .inl ⟨rfl, rfl⟩, fun a ha => by simp at ha, Nat.zero_le _⟩
  · by_cases h00 : len = 0 ∧ cap = 0
    · obtain ⟨rfl, rfl⟩ := h00
      exact ⟨[], .inr (.inl ⟨by unfold absV; simp, rfl⟩), fun a ha => by simp at ha, Nat.zero_le _⟩
    · have hcap : 0 < cap := by omega
      obtain ⟨b, o, sp⟩ := a
      -- the block
      obtain ⟨cs0, hcs0, _⟩ := hel 0 hcap
      obtain ⟨_, hg0⟩ := cells_get hcs0
      have hx := hg0 0 (by omega)
      have hlen0 := (cells_get hcs0).1
      rw [List.getElem?_eq_getElem (by omega)] at hx
      obtain ⟨hsp, c, et', fz, hc', _⟩ := cell_at hx
      have hadd : ∀ k n, ((⟨b, o, none⟩ : Addr).add k).add n = ⟨b, o + (k + n), none⟩ := fun k n => by rw [add_eq, add_eq, Nat.add_assoc]
      have hspn : sp = none := by
        cases sp with
        | none => rfl
        | some s => simp [Addr.add] at hsp
      subst hspn
      have hb : w.heap[b]? = some (.cells c et' fz) := by rw [hadd] at hc'; exact hc'
      obtain ⟨i, hi⟩ := numOf_some hb
      have hav : absV w (.slice (some ⟨b, o, none⟩) len cap) = .sl i o 0 len cap true := by
        unfold absV; simp only [hi]; rw [if_neg h00, if_pos hl]
      have key : ∀ k, ∃ a : α, k < cap → (∀ j, j < sz → ((c.toList.map (absV w))[o + (k * sz + j)]?) = (e a)[j]?) ∧ (e a).length = sz ∧ good a := by
        intro k
        by_cases hk : k < cap
        · obtain ⟨cs, hcs, fuel, d, ps, ht⟩ := hel k hk
          obtain ⟨a, ha, hla⟩ := he cs fuel _ ht
          obtain ⟨h1, h2⟩ := cells_get hcs
          refine ⟨a, fun _ => ⟨fun j hj => ?_, hla, hg cs fuel _ a ht ha⟩⟩
          have h3 := h2 j (by omega)
          rw [hsz, hadd] at h3
          have hjl : j < cs.length := by omega
          rw [List.getElem?_eq_getElem hjl] at h3
          obtain ⟨_, c2, _, _, hc2, hv⟩ := cell_at h3
          rw [hb] at hc2
          simp only [Option.some.injEq, Obj.cells.injEq] at hc2
          obtain ⟨rfl, _⟩ := hc2
          rw [← ha, List.getElem?_map, List.getElem?_map, List.getElem?_eq_getElem hjl, Array.getElem?_toList, hv]
        · obtain ⟨cs, hcs, fuel, d, ps, ht⟩ := hel 0 hcap
          obtain ⟨a, _⟩ := he cs fuel _ ht
          exact ⟨a, fun h => absurd h hk⟩
      obtain ⟨A, hA⟩ := Classical.axiomOfChoice key
      have hrow : ∀ n, n ≤ cap → ((c.toList.map (absV w)).drop o).take (n * sz) = ((List.range n).map A).flatMap e ∧ (n * sz ≠ 0 → o + n * sz ≤ c.toList.length) := by
        intro n
        induction n with
        | zero => intro _; simp
        | succ n ih =>
          intro hn
          obtain ⟨ih, ihl⟩ := ih (by omega)
          obtain ⟨h1, h2, _⟩ := hA n (by omega)
          have hlast := h1 (sz - 1) (by omega)
          rw [List.getElem?_eq_getElem (l := e (A n)) (by rw [h2]; omega)] at hlast
          have hlt : o + (n * sz + (sz - 1)) < (c.toList.map (absV w)).length := (List.getElem?_eq_some_iff.1 hlast).1
          have hmul : (n + 1) * sz = n * sz + sz := by rw [Nat.add_mul]; omega
          refine ⟨?_, fun _ => by simp only [List.length_map] at hlt; rw [hmul]; generalize n * sz = q at hlt ⊢; omega⟩
          rw [List.range_succ, List.map_append, List.flatMap_append, ← ih, hmul, List.take_add, List.drop_drop]
          congr 1
          simp only [List.map_cons, List.map_nil, List.flatMap_cons, List.flatMap_nil, List.append_nil]
          apply List.ext_getElem?
          intro j
          by_cases hj : j < sz
          · rw [List.getElem?_take_of_lt hj, List.getElem?_drop, ← h1 j hj]
            congr 1; generalize n * sz = q; omega
          · rw [List.getElem?_take_eq_none (by omega), List.getElem?_eq_none (by rw [h2]; omega)]
      refine ⟨(List.range len).map A, .inr (.inr ⟨i, o, 0, len, cap, true, hav, by simp, ?_⟩), fun a ha => ?_, by simp; omega⟩
      · rw [rowAt_B, abs_at hi]
        have hB : absB w b = .cells (c.toList.map (absV w)) 0 none false := by unfold absB; rw [hb]
        obtain ⟨h1, h2⟩ := hrow len hl
        have hfirst := (hA 0 hcap).1 0 (by omega)
        rw [List.getElem?_eq_getElem (l := e (A 0)) (by rw [(hA 0 hcap).2.1]; omega)] at hfirst
        have ho : o + (0 * sz + 0) < (c.toList.map (absV w)).length := (List.getElem?_eq_some_iff.1 hfirst).1
        rw [hB, rowB_some, if_pos ?_, h1]
        by_cases hz : len * sz = 0
        · rw [hz]; omega
        · have := h2 hz; simp only [List.length_map]; exact this
      · simp only [List.mem_map, List.mem_range] at ha
        obtain ⟨k, hk, rfl⟩ := ha
        exact (hA k (by omega)).2.2
end
end Go.Proofs.YtljaigbjiheohaaDoor
