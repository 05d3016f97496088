/- Proved here: a loop unrolled; further rules of the walk. No condition. -/
import Derived.Test.YtljaigbjiheohaaDoorEvU
namespace Go.Proofs.YtljaigbjiheohaaDoor
set_option linter.unusedSimpArgs false
set_option linter.unusedVariables false
open Go.RowKit

section
variable {P : Program} {O : Orc} {S0 : Mem} {rd : Bool} {e : Env} {S : Mem} {d : List Nat} {Q : Kont}

/-- At most j rounds of a loop. -/
def LW (P : Program) (O : Orc) (S0 : Mem) (rd : Bool) (l : List Nat) (c : ICode) (Q : Kont) : Nat → Env → Mem → List Nat → Prop
  | 0, _, _, _ => False
  | j + 1, e, S, d => W P O S0 rd c (keepE e l) S d (seqK (fun e S d _ => LW P O S0 rd l c Q j e S d) Q)

def lwK (P : Program) (O : Orc) (S0 : Mem) (rd : Bool) (l : List Nat) (c : ICode) (Q : Kont) (j : Nat) : Env → Mem → List Nat → Kont → Prop := fun e S d _ => LW P O S0 rd l c Q j e S d
theorem LW_succ {l : List Nat} {c : ICode} {j : Nat} : LW P O S0 rd l c Q (j + 1) e S d = W P O S0 rd c (keepE e l) S d (seqK (lwK P O S0 rd l c Q j) Q) := (rfl)
theorem lwK_app {l : List Nat} {c : ICode} {j : Nat} {Q' : Kont} : lwK P O S0 rd l c Q j e S d Q' = LW P O S0 rd l c Q j e S d := (rfl)

theorem wp_unroll (hO : OK P (lamOf P) O) (hmix : P.follows .mixedOrders = true) {l : List Nat} {c : ICode} (j : Nat) (h : LW P O S0 rd l c Q j e S d) : WP P S0 rd (.loop l c) e S d Q := by
  refine wp_loop (fun j e S d => LW P O S0 rd l c Q j e S d) h fun j e S d hI => ?_
  cases j with
  | zero => exact hI.elim
  | succ j =>
    refine (W_sound hO hmix _ _ _ _ _ hI).mono fun x e S d hq => ?_
    cases x with
    | normal => exact ⟨j, Nat.lt_succ_self j, hq⟩
    | ret => exact hq
    | exit id => exact hq
    | goto l => exact hq

/-! ### Blocks that were there -/
theorem old_at {i : Nat} {B : Blk} (h : S[i]? = some B) : (∀ L : Mem, (S ++ L)[i]? = some B) ∧ (∀ (L : Mem) (B' : Blk), (S ++ L).set i B' = S.set i B' ++ L) ∧ (∀ B' : Blk, (S.set i B')[i]? = some B') ∧ (∀ (B' : Blk) (L : Mem), (S.set i B' ++ L)[i]? = some B') ∧
    (∀ (B' B'' : Blk) (L : Mem), (S.set i B' ++ L).set i B'' = S.set i B'' ++ L) ∧ ∀ B' B'' : Blk, (S.set i B').set i B'' = S.set i B'' := by
  have hi := (List.getElem?_eq_some_iff.1 h).1
  refine ⟨fun L => at_old h, fun L B' => set_old h, fun B' => at_set h, fun B' L => at_old (at_set h), fun B' B'' L => ?_, fun B' B'' => List.set_set ..⟩
  rw [set_old (at_set h), List.set_set]

/-- A value that leads to nothing new, whatever the new numbers. -/
def AV.Flat (n : Nat) (x : AV) : Prop := ∀ g, ren n g x = x
def BFlat (n : Nat) (B : Blk) : Prop := B.plain = true ∧ ∀ g, renB n g B.ver B = B

theorem bflat_cells {n : Nat} {cs : List AV} {v : Nat} {o : Option Nat} {r : Bool} (h : ∀ x ∈ cs, AV.Flat n x) : BFlat n (.cells cs v o r) := by
  refine ⟨rfl, fun g => ?_⟩
  simp only [renB, Blk.ver, renL_eq]
  congr 1
  exact (List.map_congr_left (g := id) fun x hx => h x hx g).trans (List.map_id _)

theorem set_closed {i : Nat} {B : Blk} (hB : BFlat S.length B) : ∀ (j : Nat) (B' : Blk), (S.set i B)[j]? = some B' → S[j]? = some B' ∨ BFlat S.length B' := by
  intro j B' h
  by_cases e : i = j
  · subst e
    have hj := (List.getElem?_eq_some_iff.1 h).1
    rw [List.getElem?_set_self (by simpa using hj)] at h
    injection h with h; subst h; exact .inr hB
  · rw [List.getElem?_set_ne e] at h; exact .inl h

/-- New blocks are left out, some that were there have turned. -/
theorem wkv_drop' {S1 L : Mem} {x : AV} (hl : S1.length = S0.length) (hc : ∀ (j : Nat) (B : Blk), S1[j]? = some B → S0[j]? = some B ∨ BFlat S0.length B) (hx : AV.Flat S0.length x) : WkV S0 x S1 x (S1 ++ L) := by
  have hk : keepB S0.length L [] = [] := rfl
  have := ren_keep (S0 := S0) (S1 := S1) (S1' := S1) (L := L) (keep := []) hl hl (by simp) (by simp) (fun i B hB => by
    rcases hc i B hB with h | h
    · exact .inl ⟨h, hB⟩
    · exact .inr ⟨h.1, by rw [h.2]; exact hB⟩)
  rw [hk, List.append_nil] at this
  refine wk_ren this fun t => ?_
  by_cases ht : t = 0
  · subst ht; left; rw [get_put_same]; exact (hx _).symm
  · right; rw [get_put_ne _ _ (Ne.symm ht)]; rfl

/-! ### New numbers, worked out -/
section
variable {n k : Nat} {g : Nat → Option (Nat × Nat)} {L : Mem} {keep : List Nat}
def renP (q : Option (Nat × Nat)) (o v : Nat) : AV := match q with
  | some (j, v') => if v = v' then .p j o 0 else .u
  | none => .u
def renS (q : Option (Nat × Nat)) (o v l c : Nat) (x : Bool) : AV := match q with
  | some (j, v') => if v = v' then .sl j o 0 l c x else .u
  | none => .u
def renM (q : Option (Nat × Nat)) : AV := match q with
  | some (j, v') => if v' = 0 then .m j else .u
  | none => .u
theorem ren_p {o v : Nat} : ren n g (.p (n + k) o v) = renP (g (n + k)) o v := by rw [ren, if_neg (by omega)]; rfl
theorem ren_p0 {o v : Nat} : ren n g (.p n o v) = renP (g n) o v := by rw [ren, if_neg (by omega)]; rfl
theorem ren_sl {o v l c : Nat} {x : Bool} : ren n g (.sl (n + k) o v l c x) = renS (g (n + k)) o v l c x := by rw [ren, if_neg (by omega)]; rfl
theorem ren_sl0 {o v l c : Nat} {x : Bool} : ren n g (.sl n o v l c x) = renS (g n) o v l c x := by rw [ren, if_neg (by omega)]; rfl
theorem ren_m : ren n g (.m (n + k)) = renM (g (n + k)) := by rw [ren, if_neg (by omega)]; rfl
theorem ren_m0 : ren n g (.m n) = renM (g n) := by rw [ren, if_neg (by omega)]; rfl
theorem renP_some {j v' o v : Nat} : renP (some (j, v')) o v = if v = v' then .p j o 0 else .u := rfl
theorem renS_some {j v' o v l c : Nat} {x : Bool} : renS (some (j, v')) o v l c x = if v = v' then .sl j o 0 l c x else .u := rfl
theorem renM_some {j v' : Nat} : renM (some (j, v')) = if v' = 0 then .m j else .u := rfl
def gQ (n : Nat) (p : Option Nat) (B : Option Blk) : Option (Nat × Nat) := match p, B with
  | some p, some B => some (n + p, B.ver)
  | _, _ => none
theorem gKeep_at : gKeep n L keep (n + k) = gQ n (keep.findIdx? (· == k)) (L[k]?) := by
  unfold gKeep gQ
  rw [if_neg (by omega), show n + k - n = k by omega]
  cases keep.findIdx? (· == k) <;> cases L[k]? <;> rfl
theorem gKeep_at0 : gKeep n L keep n = gQ n (keep.findIdx? (· == 0)) (L[0]?) := by
  have := gKeep_at (n := n) (k := 0) (L := L) (keep := keep)
  simpa using this
theorem gQ_some {p : Nat} {B : Blk} : gQ n (some p) (some B) = some (n + p, B.ver) := rfl
theorem ver_cells {cs : List AV} {v : Nat} {o : Option Nat} {r : Bool} : Blk.ver (.cells cs v o r) = v := rfl
theorem ver_map {es : List (AV × AV × Nat)} {c : Nat} : Blk.ver (.map es c) = 0 := rfl
theorem renL_nil : renL n g [] = [] := by rw [renL]
theorem renL_cons {x : AV} {r : List AV} : renL n g (x :: r) = ren n g x :: renL n g r := by rw [renL]
theorem ren_ag {cs : List AV} : ren n g (.ag cs) = .ag (renL n g cs) := by rw [ren]
theorem ren_tu {cs : List AV} : ren n g (.tu cs) = .tu (renL n g cs) := by rw [ren]
theorem ren_i {q : IntKind} {z : Int} : ren n g (.i q z) = .i q z := by rw [ren]
theorem ren_b {z : Bool} : ren n g (.b z) = .b z := by rw [ren]
theorem ren_s {z : List UInt8} : ren n g (.s z) = .s z := by rw [ren]
theorem ren_pn : ren n g .pn = .pn := by rw [ren]
theorem ren_sn : ren n g .sn = .sn := by rw [ren]
theorem ren_se : ren n g .se = .se := by rw [ren]
theorem keepB_nil : keepB n L [] = [] := rfl
theorem keepB_eq : keepB n L keep = keep.map fun k => renB n (gKeep n L keep) 0 (L.getD k (.dfr false)) := rfl
theorem renB_cells {cs : List AV} {v v' : Nat} {o : Option Nat} {r : Bool} : renB n g v' (.cells cs v o r) = .cells (renL n g cs) v' o r := rfl
theorem zerosV_zero {z : List AV} : zerosV z 0 = [] := by simp [zerosV]
theorem zerosV_succ {z : List AV} : zerosV z (n + 1) = z ++ zerosV z n := by
  unfold zerosV
  apply List.ext_getElem (by simp [Nat.add_mul]; omega)
  intro j h1 h2
  simp only [List.length_map, List.length_range] at h1
  have hz : 0 < z.length := by
    rcases Nat.eq_zero_or_pos z.length with e | e
    · rw [e] at h1; simp at h1
    · exact e
  simp only [List.getElem_map, List.getElem_range]
  by_cases hj : j < z.length
  · rw [List.getElem_append_left hj, Nat.mod_eq_of_lt hj]
    simp [List.getD_eq_getElem?_getD, hj]
  · rw [List.getElem_append_right (by omega)]
    simp only [List.getElem_map, List.getElem_range]
    congr 1
    rw [Nat.mod_eq_sub_mod (by omega)]
end

/-! ### Elements of a slice that came in -/
theorem row_part {i o v n : Nat} {xs : List AV} (h : rowAt S i o v n = some xs) {k m : Nat} (hk : k + m ≤ n) : rowAt S i (o + k) v m = some ((xs.drop k).take m) := by
  unfold rowAt at h ⊢
  split at h
  · rename_i cs ver _ _ hB
    split at h
    · rename_i hc
      injection h with h
      subst h
      rw [if_pos ⟨hc.1, by omega⟩]
      congr 1
      rw [List.drop_take, List.take_take, List.drop_drop, Nat.min_eq_left (by omega)]
    · cases h
  · cases h

theorem flat_part {α : Type} {f : α → List AV} {w : Nat} (hw : ∀ a, (f a).length = w) : ∀ (l : List α) (k : Nat) (h : k < l.length), ((l.flatMap f).drop (k * w)).take w = f l[k]
  | a :: r, 0, _ => by
    simp only [List.flatMap_cons, Nat.zero_mul, List.drop_zero, List.getElem_cons_zero]
    rw [List.take_append_of_le_length (by rw [hw]; exact Nat.le_refl _), List.take_of_length_le (by rw [hw]; exact Nat.le_refl _)]
  | a :: r, k + 1, h => by
    simp only [List.flatMap_cons, List.getElem_cons_succ]
    rw [show (k + 1) * w = (f a).length + k * w by rw [hw, Nat.add_mul]; omega, List.drop_append, List.drop_eq_nil_of_le (by omega), List.nil_append, Nat.add_sub_cancel_left]
    exact flat_part hw r k (by simpa using h)

theorem lst_row {α : Type} {f : α → List AV} {w : Nat} (hw : ∀ a, (f a).length = w) {i o v : Nat} {l : List α} (h : rowAt S i o v (l.length * w) = some (l.flatMap f)) {k : Nat} (hk : k < l.length) (L : Mem) : rowB ((S ++ L)[i]?) (o + k * w) v w = some (f l[k]) := by
  have h1 : k * w + w ≤ l.length * w := by rw [← Nat.succ_mul]; exact Nat.mul_le_mul_right w hk
  have := row_part h h1
  rw [flat_part hw l k hk] at this
  have := rowAt_grow L this
  rwa [rowAt_B] at this

/-- A call that changes nothing that was there, whatever there is. -/
theorem fnOK_of_below {f : FuncId} (hen : enterable P f = true) (h : ∀ w, Calls P f #[] w fun e w' => e = .returned (.bool true) ∧ Below w.heap.size w w') (S : Mem) : FnOK P f [] S (.b true) S := by
  refine ⟨hen, fun base w0 K w vs hΛ hA hS => ?_⟩
  have hv : vs = #[] := by
    have := hA.1
    simp only [List.length_nil, Array.length_toList] at this
    exact Array.eq_empty_of_size_eq_zero this.symm
  subst hv
  refine (h w).mono fun e w' ⟨he, hb⟩ => ?_
  obtain ⟨h1, h2, h3, h4, h5⟩ := hb
  have hst : Stp K S w K S w' := ⟨.refl K S, h1, h2, h3, h4, fun b hb _ => h5 b hb, fun _ B' h => .inl ⟨B', h, id, rfl⟩⟩
  exact ⟨K, .bool true, he, .b _, ⟨fun i B hB => (hS.blk i B hB).mono (.refl K S) rfl rfl (h5 _ (hS.blk i B hB).lt), hS.inj, hS.step_below hst, Nat.le_trans hS.hb h4, hS.door⟩, hst⟩

/-- The same, when something is known of the first world. -/
theorem fnOK_of_belowD {f : FuncId} (hen : enterable P f = true) (h : ∀ w, Door w.heap.size w → Calls P f #[] w fun e w' => e = .returned (.bool true) ∧ Below w.heap.size w w') (S : Mem) : FnOK P f [] S (.b true) S := by
  refine ⟨hen, fun base w0 K w vs hΛ hA hS => ?_⟩
  have hv : vs = #[] := by
    have := hA.1
    simp only [List.length_nil, Array.length_toList] at this
    exact Array.eq_empty_of_size_eq_zero this.symm
  subst hv
  refine (h w (hS.door.later hS.below hS.hb)).mono fun e w' ⟨he, hb⟩ => ?_
  obtain ⟨h1, h2, h3, h4, h5⟩ := hb
  have hst : Stp K S w K S w' := ⟨.refl K S, h1, h2, h3, h4, fun b hb _ => h5 b hb, fun _ B' h => .inl ⟨B', h, id, rfl⟩⟩
  exact ⟨K, .bool true, he, .b _, ⟨fun i B hB => (hS.blk i B hB).mono (.refl K S) rfl rfl (h5 _ (hS.blk i B hB).lt), hS.inj, hS.step_below hst, Nat.le_trans hS.hb h4, hS.door⟩, hst⟩

/-! ### Pointers and nil -/
theorem bin_peql_nn {cst : Bool} : binV .ptr cst .eql .pn .pn = some (.b true) := rfl
theorem bin_peql_pn {cst : Bool} {i o v : Nat} : binV .ptr cst .eql (.p i o v) .pn = some (.b false) := rfl
theorem bin_peql_np {cst : Bool} {i o v : Nat} : binV .ptr cst .eql .pn (.p i o v) = some (.b false) := rfl
theorem bin_pneq_nn {cst : Bool} : binV .ptr cst .neq .pn .pn = some (.b false) := rfl
theorem bin_pneq_pn {cst : Bool} {i o v : Nat} : binV .ptr cst .neq (.p i o v) .pn = some (.b true) := rfl
theorem bin_pneq_np {cst : Bool} {i o v : Nat} : binV .ptr cst .neq .pn (.p i o v) = some (.b true) := rfl
theorem bin_sleql_nn {cst : Bool} : binV .slice cst .eql .sn .sn = some (.b true) := rfl
theorem bin_sleql_en {cst : Bool} : binV .slice cst .eql .se .sn = some (.b false) := rfl
theorem bin_sleql_sn {cst : Bool} {i o v l c : Nat} {x : Bool} : binV .slice cst .eql (.sl i o v l c x) .sn = some (.b false) := rfl

theorem wkv_eq {x y : AV} {S' S2 : Mem} (h : WkV S0 x S' y S2) {x' y' : AV} (hx : x' = x) (hy : y' = y) : WkV S0 x' S' y' S2 := by rw [hx, hy]; exact h
end
attribute [go_sem] bin_peql_nn bin_peql_pn bin_peql_np bin_pneq_nn bin_pneq_pn bin_pneq_np bin_sleql_nn bin_sleql_en bin_sleql_sn LW_succ lwK_app ren_p ren_p0 ren_sl ren_sl0 ren_m ren_m0 renP_some renS_some renM_some gKeep_at gKeep_at0 gQ_some ver_cells ver_map renL_nil renL_cons ren_ag ren_tu ren_i ren_b ren_s ren_pn ren_sn ren_se keepB_eq renB_cells
end Go.Proofs.YtljaigbjiheohaaDoor
