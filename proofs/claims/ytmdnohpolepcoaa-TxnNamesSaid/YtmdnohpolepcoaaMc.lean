/- Proved here: what the law of this claim leans on (an evaluator of the model's code, contracts of functions). No condition. -/
import Derived.Test.YtmdnohpolepcoaaMb
import Derived.Shelf.SlIterI.Nil
import Derived.Shelf.GgSortFunc.InsertionK
namespace Go.Proofs.Ytmdnohpolepcoaa
open Go.RowKit
set_option linter.unusedSimpArgs false
set_option linter.unusedVariables false

section
variable {α : Type} {E : Enc α} {S M S0 : Mem}

theorem ext_app (T : Mem) : S <+: S ++ T := List.prefix_append S T
theorem ext_more (h : S <+: M) (T : Mem) : S <+: M ++ T := h.trans (List.prefix_append M T)

/-- What is built with append: nothing yet ('z': an empty slice that is not nil), or a block that append has made. -/
def Acc (z : Bool) (E : Enc α) (S M : Mem) (x : AV) (l : List α) : Prop :=
  ∃ T, M = S ++ T ∧ ((l = [] ∧ z = false ∧ x = .sn) ∨ (l = [] ∧ z = true ∧ ∃ p, x = .sl (S.length + p) 0 0 0 0 true ∧ T[p]? = some (.cells [] 0 none true)) ∨ (l ≠ [] ∧ ∃ p v, x = .sl (S.length + p) 0 v l.length l.length false ∧ T[p]? = some (.cells (l.flatMap E.enc) v (some E.sz) true)))
def retX (z : Bool) (S : Mem) : List α → AV
  | [] => if z then .sl S.length 0 0 0 0 true else .sn
  | a :: l => .sl S.length 0 0 (a :: l).length (a :: l).length false
def retM (z : Bool) (E : Enc α) (S : Mem) : List α → Mem
  | [] => if z then S ++ [.cells [] 0 none true] else S
  | a :: l => S ++ [.cells ((a :: l).flatMap E.enc) 0 (some E.sz) true]
theorem retM_ext {z : Bool} {l : List α} : S <+: retM z E S l := by cases l <;> cases z <;> simp [retM]

variable {z : Bool}
theorem Acc.ext {x : AV} {l : List α} (h : Acc z E S M x l) : S <+: M := by obtain ⟨T, rfl, _⟩ := h; exact ext_app T
theorem Acc.grow {x : AV} {l : List α} (h : Acc z E S M x l) (U : Mem) : Acc z E S (M ++ U) x l := by
  obtain ⟨T, rfl, h⟩ := h
  refine ⟨T ++ U, by rw [List.append_assoc], ?_⟩
  rcases h with h | ⟨h0, hz, p, h1, h2⟩ | ⟨h0, p, v, h1, h2⟩
  · exact .inl h
  · exact .inr (.inl ⟨h0, hz, p, h1, at_old h2⟩)
  · exact .inr (.inr ⟨h0, p, v, h1, at_old h2⟩)
theorem Acc.extM {x : AV} {l : List α} {M' : Mem} (h : Acc z E S M x l) (hM : M <+: M') : Acc z E S M' x l := by
  obtain ⟨U, rfl⟩ := hM; exact h.grow U
theorem enc_length (l : List α) : (l.flatMap E.enc).length = l.length * E.sz := by
  induction l with
  | nil => simp
  | cons a l ih => rw [List.flatMap_cons, List.length_append, E.len, ih, List.length_cons, Nat.add_mul]; omega
theorem all_one (hE : ∀ a, (E.enc a).all AV.one = true) (l : List α) : (l.flatMap E.enc).all AV.one = true := by
  rw [List.all_eq_true]
  intro x hx
  obtain ⟨a, _, ha⟩ := List.mem_flatMap.1 hx
  exact List.all_eq_true.1 (hE a) x ha
theorem Acc.lst {x : AV} {l : List α} (h : Acc z E S M x l) : lstV E M x = some l := by
  obtain ⟨T, rfl, ⟨rfl, rfl, rfl⟩ | ⟨rfl, rfl, p, rfl, h2⟩ | ⟨h0, p, v, rfl, h2⟩⟩ := h
  · rfl
  · refine lst_lstV (.inr (.inr ⟨_, _, _, _, _, _, rfl, rfl, ?_⟩))
    rw [rowAt_B, at_app, h2]; simp [rowB]
  · refine lst_lstV (.inr (.inr ⟨_, _, _, _, _, _, rfl, rfl, ?_⟩))
    rw [rowAt_B, at_app, h2, rowB_some, if_pos (by rw [enc_length]; omega), List.drop_zero, ← enc_length, List.take_length]
/-- Some more are appended. -/
theorem Acc.apps {bytes : Nat} {x : AV} {l : List α} (hE : ∀ a, (E.enc a).all AV.one = true) (h : Acc z E S M x l) (r : List α) (h1 : (l.length + r.length) * bytes ≤ 70368744177664) (h2 : l.length + r.length ≤ 70368744177664) :
    ∃ x' M', appV M E.sz bytes x (r.flatMap E.enc) r.length = some (x', M') ∧ Acc z E S M' x' (l ++ r) := by
  have h1' : (l.length + r.length) * bytes ≤ lim := Nat.le_trans h1 (by unfold lim; omega)
  have h2' : l.length + r.length ≤ lim := Nat.le_trans h2 (by unfold lim; omega)
  by_cases hr : r = []
  · subst hr
    refine ⟨x, M, ?_, by rw [List.append_nil]; exact h⟩
    obtain ⟨T, rfl, ⟨rfl, rfl, rfl⟩ | ⟨rfl, rfl, p, rfl, h2⟩ | ⟨h0, p, v, rfl, h2⟩⟩ := h
    · simp [appV]
    · simp [appV]
    · simp [appV]
  · have hr0 : 0 < r.length := List.length_pos_iff.2 hr
    obtain ⟨T, rfl, ⟨rfl, rfl, rfl⟩ | ⟨rfl, rfl, p, rfl, hB⟩ | ⟨h0, p, v, rfl, hB⟩⟩ := h
    · simp only [List.length_nil, Nat.zero_add] at h1' h2'
      refine ⟨.sl (S ++ T).length 0 0 r.length r.length false, (S ++ T) ++ [.cells (r.flatMap E.enc) 0 (some E.sz) true], ?_, T ++ [.cells (r.flatMap E.enc) 0 (some E.sz) true], by rw [List.append_assoc], .inr (.inr ⟨by simpa using hr, T.length, 0, by simp, by simp⟩)⟩
      simp only [appV]
      rw [if_neg (by omega), if_pos ⟨h1', h2'⟩]
    · simp only [List.length_nil, Nat.zero_add] at h1' h2'
      refine ⟨.sl (S ++ T).length 0 0 r.length r.length false, (S ++ T) ++ [.cells (r.flatMap E.enc) 0 (some E.sz) true], ?_, T ++ [.cells (r.flatMap E.enc) 0 (some E.sz) true], by rw [List.append_assoc], .inr (.inr ⟨by simpa using hr, T.length, 0, by simp, by simp⟩)⟩
      have hc : rowAt (S ++ T) (S.length + p) 0 0 (0 * E.sz) = some [] := by rw [rowAt_B, at_app, hB]; simp [rowB]
      simp only [appV, hc]
      rw [if_neg (by omega), if_neg (by omega), Nat.zero_add, if_pos ⟨h1', h2'⟩]
      rfl
    · have hp : p < T.length := (List.getElem?_eq_some_iff.1 hB).1
      refine ⟨.sl (S.length + p) 0 (v + 1) (l.length + r.length) (l.length + r.length) false, S ++ T.set p (.cells (l.flatMap E.enc ++ r.flatMap E.enc) (v + 1) (some E.sz) true), ?_, _, rfl, .inr (.inr ⟨by simp [hr], p, v + 1, by rw [List.length_append], by simp [hp]⟩)⟩
      simp only [appV]
      rw [if_neg (by omega), if_neg (by omega), if_pos ⟨h1', h2'⟩]
      have hc : (S ++ T)[S.length + p]? = some (.cells (l.flatMap E.enc) v (some E.sz) true) := by rw [at_app]; exact hB
      simp only [hc, Bool.false_eq_true, if_false]
      rw [if_pos ⟨trivial, trivial, trivial, by rw [enc_length]; omega, all_one hE r⟩, set_app, ← enc_length, List.take_length]
theorem Acc.app {bytes : Nat} {x : AV} {l : List α} (hE : ∀ a, (E.enc a).all AV.one = true) (h : Acc z E S M x l) (a : α) (h1 : (l.length + 1) * bytes ≤ 70368744177664) (h2 : l.length + 1 ≤ 70368744177664) :
    ∃ x' M', appV M E.sz bytes x (E.enc a) 1 = some (x', M') ∧ Acc z E S M' x' (l ++ [a]) := by
  have := h.apps hE [a] h1 h2
  simpa using this

/-! ### Building, when what is built is only read -/
def AccL (E : Enc α) (S M : Mem) (x : AV) (l : List α) : Prop :=
  ∃ T, M = S ++ T ∧ ((l = [] ∧ x = .sn) ∨ ∃ p v ex op, x = .sl (S.length + p) 0 v l.length l.length ex ∧ T[p]? = some (.cells (l.flatMap E.enc) v op true) ∧ (ex = true ∨ op = some E.sz))
theorem AccL.ext {x : AV} {l : List α} (h : AccL E S M x l) : S <+: M := by obtain ⟨T, rfl, _⟩ := h; exact ext_app T
theorem Acc.loose {x : AV} {l : List α} (h : Acc z E S M x l) : AccL E S M x l := by
  obtain ⟨T, rfl, ⟨rfl, rfl, rfl⟩ | ⟨rfl, rfl, p, rfl, h2⟩ | ⟨h0, p, v, rfl, h2⟩⟩ := h
  · exact ⟨T, rfl, .inl ⟨rfl, rfl⟩⟩
  · exact ⟨T, rfl, .inr ⟨p, 0, true, none, rfl, h2, .inl rfl⟩⟩
  · exact ⟨T, rfl, .inr ⟨p, v, false, some E.sz, rfl, h2, .inr rfl⟩⟩
theorem AccL.grow {x : AV} {l : List α} (h : AccL E S M x l) (U : Mem) : AccL E S (M ++ U) x l := by
  obtain ⟨T, rfl, h⟩ := h
  refine ⟨T ++ U, by rw [List.append_assoc], ?_⟩
  rcases h with h | ⟨p, v, ex, op, h1, h2, h3⟩
  · exact .inl h
  · exact .inr ⟨p, v, ex, op, h1, at_old h2, h3⟩
theorem AccL.lst {x : AV} {l : List α} (h : AccL E S M x l) : lstV E M x = some l := by
  obtain ⟨T, rfl, ⟨rfl, rfl⟩ | ⟨p, v, ex, op, rfl, h2, _⟩⟩ := h
  · rfl
  · refine lst_lstV (.inr (.inr ⟨_, _, _, _, _, _, rfl, rfl, ?_⟩))
    rw [rowAt_B, at_app, h2, rowB_some, if_pos (by rw [enc_length]; omega), List.drop_zero, ← enc_length, List.take_length]
/-- Some more are appended, behind blocks that were laid since. -/
theorem AccL.apps {bytes : Nat} {x : AV} {l : List α} (hE : ∀ a, (E.enc a).all AV.one = true) (h : AccL E S M x l) (U : Mem) (r : List α) (h1 : (l.length + r.length) * bytes ≤ 70368744177664) (h2 : l.length + r.length ≤ 70368744177664) :
    ∃ x' M' U', appV (M ++ U) E.sz bytes x (r.flatMap E.enc) r.length = some (x', M' ++ (U ++ U')) ∧ M'.length = M.length ∧ AccL E S (M' ++ (U ++ U')) x' (l ++ r) ∧ (r ≠ [] → ∀ z, Acc z E S (M' ++ (U ++ U')) x' (l ++ r)) := by
  have h1' : (l.length + r.length) * bytes ≤ lim := Nat.le_trans h1 (by unfold lim; omega)
  have h2' : l.length + r.length ≤ lim := Nat.le_trans h2 (by unfold lim; omega)
  have h0 := h
  by_cases hr : r = []
  · subst hr
    refine ⟨x, M, [], ?_, rfl, by rw [List.append_nil, List.append_nil]; exact h.grow U, fun q => absurd rfl q⟩
    obtain ⟨T, rfl, ⟨rfl, rfl⟩ | ⟨p, v, ex, op, rfl, h2, _⟩⟩ := h <;> simp [appV]
  · have hr0 : 0 < r.length := List.length_pos_iff.2 hr
    suffices hs : ∃ x' M' U', appV (M ++ U) E.sz bytes x (r.flatMap E.enc) r.length = some (x', M' ++ (U ++ U')) ∧ M'.length = M.length ∧ ∃ T, M' ++ (U ++ U') = S ++ T ∧ ∃ p v, x' = .sl (S.length + p) 0 v (l ++ r).length (l ++ r).length false ∧ T[p]? = some (.cells ((l ++ r).flatMap E.enc) v (some E.sz) true) by
      obtain ⟨x', M', U', g1, g2, T, g3, p, v, g4, g5⟩ := hs
      exact ⟨x', M', U', g1, g2, ⟨T, g3, .inr ⟨p, v, false, some E.sz, g4, g5, .inr rfl⟩⟩, fun _ z => ⟨T, g3, .inr (.inr ⟨by simp [hr], p, v, g4, g5⟩)⟩⟩
    obtain ⟨T, rfl, ⟨rfl, rfl⟩ | ⟨p, v, ex, op, rfl, hB, ho⟩⟩ := h
    · simp only [List.length_nil, Nat.zero_add] at h1' h2'
      refine ⟨.sl (S ++ T ++ U).length 0 0 r.length r.length false, S ++ T, [.cells (r.flatMap E.enc) 0 (some E.sz) true], ?_, rfl, T ++ (U ++ [.cells (r.flatMap E.enc) 0 (some E.sz) true]), by simp, T.length + U.length, 0, by simp, by rw [List.nil_append, List.getElem?_append_right (by omega), List.getElem?_append_right (by omega)]; simp⟩
      simp only [appV]
      rw [if_neg (by omega), if_pos ⟨h1', h2'⟩, List.append_assoc (S ++ T)]
    · have hp : p < T.length := (List.getElem?_eq_some_iff.1 hB).1
      have hc : (S ++ T ++ U)[S.length + p]? = some (.cells (l.flatMap E.enc) v op true) := by rw [List.append_assoc, at_app]; exact at_old hB
      cases ex with
      | true =>
        refine ⟨.sl (S ++ T ++ U).length 0 0 (l.length + r.length) (l.length + r.length) false, S ++ T, [.cells (l.flatMap E.enc ++ r.flatMap E.enc) 0 (some E.sz) true], ?_, rfl, T ++ (U ++ [.cells (l.flatMap E.enc ++ r.flatMap E.enc) 0 (some E.sz) true]), by simp, T.length + U.length, 0, by simp, by rw [List.getElem?_append_right (by omega), List.getElem?_append_right (by omega), List.flatMap_append]; simp⟩
        have hrow : rowAt (S ++ T ++ U) (S.length + p) 0 v (l.length * E.sz) = some (l.flatMap E.enc) := by
          rw [rowAt_B, hc, rowB_some, if_pos (by rw [enc_length]; omega), List.drop_zero, ← enc_length, List.take_length]
        simp only [appV, hrow]
        rw [if_neg (by omega), if_neg (by omega), if_pos ⟨h1', h2'⟩, List.append_assoc (S ++ T)]
        rfl
      | false =>
        have ho : op = some E.sz := ho.resolve_left (by simp)
        subst ho
        refine ⟨.sl (S.length + p) 0 (v + 1) (l.length + r.length) (l.length + r.length) false, S ++ T.set p (.cells (l.flatMap E.enc ++ r.flatMap E.enc) (v + 1) (some E.sz) true), [], ?_, by simp, T.set p (.cells (l.flatMap E.enc ++ r.flatMap E.enc) (v + 1) (some E.sz) true) ++ U, by simp, p, v + 1, by rw [List.length_append], by rw [List.getElem?_append_left (by simpa using hp), List.flatMap_append]; simp [hp]⟩
        simp only [appV]
        rw [if_neg (by omega), if_neg (by omega), if_pos ⟨h1', h2'⟩]
        simp only [hc, Bool.false_eq_true, if_false]
        rw [if_pos ⟨trivial, trivial, trivial, by rw [enc_length]; omega, all_one hE r⟩, List.append_assoc S T U, set_app, ← enc_length, List.take_length, List.set_append_left _ _ hp, List.append_nil, List.append_assoc]

/-! ### The end -/
theorem Acc.keep {x : AV} {l : List α} (hF : ∀ n a, ∀ c ∈ E.enc a, AV.Flat n c) (h : Acc z E S M x l) : ∃ (keep : List Nat) (T : Mem), M = S ++ T ∧ (keep.all (fun k => match T[k]? with | some B => B.plain | none => false) = true) ∧ keep.Nodup ∧
    ren S.length (gKeep S.length T keep) x = retX z S l ∧ S ++ keepB S.length T keep = retM z E S l := by
  obtain ⟨T, rfl, ⟨rfl, rfl, rfl⟩ | ⟨rfl, rfl, p, rfl, hB⟩ | ⟨h0, p, v, rfl, hB⟩⟩ := h
  · exact ⟨[], T, rfl, rfl, List.nodup_nil, ren_sn, by simp [keepB_nil, retM]⟩
  · refine ⟨[p], T, rfl, by simp [hB, Blk.plain], by simp, ?_, ?_⟩
    · rw [ren_sl, gKeep_at, hB]
      simp only [List.findIdx?_cons, beq_self_eq_true, if_true, gQ_some, ver_cells, renS_some, Nat.add_zero]
      rfl
    · have hk : keepB S.length T [p] = [.cells [] 0 none true] := by
        simp only [keepB_eq, List.map_cons, List.map_nil]
        rw [show T.getD p (.dfr false) = .cells [] 0 none true by rw [List.getD_eq_getElem?_getD, hB]; rfl]
        simp only [renB_cells, renL_nil]
      rw [hk]; rfl
  · refine ⟨[p], T, rfl, by simp [hB, Blk.plain], by simp, ?_, ?_⟩
    · rw [ren_sl, gKeep_at, hB]
      simp only [List.findIdx?_cons, beq_self_eq_true, if_true, gQ_some, ver_cells, renS_some, Nat.add_zero]
      cases l with
      | nil => exact absurd rfl h0
      | cons a l => rfl
    · have hk : keepB S.length T [p] = [.cells (l.flatMap E.enc) 0 (some E.sz) true] := by
        simp only [keepB_eq, List.map_cons, List.map_nil]
        rw [show T.getD p (.dfr false) = .cells (l.flatMap E.enc) v (some E.sz) true by rw [List.getD_eq_getElem?_getD, hB]; rfl]
        simp only [renB_cells, renL_eq]
        congr 2
        refine (List.map_congr_left (g := id) fun c hc => ?_).trans (List.map_id _)
        obtain ⟨a, _, ha⟩ := List.mem_flatMap.1 hc
        exact hF _ _ _ ha _
      rw [hk]
      cases l with
      | nil => exact absurd rfl h0
      | cons a l => rfl
theorem Acc.ret {x : AV} {l : List α} (hF : ∀ n a, ∀ c ∈ E.enc a, AV.Flat n c) (h : Acc z E S M x l) : WkV S (retX z S l) (retM z E S l) x M := by
  obtain ⟨keep, T, rfl, h1, h2, h3, h4⟩ := h.keep hF
  have := wkv_keep (S0 := S) (L := T) (y := x) keep h1 h2
  rwa [h3, h4] at this
end
theorem pre_retM {α : Type} {z : Bool} {E : Enc α} {S : Mem} {l : List α} : (S <+: retM z E S l) = True := eq_true retM_ext
theorem flat_split {α : Type} {E : Enc α} (l : List α) {k : Nat} (h : k < l.length) : l.flatMap E.enc = (l.take k).flatMap E.enc ++ (E.enc l[k] ++ (l.drop (k + 1)).flatMap E.enc) := by
  rw [← List.flatMap_cons, ← List.drop_eq_getElem_cons h, ← List.flatMap_append, List.take_append_drop]
/-- A part of one element is written. -/
theorem splice_at {α : Type} {E : Enc α} (l : List α) {k f : Nat} (h : k < l.length) (a : α) {ys : List AV} (hf : f + ys.length ≤ E.sz) (ha : E.enc a = splice (E.enc l[k]) f ys) : splice (l.flatMap E.enc) (k * E.sz + f) ys = (l.set k a).flatMap E.enc := by
  have h1 : ((l.take k).flatMap E.enc).length = k * E.sz := by rw [enc_length, List.length_take]; congr 1; omega
  have h3 : (E.enc l[k]).length = E.sz := E.len _
  have h2 : l.set k a = l.take k ++ a :: l.drop (k + 1) := by rw [List.set_eq_take_append_cons_drop, if_pos h]
  rw [h2, List.flatMap_append, List.flatMap_cons, ha, flat_split l h]
  simp only [splice]
  rw [List.take_append, List.take_of_length_le (by rw [h1]; omega), h1, show k * E.sz + f - k * E.sz = f by omega, List.take_append_of_le_length (by rw [h3]; omega), List.append_assoc, List.append_assoc, List.append_assoc]
  congr 3
  rw [List.drop_append, List.drop_of_length_le (by rw [h1]; omega), List.nil_append, h1, List.drop_append_of_le_length (by rw [h3]; omega)]
  congr 2; omega
theorem zerosV_1 {z : List AV} : zerosV z 1 = z := by rw [zerosV_succ, zerosV_zero, List.append_nil]
theorem src_se {S : Mem} {size : Nat} : srcV S size .se = some ([], 0) := (rfl)
theorem app_sl0 {S : Mem} {size bytes i o v len cap : Nat} {ex : Bool} {cs : List AV} : appV S size bytes (.sl i o v len cap ex) cs 0 = some (.sl i o v len cap ex, S) := (rfl)
theorem app_sn0 {S : Mem} {size bytes : Nat} {cs : List AV} : appV S size bytes .sn cs 0 = some (.sn, S) := (rfl)
theorem app_se0 {S : Mem} {size bytes : Nat} {cs : List AV} : appV S size bytes .se cs 0 = some (.se, S) := (rfl)
attribute [go_sem] List.prefix_append_right_inj List.cons_prefix_cons List.nil_prefix pre_retM zerosV_1 zerosV_zero src_se app_sl0 app_sn0 app_se0
end Go.Proofs.Ytmdnohpolepcoaa

namespace Go.Proofs.Ytmdnohpolepcoaa
open Go.RowKit
set_option linter.unusedSimpArgs false
set_option linter.unusedVariables false

section
variable {O : Orc} {e er ef : Env} {S : Mem} {k : Env → Mem → Prop} {kn : Env → Prop} {kp : Env → Mem → List Noted → Prop}

/-! ### The run -/
end
end Go.Proofs.Ytmdnohpolepcoaa

namespace Go.Proofs.Ytmdnohpolepcoaa
open Go.RowKit
set_option linter.unusedSimpArgs false
set_option linter.unusedVariables false

/-! ### Lists that are built, and other blocks -/
section
variable {α : Type} {E : Enc α} {S M : Mem}
theorem Acc.base {z : Bool} {S2 : Mem} {x : AV} {l : List α} (hS : S <+: S2) (h : Acc z E S2 M x l) : Acc z E S M x l := by
  obtain ⟨U, rfl⟩ := hS
  obtain ⟨T, rfl, h⟩ := h
  refine ⟨U ++ T, by rw [List.append_assoc], ?_⟩
  have at2 : ∀ p, (U ++ T)[U.length + p]? = T[p]? := fun p => at_app
  rcases h with h | ⟨h0, hz, p, h1, h2⟩ | ⟨h0, p, v, h1, h2⟩
  · exact .inl h
  · exact .inr (.inl ⟨h0, hz, U.length + p, by rw [h1, List.length_append, Nat.add_assoc], by rw [at2]; exact h2⟩)
  · exact .inr (.inr ⟨h0, U.length + p, v, by rw [h1, List.length_append, Nat.add_assoc], by rw [at2]; exact h2⟩)
theorem ext_set (h : S <+: M) {ib : Nat} (hS : S.length ≤ ib) (B : Blk) : S <+: M.set ib B := by
  obtain ⟨T, rfl⟩ := h
  obtain ⟨q, rfl⟩ : ∃ q, ib = S.length + q := ⟨ib - S.length, by omega⟩
  rw [set_app]
  exact ext_app _
end

theorem at_pre {S M : Mem} {i : Nat} {B : Blk} (h : S <+: M) (hB : S[i]? = some B) : M[i]? = some B := by
  obtain ⟨T, rfl⟩ := h; exact at_old hB
theorem set_self {S : Mem} {i : Nat} {B : Blk} (h : S[i]? = some B) : S.set i B = S := by
  obtain ⟨hi, he⟩ := List.getElem?_eq_some_iff.1 h
  subst he
  exact List.set_getElem_self hi
end Go.Proofs.Ytmdnohpolepcoaa

namespace Go.Proofs.Ytmdnohpolepcoaa
open Go.RowKit
set_option linter.unusedSimpArgs false
set_option linter.unusedVariables false

section
variable {S0 S S1 S2 : Mem} {e e1 e2 : Env}
theorem Wk.trans (h1 : Wk S0 e S e1 S1) (h2 : Wk S0 e1 S1 e2 S2) : Wk S0 e S e2 S2 := by
  intro base w0 K0 wE K w h0 h hst
  obtain ⟨K1, q1, q2, q3⟩ := h1 base w0 K0 wE K w h0 h hst
  obtain ⟨K2, r1, r2, r3⟩ := h2 base w0 K0 wE K1 w h0 q1 q3
  exact ⟨K2, r1, fun t v hv => r2 t v (q2 t v hv), r3⟩
end
end Go.Proofs.Ytmdnohpolepcoaa

namespace Go.Proofs.Ytmdnohpolepcoaa
open Go.RowKit
set_option linter.unusedSimpArgs false
set_option linter.unusedVariables false

section
variable {P : Program} {S0 : Mem} {rd : Bool} {e : Env} {S : Mem} {d : List Nat} {Q : Kont}
end
end Go.Proofs.Ytmdnohpolepcoaa

namespace Go.Proofs.Ytmdnohpolepcoaa
open Go.RowKit
set_option linter.unusedSimpArgs false
set_option linter.unusedVariables false

section
variable {S0 S : Mem} {e e2 : Env}
end
end Go.Proofs.Ytmdnohpolepcoaa

namespace Go.Proofs.Ytmdnohpolepcoaa
open Go.RowKit
set_option linter.unusedSimpArgs false
set_option linter.unusedVariables false

section
variable {α β : Type} {E : Enc α} {F : Enc β} {S M : Mem}
theorem Acc.kept {y : AV} {m : List β} {M' : Mem} {k : Nat} (h : Acc false F S M y m) (hM : S <+: M') (hk : ∀ (ib : Nat) (B : Blk), M[ib]? = some B → B.opn ≠ some k → M'[ib]? = some B) (hne : F.sz ≠ k) : Acc false F S M' y m := by
  obtain ⟨T', rfl⟩ := hM
  obtain ⟨T, rfl, h⟩ := h
  refine ⟨T', rfl, ?_⟩
  rcases h with h | ⟨h0, hz, _⟩ | ⟨h0, p, v, h1, h2⟩
  · exact .inl h
  · cases hz
  · refine .inr (.inr ⟨h0, p, v, h1, ?_⟩)
    have := hk (S.length + p) _ (by rw [at_app]; exact h2) (fun e => hne (by injection e))
    rwa [at_app] at this
end
/-! ### A map whose keys are numbers -/
end Go.Proofs.Ytmdnohpolepcoaa

namespace Go.Proofs.Ytmdnohpolepcoaa
open Go.RowKit
set_option linter.unusedSimpArgs false
set_option linter.unusedVariables false

/-- Behind whatever leaves the old memory alone, a block that was laid in the new one. -/
theorem Sim.comes {base : Bs} {w0 : World} {K : Ctx} {S : Mem} {w w' : World} (h : Sim base w0 K S w) (hb : Below w.heap.size w w') {g n : Nat} (hg : w.heap.size ≤ g) (B : Blk)
    (hB : ∀ K' S', Ext K S K' S' → K'.μ S.length = g → K'.σ S.length = n → BRel base K' S' w' S.length B) :
    Sim base w0 (K.put S.length g n) (S ++ [B]) w' ∧ Stp K S w (K.put S.length g n) (S ++ [B]) w' := by
  have hE : Ext K S (K.put S.length g n) (S ++ [B]) := Ext.push K S B _ _
  have hs : Stp K S w (K.put S.length g n) (S ++ [B]) w' := by
    refine ⟨hE, hb.os, hb.tape, hb.output, hb.size, fun b hlt _ => hb.block b hlt, fun i B' hB' => ?_⟩
    rcases Nat.lt_or_ge i S.length with hi | hi
    · rw [List.getElem?_append_left hi] at hB'
      exact .inl ⟨B', hB', id, (K.put_other _ _ (by omega)).1⟩
    · have : i = S.length := by
        have := (List.getElem?_eq_some_iff.1 hB').1
        simp at this; omega
      subst this
      exact .inr (by rw [(K.put_same _ _ _).1]; exact hg)
  refine ⟨⟨fun i B' hB' => ?_, fun i j hi hj e => ?_, h.step_below hs, Nat.le_trans h.hb hs.size⟩, hs⟩
  · rcases Nat.lt_or_ge i S.length with hi | hi
    · rw [List.getElem?_append_left hi] at hB'
      have h1 := h.blk i B' hB'
      have hp := K.put_other g n (show i ≠ S.length by omega)
      exact h1.mono hE hp.1 hp.2 (hb.block _ h1.lt)
    · have : i = S.length := by
        have := (List.getElem?_eq_some_iff.1 hB').1
        simp at this; omega
      subst this
      have hp := K.put_same S.length g n
      simp at hB'
      subst hB'
      exact hB _ _ hE hp.1 hp.2
  · have lt : ∀ k, k < S.length → K.μ k < w.heap.size := fun k hk => (h.blk k S[k] (List.getElem?_eq_getElem hk)).lt
    simp only [List.length_append, List.length_singleton] at hi hj
    rcases Nat.lt_or_ge i S.length with hi' | hi' <;> rcases Nat.lt_or_ge j S.length with hj' | hj'
    · rw [(K.put_other _ _ (by omega)).1, (K.put_other _ _ (by omega)).1] at e
      exact h.inj i j hi' hj' e
    · have : j = S.length := by omega
      subst this
      rw [(K.put_other _ _ (by omega)).1, (K.put_same _ _ _).1] at e
      have := lt i hi'; omega
    · have : i = S.length := by omega
      subst this
      rw [(K.put_other _ _ (show j ≠ S.length by omega)).1, (K.put_same _ _ _).1] at e
      have := lt j hj'; omega
    · omega
theorem Sim.later {base : Bs} {w0 : World} {K : Ctx} {S : Mem} {w w' : World} (h : Sim base w0 K S w) (hb : Below w.heap.size w w') : Sim base w0 K S w' ∧ Stp K S w K S w' := by
  have hs : Stp K S w K S w' := ⟨.refl K S, hb.os, hb.tape, hb.output, hb.size, fun b hlt _ => hb.block b hlt, fun _ B' h => .inl ⟨B', h, id, rfl⟩⟩
  exact ⟨⟨fun i B hB => (h.blk i B hB).mono (.refl K S) rfl rfl (hb.block _ (h.blk i B hB).lt), h.inj, h.step_below hs, Nat.le_trans h.hb hs.size⟩, hs⟩
/-! ### Numbers in order -/
def insI (x : Int) : List Int → List Int
  | [] => [x]
  | y :: l => if x ≤ y then x :: y :: l else y :: insI x l
def isort : List Int → List Int
  | [] => []
  | x :: l => insI x (isort l)
theorem insI_perm (x : Int) : ∀ l, (insI x l).Perm (x :: l)
  | [] => .refl _
  | y :: l => by
    rw [insI]
    split
    · exact .refl _
    · exact ((insI_perm x l).cons y).trans (.swap x y l)
theorem isort_perm : ∀ l, (isort l).Perm l
  | [] => .refl _
  | x :: l => (insI_perm x _).trans ((isort_perm l).cons x)
theorem insI_rises (x : Int) : ∀ l : List Int, l.Pairwise (· ≤ ·) → (insI x l).Pairwise (· ≤ ·)
  | [], _ => List.pairwise_singleton ..
  | y :: l, h => by
    rw [insI]
    obtain ⟨h1, h2⟩ := List.pairwise_cons.1 h
    split
    · rename_i hx
      refine List.pairwise_cons.2 ⟨fun z hz => ?_, h⟩
      rcases List.mem_cons.1 hz with rfl | hz
      · exact hx
      · have := h1 z hz; omega
    · rename_i hx
      refine List.pairwise_cons.2 ⟨fun z hz => ?_, insI_rises x l h2⟩
      rcases List.mem_cons.1 ((insI_perm x l).mem_iff.1 hz) with rfl | hz
      · omega
      · exact h1 z hz
theorem isort_rises : ∀ l, (isort l).Pairwise (· ≤ ·)
  | [] => .nil
  | x :: l => insI_rises x _ (isort_rises l)
theorem rises_eq : ∀ {a b : List Int}, a.Perm b → a.Pairwise (· ≤ ·) → b.Pairwise (· ≤ ·) → a = b
  | [], b, h, _, _ => (List.nil_perm.1 h).symm
  | x :: a, [], h, _, _ => absurd h.length_eq (by simp)
  | x :: a, y :: b, h, ha, hb => by
    obtain ⟨a1, a2⟩ := List.pairwise_cons.1 ha
    obtain ⟨b1, b2⟩ := List.pairwise_cons.1 hb
    have e : x = y := by
      have h1 : x ≤ y := by
        rcases List.mem_cons.1 (h.mem_iff.2 (List.mem_cons_self (a := y) (l := b))) with q | q
        · omega
        · exact a1 y q
      have h2 : y ≤ x := by
        rcases List.mem_cons.1 (h.mem_iff.1 (List.mem_cons_self (a := x) (l := a))) with q | q
        · omega
        · exact b1 x q
      omega
    subst e
    rw [rises_eq (List.Perm.cons_inv h) a2 b2]
theorem merge_isort {a b : List Int} (h : a.Perm b) : a.mergeSort (fun x y => decide (x ≤ y)) = isort b := by
  refine rises_eq ((List.mergeSort_perm a _).trans (h.trans (isort_perm b).symm)) ?_ (isort_rises b)
  have := List.pairwise_mergeSort (le := fun x y : Int => decide (x ≤ y)) (fun a b c h1 h2 => by simp at *; omega) (fun a b => by simp; omega) a
  exact this.imp fun h => by simpa using h
/-! ### The keys of a map -/
def keysOf : List (AV × AV × Nat) → Option (List Int)
  | [] => some []
  | (.i .i64 n, _) :: es => match keysOf es with
    | some l => some (n :: l)
    | none => none
  | _ => none
theorem keysOf_len : ∀ {es : List (AV × AV × Nat)} {ks : List Int}, keysOf es = some ks → ks.length = es.length ∧ ∀ k (h : k < es.length) (h' : k < ks.length), (es[k]).1 = .i .i64 ks[k]
  | [], ks, h => by cases h; exact ⟨rfl, fun k h => absurd h (by simp)⟩
  | (x, v) :: es, ks, h => by
    cases x with
    | i q n =>
      cases q with
      | i64 =>
        simp only [keysOf] at h
        split at h
        · rename_i l hl
          cases h
          obtain ⟨h1, h2⟩ := keysOf_len hl
          refine ⟨by simp [h1], fun k hk hk' => ?_⟩
          cases k with
          | zero => rfl
          | succ k => exact h2 k (by simpa using hk) (by simpa using hk')
        · cases h
      | _ => simp [keysOf] at h
    | _ => simp [keysOf] at h
end Go.Proofs.Ytmdnohpolepcoaa

namespace Go.Proofs.Ytmdnohpolepcoaa
open Go.RowKit Go.Sort
set_option linter.unusedSimpArgs false
set_option linter.unusedVariables false

section
variable {base : Bs} {w0 : World} {K : Ctx} {S : Mem} {w : World}
theorem Sim.aheads (h : Sim base w0 K S w) (n : Nat) : Sim base w0 K S (Go.Sort.ahead w n) ∧ Stp K S w K S (Go.Sort.ahead w n) := by
  induction n with
  | zero => exact ⟨h, .refl K S w⟩
  | succ n ih =>
    obtain ⟨h1, t1⟩ := ih
    obtain ⟨h2, t2⟩ := h1.drew
    have e : (Go.Sort.ahead w n).drew = Go.Sort.ahead w (n + 1) := by rw [drew_eq_ahead, ahead_ahead]
    rw [e] at h2 t2
    exact ⟨h2, t1.trans t2⟩
theorem Sim.grows (h : Sim base w0 K S w) (os : List Obj) : Sim base w0 K S (grow w os.toArray) ∧ Stp K S w K S (grow w os.toArray) := by
  induction os generalizing w with
  | nil => rw [show ([] : List Obj).toArray = #[] from rfl, grow_empty]; exact ⟨h, .refl K S w⟩
  | cons o os ih =>
    obtain ⟨h1, t1⟩ := h.junk o
    obtain ⟨h2, t2⟩ := ih h1
    have e : grow (w.alloc o) os.toArray = grow w (o :: os).toArray := by rw [alloc_eq_grow, grow_grow]; simp
    rw [e] at h2 t2
    exact ⟨h2, t1.trans t2⟩
/-- The cells of a block are others. -/
theorem Sim.reCells (h : Sim base w0 K S w) {i v : Nat} {cs cs' : List AV} {op : Option Nat} (hB : S[i]? = some (.cells cs v op true)) {arr arr' : Array Value} {et : TypeId} {fz : Nat × Nat} (hh : w.heap[K.μ i]? = some (.cells arr et fz)) (hsz : arr'.size = arr.size) (hcs : cs'.length = cs.length)
    (hV : ∀ k, k < cs'.length → VR K S (cs'.getD k .u) (arr'.getD k undef)) : Sim base w0 K (S.set i (.cells cs' v op true)) (w.putObj (K.μ i) (.cells arr' et fz)) ∧ Stp K S w K (S.set i (.cells cs' v op true)) (w.putObj (K.μ i) (.cells arr' et fz)) := by
  refine h.putObj (B' := .cells cs' v op true) hB rfl rfl rfl fun S' w' hE he => ?_
  obtain ⟨c, et0, fz0, q1, q2, q3, q4, q5, q6⟩ := h.blk i _ hB
  rw [hh] at q1
  injection q1 with q1; injection q1 with e1 e2 e3
  subst e1 e2 e3
  exact ⟨arr', et, fz, he, by rw [hsz]; exact q2, by rw [hcs, hsz]; exact q3, fun ho => by rw [hcs, hsz]; exact q4 ho, fun k hk => (hV k hk).mono hE, fun hr => ⟨(q6 hr).1, fun o ho => (q6 hr).2 o (by rw [← hsz]; exact ho)⟩⟩
theorem mapBlock_put {w : World} {blk : Nat} {f : Array Value → Array Value} {arr : Array Value} {et : TypeId} {fz : Nat × Nat} (hh : w.heap[blk]? = some (.cells arr et fz)) : mapBlock w blk f = w.putObj blk (.cells (f arr) et fz) := by
  have hlt : blk < w.heap.size := (Array.getElem?_eq_some_iff.1 hh).1
  unfold mapBlock World.putObj
  congr 1
  apply Array.ext_getElem?
  intro k
  simp only [Array.getElem?_modify]
  by_cases hk : blk = k
  · subst hk
    rw [if_pos rfl, hh, Array.getElem?_setIfInBounds_self_of_lt hlt]
    rfl
  · rw [if_neg hk, Array.getElem?_setIfInBounds_ne hk]
/-- Draws, other cells in one block, new blocks that nothing leads to. -/
theorem Sim.resort (h : Sim base w0 K S w) {i v : Nat} {cs cs' : List AV} {op : Option Nat} (hB : S[i]? = some (.cells cs v op true)) {arr : Array Value} {et : TypeId} {fz : Nat × Nat} (hh : w.heap[K.μ i]? = some (.cells arr et fz)) {f : Array Value → Array Value} (hsz : (f arr).size = arr.size) (hcs : cs'.length = cs.length)
    (hV : ∀ k, k < cs'.length → VR K S (cs'.getD k .u) ((f arr).getD k undef)) (n : Nat) (os : Array Obj) :
    Sim base w0 K (S.set i (.cells cs' v op true)) (grow (mapBlock (Go.Sort.ahead w n) (K.μ i) f) os) ∧ Stp K S w K (S.set i (.cells cs' v op true)) (grow (mapBlock (Go.Sort.ahead w n) (K.μ i) f) os) := by
  obtain ⟨h1, t1⟩ := h.aheads n
  have hh' : (Go.Sort.ahead w n).heap[K.μ i]? = some (.cells arr et fz) := hh
  obtain ⟨h2, t2⟩ := h1.reCells hB hh' (arr' := f arr) hsz hcs hV
  rw [← mapBlock_put hh'] at h2 t2
  obtain ⟨h3, t3⟩ := h2.grows os.toList
  rw [show os.toList.toArray = os from by simp] at h3 t3
  exact ⟨h3, (t1.trans t2).trans t3⟩
end
end Go.Proofs.Ytmdnohpolepcoaa

