/- Proved here: a region whose order is drawn, run in one order, needs no second look where memory only grows. No condition. -/
import Derived.Test.YtljaigbjiheohaaDoorEvP
namespace Go.Proofs.YtljaigbjiheohaaDoor
set_option linter.unusedSimpArgs false
set_option linter.unusedVariables false
open Go.RowKit

/-! ### What reads goes on reading the same where memory has grown -/
theorem grow_get {S T : Mem} {i : Nat} {B : Blk} (h : S[i]? = some B) : (S ++ T)[i]? = some B := by
  rw [List.getElem?_append_left (List.getElem?_eq_some_iff.1 h).1]; exact h

theorem rowAt_grow {S : Mem} (T : Mem) {i o v n : Nat} {xs : List AV} (h : rowAt S i o v n = some xs) : rowAt (S ++ T) i o v n = some xs := by
  unfold rowAt at h ⊢
  cases hB : S[i]? with
  | none => rw [hB] at h; cases h
  | some B => rw [grow_get hB]; rw [hB] at h; exact h

theorem ldCells_grow {S : Mem} (T : Mem) {n : Option Nat} {x y : AV} (h : ldCells S n x = some y) : ldCells (S ++ T) n x = some y := by
  cases x <;> try (simp [ldCells] at h; done)
  cases n with
  | some n =>
    simp only [ldCells] at h ⊢
    obtain ⟨xs, hx, rfl⟩ := Option.map_eq_some_iff.1 h
    rw [rowAt_grow T hx]; rfl
  | none =>
    simp only [ldCells] at h ⊢
    split at h
    · rename_i z hz
      rw [rowAt_grow T hz]; exact h
    · cases h

theorem sliceV_grow {S : Mem} (T : Mem) {size : Nat} {x y : AV} {lo hi mx : Option AV} (h : sliceV S size x lo hi mx = some y) : sliceV (S ++ T) size x lo hi mx = some y := by
  unfold sliceV at h ⊢
  split at h
  · exact h
  · exact h
  · split at h
    · cases h
    · split at h
      · rename_i hc; rw [if_pos hc]; exact h
      · rename_i hc
        rw [if_neg hc]
        split at h
        · rename_i hl; rw [if_pos hl]; exact h
        · rename_i hl
          rw [if_neg hl]
          split at h
          · rename_i hB; rw [grow_get hB]; exact h
          · cases h
  · cases h

theorem lenV_grow {S : Mem} (T : Mem) {x : AV} {n : Nat} (h : lenV S x = some n) : lenV (S ++ T) x = some n := by
  unfold lenV at h ⊢
  split at h <;> try exact h
  split at h
  · rename_i hB; rw [grow_get hB]; exact h
  · cases h

theorem toStrV_grow {S : Mem} (T : Mem) {x y : AV} (h : toStrV S x = some y) : toStrV (S ++ T) x = some y := by
  unfold toStrV at h ⊢
  split at h <;> try exact h
  split at h
  · rename_i hr; rw [rowAt_grow T hr]; exact h
  · cases h

theorem mapOf_grow {S : Mem} (T : Mem) {x : AV} {es : List (AV × AV × Nat)} (h : mapOf S x = some es) : mapOf (S ++ T) x = some es := by
  unfold mapOf at h ⊢
  split at h <;> try exact h
  split at h
  · rename_i hB; rw [grow_get hB]; exact h
  · cases h

theorem mlookV_grow {S : Mem} (T : Mem) {ag : Bool} {ks : List TK} {z : AV} {ok : Bool} {x k y : AV} (h : mlookV S ag ks z ok x k = some y) : mlookV (S ++ T) ag ks z ok x k = some y := by
  unfold mlookV at h ⊢
  split at h
  · rename_i h1 h2; rw [mapOf_grow T h2, h1]; exact h
  · cases h

theorem apartB_grow {S : Mem} (T : Mem) {i j o v v2 : Nat} (h : apartB (S[i]?) (S[j]?) o v v2 = true) : apartB ((S ++ T)[i]?) ((S ++ T)[j]?) o v v2 = true := by
  cases hi : S[i]? with
  | none => rw [hi] at h; simp [apartB] at h
  | some A => cases hj : S[j]? with
    | none => rw [hi, hj] at h; cases A <;> simp [apartB] at h
    | some B =>
      rw [hi, hj] at h
      rw [List.getElem?_append_left (List.getElem?_eq_some_iff.1 hi).1, List.getElem?_append_left (List.getElem?_eq_some_iff.1 hj).1, hi, hj]; exact h
theorem evIO_grow {e : Env} {S S' : Mem} (T : Mem) {io : IO'} {x : AV} (hs : io.still = true) (h : evIO e S io = some (x, S')) : evIO e (S ++ T) io = some (x, S ++ T) := by
  have hS := still_ok hs h
  subst hS
  have fin : ∀ {o o' : Option AV}, (∀ y, o = some y → o' = some y) → (match o with | some y => some (y, S') | none => none) = some (x, S') → (match o' with | some y => some (y, S' ++ T) | none => none) = some (x, S' ++ T) := by
    intro o o' hh hv
    cases o with
    | none => cases hv
    | some y => rw [hh y rfl]; simp only [Option.some.injEq, Prod.mk.injEq, and_true] at hv; rw [hv]
  cases io <;> simp only [IO'.still] at hs <;> (first | cases hs | skip) <;> simp only [evIO] at h ⊢
  case mv => simp only [Option.some.injEq, Prod.mk.injEq, and_true] at h; rw [h]
  case pick => split at h <;> first | (simp only [Option.some.injEq, Prod.mk.injEq, and_true] at h; rw [h]) | cases h
  case mkf => simp only [Option.some.injEq, Prod.mk.injEq, and_true] at h; rw [h]
  case build => split at h <;> first | (simp only [Option.some.injEq, Prod.mk.injEq, and_true] at h; rw [h]) | cases h
  case load => exact fin (fun y hy => ldCells_grow T hy) h
  case slice => exact fin (fun y hy => sliceV_grow T hy) h
  case toStr => exact fin (fun y hy => toStrV_grow T hy) h
  case mlook => exact fin (fun y hy => mlookV_grow T hy) h
  case len k y =>
    split at h
    · rename_i hk
      rw [if_pos hk]
      split at h
      · rename_i n hn
        rw [lenV_grow T hn]; simp only [Option.some.injEq, Prod.mk.injEq, and_true] at h ⊢; exact h
      · cases h
    · cases h
  case mm b xs =>
    split at h
    · split at h
      · simp only [Option.some.injEq, Prod.mk.injEq, and_true] at h; rw [h]
      · cases h
    · cases h
  case same y =>
    split at h
    · simp only [Option.some.injEq, Prod.mk.injEq, and_true] at h; rw [h]
    · cases h
  case ovl y z =>
    split at h
    · split at h
      · rename_i hc
        rw [if_pos ⟨hc.1, apartB_grow T hc.2⟩]
        simp only [Option.some.injEq, Prod.mk.injEq, and_true] at h; rw [h]
      · cases h
    · cases h
  all_goals (split at h <;> first | (simp only [Option.some.injEq, Prod.mk.injEq, and_true] at h; rw [h]) | cases h)

theorem evOne_grow {O : Orc} {e : Env} {S S' : Mem} (T : Mem) {o : ROp} {x : AV} (hs : o.io.still = true) (h : evOne O e S o = some (x, S')) : evOne O e (S ++ T) o = some (x, S ++ T) := by
  unfold evOne at h ⊢
  split at h
  · cases h
  · simp only [Option.some.injEq, Prod.mk.injEq] at h; rw [← h.1]
  · cases hio : o.io with
    | op io => rw [hio] at hs h; exact evIO_grow T hs h
    | call f xs => rw [hio] at hs; simp [IOp.still] at hs
    | callv x xs => rw [hio] at hs; simp [IOp.still] at hs

/-- It looks at the memory. -/
def IO'.reads : IO' → Bool
  | .mv _ | .pick .. | .build .. | .nilck _ | .bin .. | .un .. | .toInt .. | .faddr .. | .fld .. | .iaddr .. | .ixa .. | .ixs .. | .sla .. | .sls .. | .ext .. | .mkf .. | .mm .. | .eqag .. | .same _ | .cap _ | .ixbyte .. => false
  | _ => true
def IOp.reads : IOp → Bool
  | .op io => io.reads
  | _ => true

theorem evIO_pure {e : Env} {S S' S2 : Mem} {io : IO'} {x : AV} (hs : io.reads = false) (h : evIO e S io = some (x, S')) : S' = S ∧ evIO e S2 io = some (x, S2) := by
  cases io <;> simp only [IO'.reads] at hs <;> (first | cases hs | skip) <;> simp only [evIO] at h ⊢
  all_goals first
    | (simp only [Option.some.injEq, Prod.mk.injEq] at h; obtain ⟨h1, h2⟩ := h; exact ⟨h2.symm, by rw [h1]⟩)
    | (split at h <;> first | (simp only [Option.some.injEq, Prod.mk.injEq] at h; obtain ⟨h1, h2⟩ := h; exact ⟨h2.symm, by rw [h1]⟩) | cases h)
    | (split at h; (split at h <;> first | (simp only [Option.some.injEq, Prod.mk.injEq] at h; obtain ⟨h1, h2⟩ := h; exact ⟨h2.symm, by rw [h1]⟩) | cases h); cases h)

theorem evOne_pure {O : Orc} {e : Env} {S S' S2 : Mem} {o : ROp} {x : AV} (hs : o.io.reads = false) (h : evOne O e S o = some (x, S')) : evOne O e S2 o = some (x, S2) := by
  unfold evOne at h ⊢
  split at h
  · cases h
  · simp only [Option.some.injEq, Prod.mk.injEq] at h; rw [← h.1]
  · cases hio : o.io with
    | op io => rw [hio] at hs h; exact (evIO_pure hs h).2
    | call f xs => rw [hio] at hs; simp [IOp.reads] at hs
    | callv x xs => rw [hio] at hs; simp [IOp.reads] at hs

/-! ### The order of the stages keeps to the slots -/
def optD : Option ROp → List Nat
  | some o => dstL o
  | none => []
def nsD (l : List (ROp × Nat)) : List Nat := l.flatMap fun q => dstL q.1
def Stage.dsts (g : Stage) : List Nat := nsD g.ns ++ (optD g.a ++ optD g.m)
def stD (st : List Stage) : List Nat := st.flatMap Stage.dsts

/-- 'W': what is written already; 'rest': what is written later. -/
def opOk (late W rest : List Nat) (o : ROp) : Bool := o.use.all (fun t => if late.contains t then !W.contains t else !(dstL o ++ rest).contains t) && (dstL o).all fun d => !rest.contains d
def optOk (late W rest : List Nat) : Option ROp → Bool
  | some o => opOk late W rest o
  | none => true
def nsOk (late : List Nat) : List (ROp × Nat) → List Nat → List Nat → Bool
  | [], _, _ => true
  | q :: r, W, rest => opOk late W (nsD r ++ rest) q.1 && nsOk late r (dstL q.1 ++ W) rest
def stOk (late : List Nat) : List Stage → List Nat → Bool
  | [], _ => true
  | g :: r, W => nsOk late g.ns W (optD g.a ++ (optD g.m ++ stD r)) && optOk late (nsD g.ns ++ W) (optD g.m ++ stD r) g.a && optOk late (optD g.a ++ (nsD g.ns ++ W)) (stD r) g.m && stOk late r (g.dsts ++ W)

/-- The last stages of what reads, up to a stage. -/
def hisOf (g : Stage) : List Nat := (g.ns.filter fun q => q.1.io.reads).map (·.2)
/-- Must memory grow behind the stages? Where what reads ahead of it may come later, too. 's': the stage's number; 'acc': the last stages of what reads ahead of it. -/
def marks : List Stage → Nat → List Nat → List Bool
  | [], _, _ => []
  | g :: r, s, acc => (acc ++ hisOf g).any (fun h => decide (s < h)) :: marks r (s + 1) (acc ++ hisOf g)

/-- From stage to stage memory grows, where it must. -/
def Grows : List Bool → List Noted → Prop
  | m :: ms, N :: N' :: r => (m = true → ∃ T, N'.S = N.S ++ T) ∧ Grows ms (N' :: r)
  | _, _ => True

theorem Grows.at : ∀ {ms : List Bool} {l : List Noted} {s : Nat} {N N' : Noted}, Grows ms l → ms[s]? = some true → l[s]? = some N → l[s + 1]? = some N' → ∃ T, N'.S = N.S ++ T
  | [], _, s, _, _, _, h, _, _ => by simp at h
  | m :: ms, [], s, _, _, _, _, h, _ => by simp at h
  | m :: ms, [A], s, _, _, _, _, _, h => by simp at h
  | m :: ms, A :: B :: r, s, N, N', hg, hm, h1, h2 => by
    cases s with
    | zero =>
      simp only [List.getElem?_cons_zero, List.getElem?_cons_succ, Option.some.injEq] at hm h1 h2
      subst h1; subst h2
      exact hg.1 hm
    | succ s =>
      simp only [List.getElem?_cons_succ] at hm h1 h2
      exact Grows.at hg.2 hm h1 h2

theorem marks_length : ∀ (st : List Stage) (s : Nat) (acc : List Nat), (marks st s acc).length = st.length
  | [], _, _ => rfl
  | g :: r, s, acc => by simp [marks, marks_length r]

theorem marks_acc : ∀ (st : List Stage) (s : Nat) (acc : List Nat) (t h : Nat), t < st.length → h ∈ acc → s + t < h → (marks st s acc)[t]? = some true
  | [], _, _, t, _, ht, _, _ => by simp at ht
  | g :: r, s, acc, 0, h, _, hm, hl => by
    simp only [marks, List.getElem?_cons_zero, Option.some.injEq, List.any_eq_true, decide_eq_true_eq]
    exact ⟨h, List.mem_append_left _ hm, by omega⟩
  | g :: r, s, acc, t + 1, h, ht, hm, hl => by
    simp only [marks, List.getElem?_cons_succ]
    exact marks_acc r (s + 1) _ t h (by simpa using ht) (List.mem_append_left _ hm) (by omega)

theorem marks_at : ∀ (st : List Stage) (s : Nat) (acc : List Nat) (lo t : Nat) (g : Stage) (q : ROp × Nat), st[lo]? = some g → q ∈ g.ns → q.1.io.reads = true → lo ≤ t → t < st.length → s + t < q.2 → (marks st s acc)[t]? = some true
  | [], _, _, _, _, _, _, h, _, _, _, _, _ => by simp at h
  | g :: r, s, acc, 0, t, g', q, h, hq, hr, _, ht, hl => by
    simp only [List.getElem?_cons_zero, Option.some.injEq] at h
    subst h
    have hm : q.2 ∈ acc ++ hisOf g := List.mem_append_right _ (List.mem_map.2 ⟨q, List.mem_filter.2 ⟨hq, hr⟩, rfl⟩)
    cases t with
    | zero =>
      simp only [marks, List.getElem?_cons_zero, Option.some.injEq, List.any_eq_true, decide_eq_true_eq]
      exact ⟨q.2, hm, by omega⟩
    | succ t =>
      simp only [marks, List.getElem?_cons_succ]
      exact marks_acc r (s + 1) _ t q.2 (by simpa using ht) hm (by omega)
  | g :: r, s, acc, lo + 1, t, g', q, h, hq, hr, hlt, ht, hl => by
    simp only [List.getElem?_cons_succ] at h
    obtain ⟨t', rfl⟩ : ∃ t', t = t' + 1 := ⟨t - 1, by omega⟩
    simp only [marks, List.getElem?_cons_succ]
    exact marks_at r (s + 1) _ lo t' g' q h hq hr (by omega) (by simpa using ht) (by omega)

theorem use_er {e0 ef ec : Env} {late W rest : List Nat} {o : ROp} (hk : opOk late W rest o = true) (hold : ∀ t, t ∉ W → ec.get t = e0.get t) (hnew : ∀ t, t ∉ dstL o ++ rest → ef.get t = ec.get t) :
    ∀ t ∈ o.use, (keepE e0 late ++ ef).get t = ec.get t := by
  intro t ht
  simp only [opOk, Bool.and_eq_true, List.all_eq_true] at hk
  have h := hk.1 t ht
  rw [get_keepE_append]
  by_cases hl : t ∈ late
  · rw [if_pos hl]
    rw [if_pos (by simpa using hl)] at h
    exact (hold t (by simpa using h)).symm
  · rw [if_neg hl]
    rw [if_neg (by simpa using hl)] at h
    exact hnew t (by simpa using h)

theorem dst_er {ef ec : Env} {late W rest : List Nat} {o : ROp} {x : AV} (hk : opOk late W rest o = true) (hnew : ∀ t, t ∉ rest → ef.get t = (putE ec o.dst x).get t) : ∀ d, o.dst = some d → x = ef.get d := by
  intro d hd
  simp only [opOk, Bool.and_eq_true, List.all_eq_true] at hk
  have := hk.2 d (dst_mem.2 hd)
  rw [hnew d (by simpa using this), hd]
  exact (get_put_same ec d x).symm

theorem get_putE' {e e0 : Env} {o : ROp} {x : AV} {W : List Nat} (hold : ∀ t, t ∉ W → e.get t = e0.get t) : ∀ t, t ∉ dstL o ++ W → (putE e o.dst x).get t = e0.get t := by
  intro t ht
  simp only [List.mem_append, not_or] at ht
  rw [get_putE _ _ _ _ fun h => ht.1 (dst_mem.2 h)]
  exact hold t ht.2

theorem ns_grow {O : Orc} {e0 ef : Env} {late : List Nat} {S : Mem} : ∀ (l : List (ROp × Nat)) (e e1 : Env) (W rest : List Nat), evNs O l e S = some e1 → nsOk late l W rest = true → (∀ t, t ∉ W → e.get t = e0.get t) → (∀ t, t ∉ rest → ef.get t = e1.get t) →
    (∀ q ∈ l, ∃ x S', evOne O (keepE e0 late ++ ef) S q.1 = some (x, S') ∧ ∀ d, q.1.dst = some d → x = ef.get d) ∧ (∀ t, t ∉ nsD l ++ W → e1.get t = e0.get t) ∧ ∀ t, t ∉ nsD l → e1.get t = e.get t
  | [], e, e1, W, rest, h, _, hold, _ => by
    simp only [evNs, Option.some.injEq] at h
    subst h
    exact ⟨fun q hq => by simp at hq, fun t ht => hold t (by simpa [nsD] using ht), fun t _ => rfl⟩
  | (o, hi) :: l, e, e1, W, rest, h, hk, hold, hnew => by
    simp only [evNs] at h
    split at h
    · cases h
    · rename_i x S' hx
      simp only [nsOk, Bool.and_eq_true] at hk
      obtain ⟨g1, g2, g3⟩ := ns_grow l _ _ (dstL o ++ W) rest h hk.2 (get_putE' hold) hnew
      have hn : ∀ t, t ∉ nsD l ++ rest → ef.get t = (putE e o.dst x).get t := fun t ht => by
        simp only [List.mem_append, not_or] at ht
        rw [hnew t ht.2, g3 t ht.1]
      refine ⟨fun q hq => ?_, fun t ht => ?_, fun t ht => ?_⟩
      · simp only [List.mem_cons] at hq
        rcases hq with rfl | hq
        · refine ⟨x, S', ?_, dst_er hk.1 hn⟩
          rw [evOne_congr S (use_er hk.1 hold fun t ht => ?_)]; exact hx
          simp only [List.mem_append, not_or] at ht
          rw [hn t (by simp only [List.mem_append, not_or]; exact ht.2)]
          exact get_putE _ _ _ _ fun h => ht.1 (dst_mem.2 h)
        · exact g1 q hq
      · refine g2 t ?_
        simp only [nsD, List.flatMap_cons, List.mem_append, not_or] at ht ⊢
        exact ⟨ht.1.2, ht.1.1, ht.2⟩
      · simp only [nsD, List.flatMap_cons, List.mem_append, not_or] at ht
        rw [g3 t ht.2]
        exact get_putE _ _ _ _ fun h => ht.1 (dst_mem.2 h)

theorem opt_grow {O : Orc} {e0 ef e e1 : Env} {late W rest : List Nat} {S S1 : Mem} {o : Option ROp} (h : evOpt O o e S = some (e1, S1)) (hk : optOk late W rest o = true) (hold : ∀ t, t ∉ W → e.get t = e0.get t) (hnew : ∀ t, t ∉ rest → ef.get t = e1.get t) :
    OptF O (keepE e0 late ++ ef) ef S S1 o ∧ (∀ t, t ∉ optD o ++ W → e1.get t = e0.get t) ∧ ∀ t, t ∉ optD o → e1.get t = e.get t := by
  cases o with
  | none =>
    simp only [evOpt, Option.some.injEq, Prod.mk.injEq] at h
    obtain ⟨rfl, rfl⟩ := h
    exact ⟨rfl, fun t ht => hold t (by simpa [optD] using ht), fun t _ => rfl⟩
  | some o =>
    simp only [evOpt] at h
    split at h
    · cases h
    · rename_i x S' hx
      simp only [Option.some.injEq, Prod.mk.injEq] at h
      obtain ⟨rfl, rfl⟩ := h
      refine ⟨⟨x, ?_, dst_er hk hnew⟩, get_putE' hold, fun t ht => get_putE _ _ _ _ fun h => ht (dst_mem.2 h)⟩
      rw [evOne_congr S (use_er hk hold fun t ht => ?_)]; exact hx
      simp only [List.mem_append, not_or] at ht
      rw [hnew t ht.2]
      exact get_putE _ _ _ _ fun h => ht.1 (dst_mem.2 h)

/-- What is known of a stage. -/
def StG (O : Orc) (er ef : Env) (Sf : Mem) (st : List Stage) (pre : List Noted) (s : Nat) (g : Stage) : Prop :=
  ∃ N S2 S3, pre[s]? = some N ∧ (∀ q ∈ g.ns, ∃ x S', evOne O er N.S q.1 = some (x, S') ∧ ∀ d, q.1.dst = some d → x = ef.get d) ∧ OptF O er ef N.S S2 g.a ∧ OptF O er ef S2 S3 g.m ∧
    (s + 1 < st.length → ∃ N', pre[s + 1]? = some N' ∧ N'.S = S3) ∧ (s + 1 = st.length → S3 = Sf)

theorem stages_grow {O : Orc} {e0 ef : Env} {late : List Nat} {Sf : Mem} : ∀ (st : List Stage) (e : Env) (S : Mem) (pre : List Noted) (W : List Nat), evStages O st e S = some (ef, Sf, pre) → stOk late st W = true → (∀ t, t ∉ W → e.get t = e0.get t) →
    pre.length = st.length ∧ (∀ s g, st[s]? = some g → StG O (keepE e0 late ++ ef) ef Sf st pre s g) ∧ (∀ N, pre[0]? = some N → N.S = S) ∧ ∀ t, t ∉ stD st → ef.get t = e.get t
  | [], e, S, pre, W, h, _, _ => by
    simp only [evStages, Option.some.injEq, Prod.mk.injEq] at h
    obtain ⟨rfl, rfl, rfl⟩ := h
    exact ⟨rfl, fun s g hg => by simp at hg, fun N hN => by simp at hN, fun t _ => rfl⟩
  | g :: st, e, S, pre, W, h, hk, hold => by
    simp only [evStages] at h
    split at h
    · cases h
    · rename_i e1 h1
      split at h
      · cases h
      · rename_i e2 S2 h2
        split at h
        · cases h
        · rename_i e3 S3 h3
          split at h
          · cases h
          · rename_i ef' Sf' pre' h4
            simp only [Option.some.injEq, Prod.mk.injEq] at h
            obtain ⟨rfl, rfl, rfl⟩ := h
            simp only [stOk, Bool.and_eq_true] at hk
            obtain ⟨⟨⟨k1, k2⟩, k3⟩, k4⟩ := hk
            -- the slots, once without looking at the end
            have o1 := (ns_grow (ef := e1) g.ns e e1 W [] h1 (by
              have : ∀ (l : List (ROp × Nat)) (W r : List Nat), nsOk late l W r = true → nsOk late l W [] = true := by
                intro l
                induction l with
                | nil => intro W r _; rfl
                | cons q l ih =>
                  intro W r hh
                  simp only [nsOk, Bool.and_eq_true] at hh ⊢
                  refine ⟨?_, ih _ _ hh.2⟩
                  have h5 := hh.1
                  simp only [opOk, Bool.and_eq_true, List.all_eq_true] at h5 ⊢
                  refine ⟨fun t ht => ?_, fun d hd => ?_⟩
                  · have := h5.1 t ht
                    split
                    · rename_i hc; rw [if_pos hc] at this; exact this
                    · rename_i hc
                      rw [if_neg hc] at this
                      simp at this ⊢
                      exact ⟨this.1, this.2.1⟩
                  · have := h5.2 d hd
                    simp at this ⊢
                    exact this.1
              exact this _ _ _ k1) hold fun t _ => rfl).2
            have q2 : ∀ t, t ∉ optD g.a → e2.get t = e1.get t := fun t ht => opt_env h2 t fun x hx => by
              rw [hx] at ht; exact fun h => ht (dst_mem.2 h)
            have q3 : ∀ t, t ∉ optD g.m → e3.get t = e2.get t := fun t ht => opt_env h3 t fun x hx => by
              rw [hx] at ht; exact fun h => ht (dst_mem.2 h)
            have hold2 : ∀ t, t ∉ optD g.a ++ (nsD g.ns ++ W) → e2.get t = e0.get t := fun t ht => by
              simp only [List.mem_append, not_or] at ht
              rw [q2 t ht.1]
              exact o1.1 t (by simp only [List.mem_append, not_or]; exact ht.2)
            have hold3 : ∀ t, t ∉ g.dsts ++ W → e3.get t = e0.get t := fun t ht => by
              simp only [Stage.dsts, List.mem_append, not_or] at ht
              rw [q3 t ht.1.2.2]
              exact hold2 t (by simp only [List.mem_append, not_or]; exact ⟨ht.1.2.1, ht.1.1, ht.2⟩)
            obtain ⟨r1, r2, r3, r4⟩ := stages_grow st e3 S3 pre' _ h4 k4 hold3
            have n3 : ∀ t, t ∉ stD st → ef'.get t = e3.get t := r4
            have n2 : ∀ t, t ∉ optD g.m ++ stD st → ef'.get t = e2.get t := fun t ht => by
              simp only [List.mem_append, not_or] at ht
              rw [n3 t ht.2, q3 t ht.1]
            have n1 : ∀ t, t ∉ optD g.a ++ (optD g.m ++ stD st) → ef'.get t = e1.get t := fun t ht => by
              simp only [List.mem_append, not_or] at ht
              rw [n2 t (by simp only [List.mem_append, not_or]; exact ht.2), q2 t ht.1]
            obtain ⟨a1, a2, a3⟩ := ns_grow g.ns e e1 W _ h1 k1 hold n1
            obtain ⟨b1, b2, b3⟩ := opt_grow h2 k2 a2 n2
            obtain ⟨c1, c2, c3⟩ := opt_grow h3 k3 b2 n3
            refine ⟨by simp [r1], fun s g' hg' => ?_, fun N hN => ?_, fun t ht => ?_⟩
            · cases s with
              | zero =>
                simp only [List.getElem?_cons_zero, Option.some.injEq] at hg'
                subst hg'
                refine ⟨⟨S, e1, e2, e3⟩, S2, S3, by simp, a1, b1, c1, fun hl => ?_, fun hl => ?_⟩
                · have hlt : 0 < pre'.length := by rw [r1]; simp only [List.length_cons] at hl; omega
                  exact ⟨pre'[0], by simp [hlt], r3 _ (by simp [hlt])⟩
                · have : st = [] := by
                    apply List.length_eq_zero_iff.1
                    simp only [List.length_cons] at hl; omega
                  subst this
                  simp only [evStages, Option.some.injEq, Prod.mk.injEq] at h4
                  exact h4.2.1
              | succ s =>
                simp only [List.getElem?_cons_succ] at hg'
                obtain ⟨N, S2', S3', z1, z2, z3, z4, z5, z6⟩ := r2 s g' hg'
                exact ⟨N, S2', S3', by simpa using z1, z2, z3, z4, fun hl => by simpa using z5 (by simp only [List.length_cons] at hl; omega), fun hl => z6 (by simp only [List.length_cons] at hl; omega)⟩
            · simp only [List.getElem?_cons_zero, Option.some.injEq] at hN
              subst hN; rfl
            · simp only [stD, List.flatMap_cons, List.mem_append, not_or, Stage.dsts] at ht
              rw [n1 t (by simp only [List.mem_append, not_or]; exact ⟨ht.1.2.1, ht.1.2.2, ht.2⟩)]
              exact a3 t ht.1.1

theorem df_grow {O : Orc} {ops : List Oper} {rs : List ROp} {nt : Nat} {p : Plan} {e ef : Env} {S Sf : Mem} {pre : List Noted} {late : List Nat} (hp : PF ops rs nt p)
    (hv : evStages O (stagesOf rs p) e S = some (ef, Sf, pre)) (hk : stOk late (stagesOf rs p) [] = true) (hg : Grows (marks (stagesOf rs p) 0 []) pre) : ∃ Sp S2, DF O (keepE e late ++ ef) ef e S Sf rs p Sp S2 := by
  obtain ⟨hlen, hst, hz, henv⟩ := stages_grow (e0 := e) _ e S pre [] hv hk fun t _ => rfl
  have hl : (stagesOf rs p).length = p.ms.length + 1 := by simp [stagesOf]
  have key : ∀ s, ∃ q : Mem × Mem, ∀ g, (stagesOf rs p)[s]? = some g → ∃ N S3, pre[s]? = some N ∧ N.S = q.1 ∧ (∀ z ∈ g.ns, ∃ x S', evOne O (keepE e late ++ ef) N.S z.1 = some (x, S') ∧ ∀ d, z.1.dst = some d → x = ef.get d) ∧ OptF O (keepE e late ++ ef) ef q.1 q.2 g.a ∧ OptF O (keepE e late ++ ef) ef q.2 S3 g.m ∧
      (s + 1 < (stagesOf rs p).length → ∃ N', pre[s + 1]? = some N' ∧ N'.S = S3) ∧ (s + 1 = (stagesOf rs p).length → S3 = Sf) := by
    intro s
    cases hg : (stagesOf rs p)[s]? with
    | none => exact ⟨([], []), fun g hg' => by cases hg'⟩
    | some g =>
      obtain ⟨N, S2, S3, h1, h2, h3, h4, h5, h6⟩ := hst s g hg
      exact ⟨(N.S, S2), fun g' hg' => by
        injection hg' with hg'; subst hg'
        exact ⟨N, S3, h1, rfl, h2, h3, h4, h5, h6⟩⟩
  obtain ⟨Q, hQ⟩ := Classical.axiomOfChoice key
  have hN : ∀ s N, s ≤ p.ms.length → pre[s]? = some N → N.S = (Q s).1 := by
    intro s N hs hN
    obtain ⟨g, hg, _⟩ := stage_at (rs := rs) hs
    obtain ⟨N', _, h1, h2, _⟩ := hQ s g hg
    rw [hN] at h1; injection h1 with h1; rw [h1]; exact h2
  refine ⟨fun s => (Q s).1, fun s => (Q s).2, ⟨?_, fun i hi lo hi' hcl s h1 h2 => ?_, fun i hi c hcl => ?_, fun s hs hna => ?_, fun s hs => ?_, ?_, fun t ht => ?_⟩⟩
  · obtain ⟨g, hg, _⟩ := stage_at (rs := rs) (p := p) (Nat.zero_le _)
    obtain ⟨N', _, h1, h2, _⟩ := hQ 0 g hg
    rw [← h2]; exact hz _ h1
  · obtain ⟨q1, q2, _, _, q5⟩ := hp.n i hi lo hi' hcl
    obtain ⟨g, hg', hm, _⟩ := stage_at (rs := rs) (p := p) (s := lo) (by omega)
    obtain ⟨N, _, a1, a2, h3, _⟩ := hQ lo g hg'
    obtain ⟨x, S', r2, r3⟩ := h3 _ (hm i hi lo hi' hcl rfl)
    have hsl : s < pre.length := by rw [hlen, hl]; omega
    have hsN := hN s _ (by omega) (List.getElem?_eq_getElem hsl)
    refine ⟨x, ?_, r3⟩
    rw [← hsN]
    cases hrd : (rs.getD i dflt).io.reads with
    | false => exact evOne_pure hrd r2
    | true =>
      have hq := hm i hi lo hi' hcl rfl
      have hch : ∀ n, lo + n ≤ s → ∃ M T, pre[lo + n]? = some M ∧ M.S = N.S ++ T := by
        intro n
        induction n with
        | zero => intro _; exact ⟨N, [], a1, by simp⟩
        | succ n ih =>
          intro hn
          obtain ⟨M, T, hM, hT⟩ := ih (by omega)
          have hl1 : lo + (n + 1) < pre.length := by omega
          have hmk := marks_at (stagesOf rs p) 0 [] lo (lo + n) g _ hg' hq hrd (by omega) (by rw [hl]; omega) (by simp only; omega)
          obtain ⟨U, hU⟩ := hg.at hmk hM (List.getElem?_eq_getElem hl1)
          exact ⟨_, T ++ U, List.getElem?_eq_getElem hl1, by rw [hU, hT, List.append_assoc]⟩
      obtain ⟨M, T, hM, hT⟩ := hch (s - lo) (by omega)
      rw [show lo + (s - lo) = s by omega, List.getElem?_eq_getElem hsl] at hM
      rw [Option.some.inj hM, hT]
      exact evOne_grow T q5 r2
  · obtain ⟨q1, q2, q3, q4, q5, q6⟩ := hp.a i hi c hcl
    obtain ⟨g, hg, _, ha, _⟩ := stage_at (rs := rs) (p := p) (s := c) q1
    obtain ⟨N', _, _, _, _, h4, _⟩ := hQ c g hg
    rw [ha, findSome_of hi hcl q6] at h4
    exact h4
  · obtain ⟨g, hg, _, ha, _⟩ := stage_at (rs := rs) (p := p) hs
    obtain ⟨N', _, _, _, _, h4, _⟩ := hQ s g hg
    rw [ha, findSome_none hna] at h4
    exact h4
  · obtain ⟨g, hg, _, _, hm, _⟩ := stage_at (rs := rs) (p := p) (Nat.le_of_lt hs)
    obtain ⟨N', S3, _, _, _, _, h5, h6, _⟩ := hQ s g hg
    obtain ⟨N2, h7, h8⟩ := h6 (by rw [hl]; omega)
    have hmi := hp.ms s hs
    have e1 : p.ms[s]? = some (p.ms.getD s 0) := by simp [List.getD_eq_getElem?_getD, hs]
    rw [hm, mAt, e1] at h5
    simp only [getD_of_lt hmi.1] at h5
    rw [hN (s + 1) N2 (by omega) h7] at h8
    rw [h8]; exact h5
  · obtain ⟨g, hg, _, _, hm, _⟩ := stage_at (rs := rs) (p := p) (Nat.le_refl _)
    obtain ⟨N', S3, _, _, _, _, h5, _, h7⟩ := hQ _ g hg
    have e1 : p.ms[p.ms.length]? = none := by simp
    rw [hm, mAt, e1] at h5
    simp only [OptF] at h5
    rw [← h7 (by rw [hl]), h5]
  · refine henv t fun hm => ?_
    simp only [stD, List.mem_flatMap] at hm
    obtain ⟨g, hgm, htg⟩ := hm
    obtain ⟨s, hs, hgs⟩ := List.mem_iff_getElem.1 hgm
    rw [hl] at hs
    obtain ⟨g', hg', _, ha, hmm, hns⟩ := stage_at (rs := rs) (p := p) (s := s) (by omega)
    have : g' = g := by
      have h2 : (stagesOf rs p)[s]? = some g := by rw [← hgs]; exact List.getElem?_eq_getElem _
      rw [hg'] at h2; injection h2
    subst this
    simp only [Stage.dsts, List.mem_append, nsD, List.mem_flatMap] at htg
    have opt : ∀ o : Option ROp, t ∈ optD o → ∃ x, o = some x ∧ x.dst = some t := fun o ho => by
      cases o with
      | none => simp [optD] at ho
      | some x => exact ⟨x, rfl, dst_mem.1 ho⟩
    rcases htg with ⟨q, hq, hd⟩ | hd | hd
    · obtain ⟨i, hi, e⟩ := hns q hq
      exact ht i hi (by rw [← e]; exact dst_mem.1 hd)
    · obtain ⟨x, hx, hd⟩ := opt _ hd
      rw [ha] at hx
      obtain ⟨i, hi, e⟩ := findSome_mem hx
      exact ht i hi (by rw [← e]; exact hd)
    · obtain ⟨x, hx, hd⟩ := opt _ hd
      rw [hmm, mAt] at hx
      split at hx
      · rename_i i hmi
        obtain ⟨hi, e⟩ := List.getElem?_eq_some_iff.1 hx
        have : x = rs.getD i dflt := by rw [List.getD_eq_getElem?_getD, hx]; rfl
        exact ht i hi (by rw [← this]; exact hd)
      · cases hx

section
variable {P : Program} {base : Bs} {w0 : World} {O : Orc} {ops : Array Oper} {rs : List ROp} {nt : Nat} {p : Plan} {ef e : Env} {S Sf : Mem} {n : Nat} {rd : Option Nat} {Q : Exit → Act → World → Prop}

theorem draw_grow (hO : OK P base.Λ O) (hmix : P.follows .mixedOrders = true) {id : Nat} {K : Ctx} {w : World} {a : Act} (hm : ops.toList.mapM (compOper P ops) = some rs) (hp : planOk ops.toList rs nt p = true) (h : Sim base w0 K S w) (hr : ER K S nt e a)
    {pre : List Noted} (hv : evStages O (stagesOf rs p) e S = some (ef, Sf, pre)) (hk : stOk (lateSlots rs p) (stagesOf rs p) [] = true) (hg : Grows (marks (stagesOf rs p) 0 []) pre)
    (hQ : ∀ K' a' w', ER K' Sf nt ef a' → a'.defers = a.defers → Sim base w0 K' Sf w' → Stp K S w K' Sf w' → Q .normal a' w') : (Code.region id ops true).wpIn (FW rd) n P Q a w := by
  have hP := planOk_facts hp
  obtain ⟨Sp, S2, hD⟩ := df_grow hP hv hk hg
  obtain ⟨hd1, hd2⟩ := h.drew
  refine wpIn_region_any hmix ?_
  have hl : rs.length = ops.size := by simpa using (mapM_ok hm).1
  have hrep : ∀ j, (Array.replicate ops.size false).getD j false = false := fun j => by
    simp only [Array.getD_eq_getD_getElem?, Array.getElem?_replicate]; split <;> rfl
  refine any_ok (K0 := K) (wS := w.drew) (dd := a.defers) (S := S) hO rfl hm hP hD hd1.hb (fun K' a' w' q1 q2 q3 q4 => hQ K' a' w' q1 q2 q3 (hd2.trans q4)) ops.size 0 _ a w.drew K (fun _ => 0) ?_ (by omega)
  refine ⟨Nat.zero_le _, by simp [hl], fun j _ => ?_, fun i j _ hi => ?_, by rw [hD.zero]; exact hd1, by rw [hD.zero]; exact .refl _ _ _, hr.size, rfl, fun t _ => by rw [hD.zero]; exact hr.slot t, fun i _ hi => ?_, fun i _ hi => ?_, fun i i' c c' _ _ hi => ?_⟩
  · rw [hrep]; simp
  · rw [hrep] at hi; cases hi
  · rw [hrep] at hi; cases hi
  · rw [hrep] at hi; cases hi
  · rw [hrep] at hi; cases hi
end
end Go.Proofs.YtljaigbjiheohaaDoor
