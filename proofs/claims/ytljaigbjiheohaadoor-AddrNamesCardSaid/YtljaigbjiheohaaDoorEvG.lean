/- Proved here: of the regions whose order of evaluation is drawn: what the evaluator's run in one order says of its stages. No condition. -/
import Derived.Test.YtljaigbjiheohaaDoorEvF
import Derived.OrdersIn
namespace Go.Proofs.YtljaigbjiheohaaDoor
set_option linter.unusedSimpArgs false
set_option linter.unusedVariables false
open Go.RowKit

mutual
theorem eqv_ok : ∀ (x y : AV), avEqv x y = true → x = y
  | x, y, h => by
    unfold avEqv at h
    split at h
    · rfl
    · rfl
    · simp at h; subst h; rfl
    · simp at h; obtain ⟨h1, h2⟩ := h; subst h1; subst h2; rfl
    · simp at h; subst h; rfl
    · rfl
    · simp at h; obtain ⟨⟨h1, h2⟩, h3⟩ := h; subst h1; subst h2; subst h3; rfl
    · rfl
    · rfl
    · simp at h; obtain ⟨⟨⟨⟨⟨h1, h2⟩, h3⟩, h4⟩, h5⟩, h6⟩ := h; subst h1; subst h2; subst h3; subst h4; subst h5; subst h6; rfl
    · rfl
    · simp at h; subst h; rfl
    · rfl
    · rfl
    · simp at h; subst h; rfl
    · rename_i a b c a' b' c'
      simp only [Bool.and_eq_true, beq_iff_eq] at h
      obtain ⟨⟨h1, h2⟩, h3⟩ := h
      rw [h1, eqvL_ok b b' h2, eqvL_ok c c' h3]
    · rename_i t a t' a'
      simp only [Bool.and_eq_true, beq_iff_eq] at h
      rw [h.1, eqv_ok a a' h.2]
    · rename_i a a'
      rw [eqvL_ok a a' h]
    · rename_i a a'
      rw [eqvL_ok a a' h]
    · cases h
termination_by x => SizeOf.sizeOf x
theorem eqvL_ok : ∀ (x y : List AV), avEqvL x y = true → x = y
  | [], [], _ => rfl
  | x :: xs, y :: ys, h => by
    simp only [avEqvL, Bool.and_eq_true] at h
    rw [eqv_ok x y h.1, eqvL_ok xs ys h.2]
  | [], _ :: _, h => by simp [avEqvL] at h
  | _ :: _, [], h => by simp [avEqvL] at h
termination_by x => SizeOf.sizeOf x
end

/-! ### Slots that an operation does not look at -/
theorem X.ev_congr {x : X} {e e' : Env} (h : ∀ t ∈ x.use, e.get t = e'.get t) : x.ev e = x.ev e' := by
  cases x with
  | t n => exact h n (by simp [X.use])
  | c v => rfl

theorem map_congr' {xs : List X} {e e' : Env} (h : ∀ t ∈ xs.flatMap X.use, e.get t = e'.get t) : xs.map (·.ev e) = xs.map (·.ev e') :=
  List.map_congr_left fun x hx => X.ev_congr fun t ht => h t (List.mem_flatMap.2 ⟨x, hx, ht⟩)

theorem opt_congr {x : Option X} {e e' : Env} (h : ∀ t ∈ optUse x, e.get t = e'.get t) : x.map (·.ev e) = x.map (·.ev e') := by
  cases x with
  | none => rfl
  | some x => simp only [Option.map_some]; rw [X.ev_congr h]

theorem parts_congr {ps : List (Nat × Nat × X)} {e e' : Env} (h : ∀ t ∈ ps.flatMap (fun p => p.2.2.use), e.get t = e'.get t) : evParts e ps = evParts e' ps :=
  List.map_congr_left fun p hp => by rw [X.ev_congr fun t ht => h t (List.mem_flatMap.2 ⟨p, hp, ht⟩)]

theorem evIO_congr {io : IO'} {e e' : Env} (S : Mem) (h : ∀ t ∈ io.use, e.get t = e'.get t) : evIO e S io = evIO e' S io := by
  have two : ∀ {a b : List Nat}, (∀ t ∈ a ++ b, e.get t = e'.get t) → (∀ t ∈ a, e.get t = e'.get t) ∧ ∀ t ∈ b, e.get t = e'.get t :=
    fun h => ⟨fun t ht => h t (List.mem_append_left _ ht), fun t ht => h t (List.mem_append_right _ ht)⟩
  cases io <;> simp only [IO'.use] at h <;> simp only [evIO]
  case mv x => rw [X.ev_congr h]
  case box x => rw [X.ev_congr h]
  case load n x => rw [X.ev_congr h]
  case nilck x => rw [X.ev_congr h]
  case un op x => rw [X.ev_congr h]
  case toInt k x => rw [X.ev_congr h]
  case faddr o x => rw [X.ev_congr h]
  case fld o n x => rw [X.ev_congr h]
  case ext x k => rw [X.ev_congr h]
  case len k x => rw [X.ev_congr h]
  case same x => rw [X.ev_congr h]
  case toStr x => rw [X.ev_congr h]
  case toBytes x => rw [X.ev_congr h]
  case clear z x => rw [X.ev_congr h]
  case cap x => rw [X.ev_congr h]
  case mkno x => rw [X.ev_congr h]
  case pick c a b =>
    obtain ⟨h1, h3⟩ := two h
    obtain ⟨h1, h2⟩ := two h1
    rw [X.ev_congr h1, X.ev_congr h2, X.ev_congr h3]
  case build z ps => rw [parts_congr h]
  case bslice z l ps => rw [parts_congr h]
  case store n x y => rw [X.ev_congr (two h).1, X.ev_congr (two h).2]
  case bin tk c op x y => rw [X.ev_congr (two h).1, X.ev_congr (two h).2]
  case iaddr a s x y => rw [X.ev_congr (two h).1, X.ev_congr (two h).2]
  case ixa a s m x y => rw [X.ev_congr (two h).1, X.ev_congr (two h).2]
  case ixs x y => rw [X.ev_congr (two h).1, X.ev_congr (two h).2]
  case ixbyte x y => rw [X.ev_congr (two h).1, X.ev_congr (two h).2]
  case ovl x y => rw [X.ev_congr (two h).1, X.ev_congr (two h).2]
  case mks z b x y => rw [X.ev_congr (two h).1, X.ev_congr (two h).2]
  case copy s x y => rw [X.ev_congr (two h).1, X.ev_congr (two h).2]
  case app s b x y => rw [X.ev_congr (two h).1, X.ev_congr (two h).2]
  case eqag n ks x y => rw [X.ev_congr (two h).1, X.ev_congr (two h).2]
  case appz z b x y => rw [X.ev_congr (two h).1, X.ev_congr (two h).2]
  case slice s x a b c =>
    obtain ⟨h1, h4⟩ := two h
    obtain ⟨h1, h3⟩ := two h1
    obtain ⟨h1, h2⟩ := two h1
    rw [X.ev_congr h1, opt_congr h2, opt_congr h3, opt_congr h4]
  case sla n s x a b c =>
    obtain ⟨h1, h4⟩ := two h
    obtain ⟨h1, h3⟩ := two h1
    obtain ⟨h1, h2⟩ := two h1
    rw [X.ev_congr h1, opt_congr h2, opt_congr h3, opt_congr h4]
  case sls x a b =>
    obtain ⟨h1, h3⟩ := two h
    obtain ⟨h1, h2⟩ := two h1
    rw [X.ev_congr h1, opt_congr h2, opt_congr h3]
  case mkf f a b => rw [map_congr' (two h).1, map_congr' (two h).2]
  case mm b xs => rw [map_congr' h]
  case mkmap hh => rw [opt_congr h]
  case mlook ag ks z ok x k => rw [X.ev_congr (two h).1, X.ev_congr (two h).2]
  case mentry ag ks z x k => rw [X.ev_congr (two h).1, X.ev_congr (two h).2]
  case mdel ag ks x k => rw [X.ev_congr (two h).1, X.ev_congr (two h).2]
  case mstore x y z =>
    obtain ⟨h1, h3⟩ := two h
    obtain ⟨h1, h2⟩ := two h1
    rw [X.ev_congr h1, X.ev_congr h2, X.ev_congr h3]
  case mupd ag ks x y z =>
    obtain ⟨h1, h3⟩ := two h
    obtain ⟨h1, h2⟩ := two h1
    rw [X.ev_congr h1, X.ev_congr h2, X.ev_congr h3]

theorem evOne_congr {O : Orc} {o : ROp} {e e' : Env} (S : Mem) (h : ∀ t ∈ o.use, e.get t = e'.get t) : evOne O e S o = evOne O e' S o := by
  obtain ⟨dst, g, io⟩ := o
  have h1 : ∀ t ∈ io.use, e.get t = e'.get t := fun t ht => h t (List.mem_append_left _ ht)
  have hw : wantV e g = wantV e' g := by
    cases g with
    | none => rfl
    | some tb =>
      obtain ⟨t, b⟩ := tb
      have := h t (List.mem_append_right _ (by simp))
      simp only [wantV, this]
  have ho : evOp O e S io = evOp O e' S io := by
    cases io with
    | op io => exact evIO_congr S h1
    | call f xs => simp only [IOp.use] at h1; simp only [evOp]; rw [map_congr' h1]
    | callv x xs =>
      simp only [IOp.use] at h1
      simp only [evOp]
      rw [X.ev_congr fun t ht => h1 t (List.mem_append_left _ ht), map_congr' fun t ht => h1 t (List.mem_append_right _ ht)]
  simp only [evOne, hw, ho]

/-! ### Slots -/
theorem get_put_same (e : Env) (t : Nat) (x : AV) : Env.get ((t, x) :: e) t = x := by simp [Env.get]
theorem get_put_ne (e : Env) {t k : Nat} (x : AV) (h : t ≠ k) : Env.get ((t, x) :: e) k = e.get k := by
  have hb : Nat.beq t k = false := by
    cases hb : Nat.beq t k with
    | false => rfl
    | true => exact absurd (Nat.eq_of_beq_eq_true hb) h
  simp [Env.get, hb]
theorem get_putE (e : Env) (d : Option Nat) (x : AV) (k : Nat) (h : d ≠ some k) : (putE e d x).get k = e.get k := by
  cases d with
  | none => rfl
  | some t => exact get_put_ne e x fun e => h (by rw [e])

theorem get_keepE_append (e r : Env) : ∀ (l : List Nat) (t : Nat), (keepE e l ++ r).get t = if t ∈ l then e.get t else r.get t
  | [], t => by simp [keepE]
  | k :: l, t => by
    have ih := get_keepE_append e r l t
    simp only [keepE] at ih
    simp only [keepE, List.map_cons, List.cons_append]
    by_cases hk : k = t
    · subst hk
      rw [get_put_same]; simp
    · rw [get_put_ne _ _ hk, ih]
      have : (t ∈ k :: l) = (t ∈ l) := by simp [Ne.symm hk]
      simp only [this]

theorem get_keepE (e : Env) (l : List Nat) (t : Nat) : (keepE e l).get t = if t ∈ l then e.get t else .u := by
  have := get_keepE_append e [] l t
  simpa [Env.get] using this

/-! ### The stages -/
theorem chkN_ok {O : Orc} {er ef : Env} {pre : List Noted} {o : ROp} {hi : Nat} : ∀ (fuel s : Nat), chkN O er ef pre o hi fuel s = true → ∀ t, s ≤ t → t ≤ hi → t < s + fuel →
    ∃ N x S', pre[t]? = some N ∧ evOne O er N.S o = some (x, S') ∧ ∀ d, o.dst = some d → x = ef.get d
  | 0, s, _, t, h1, _, h3 => by omega
  | fuel + 1, s, h, t, h1, h2, h3 => by
    rw [chkN, if_pos (by omega)] at h
    split at h
    · rename_i N hN
      simp only [Bool.and_eq_true] at h
      by_cases e : t = s
      · subst e
        have h := h.1
        split at h
        · rename_i x S' hx
          refine ⟨N, x, S', hN, hx, fun d hd => ?_⟩
          rw [hd] at h
          exact eqv_ok _ _ h
        · cases h
      · exact chkN_ok fuel (s + 1) h.2 t (by omega) h2 (by omega)
    · cases h

theorem likeOn_ok {e e' : Env} {l : List Nat} (h : likeOn e e' l = true) : ∀ t ∈ l, e.get t = e'.get t := fun t ht => eqv_ok _ _ (List.all_eq_true.1 h t ht)

/-- What is known of an operation that is carried out, or not, in a stage. -/
def OptF (O : Orc) (er ef : Env) (S S' : Mem) : Option ROp → Prop
  | none => S' = S
  | some o => ∃ x, evOne O er S o = some (x, S') ∧ ∀ d, o.dst = some d → x = ef.get d

theorem opt_fact {O : Orc} {er ef e e' : Env} {S S' : Mem} {o : Option ROp} (h : evOpt O o e S = some (e', S')) (hc : chkOpt er ef e e' o = true) : OptF O er ef S S' o := by
  cases o with
  | none =>
    simp only [evOpt, Option.some.injEq, Prod.mk.injEq] at h
    exact h.2.symm
  | some o =>
    simp only [evOpt] at h
    simp only [chkOpt, Bool.and_eq_true] at hc
    split at h
    · cases h
    · rename_i x S1 hx
      simp only [Option.some.injEq, Prod.mk.injEq] at h
      obtain ⟨h1, h2⟩ := h
      subst h2
      rw [evOne_congr S (likeOn_ok hc.1)] at hx
      refine ⟨x, hx, fun d hd => ?_⟩
      have := likeOn_ok hc.2 d (by simp [dstL, hd])
      rw [← this, ← h1, hd]
      exact (get_put_same e d x).symm

theorem opt_env {O : Orc} {e e' : Env} {S S' : Mem} {o : Option ROp} (h : evOpt O o e S = some (e', S')) (t : Nat) (ht : ∀ x, o = some x → x.dst ≠ some t) : e'.get t = e.get t := by
  cases o with
  | none => simp only [evOpt, Option.some.injEq, Prod.mk.injEq] at h; rw [← h.1]
  | some o =>
    simp only [evOpt] at h
    split at h
    · cases h
    · simp only [Option.some.injEq, Prod.mk.injEq] at h
      rw [← h.1]
      exact get_putE _ _ _ _ (ht o rfl)

theorem ns_env {O : Orc} {S : Mem} : ∀ (l : List (ROp × Nat)) (e e' : Env), evNs O l e S = some e' → ∀ t, (∀ q ∈ l, q.1.dst ≠ some t) → e'.get t = e.get t
  | [], e, e', h, t, _ => by simp only [evNs, Option.some.injEq] at h; rw [h]
  | (o, hi) :: l, e, e', h, t, ht => by
    simp only [evNs] at h
    split at h
    · cases h
    · rw [ns_env l _ _ h t fun q hq => ht q (by simp [hq])]
      exact get_putE _ _ _ _ (ht (o, hi) (by simp))

structure StF (O : Orc) (er ef : Env) (full : List Noted) (Sf : Mem) (st : List Stage) (pre : List Noted) (s0 s : Nat) (g : Stage) : Prop where
  out : ∃ N S2 S3, pre[s]? = some N ∧ (∀ q ∈ g.ns, chkN O er ef full q.1 q.2 (q.2 + 1) (s0 + s) = true) ∧ OptF O er ef N.S S2 g.a ∧ OptF O er ef S2 S3 g.m ∧
    (s + 1 < st.length → ∃ N', pre[s + 1]? = some N' ∧ N'.S = S3) ∧ (s + 1 = st.length → S3 = Sf)

theorem stages_ok {O : Orc} {er ef : Env} {full : List Noted} {Sf : Mem} : ∀ (st : List Stage) (e : Env) (S : Mem) (pre : List Noted) (s0 : Nat), evStages O st e S = some (ef, Sf, pre) → chkStages O er ef full st pre s0 = true →
    pre.length = st.length ∧ (∀ s g, st[s]? = some g → StF O er ef full Sf st pre s0 s g) ∧ (∀ N, pre[0]? = some N → N.S = S) ∧
      ∀ t, (∀ g ∈ st, (∀ q ∈ g.ns, q.1.dst ≠ some t) ∧ (∀ x, g.a = some x → x.dst ≠ some t) ∧ ∀ x, g.m = some x → x.dst ≠ some t) → ef.get t = e.get t
  | [], e, S, pre, s0, h, _ => by
    simp only [evStages, Option.some.injEq, Prod.mk.injEq] at h
    obtain ⟨rfl, rfl, rfl⟩ := h
    exact ⟨rfl, fun s g hg => by simp at hg, fun N hN => by simp at hN, fun t _ => rfl⟩
  | g :: st, e, S, pre, s0, h, hc => by
    simp only [evStages] at h
    split at h
    · cases h
    · rename_i e1 h1
      split at h
      · cases h
      · rename_i e2 S2 h2
        split at h
        · cases h
        · rename_i e3 S3 h3
          split at h
          · cases h
          · rename_i ef' Sf' pre' h4
            simp only [Option.some.injEq, Prod.mk.injEq] at h
            obtain ⟨rfl, rfl, rfl⟩ := h
            simp only [chkStages, Bool.and_eq_true, List.all_eq_true] at hc
            obtain ⟨⟨⟨c1, c2⟩, c3⟩, c4⟩ := hc
            obtain ⟨q1, q2, q3, q4⟩ := stages_ok st e3 S3 pre' (s0 + 1) h4 c4
            refine ⟨by simp [q1], fun s g' hg' => ?_, fun N hN => ?_, fun t ht => ?_⟩
            · cases s with
              | zero =>
                simp only [List.getElem?_cons_zero, Option.some.injEq] at hg'
                subst hg'
                refine ⟨⟨S, e1, e2, e3⟩, S2, S3, by simp, fun q hq => c1 q hq, opt_fact h2 c2, opt_fact h3 c3, fun hl => ?_, fun hl => ?_⟩
                · have hlt : 0 < pre'.length := by rw [q1]; simp only [List.length_cons] at hl; omega
                  exact ⟨pre'[0], by simp [hlt], q3 _ (by simp [hlt])⟩
                · have : st = [] := by
                    apply List.length_eq_zero_iff.1
                    simp only [List.length_cons] at hl; omega
                  subst this
                  simp only [evStages, Option.some.injEq, Prod.mk.injEq] at h4
                  exact h4.2.1
              | succ s =>
                simp only [List.getElem?_cons_succ] at hg'
                obtain ⟨N, S2', S3', r1, r2, r3, r4, r5, r6⟩ := (q2 s g' hg').out
                refine ⟨N, S2', S3', by simpa using r1, fun q hq => ?_, r3, r4, fun hl => by simpa using r5 (by simp only [List.length_cons] at hl; omega), fun hl => r6 (by simp only [List.length_cons] at hl; omega)⟩
                have := r2 q hq
                rwa [show s0 + 1 + s = s0 + (s + 1) by omega] at this
            · simp only [List.getElem?_cons_zero, Option.some.injEq] at hN
              subst hN; rfl
            · rw [q4 t fun g' hg' => ht g' (by simp [hg'])]
              obtain ⟨t1, t2, t3⟩ := ht g (by simp)
              rw [opt_env h3 t t3, opt_env h2 t t2, ns_env _ _ _ h1 t t1]

/-! ### What turns no memory -/
theorem still_ok {e : Env} {S S' : Mem} {io : IO'} {x : AV} (hs : io.still = true) (h : evIO e S io = some (x, S')) : S' = S := by
  cases io <;> simp only [IO'.still] at hs <;> (first | cases hs | skip) <;> simp only [evIO] at h <;>
    first
      | (simp only [Option.some.injEq, Prod.mk.injEq] at h; exact h.2.symm)
      | ((repeat' split at h) <;> first | (simp only [Option.some.injEq, Prod.mk.injEq] at h; exact h.2.symm) | cases h)

theorem still_one {O : Orc} {e : Env} {S S' : Mem} {o : ROp} {x : AV} (hs : o.io.still = true) (h : evOne O e S o = some (x, S')) : S' = S := by
  unfold evOne at h
  split at h
  · cases h
  · simp only [Option.some.injEq, Prod.mk.injEq] at h; exact h.2.symm
  · cases hio : o.io with
    | op io => rw [hio] at hs h; exact still_ok hs h
    | call f xs => rw [hio] at hs; simp [IOp.still] at hs
    | callv x xs => rw [hio] at hs; simp [IOp.still] at hs
end Go.Proofs.YtljaigbjiheohaaDoor
