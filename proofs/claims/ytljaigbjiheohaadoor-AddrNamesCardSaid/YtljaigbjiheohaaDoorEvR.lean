/- Proved here: code, walked by computing: a proposition that unfolds step by step into what is left to be shown. No condition. -/
import Derived.Test.YtljaigbjiheohaaDoorEvQ
namespace Go.Proofs.YtljaigbjiheohaaDoor
set_option linter.unusedSimpArgs false
set_option linter.unusedVariables false
open Go.RowKit

/-! ### The walk, by recursion over the code -/
def optK (o : Option (AV × Mem)) (k : AV → Mem → Prop) : Prop := match o with
  | some p => k p.1 p.2
  | none => False
/-- A value, at a memory that stays. -/
def optV (o : Option AV) (S : Mem) (k : AV → Mem → Prop) : Prop := match o with
  | some x => k x S
  | none => False
/-- A memory, without a value. -/
def optM (o : Option Mem) (x : AV) (k : AV → Mem → Prop) : Prop := match o with
  | some S => k x S
  | none => False

def wGd (x : AV) (e : Env) (t : Nat) (b : Bool) (A B : Env → Prop) : Prop := match x with
  | .b y => (y = b → A ((t, .b b) :: e)) ∧ (y = !b → B ((t, .b !b) :: e))
  | .u => False
  | _ => B e

def opA (O : Orc) (io : IOp) (S : Mem) (k : Env → AV → Mem → Prop) : Env → Prop := fun e => optK (evOp O e S io) (k e)

def wOps (O : Orc) : List ROp → Env → Mem → (Env → Mem → Prop) → Prop
  | [], e, S, k => k e S
  | ⟨dst, none, io⟩ :: r, e, S, k => optK (evOp O e S io) fun x S' => wOps O r (putE e dst x) S' k
  | ⟨dst, some (t, b), io⟩ :: r, e, S, k => wGd (e.get t) e t b (fun e => optK (evOp O e S io) fun x S' => wOps O r (putE e dst x) S' k) (fun e => wOps O r (putE e dst .ud) S k)

/-- In a region whose order is drawn; 'true': memory may grow. -/
def wFl (O : Orc) : List (ROp × Bool) → Env → Mem → (Env → Mem → Prop) → Prop
  | [], e, S, k => k e S
  | (⟨dst, none, io⟩, m) :: r, e, S, k => optK (evOp O e S io) fun x S' => (m = true → S <+: S') ∧ wFl O r (putE e dst x) S' k
  | (⟨dst, some (t, b), io⟩, m) :: r, e, S, k => wGd (e.get t) e t b (fun e => optK (evOp O e S io) fun x S' => (m = true → S <+: S') ∧ wFl O r (putE e dst x) S' k) (fun e => wFl O r (putE e dst .ud) S k)

def flatG (g : Stage) (m : Bool) : List (ROp × Bool) := g.ns.map (fun q => (q.1, false)) ++ ((g.a.toList.map fun o => (o, true)) ++ g.m.toList.map fun o => (o, m))
def flatS : List Stage → List Bool → List (ROp × Bool)
  | g :: st, m :: ms => flatG g m ++ flatS st ms
  | _, _ => []
def flatSt (st : List Stage) : List (ROp × Bool) := flatS st (marks st 0 [])

def wCond (x : AV) (A B : Prop) : Prop := match x with
  | .b y => (y = true → A) ∧ (y = false → B)
  | _ => False

def normK (Q : Kont) (d : List Nat) : Env → Mem → Prop := fun e S => Q .normal e S d

/-- A run of a drawn region, with its own second look. -/
def drawK (o : Option (Env × Mem)) (k : Env → Mem → Prop) : Prop := match o with
  | some p => k p.1 p.2
  | none => False
/-- It may lay blocks, but turns none of those that are there. -/
def IOp.grows : IOp → Bool
  | .op (.app ..) | .op (.appz ..) | .op (.store ..) | .op (.copy ..) | .op (.clear ..) | .op (.mentry ..) | .op (.mstore ..) | .op (.mupd ..) | .op (.mdel ..) => false
  | _ => true
def growsSt (late : List Nat) (st : List Stage) : Bool := stOk late st [] && (flatSt st).all fun p => !p.2 || p.1.io.grows

def W (P : Program) (O : Orc) (S0 : Mem) (rd : Bool) : ICode → Env → Mem → List Nat → Kont → Prop
  | .bad, _, _, _, _ => False
  | .skip, e, S, d, Q => Q .normal e S d
  | .region ops, e, S, d, Q => wOps O ops e S (normK Q d)
  | .draw st late, e, S, d, Q => if growsSt late st = true then stOk late st [] = true ∧ wFl O (flatSt st) e S (normK Q d) else drawK (evDraw O st late e S) (normK Q d)
  | .seq a b, e, S, d, Q => W P O S0 rd a e S d (seqK (W P O S0 rd b) Q)
  | .cond c a b, e, S, d, Q => wCond (c.ev e) (W P O S0 rd a e S d Q) (W P O S0 rd b e S d Q)
  | .block id c, e, S, d, Q => W P O S0 rd c e S d (blockK id Q)
  | .loop l c, e, S, d, Q => WP P S0 rd (.loop l c) e S d Q
  | .exit id, e, S, d, Q => Q (.exit id) e S d
  | .ret, e, S, d, Q => Q .ret e S d
  | .goto l, e, S, d, Q => Q (.goto l) e S d
  | .scope l c lab k, e, S, d, Q => WP P S0 rd (.scope l c lab k) e S d Q
  | .rf x f p l, e, S, d, Q => WP P S0 rd (.rf x f p l) e S d Q
  | .live l c, e, S, d, Q => W P O S0 rd c (keepE e l) S d Q

/-! ### It is sound -/
section
variable {P : Program} {O : Orc} {S0 : Mem} {rd : Bool}

def Alike (e e' : Env) : Prop := ∀ t, e.get t = e'.get t

theorem alike_cons {e e' : Env} {t : Nat} {x : AV} (h : Alike e e') (hx : e.get t = x) : Alike e ((t, x) :: e') := fun k => by
  by_cases hk : t = k
  · subst hk; rw [get_put_same]; exact hx
  · rw [get_put_ne _ _ hk]; exact h k

theorem alike_put {e e' : Env} {d : Option Nat} {x : AV} (h : Alike e e') : Alike (putE e d x) (putE e' d x) := fun k => by
  cases d with
  | none => exact h k
  | some t =>
    show Env.get ((t, x) :: e) k = Env.get ((t, x) :: e') k
    by_cases hk : t = k
    · subst hk; rw [get_put_same, get_put_same]
    · rw [get_put_ne _ _ hk, get_put_ne _ _ hk]; exact h k

theorem evOp_alike {e e' : Env} (h : Alike e e') (S : Mem) (io : IOp) : evOp O e S io = evOp O e' S io := by
  have := evOne_congr (O := O) (o := ⟨none, none, io⟩) S (fun t _ => h t)
  simpa [evOne, wantV] using this

theorem wGd_sound {e e' : Env} (h : Alike e' e) {t : Nat} {b : Bool} {A B : Env → Prop} (hw : wGd (e.get t) e t b A B) :
    (wantV e' (some (t, b)) = some true ∧ ∃ e1, Alike e' e1 ∧ A e1) ∨ (wantV e' (some (t, b)) = some false ∧ ∃ e1, Alike e' e1 ∧ B e1) := by
  have hg := h t
  unfold wGd at hw
  split at hw
  · rename_i y hy
    by_cases e1 : y = b
    · subst e1
      exact .inl ⟨by simp [wantV, hg, hy], _, alike_cons h (hg.trans hy), hw.1 rfl⟩
    · have e2 : y = !b := by cases y <;> cases b <;> simp_all
      subst e2
      exact .inr ⟨by simp [wantV, hg, hy], _, alike_cons h (hg.trans hy), hw.2 rfl⟩
  · exact hw.elim
  · rename_i hb hu
    refine .inr ⟨?_, e, h, hw⟩
    simp only [wantV, hg]

theorem wOps_sound : ∀ (ops : List ROp) (e e' : Env) (S : Mem) (k : Env → Mem → Prop), wOps O ops e S k → Alike e' e → ∃ e1 S1 e2, evOps O ops e' S = some (e1, S1) ∧ Alike e1 e2 ∧ k e2 S1
  | [], e, e', S, k, h, ha => ⟨e', S, e, rfl, ha, h⟩
  | ⟨dst, none, io⟩ :: r, e, e', S, k, h, ha => by
    simp only [wOps] at h
    simp only [evOps, evOne, wantV]
    rw [evOp_alike ha]
    unfold optK at h
    split at h
    · rename_i p hp
      rw [hp]
      exact wOps_sound r _ _ _ _ h (alike_put ha)
    · exact h.elim
  | ⟨dst, some (t, b), io⟩ :: r, e, e', S, k, h, ha => by
    simp only [wOps] at h
    simp only [evOps, evOne]
    rcases wGd_sound ha h with ⟨hw, e1, h1, h2⟩ | ⟨hw, e1, h1, h2⟩
    · rw [hw]
      dsimp only
      rw [evOp_alike h1]
      unfold optK at h2
      split at h2
      · rename_i p hp
        rw [hp]
        exact wOps_sound r _ _ _ _ h2 (alike_put h1)
      · exact h2.elim
    · rw [hw]
      exact wOps_sound r _ _ _ _ h2 (alike_put h1)

theorem wFl_append : ∀ (l1 l2 : List (ROp × Bool)) (e : Env) (S : Mem) (k : Env → Mem → Prop), wFl O (l1 ++ l2) e S k = wFl O l1 e S (fun e S => wFl O l2 e S k)
  | [], l2, e, S, k => rfl
  | (⟨dst, none, io⟩, m) :: r, l2, e, S, k => by
    simp only [List.cons_append, wFl]
    congr 1
    funext x S'
    rw [wFl_append r l2]
  | (⟨dst, some (t, b), io⟩, m) :: r, l2, e, S, k => by
    simp only [List.cons_append, wFl]
    congr 1
    · funext e
      congr 1
      funext x S'
      rw [wFl_append r l2]
    · funext e
      rw [wFl_append r l2]

theorem wNs_sound : ∀ (l : List (ROp × Nat)) (e e' : Env) (S : Mem) (k : Env → Mem → Prop), (∀ q ∈ l, q.1.io.still = true) → wFl O (l.map fun q => (q.1, false)) e S k → Alike e' e → ∃ e1 e2, evNs O l e' S = some e1 ∧ Alike e1 e2 ∧ k e2 S
  | [], e, e', S, k, _, h, ha => ⟨e', e, rfl, ha, h⟩
  | (⟨dst, none, io⟩, hi) :: r, e, e', S, k, hs, h, ha => by
    simp only [List.map_cons, wFl] at h
    unfold optK at h
    split at h
    · rename_i p hp
      have hp' : evOne O e' S ⟨dst, none, io⟩ = some p := by simp only [evOne, wantV]; rw [evOp_alike ha]; exact hp
      have hS : p.2 = S := still_one (x := p.1) (hs (_, hi) (List.mem_cons_self)) hp'
      simp only [evNs, hp']
      have h2 := h.2
      rw [hS] at h2
      exact wNs_sound r _ _ _ _ (fun q hq => hs q (by simp [hq])) h2 (alike_put ha)
    · exact h.elim
  | (⟨dst, some (t, b), io⟩, hi) :: r, e, e', S, k, hs, h, ha => by
    simp only [List.map_cons, wFl] at h
    rcases wGd_sound ha h with ⟨hw, e1, h1, h2⟩ | ⟨hw, e1, h1, h2⟩
    · unfold optK at h2
      split at h2
      · rename_i p hp
        have hp' : evOne O e' S ⟨dst, some (t, b), io⟩ = some p := by simp only [evOne, hw]; rw [evOp_alike h1]; exact hp
        have hS : p.2 = S := still_one (x := p.1) (hs (_, hi) (List.mem_cons_self)) hp'
        simp only [evNs, hp']
        have h3 := h2.2
        rw [hS] at h3
        exact wNs_sound r _ _ _ _ (fun q hq => hs q (by simp [hq])) h3 (alike_put h1)
      · exact h2.elim
    · have hp' : evOne O e' S ⟨dst, some (t, b), io⟩ = some (.ud, S) := by simp only [evOne, hw]
      simp only [evNs, hp']
      exact wNs_sound r _ _ _ _ (fun q hq => hs q (by simp [hq])) h2 (alike_put h1)

theorem wOpt_sound {o : Option ROp} {e e' : Env} {S : Mem} {k : Env → Mem → Prop} {m : Bool} (h : wFl O (o.toList.map fun o => (o, m)) e S k) (ha : Alike e' e) : ∃ e1 S1 e2, evOpt O o e' S = some (e1, S1) ∧ Alike e1 e2 ∧ (m = true → ∃ T, S1 = S ++ T) ∧ k e2 S1 := by
  cases o with
  | none => exact ⟨e', S, e, rfl, ha, fun _ => ⟨[], by simp⟩, h⟩
  | some o =>
    obtain ⟨dst, g, io⟩ := o
    cases g with
    | none =>
      simp only [Option.toList, List.map_cons, List.map_nil, wFl] at h
      unfold optK at h
      split at h
      · rename_i p hp
        have hp' : evOne O e' S ⟨dst, none, io⟩ = some p := by simp only [evOne, wantV]; rw [evOp_alike ha]; exact hp
        exact ⟨_, _, _, by simp only [evOpt, hp'], alike_put ha, fun hm => let ⟨T, hT⟩ := h.1 hm; ⟨T, hT.symm⟩, h.2⟩
      · exact h.elim
    | some tb =>
      obtain ⟨t, b⟩ := tb
      simp only [Option.toList, List.map_cons, List.map_nil, wFl] at h
      rcases wGd_sound ha h with ⟨hw, e1, h1, h2⟩ | ⟨hw, e1, h1, h2⟩
      · unfold optK at h2
        split at h2
        · rename_i p hp
          have hp' : evOne O e' S ⟨dst, some (t, b), io⟩ = some p := by simp only [evOne, hw]; rw [evOp_alike h1]; exact hp
          exact ⟨_, _, _, by simp only [evOpt, hp'], alike_put h1, fun hm => let ⟨T, hT⟩ := h2.1 hm; ⟨T, hT.symm⟩, h2.2⟩
        · exact h2.elim
      · have hp' : evOne O e' S ⟨dst, some (t, b), io⟩ = some (.ud, S) := by simp only [evOne, hw]
        exact ⟨_, _, _, by simp only [evOpt, hp'], alike_put h1, fun _ => ⟨[], by simp⟩, h2⟩

theorem wSt_sound : ∀ (st : List Stage) (ms : List Bool) (e e' : Env) (S : Mem) (k : Env → Mem → Prop), ms.length = st.length → (∀ g ∈ st, ∀ q ∈ g.ns, q.1.io.still = true) → wFl O (flatS st ms) e S k → Alike e' e →
    ∃ e1 S1 pre e2, evStages O st e' S = some (e1, S1, pre) ∧ Grows ms pre ∧ (∀ N, pre[0]? = some N → N.S = S) ∧ Alike e1 e2 ∧ k e2 S1
  | [], ms, e, e', S, k, hl, _, h, ha => by
    cases ms with
    | nil => exact ⟨e', S, [], e, rfl, trivial, fun N hN => by simp at hN, ha, h⟩
    | cons _ _ => simp at hl
  | g :: st, [], e, e', S, k, hl, _, _, _ => by simp at hl
  | g :: st, m :: ms, e, e', S, k, hl, hs, h, ha => by
    simp only [flatS, flatG] at h
    rw [wFl_append, wFl_append] at h
    simp only [wFl_append] at h
    obtain ⟨e1, e1', q1, a1, h⟩ := wNs_sound g.ns _ _ _ _ (hs g (by simp)) h ha
    obtain ⟨e2, S2, e2', q2, a2, hT, h⟩ := wOpt_sound h a1
    obtain ⟨e3, S3, e3', q3, a3, hU, h⟩ := wOpt_sound h a2
    obtain ⟨e4, S4, pre, e4', q4, g4, z4, a4, h⟩ := wSt_sound st ms _ _ _ _ (by simpa using hl) (fun g' hg' => hs g' (by simp [hg'])) h a3
    refine ⟨e4, S4, ⟨S, e1, e2, e3⟩ :: pre, e4', by simp only [evStages, q1, q2, q3, q4], ?_, fun N hN => ?_, a4, h⟩
    · cases pre with
      | nil => trivial
      | cons N pre =>
        refine ⟨fun hm => ?_, g4⟩
        obtain ⟨T, hT⟩ := hT rfl
        obtain ⟨U, hU⟩ := hU hm
        exact ⟨T ++ U, by rw [z4 N (by simp), hU, hT, List.append_assoc]⟩
    · simp only [List.getElem?_cons_zero, Option.some.injEq] at hN
      subst hN; rfl

theorem still_of_plan {rs : List ROp} {p : Plan} {ops : List Oper} {nt : Nat} (hp : PF ops rs nt p) : ∀ g ∈ stagesOf rs p, ∀ q ∈ g.ns, q.1.io.still = true := by
  intro g hg q hq
  simp only [stagesOf, List.mem_map, List.mem_range] at hg
  obtain ⟨s, _, rfl⟩ := hg
  simp only [nsAt, List.mem_filterMap, List.mem_range] at hq
  obtain ⟨i, hi, hq⟩ := hq
  split at hq
  · rename_i lo hi' r hc hr
    split at hq
    · injection hq with hq
      subst hq
      have := (hp.n i hi lo hi' hc).2.2.2.2
      rw [List.getD_eq_getElem?_getD, hr] at this
      exact this
    · cases hq
  · cases hq

/-- Alike slots stand for the same. -/
theorem WP.alike {ic : ICode} {e : Env} {S : Mem} {d : List Nat} {Q : Kont} (h : WP P S0 rd ic e S d (fun x e S d => ∃ e', Alike e e' ∧ Q x e' S d)) : WP P S0 rd ic e S d Q := by
  intro nt c base w0 r m K0 wE K a w h1 h2 h3 h4 h5 h6 h7 h8
  refine Code.wpIn_mono (fun ex a1 w1 hq => ?_) (h nt c base w0 r m K0 wE K a w h1 h2 h3 h4 h5 h6 h7 h8)
  obtain ⟨x, e', S', d', K', rfl, ⟨e2, ha, hq⟩, q1, q2, q3, q4⟩ := hq
  exact ⟨x, e2, S', d', K', rfl, hq, ⟨q1.size, fun t => by rw [← ha t]; exact q1.slot t⟩, q2, q3, q4⟩

theorem W_sound (hO : OK P (lamOf P) O) (hmix : P.follows .mixedOrders = true) : ∀ (ic : ICode) (e : Env) (S : Mem) (d : List Nat) (Q : Kont), W P O S0 rd ic e S d Q → WP P S0 rd ic e S d Q := by
  intro ic
  induction ic with
  | bad => intro e S d Q h; exact h.elim
  | skip => intro e S d Q h; exact wp_skip h
  | region ops =>
    intro e S d Q h
    obtain ⟨e1, S1, e2, h1, h2, h3⟩ := wOps_sound ops e e S _ h fun _ => rfl
    exact WP.alike (wp_region hO h1 ⟨e2, h2, h3⟩)
  | draw st late =>
    intro e S d Q h
    simp only [W] at h
    split at h
    rotate_left
    · unfold drawK at h
      split at h
      · rename_i p hp; exact wp_draw hO hmix hp h
      · exact h.elim
    obtain ⟨hk, h⟩ := h
    refine WP.alike ?_
    intro nt c base w0 r n K0 wE K a w h1 h2 h3 h4 h5 h6 h7 h8
    cases h3 with
    | draw id ops l p hm hp =>
      obtain ⟨e1, S1, pre, e2, q1, q2, _, q3, q4⟩ := wSt_sound _ _ e e S _ (marks_length _ _ _) (still_of_plan (planOk_facts hp)) h fun _ => rfl
      rw [← h1] at hO
      exact draw_grow hO hmix hm hp h5 h6 q1 hk q2 fun K' a' w' z1 z2 z3 z4 => ⟨.normal, e1, S1, d, K', rfl, ⟨e2, q3, q4⟩, z1, by rw [z2]; exact h7.mono z4.ext, z3, h8.trans z4⟩
  | seq a b iha ihb =>
    intro e S d Q h
    refine wp_seq ((iha e S d _ h).mono fun x e S d hq => ?_)
    cases x with
    | normal => exact ihb _ _ _ _ hq
    | ret => exact hq
    | exit id => exact hq
    | goto l => exact hq
  | cond c a b iha ihb =>
    intro e S d Q h
    simp only [W] at h
    unfold wCond at h
    split at h
    · rename_i y hy
      cases y with
      | true => exact wp_cond_true hy (iha _ _ _ _ (h.1 rfl))
      | false => exact wp_cond_false hy (ihb _ _ _ _ (h.2 rfl))
    · exact h.elim
  | block id c ih => intro e S d Q h; exact wp_block (ih _ _ _ _ h)
  | loop l c _ => intro e S d Q h; exact h
  | exit id => intro e S d Q h; exact wp_exit h
  | ret => intro e S d Q h; exact wp_ret h
  | goto l => intro e S d Q h; exact wp_goto h
  | scope l c lab k _ _ => intro e S d Q h; exact h
  | rf x f p l => intro e S d Q h; exact h
  | live l c ih => intro e S d Q h; exact wp_live (ih _ _ _ _ h)
end
end Go.Proofs.YtljaigbjiheohaaDoor
