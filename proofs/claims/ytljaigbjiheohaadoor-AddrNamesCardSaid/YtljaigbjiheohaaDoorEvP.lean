/- Proved here: a logic of code over the abstract memory: what holds behind code, whatever it does in between; blocks that nothing leads to may be left out. No condition. -/
import Derived.Test.YtljaigbjiheohaaDoorEvO
namespace Go.Proofs.YtljaigbjiheohaaDoor
set_option linter.unusedSimpArgs false
set_option linter.unusedVariables false
open Go.RowKit

abbrev Kont := IX → Env → Mem → List Nat → Prop

/-- Where code leads: 'S0' is the memory in which the function was entered. -/
def QP (base : Bs) (w0 : World) (nt : Nat) (K0 : Ctx) (S0 : Mem) (wE : World) (Q : Kont) : Exit → Act → World → Prop := fun ex a' w' =>
  ∃ x e' S' d' K', ex = x.out ∧ Q x e' S' d' ∧ ER K' S' nt e' a' ∧ DR K' S' d' a'.defers ∧ Sim base w0 K' S' w' ∧ Stp K0 S0 wE K' S' w'

def WP (P : Program) (S0 : Mem) (rd : Bool) (ic : ICode) (e : Env) (S : Mem) (d : List Nat) (Q : Kont) : Prop :=
  ∀ (nt : Nat) (c : Code) (base : Bs) (w0 : World) (r : Option Nat) (m : Nat) (K0 : Ctx) (wE : World) (K : Ctx) (a : Act) (w : World),
    base.Λ = lamOf P → r.isSome = rd → CodeR P (lamOf P) nt c ic → Sim base w0 K0 S0 wE → Sim base w0 K S w → ER K S nt e a → DR K S d a.defers → Stp K0 S0 wE K S w →
    c.wpIn (FW r) m P (QP base w0 nt K0 S0 wE Q) a w

section
variable {P : Program} {S0 : Mem} {rd : Bool} {e : Env} {S : Mem} {d : List Nat} {Q Q' : Kont}

theorem QP.mono {base : Bs} {w0 : World} {nt : Nat} {K0 : Ctx} {wE : World} (hQ : ∀ x e S d, Q x e S d → Q' x e S d) {ex : Exit} {a : Act} {w : World} (h : QP base w0 nt K0 S0 wE Q ex a w) : QP base w0 nt K0 S0 wE Q' ex a w :=
  let ⟨x, e', S', d', K', h1, h2, h3⟩ := h
  ⟨x, e', S', d', K', h1, hQ _ _ _ _ h2, h3⟩

theorem WP.mono {ic : ICode} (h : WP P S0 rd ic e S d Q) (hQ : ∀ x e S d, Q x e S d → Q' x e S d) : WP P S0 rd ic e S d Q' :=
  fun nt c base w0 r m K0 wE K a w h1 h2 h3 h4 h5 h6 h7 h8 => Code.wpIn_mono (fun _ _ _ => QP.mono hQ) (h nt c base w0 r m K0 wE K a w h1 h2 h3 h4 h5 h6 h7 h8)

/-- What the evaluator finds. -/
theorem wp_ev {O : Orc} (hO : OK P (lamOf P) O) (hmix : P.follows .mixedOrders = true) {m : Nat} {ic : ICode} {x : IX} {e' : Env} {S' : Mem} {d' : List Nat} (hv : evCode O rd m ic e S d = some (x, e', S', d')) (hq : Q x e' S' d') : WP P S0 rd ic e S d Q := by
  intro nt c base w0 r n K0 wE K a w h1 h2 h3 h4 h5 h6 h7 h8
  rw [← h1] at hO h3
  rw [← h2] at hv
  refine Code.wpIn_mono (fun ex a1 w1 hq1 => ?_) (code_ok (n := n) (w0 := w0) hO hmix m c ic K S e a d w x e' S' d' h3 h5 h6 h7 hv)
  obtain ⟨rfl, K', q1, q2, q3, q4⟩ := hq1
  exact ⟨x, e', S', d', K', rfl, hq, q1, q2, q3, h8.trans q4⟩

theorem wp_skip (hq : Q .normal e S d) : WP P S0 rd .skip e S d Q := by
  intro nt c base w0 r n K0 wE K a w h1 h2 h3 h4 h5 h6 h7 h8
  have hq' : QP base w0 nt K0 S0 wE Q .normal a w := ⟨.normal, e, S, d, K, rfl, hq, h6, h7, h5, h8⟩
  cases h3 with
  | skip => exact wpIn_skip hq'
  | label l => exact wpIn_label hq'

theorem wp_ret (hq : Q .ret e S d) : WP P S0 rd .ret e S d Q := by
  intro nt c base w0 r n K0 wE K a w h1 h2 h3 h4 h5 h6 h7 h8
  cases h3
  exact wpIn_ret ⟨.ret, e, S, d, K, rfl, hq, h6, h7, h5, h8⟩

theorem wp_exit {id : Nat} (hq : Q (.exit id) e S d) : WP P S0 rd (.exit id) e S d Q := by
  intro nt c base w0 r n K0 wE K a w h1 h2 h3 h4 h5 h6 h7 h8
  cases h3
  exact wpIn_exit ⟨.exit id, e, S, d, K, rfl, hq, h6, h7, h5, h8⟩

theorem wp_goto {l : Nat} (hq : Q (.goto l) e S d) : WP P S0 rd (.goto l) e S d Q := by
  intro nt c base w0 r n K0 wE K a w h1 h2 h3 h4 h5 h6 h7 h8
  cases h3
  exact wpIn_goto ⟨.goto l, e, S, d, K, rfl, hq, h6, h7, h5, h8⟩

theorem wp_region {O : Orc} (hO : OK P (lamOf P) O) {ops : List ROp} {e' : Env} {S' : Mem} (hv : evOps O ops e S = some (e', S')) (hq : Q .normal e' S' d) : WP P S0 rd (.region ops) e S d Q := by
  intro nt c base w0 r n K0 wE K a w h1 h2 h3 h4 h5 h6 h7 h8
  cases h3 with
  | region id ops l hm hd =>
    rw [← h1] at hO
    exact wpIn_region_list (list_ok hO ops.toList _ K S e a w e' S' hm hd h5 h6 hv fun K' a' w' q1 q2 q3 q4 => ⟨.normal, e', S', d, K', rfl, hq, q1, by rw [q2]; exact h7.mono q4.ext, q3, h8.trans q4⟩)

theorem wp_draw {O : Orc} (hO : OK P (lamOf P) O) (hmix : P.follows .mixedOrders = true) {st : List Stage} {late : List Nat} {e' : Env} {S' : Mem} (hv : evDraw O st late e S = some (e', S')) (hq : Q .normal e' S' d) : WP P S0 rd (.draw st late) e S d Q := by
  intro nt c base w0 r n K0 wE K a w h1 h2 h3 h4 h5 h6 h7 h8
  cases h3 with
  | draw id ops l p hm hp =>
    rw [← h1] at hO
    exact draw_ok hO hmix hm hp h5 h6 hv fun K' a' w' q1 q2 q3 q4 => ⟨.normal, e', S', d, K', rfl, hq, q1, by rw [q2]; exact h7.mono q4.ext, q3, h8.trans q4⟩

theorem wp_live {l : List Nat} {ic : ICode} (h : WP P S0 rd ic (keepE e l) S d Q) : WP P S0 rd (.live l ic) e S d Q := by
  intro nt c base w0 r n K0 wE K a w h1 h2 h3 h4 h5 h6 h7 h8
  cases h3 with
  | live _ hc => exact h nt c base w0 r n K0 wE K a w h1 h2 hc h4 h5 (h6.keep l) h7 h8

/-- Behind the first of two. -/
def seqK (f : Env → Mem → List Nat → Kont → Prop) (Q : Kont) : Kont := fun x e S d => match x with
  | .normal => f e S d Q
  | x => Q x e S d
theorem seqK_normal (f : Env → Mem → List Nat → Kont → Prop) : seqK f Q .normal e S d = f e S d Q := (rfl)
theorem seqK_ret (f : Env → Mem → List Nat → Kont → Prop) : seqK f Q .ret e S d = Q .ret e S d := (rfl)
theorem seqK_exit (f : Env → Mem → List Nat → Kont → Prop) (id : Nat) : seqK f Q (.exit id) e S d = Q (.exit id) e S d := (rfl)
theorem seqK_goto (f : Env → Mem → List Nat → Kont → Prop) (l : Nat) : seqK f Q (.goto l) e S d = Q (.goto l) e S d := (rfl)

theorem wp_seq {a b : ICode} (h : WP P S0 rd a e S d (seqK (WP P S0 rd b) Q)) : WP P S0 rd (.seq a b) e S d Q := by
  intro nt c base w0 r n K0 wE K ac w h1 h2 h3 h4 h5 h6 h7 h8
  cases h3 with
  | seq ha hb =>
    refine wpIn_seq (Code.wpIn_mono (fun ex a1 w1 hq => ?_) (h nt _ base w0 r n K0 wE K ac w h1 h2 ha h4 h5 h6 h7 h8))
    obtain ⟨x, e', S', d', K', rfl, q1, q2, q3, q4, q5⟩ := hq
    cases x with
    | normal => exact q1 nt _ base w0 r n K0 wE K' a1 w1 h1 h2 hb h4 q4 q2 q3 q5
    | ret => exact ⟨.ret, e', S', d', K', rfl, q1, q2, q3, q4, q5⟩
    | exit id => exact ⟨.exit id, e', S', d', K', rfl, q1, q2, q3, q4, q5⟩
    | goto l => exact ⟨.goto l, e', S', d', K', rfl, q1, q2, q3, q4, q5⟩

theorem wp_cond_true {c : X} {a b : ICode} (hc : c.ev e = .b true) (h : WP P S0 rd a e S d Q) : WP P S0 rd (.cond c a b) e S d Q := by
  intro nt cc base w0 r n K0 wE K ac w h1 h2 h3 h4 h5 h6 h7 h8
  cases h3 with
  | cond hcx ha hb =>
    have hC := compX_ok (K := K) (S := S) hcx h6
    rw [hc] at hC
    refine wpIn_cond_true ?_ (h nt _ base w0 r n K0 wE K ac w h1 h2 ha h4 h5 h6 h7 h8)
    generalize ac.eval _ = v at hC ⊢
    cases hC; rfl

theorem wp_cond_false {c : X} {a b : ICode} (hc : c.ev e = .b false) (h : WP P S0 rd b e S d Q) : WP P S0 rd (.cond c a b) e S d Q := by
  intro nt cc base w0 r n K0 wE K ac w h1 h2 h3 h4 h5 h6 h7 h8
  cases h3 with
  | cond hcx ha hb =>
    have hC := compX_ok (K := K) (S := S) hcx h6
    rw [hc] at hC
    refine wpIn_cond_false ?_ (h nt _ base w0 r n K0 wE K ac w h1 h2 hb h4 h5 h6 h7 h8)
    generalize ac.eval _ = v at hC ⊢
    cases hC; rfl

/-- Behind a block. -/
def blockK (id : Nat) (Q : Kont) : Kont := fun x e S d => match x with
  | .exit id' => if id' = id then Q .normal e S d else Q (.exit id') e S d
  | x => Q x e S d
theorem blockK_normal (id : Nat) : blockK id Q .normal e S d = Q .normal e S d := (rfl)
theorem blockK_ret (id : Nat) : blockK id Q .ret e S d = Q .ret e S d := (rfl)
theorem blockK_goto (id l : Nat) : blockK id Q (.goto l) e S d = Q (.goto l) e S d := (rfl)
theorem blockK_exit (id id' : Nat) : blockK id Q (.exit id') e S d = if id' = id then Q .normal e S d else Q (.exit id') e S d := (rfl)

theorem wp_block {id : Nat} {a : ICode} (h : WP P S0 rd a e S d (blockK id Q)) : WP P S0 rd (.block id a) e S d Q := by
  intro nt c base w0 r n K0 wE K ac w h1 h2 h3 h4 h5 h6 h7 h8
  cases h3 with
  | block _ ha =>
    refine wpIn_block (Code.wpIn_mono (fun ex a1 w1 hq => ?_) (h nt _ base w0 r n K0 wE K ac w h1 h2 ha h4 h5 h6 h7 h8))
    obtain ⟨x, e', S', d', K', rfl, q1, q2, q3, q4, q5⟩ := hq
    cases x with
    | normal => exact ⟨.normal, e', S', d', K', rfl, q1, q2, q3, q4, q5⟩
    | ret => exact ⟨.ret, e', S', d', K', rfl, q1, q2, q3, q4, q5⟩
    | goto l => exact ⟨.goto l, e', S', d', K', rfl, q1, q2, q3, q4, q5⟩
    | exit id' =>
      rw [blockK_exit] at q1
      simp only [IX.out, Exit.inBlock]
      split at q1
      · rename_i hid; rw [if_pos hid]; exact ⟨.normal, e', S', d', K', rfl, q1, q2, q3, q4, q5⟩
      · rename_i hid; rw [if_neg hid]; exact ⟨.exit id', e', S', d', K', rfl, q1, q2, q3, q4, q5⟩

/-- Behind a round of a loop. -/
def loopK (j : Nat) (I : Nat → Env → Mem → List Nat → Prop) (Q : Kont) : Kont := fun x e S d => match x with
  | .normal => ∃ j', j' < j ∧ I j' e S d
  | x => Q x e S d
theorem loopK_normal {j : Nat} {I : Nat → Env → Mem → List Nat → Prop} : loopK j I Q .normal e S d = ∃ j', j' < j ∧ I j' e S d := (rfl)
theorem loopK_ret {j : Nat} {I : Nat → Env → Mem → List Nat → Prop} : loopK j I Q .ret e S d = Q .ret e S d := (rfl)
theorem loopK_exit {j : Nat} {I : Nat → Env → Mem → List Nat → Prop} (id : Nat) : loopK j I Q (.exit id) e S d = Q (.exit id) e S d := (rfl)
theorem loopK_goto {j : Nat} {I : Nat → Env → Mem → List Nat → Prop} (l : Nat) : loopK j I Q (.goto l) e S d = Q (.goto l) e S d := (rfl)

/-- A loop, by a number that gets less. -/
theorem wp_loop {l : List Nat} {c : ICode} (I : Nat → Env → Mem → List Nat → Prop) {j : Nat} (h0 : I j e S d)
    (round : ∀ j e S d, I j e S d → WP P S0 rd c (keepE e l) S d (loopK j I Q)) : WP P S0 rd (.loop l c) e S d Q := by
  intro nt cc base w0 r n K0 wE K ac w h1 h2 h3 h4 h5 h6 h7 h8
  cases h3 with
  | loop _ ha =>
    refine wpIn_loop_idx (fun j a1 w1 => ∃ K1 S1 e1 d1, I j e1 S1 d1 ∧ ER K1 S1 nt e1 a1 ∧ DR K1 S1 d1 a1.defers ∧ Sim base w0 K1 S1 w1 ∧ Stp K0 S0 wE K1 S1 w1) (j := j) ⟨K, S, e, d, h0, h6, h7, h5, h8⟩ fun j a1 w1 hI => ?_
    obtain ⟨K1, S1, e1, d1, hI, q1, q2, q3, q4⟩ := hI
    refine Code.wpIn_mono (fun ex a2 w2 hq => ?_) (round j e1 S1 d1 hI nt _ base w0 r n K0 wE K1 a1 w1 h1 h2 ha h4 q3 (q1.keep l) q2 q4)
    obtain ⟨x, e', S', d', K', rfl, g1, g2, g3, g4, g5⟩ := hq
    cases x with
    | normal =>
      obtain ⟨j', hj, hI'⟩ := g1
      exact ⟨j', hj, K', S', e', d', hI', g2, g3, g4, g5⟩
    | ret => exact ⟨.ret, e', S', d', K', rfl, g1, g2, g3, g4, g5⟩
    | exit id => exact ⟨.exit id, e', S', d', K', rfl, g1, g2, g3, g4, g5⟩
    | goto l => exact ⟨.goto l, e', S', d', K', rfl, g1, g2, g3, g4, g5⟩

/-- Behind a part of a scope. -/
def jumpK (lab : Nat) (R : Env → Mem → List Nat → Prop) (Q : Kont) : Kont := fun x e S d => match x with
  | .goto g => g = lab ∧ R e S d
  | x => Q x e S d
theorem jumpK_normal {lab : Nat} {R : Env → Mem → List Nat → Prop} : jumpK lab R Q .normal e S d = Q .normal e S d := (rfl)
theorem jumpK_ret {lab : Nat} {R : Env → Mem → List Nat → Prop} : jumpK lab R Q .ret e S d = Q .ret e S d := (rfl)
theorem jumpK_exit {lab : Nat} {R : Env → Mem → List Nat → Prop} (id : Nat) : jumpK lab R Q (.exit id) e S d = Q (.exit id) e S d := (rfl)
theorem jumpK_goto {lab : Nat} {R : Env → Mem → List Nat → Prop} (g : Nat) : jumpK lab R Q (.goto g) e S d = (g = lab ∧ R e S d) := (rfl)

theorem wp_scope {l : List Nat} {c k : ICode} {lab : Nat} (I : Nat → Env → Mem → List Nat → Prop) (first : WP P S0 rd c e S d (jumpK lab (fun e S d => ∃ j, I j e S d) Q))
    (pass : ∀ j e S d, I j e S d → WP P S0 rd k (keepE e l) S d (jumpK lab (fun e S d => ∃ j', j' < j ∧ I j' e S d) Q)) (hq : ∀ g e S d, ¬ Q (.goto g) e S d) : WP P S0 rd (.scope l c lab k) e S d Q := by
  intro nt cc base w0 r n K0 wE K ac w h1 h2 h3 h4 h5 h6 h7 h8
  cases h3 with
  | scope _ _ hf ha hb =>
    have key : ∀ (Z : Env → Mem → List Nat → Prop) (Y : Act → World → Prop), (∀ e S d K a w, Z e S d → ER K S nt e a → DR K S d a.defers → Sim base w0 K S w → Stp K0 S0 wE K S w → Y a w) →
        ∀ ex a1 w1, QP base w0 nt K0 S0 wE (jumpK lab Z Q) ex a1 w1 → Exit.jump lab Y (QP base w0 nt K0 S0 wE Q) ex a1 w1 := by
      intro Z Y hZ ex a1 w1 hq1
      obtain ⟨x, e', S', d', K', rfl, g1, g2, g3, g4, g5⟩ := hq1
      cases x with
      | normal => exact ⟨.normal, e', S', d', K', rfl, g1, g2, g3, g4, g5⟩
      | ret => exact ⟨.ret, e', S', d', K', rfl, g1, g2, g3, g4, g5⟩
      | exit id => exact ⟨.exit id, e', S', d', K', rfl, g1, g2, g3, g4, g5⟩
      | goto g => exact ⟨g1.1, hZ _ _ _ _ _ _ g1.2 g2 g3 g4 g5⟩
    refine wpIn_scope_idx lab hf (fun j a1 w1 => ∃ K1 S1 e1 d1, I j e1 S1 d1 ∧ ER K1 S1 nt e1 a1 ∧ DR K1 S1 d1 a1.defers ∧ Sim base w0 K1 S1 w1 ∧ Stp K0 S0 wE K1 S1 w1) ?_ (fun j a1 w1 hI => ?_) (fun g a1 w1 hq1 => ?_)
    · exact Code.wpIn_mono (key _ _ fun e S d K a w ⟨j, hI⟩ q1 q2 q3 q4 => ⟨j, K, S, e, d, hI, q1, q2, q3, q4⟩) (first nt _ base w0 r n K0 wE K ac w h1 h2 ha h4 h5 h6 h7 h8)
    · obtain ⟨K1, S1, e1, d1, hI, q1, q2, q3, q4⟩ := hI
      exact Code.wpIn_mono (key _ _ fun e S d K a w ⟨j, hj, hI⟩ q1 q2 q3 q4 => ⟨j, hj, K, S, e, d, hI, q1, q2, q3, q4⟩) (pass j e1 S1 d1 hI nt _ base w0 r n K0 wE K1 a1 w1 h1 h2 hb h4 q3 (q1.keep l) q2 q4)
    · obtain ⟨x, e', S', d', K', hx, g1, _⟩ := hq1
      cases x <;> simp [IX.out] at hx
      subst hx
      exact hq _ _ _ _ g1

/-! ### Leaving blocks out -/
/-- The second state stands for whatever the first stands for. -/
def Wk (S0 : Mem) (e : Env) (S : Mem) (e2 : Env) (S2 : Mem) : Prop :=
  ∀ (base : Bs) (w0 : World) (K0 : Ctx) (wE : World) (K : Ctx) (w : World), Sim base w0 K0 S0 wE → Sim base w0 K S w → Stp K0 S0 wE K S w →
    ∃ K2, Sim base w0 K2 S2 w ∧ (∀ t v, VR K S (e.get t) v → VR K2 S2 (e2.get t) v) ∧ Stp K0 S0 wE K2 S2 w

theorem Wk.refl (S0 : Mem) (e : Env) (S : Mem) : Wk S0 e S e S := fun _ _ _ _ K _ _ h2 h3 => ⟨K, h2, fun _ _ h => h, h3⟩

/-- A state for another one, behind code. -/
def wkK (S0 : Mem) (Q : Kont) : Kont := fun x e S d => Q x e S d ∨ (d = [] ∧ ∃ e2 S2, Wk S0 e S e2 S2 ∧ Q x e2 S2 [])

theorem WP.wk {ic : ICode} (h : WP P S0 rd ic e S d (wkK S0 Q)) : WP P S0 rd ic e S d Q := by
  intro nt cc base w0 r n K0 wE K ac w h1 h2 h3 h4 h5 h6 h7 h8
  refine Code.wpIn_mono (fun ex a1 w1 hq => ?_) (h nt _ base w0 r n K0 wE K ac w h1 h2 h3 h4 h5 h6 h7 h8)
  obtain ⟨x, e', S', d', K', rfl, g1, g2, g3, g4, g5⟩ := hq
  rcases g1 with g1 | ⟨rfl, e2, S2, hW, g1⟩
  · exact ⟨x, e', S', d', K', rfl, g1, g2, g3, g4, g5⟩
  · obtain ⟨K2, z1, z2, z3⟩ := hW base w0 K0 wE K' w1 h4 g4 g5
    refine ⟨x, e2, S2, [], K2, rfl, g1, ⟨g2.size, fun t => z2 t _ (g2.slot t)⟩, ?_, z1, z3⟩
    have : a1.defers = [] := by
      revert g3; cases a1.defers with
      | nil => intro _; rfl
      | cons _ _ => intro h; exact h.elim
    rw [this]; trivial

/-- A state for another one, ahead of code. -/
theorem WP.wk_first {ic : ICode} {e2 : Env} {S2 : Mem} (hW : Wk S0 e S e2 S2) (h : WP P S0 rd ic e2 S2 [] Q) : WP P S0 rd ic e S [] Q := by
  intro nt cc base w0 r n K0 wE K ac w h1 h2 h3 h4 h5 h6 h7 h8
  obtain ⟨K2, z1, z2, z3⟩ := hW base w0 K0 wE K w h4 h5 h8
  have : ac.defers = [] := by
    revert h7; cases ac.defers with
    | nil => intro _; rfl
    | cons _ _ => intro h; exact h.elim
  exact h nt cc base w0 r n K0 wE K2 ac w h1 h2 h3 h4 z1 ⟨h6.size, fun t => z2 t _ (h6.slot t)⟩ (by rw [this]; trivial) z3

/-! ### Functions -/
/-- What is known of a call. -/
def FnOK (P : Program) (f : FuncId) (args : List AV) (S : Mem) (x : AV) (S' : Mem) : Prop :=
  enterable P f = true ∧ ∀ (base : Bs) (w0 : World) (K : Ctx) (w : World) (vs : Array Value), base.Λ = lamOf P → ArgsR K S args vs.toList → Sim base w0 K S w → Calls P f vs w (Post base w0 K S w x S')

/-- Behind a function's body. -/
def retK (S0 : Mem) (rs : List IR) (R : AV → Mem → Prop) : Kont := fun ix e S1 d => isEnd ix = true ∧ ∃ S2 xs, evLeave d S1 = some S2 ∧ evResults e S2 rs = some xs ∧ R (resV xs) S2

/-- Up to what nothing leads to. -/
def WkV (S0 : Mem) (x : AV) (S' : Mem) : AV → Mem → Prop := fun y S2 => Wk S0 [(0, y)] S2 [(0, x)] S'

theorem fn_of_wp {f : FuncId} {F : IFunc} (hF : compFunc P f = some (stripF F)) {args : List AV} {x : AV} {S' : Mem} (hl : args.length = F.nparams) (h : WP P S false F.body (argsE 0 args) S [] (retK S F.results (WkV S x S'))) : FnOK P f args S x S' := by
  obtain ⟨fn, c, hf, hb, hen, hnp, hres, hcode, _⟩ := (compFunc_ok hF).out
  refine ⟨hen, fun base w0 K w vs hΛ hA hS => ?_⟩
  have hsz : vs.size = F.nparams := by have := hA.1; rw [hl] at this; simpa using this.symm
  have hr : ER K S fn.ntmps (argsE 0 args) { tmps := vs ++ Array.replicate (fn.ntmps - vs.size) undef, defers := [] } := by
    refine ⟨by show (vs ++ Array.replicate (fn.ntmps - vs.size) undef).size = fn.ntmps; simp; omega, fun t => ?_⟩
    show VR K S _ ((vs ++ Array.replicate (fn.ntmps - vs.size) undef).getD t undef)
    rw [argsE_get, if_pos (Nat.zero_le _), Nat.sub_zero]
    by_cases ht : t < args.length
    · have := hA.getD t
      rw [toList_getD] at this
      have e1 : (vs ++ Array.replicate (fn.ntmps - vs.size) undef).getD t undef = vs.getD t undef := by
        simp only [Array.getD_eq_getD_getElem?]
        rw [Array.getElem?_append_left (by omega)]
      rw [e1]; exact this
    · have : args.getD t .u = .u := by simp [List.getD_eq_getElem?_getD, List.getElem?_eq_none (show args.length ≤ t by omega)]
      rw [this]; exact .u _
  have hwp := h fn.ntmps c base w0 none 0 K w K _ w hΛ rfl hcode hS hS hr trivial (.refl K S w)
  refine (callsIn_wide (n := 0)).1 ?_
  show CallsIn (FW none) 0 P f vs w _
  refine callsIn_of_wp_marks hf hb trivial ?_ rfl
  refine Code.wpIn_mono (fun ex a1 w1 hq => ?_) hwp
  obtain ⟨ix, e1, S1, d1, K1, rfl, ⟨hix, S2, xs, hlv, hxs, hW⟩, q1, q2, q3, q4⟩ := hq
  have key : LeavesInM (FW none) 0 P fn a1.tmps (Post base w0 K S w x S') a1.defers .returning w1 := by
    refine leave_ok d1 a1.defers S1 S2 w1 q2 q3 hlv fun w2 s2 t2 => ?_
    obtain ⟨v, hv1, hV⟩ := run_results s2 (q1.mono t2.ext) hres hxs
    obtain ⟨K2, z1, z2, z3⟩ := hW base w0 K w K1 w2 hS s2 (q4.trans t2)
    exact ⟨v, hv1, K2, v, rfl, z2 0 v hV, z1, z3⟩
  cases ix with
  | normal => exact key
  | ret => exact key
  | exit id => cases hix
  | goto l => cases hix

/-- A function does what is specified. -/
def SpecOK (P : Program) (f : FuncId) (s : Spec) : Prop := ∀ args S x S', s args S = some (x, S') → FnOK P f args S x S'

def orcOf (l : List (FuncId × Spec)) : Orc := ⟨fun f args S => match l.find? (fun p => p.1 == f) with | some p => p.2 args S | none => none, fun _ _ _ => none⟩

theorem orc_ok {l : List (FuncId × Spec)} (h : ∀ p ∈ l, SpecOK P p.1 p.2) : OK P (lamOf P) (orcOf l) := by
  refine ⟨fun f args S x S' hv => ?_, fun i args S x S' hv => by simp [orcOf] at hv⟩
  simp only [orcOf] at hv
  split at hv
  · rename_i p hp
    have h1 := h p (List.mem_of_find?_eq_some hp) args S x S' hv
    have h2 : p.1 = f := by simpa using List.find?_some hp
    rw [h2] at h1
    exact h1
  · cases hv
end
end Go.Proofs.YtljaigbjiheohaaDoor
