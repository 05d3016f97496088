/- Proved here: code does what the evaluator says: loops, scopes, loops over functions. No condition. -/
import Derived.Test.YtljaigbjiheohaaDoorEvK
import Derived.RangeFuncOwn
import Derived.ScopeJumps
namespace Go.Proofs.YtljaigbjiheohaaDoor
set_option linter.unusedSimpArgs false
set_option linter.unusedVariables false
open Go.RowKit

/-- The compiled code is of the code. -/
inductive CodeR (P : Program) (Λ : Nat → List Bool → Option (Array Tmp × Code × Code × Nat)) (nt : Nat) : Code → ICode → Prop
  | bad (c : Code) : CodeR P Λ nt c .bad
  | skip : CodeR P Λ nt .skip .skip
  | label (l : Nat) : CodeR P Λ nt (.label l) .skip
  | region (id : Nat) (ops : Array Oper) (l : List ROp) (hm : ops.toList.mapM (compOper P ops) = some l) (hd : dstOk nt l = true) : CodeR P Λ nt (.region id ops false) (.region l)
  | draw (id : Nat) (ops : Array Oper) (l : List ROp) (p : Plan) (hm : ops.toList.mapM (compOper P ops) = some l) (hp : planOk ops.toList l nt p = true) : CodeR P Λ nt (.region id ops true) (.draw (stagesOf l p) (lateSlots l p))
  | seq {a b : Code} {ia ib : ICode} (ha : CodeR P Λ nt a ia) (hb : CodeR P Λ nt b ib) : CodeR P Λ nt (.seq a b) (.seq ia ib)
  | cond {c : Operand} {x : X} {a b : Code} {ia ib : ICode} (hc : compX c = some x) (ha : CodeR P Λ nt a ia) (hb : CodeR P Λ nt b ib) : CodeR P Λ nt (.cond c a b) (.cond x ia ib)
  | block (id : Nat) {a : Code} {ia : ICode} (ha : CodeR P Λ nt a ia) : CodeR P Λ nt (.block id a) (.block id ia)
  | loop (l : List Nat) {a : Code} {ia : ICode} (ha : CodeR P Λ nt a ia) : CodeR P Λ nt (.loop a) (.loop l ia)
  | exit (id : Nat) : CodeR P Λ nt (.exit id) (.exit id)
  | ret : CodeR P Λ nt .ret .ret
  | goto (l : Nat) : CodeR P Λ nt (.goto l) (.goto l)
  | scope (l : List Nat) (lab : Nat) {a b : Code} {ia ib : ICode} (hf : findLabel a lab = some b) (ha : CodeR P Λ nt a ia) (hb : CodeR P Λ nt b ib) : CodeR P Λ nt (.scope a) (.scope l ia lab ib)
  | live (l : List Nat) {c : Code} {ic : ICode} (h : CodeR P Λ nt c ic) : CodeR P Λ nt c (.live l ic)
  | rf {g : Operand} {x : X} {ps : Array Tmp} {a b : Code} (f : Nat) (path : List Bool) (keep : List Nat) (hg : compX g = some x) (hL : Λ f path = some (ps, a, b, nt)) : CodeR P Λ nt (.rangeFunc g ps a b) (.rf x f path keep)

/-- The marks among the deferred calls. -/
def DR (K : Ctx) (S : Mem) : List Nat → List Deferred → Prop
  | [], [] => True
  | i :: d, x :: ds => (∃ r, x = { target := .collected r, args := #[] } ∧ VR K S (.m i) (.map (some r))) ∧ DR K S d ds
  | _, _ => False

theorem DR.mono {K K' : Ctx} {S S' : Mem} (hE : Ext K S K' S') : ∀ {d : List Nat} {ds : List Deferred}, DR K S d ds → DR K' S' d ds
  | [], [], _ => trivial
  | _ :: _, _ :: _, h => ⟨let ⟨r, e, hV⟩ := h.1; ⟨r, e, hV.mono hE⟩, DR.mono hE h.2⟩
  | [], _ :: _, h => h.elim
  | _ :: _, [], h => h.elim

def IX.out : IX → Exit
  | .normal => .normal
  | .exit id => .exit id
  | .ret => .ret
  | .goto l => .goto l

section
variable {P : Program} {base : Bs} {w0 : World} {O : Orc} {F : Fence} {n : Nat} {Q : Exit → Act → World → Prop} {a : Act} {w : World}

/-- A loop, by a number that gets less. -/
theorem wpIn_loop_idx {c : Code} (I : Nat → Act → World → Prop) {j : Nat} (h₀ : I j a w) (round : ∀ j a w, I j a w → c.wpIn F n P (Exit.then (fun a' w' => ∃ j', j' < j ∧ I j' a' w') Q) a w) : (Code.loop c).wpIn F n P Q a w := by
  intro b k cs hro hb hr
  have key : ∀ j a w, I j a w → ∃ e a' w', Q e a' w' ∧ ArrivesIn (Machine.fenced P F) P (lone (b.atR a (.code c :: .inLoop c :: k)) cs w) b k cs e a' w' := by
    intro j
    induction j using Nat.strongRecOn with
    | _ j ih =>
      intro a w hI
      obtain ⟨e, a₁, w₁, hq, harr⟩ := round j a w hI b (.inLoop c :: k) cs hro hb hr
      cases e with
      | normal =>
        obtain ⟨j', hlt, hI₁⟩ := hq
        obtain ⟨e₂, a₂, w₂, hq₂, harr₂⟩ := ih j' hlt a₁ w₁ hI₁
        exact ⟨e₂, a₂, w₂, hq₂, .of_steps (StepsIn.trans harr (.one (fenced_calm hb hr rfl) stepR_inLoop)) harr₂⟩
      | exit id => exact ⟨_, a₁, w₁, hq, .pass (x := .inLoop c) rfl (fun _ _ => .inl (by simp)) harr⟩
      | goto l => exact ⟨_, a₁, w₁, hq, .pass (x := .inLoop c) rfl (fun _ _ => .inl (by simp)) harr⟩
      | ret => exact ⟨_, a₁, w₁, hq, .pass (x := .inLoop c) rfl (fun _ _ => .inl (by simp)) harr⟩
      | panic ch => exact ⟨_, a₁, w₁, hq, .pass (x := .inLoop c) rfl (fun _ _ => .inl (by simp)) harr⟩
      | outgrown => exact ⟨_, a₁, w₁, hq, .pass (x := .inLoop c) rfl (fun _ _ => .inl (by simp)) harr⟩
  obtain ⟨e, a', w', hq, harr⟩ := key _ a w h₀
  exact ⟨e, a', w', hq, .of_steps (.one (fenced_calm hb hr rfl) stepR_loop) harr⟩

theorem stepR_scope' {b : Frame} {k : List Item} {cs : List Frame} {c : Code} : step P (lone (b.atR a (.code (.scope c) :: k)) cs w) = .next (lone (b.atR a (.code c :: .inScope c :: k)) cs w) :=
  step_lone_go (by simp [stepG, stepG.exec, Frame.atR])
theorem stepR_inScope' {b : Frame} {k : List Item} {cs : List Frame} {c : Code} : step P (lone (b.atR a (.inScope c :: k)) cs w) = .next (lone (b.atR a k) cs w) :=
  step_lone_go (by simp [stepG, stepG.exec, Frame.atR])

/-- A scope, by a number that gets less. 'I false': at its head; 'I true': behind the label. -/
theorem wpIn_scope_idx {c rest : Code} (lab : Nat) (hf : findLabel c lab = some rest) (I : Nat → Act → World → Prop)
    (first : c.wpIn F n P (Exit.jump lab (fun a' w' => ∃ j, I j a' w') Q) a w) (pass : ∀ j a w, I j a w → rest.wpIn F n P (Exit.jump lab (fun a' w' => ∃ j', j' < j ∧ I j' a' w') Q) a w) (hq : ∀ l a w, ¬ Q (.goto l) a w) :
    (Code.scope c).wpIn F n P Q a w := by
  intro b k cs hro hb hr
  have hg : gotoIn lab (.inScope c :: k) = some (.code rest :: .inScope c :: k) := by simp [gotoIn, hf]
  have out : ∀ {m : Machine} {e : Exit} {a₁ : Act} {w₁ : World}, (∀ l, e ≠ .goto l) → Q e a₁ w₁ → ArrivesIn (Machine.fenced P F) P m b (.inScope c :: k) cs e a₁ w₁ → ∃ e a' w', Q e a' w' ∧ ArrivesIn (Machine.fenced P F) P m b k cs e a' w' := by
    intro m e a₁ w₁ hng hQ harr
    cases e with
    | normal => exact ⟨.normal, a₁, w₁, hQ, StepsIn.trans harr (.one (fenced_calm hb hr rfl) stepR_inScope')⟩
    | exit id => exact ⟨.exit id, a₁, w₁, hQ, fun k' hk => harr.1 k' (by simp [exitTo, hk]), fun hrr hk => harr.2 hrr (by simp [exitTo, hk])⟩
    | goto l => exact absurd rfl (hng l)
    | ret => exact ⟨_, a₁, w₁, hQ, harr⟩
    | panic ch => exact ⟨_, a₁, w₁, hQ, harr⟩
    | outgrown => exact ⟨_, a₁, w₁, hQ, harr⟩
  have key : ∀ j a w, I j a w → ∃ e a' w', Q e a' w' ∧ ArrivesIn (Machine.fenced P F) P (lone (b.atR a (.code rest :: .inScope c :: k)) cs w) b k cs e a' w' := by
    intro j
    induction j using Nat.strongRecOn with
    | _ j ih =>
      intro a w hI
      obtain ⟨e, a₁, w₁, hq', harr⟩ := pass j a w hI b (.inScope c :: k) cs hro hb hr
      cases e with
      | goto l' =>
        obtain ⟨rfl, j', hlt, hI'⟩ := hq'
        obtain ⟨e₂, a₂, w₂, hq₂, harr₂⟩ := ih j' hlt a₁ w₁ hI'
        exact ⟨e₂, a₂, w₂, hq₂, .of_steps (harr.1 _ hg) harr₂⟩
      | normal => exact out (by simp) hq' harr
      | exit id => exact out (by simp) hq' harr
      | ret => exact out (by simp) hq' harr
      | panic ch => exact out (by simp) hq' harr
      | outgrown => exact out (by simp) hq' harr
  have h0 : (lone (b.atR a (.code (.scope c) :: k)) cs w).fenced P F := fenced_calm hb hr rfl
  obtain ⟨e, a₁, w₁, hq', harr⟩ := first b (.inScope c :: k) cs hro hb hr
  have wrap : (∃ e a' w', Q e a' w' ∧ ArrivesIn (Machine.fenced P F) P (lone (b.atR a (.code c :: .inScope c :: k)) cs w) b k cs e a' w') → ∃ e a' w', Q e a' w' ∧ ArrivesIn (Machine.fenced P F) P (lone (b.atR a (.code (.scope c) :: k)) cs w) b k cs e a' w' :=
    fun ⟨e, a', w', q, r⟩ => ⟨e, a', w', q, .of_steps (.one h0 stepR_scope') r⟩
  cases e with
  | goto l' =>
    obtain ⟨rfl, j, hI⟩ := hq'
    obtain ⟨e₂, a₂, w₂, hq₂, harr₂⟩ := key j a₁ w₁ hI
    exact ⟨e₂, a₂, w₂, hq₂, .of_steps (.head h0 stepR_scope' (harr.1 _ hg)) harr₂⟩
  | normal => exact wrap (out (by simp) hq' harr)
  | exit id => exact wrap (out (by simp) hq' harr)
  | ret => exact wrap (out (by simp) hq' harr)
  | panic ch => exact wrap (out (by simp) hq' harr)
  | outgrown => exact wrap (out (by simp) hq' harr)

end
end Go.Proofs.YtljaigbjiheohaaDoor
