/- Proved here: the abstract values and the abstract memory of an evaluator of the model's code, and how they stand for the model's own values and memory. No condition. -/
import Derived.WalkKit
import Derived.Test.YtljaigbjiheohaaDoorEv0
namespace Go.Proofs.YtljaigbjiheohaaDoor
set_option linter.unusedSimpArgs false
set_option linter.unusedVariables false
open Go.RowKit

/-- Abstract values: addresses are (block of the abstract memory, offset, version). -/
inductive AV where
  | u
  | ud
  | b (x : Bool)
  | i (k : IntKind) (n : Int)
  | s (l : List UInt8)
  | pn
  | p (i off v : Nat)
  | sn
  | se
  | sl (i off v len cap : Nat) (ex : Bool)
  | mn
  | m (i : Nat)
  | nf
  | f (fn : Fn) (first caps : List AV)
  | y (i : Nat)
  | ni
  | it (t : TypeId) (v : AV)
  | ag (cs : List AV)
  | tu (cs : List AV)
  deriving Inhabited

/-- How a round of a loop over a function was left. -/
inductive Jump where
  | ret
  | exit (id : Nat)
  | goto (l : Nat)
  deriving DecidableEq

def Jump.code : Jump → Code
  | .ret => .ret
  | .exit id => .exit id
  | .goto l => .goto l

abbrev Env := List (Nat × AV)
def Env.get : Env → Nat → AV
  | [], _ => .u
  | (k, v) :: r, t => bif Nat.beq k t then v else Env.get r t

/-- An abstract block; 'loop': the record of a loop over a function (whose: the function, and the way to it in the code). -/
inductive Blk where
  | cells (cs : List AV) (ver : Nat) (opn : Option Nat) (rw : Bool)
  | map (es : List (AV × AV × Nat)) (clock : Nat)
  | dfr (live : Bool)
  | loop (f : Nat) (path : List Bool) (env : Env) (st : LoopState) (pend : Option Jump)
  deriving Inhabited

abbrev Mem := List Blk

def Blk.ver : Blk → Nat
  | .cells _ v _ _ => v
  | _ => 0
def Blk.opn : Blk → Option Nat
  | .cells _ _ o _ => o
  | _ => none
def Blk.rw : Blk → Bool
  | .cells _ _ _ r => r
  | _ => true

/-- From which block on all is new; which loops over functions there are. -/
structure Bs where
  n : Nat
  Λ : Nat → List Bool → Option (Array Tmp × Code × Code × Nat)
instance : CoeOut Bs Nat := ⟨Bs.n⟩

/-- Where the abstract blocks lie: the concrete block of each, and how many cells it has. -/
structure Ctx where
  μ : Nat → Nat
  σ : Nat → Nat

/-- 'x' stands for the concrete value. -/
inductive VR (K : Ctx) (S : Mem) : AV → Value → Prop where
  | u (v : Value) : VR K S .u v
  | ud : VR K S .ud undef
  | b (x : Bool) : VR K S (.b x) (.bool x)
  | i (k : IntKind) (n : Int) : VR K S (.i k n) (.int k n)
  | s (l : List UInt8) : VR K S (.s l) (.string ⟨l.toArray⟩)
  | pn : VR K S .pn (.pointer none)
  | p (i off v : Nat) (a : Addr) (B : Blk) (h : S[i]? = some B) (hv : v ≤ B.ver) (ha : B.ver = v → a = ⟨K.μ i, off, none⟩) : VR K S (.p i off v) (.pointer (some a))
  | sn : VR K S .sn (.slice none 0 0)
  | se (a : Addr) (c : Nat) : VR K S .se (.slice (some a) 0 c)
  | sl (i off v len cap : Nat) (ex : Bool) (a : Addr) (c : Nat) (B : Blk) (h : S[i]? = some B) (hv : v ≤ B.ver) (hl : len ≤ cap) (hc : cap ≤ c) (he : ex = true → c = cap)
      (ha : B.ver = v → a = ⟨K.μ i, off, none⟩ ∧ (ex = false → ∃ es, B.opn = some es ∧ off + c * es ≤ K.σ i)) : VR K S (.sl i off v len cap ex) (.slice (some a) len c)
  | mn : VR K S .mn (.map none)
  | m (i r : Nat) (B : Blk) (h : S[i]? = some B) (hr : B.ver = 0 → r = K.μ i) : VR K S (.m i) (.map (some r))
  | nf : VR K S .nf .nilFunc
  | f (fn : Fn) (x y : List AV) (x' y' : Array Value) (hx : x.length = x'.size) (hy : y.length = y'.size)
      (h : ∀ k, VR K S (x.getD k .u) (x'.getD k undef)) (h' : ∀ k, VR K S (y.getD k .u) (y'.getD k undef)) : VR K S (.f fn x y) (.func fn x' y')
  | y (i r : Nat) (B : Blk) (h : S[i]? = some B) (hr : B.ver = 0 → r = K.μ i) : VR K S (.y i) (.func (.yield r) #[] #[])
  | ni : VR K S .ni .nilIface
  | it (t : TypeId) (x : AV) (v : Value) (h : VR K S x v) : VR K S (.it t x) (.iface t v)
  | ag (x : List AV) (x' : Array Value) (hx : x.length = x'.size) (h : ∀ k, VR K S (x.getD k .u) (x'.getD k undef)) : VR K S (.ag x) (.agg x')
  | tu (x : List AV) (x' : Array Value) (hx : x.length = x'.size) (h : ∀ k, VR K S (x.getD k .u) (x'.getD k undef)) : VR K S (.tu x) (.tuple x')

/-- The memory may have grown, blocks may have turned; a block of the same version lies where it lay. -/
structure Ext (K : Ctx) (S : Mem) (K' : Ctx) (S' : Mem) : Prop where
  len : S.length ≤ S'.length
  blk : ∀ i B, S[i]? = some B → ∃ B', S'[i]? = some B' ∧ B.ver ≤ B'.ver ∧ (B'.ver = B.ver → K'.μ i = K.μ i ∧ K'.σ i = K.σ i ∧ B'.opn = B.opn)

theorem Ext.refl (K : Ctx) (S : Mem) : Ext K S K S := ⟨Nat.le_refl _, fun _ B h => ⟨B, h, Nat.le_refl _, fun _ => ⟨rfl, rfl, rfl⟩⟩⟩
theorem Ext.trans {K K' K'' : Ctx} {S S' S'' : Mem} (h : Ext K S K' S') (h' : Ext K' S' K'' S'') : Ext K S K'' S'' := by
  refine ⟨Nat.le_trans h.len h'.len, fun i B hB => ?_⟩
  obtain ⟨B', hB', hv, hs⟩ := h.blk i B hB
  obtain ⟨B'', hB'', hv', hs'⟩ := h'.blk i B' hB'
  refine ⟨B'', hB'', Nat.le_trans hv hv', fun e => ?_⟩
  have e1 : B'.ver = B.ver := by omega
  have e2 : B''.ver = B'.ver := by omega
  obtain ⟨a, b, c⟩ := hs e1
  obtain ⟨a', b', c'⟩ := hs' e2
  exact ⟨a'.trans a, b'.trans b, c'.trans c⟩

theorem VR.mono {K K' : Ctx} {S S' : Mem} (hE : Ext K S K' S') {x : AV} {v : Value} (h : VR K S x v) : VR K' S' x v := by
  induction h with
  | u v => exact .u v
  | ud => exact .ud
  | b x => exact .b x
  | i k n => exact .i k n
  | s l => exact .s l
  | pn => exact .pn
  | p i off v a B hB hv ha =>
    obtain ⟨B', hB', hv', hs⟩ := hE.blk i B hB
    refine .p i off v a B' hB' (Nat.le_trans hv hv') fun e => ?_
    have e' : B'.ver = B.ver := by omega
    rw [(hs e').1]; exact ha (by omega)
  | sn => exact .sn
  | se a c => exact .se a c
  | sl i off v len cap ex a c B hB hv hl hc he ha =>
    obtain ⟨B', hB', hv', hs⟩ := hE.blk i B hB
    refine .sl i off v len cap ex a c B' hB' (Nat.le_trans hv hv') hl hc he fun e => ?_
    have e' : B'.ver = B.ver := by omega
    obtain ⟨h1, h2, h3⟩ := hs e'
    rw [h1, h2, h3]; exact ha (by omega)
  | mn => exact .mn
  | m i r B hB hr =>
    obtain ⟨B', hB', hv', hs⟩ := hE.blk i B hB
    refine .m i r B' hB' fun e => ?_
    have e' : B'.ver = B.ver := by omega
    rw [(hs e').1]; exact hr (by omega)
  | nf => exact .nf
  | f fn x y x' y' hx hy _ _ ih ih' => exact .f fn x y x' y' hx hy ih ih'
  | y i r B hB hr =>
    obtain ⟨B', hB', hv', hs⟩ := hE.blk i B hB
    refine .y i r B' hB' fun e => ?_
    have e' : B'.ver = B.ver := by omega
    rw [(hs e').1]; exact hr (by omega)
  | ni => exact .ni
  | it t x v _ ih => exact .it t x v ih
  | ag x x' hx _ ih => exact .ag x x' hx ih
  | tu x x' hx _ ih => exact .tu x x' hx ih

/-- Up to where a block that is written bears no mark: bytes of a string may bear one behind their last cell. -/
def endOf (op : Option Nat) (n : Nat) : Nat := if op = some 1 then n else n + 1
theorem endOf_ge (op : Option Nat) (n : Nat) : n ≤ endOf op n := by unfold endOf; split <;> omega

/-- The block 'B', number i of the abstract memory, lies in the world. -/
def BRel (base : Bs) (K : Ctx) (S : Mem) (w : World) (i : Nat) : Blk → Prop
  | .cells cs _ opn rw => ∃ c et fz, w.heap[K.μ i]? = some (.cells c et fz) ∧ c.size = K.σ i ∧ cs.length ≤ c.size ∧ (opn = none → c.size = cs.length) ∧
      (∀ k, k < cs.length → VR K S (cs.getD k .u) (c.getD k undef)) ∧ (rw = true → base ≤ K.μ i ∧ ∀ o, o < endOf opn c.size → ¬ (fz.1 ≤ o ∧ o < fz.2))
  | .map es clock => ∃ E, w.heap[K.μ i]? = some (.map E clock) ∧ es.length = E.size ∧ base ≤ K.μ i ∧
      ∀ k (h : k < es.length) (h' : k < E.size), VR K S (es[k]).1 (E[k]).key ∧ VR K S (es[k]).2.1 (E[k]).val ∧ (es[k]).2.2 = (E[k]).born
  | .dfr live => w.heap[K.μ i]? = some (.deferred (if live then some [] else none)) ∧ base ≤ K.μ i
  | .loop f path env st pend => ∃ r, w.heap[K.μ i]? = some (.loop r) ∧ base.Λ f path = some (r.params, r.assign, r.body, r.tmps.size) ∧ r.state = st ∧ r.pending = pend.map Jump.code ∧ base ≤ K.μ i ∧ ∀ t, VR K S (env.get t) (r.tmps.getD t undef)

/-- The abstract memory stands for the world; below 'base' nothing has turned since w0. -/
structure Sim (base : Bs) (w0 : World) (K : Ctx) (S : Mem) (w : World) : Prop where
  blk : ∀ i B, S[i]? = some B → BRel base K S w i B
  inj : ∀ i j, i < S.length → j < S.length → K.μ i = K.μ j → i = j
  below : Below base w0 w
  hb : base ≤ w.heap.size
  door : Door base.n w0

/-- What a step may do. -/
structure Stp (K : Ctx) (S : Mem) (w : World) (K' : Ctx) (S' : Mem) (w' : World) : Prop where
  ext : Ext K S K' S'
  os : w'.os = w.os
  tape : w'.tape = w.tape
  output : w'.output = w.output
  size : w.heap.size ≤ w'.heap.size
  keep : ∀ b, b < w.heap.size → (∀ i B, S[i]? = some B → B.rw = true → K.μ i ≠ b) → w'.heap[b]? = w.heap[b]?
  own : ∀ i B', S'[i]? = some B' → (∃ B, S[i]? = some B ∧ (B'.rw = true → B.rw = true) ∧ K'.μ i = K.μ i) ∨ w.heap.size ≤ K'.μ i

theorem Stp.refl (K : Ctx) (S : Mem) (w : World) : Stp K S w K S w :=
  ⟨.refl K S, rfl, rfl, rfl, Nat.le_refl _, fun _ _ _ => rfl, fun _ B' h => .inl ⟨B', h, id, rfl⟩⟩

theorem Stp.trans {K K' K'' : Ctx} {S S' S'' : Mem} {w w' w'' : World} (h : Stp K S w K' S' w') (h' : Stp K' S' w' K'' S'' w'') : Stp K S w K'' S'' w'' := by
  refine ⟨h.ext.trans h'.ext, h'.os.trans h.os, h'.tape.trans h.tape, h'.output.trans h.output, Nat.le_trans h.size h'.size, fun b hb hn => ?_, fun i B'' hB'' => ?_⟩
  · rw [h'.keep b (Nat.lt_of_lt_of_le hb h.size) fun i B' hB' hr e => ?_, h.keep b hb hn]
    rcases h.own i B' hB' with ⟨B, hB, hr', e'⟩ | hge
    · exact hn i B hB (hr' hr) (e' ▸ e)
    · omega
  · rcases h'.own i B'' hB'' with ⟨B', hB', hr', e⟩ | hge
    · rcases h.own i B' hB' with ⟨B, hB, hr'', e'⟩ | hge
      · exact .inl ⟨B, hB, fun hr => hr'' (hr' hr), e.trans e'⟩
      · exact .inr (by rw [e]; exact hge)
    · exact .inr (Nat.le_trans h.size hge)

theorem BRel.ge {base : Bs} {K : Ctx} {S : Mem} {w : World} {i : Nat} {B : Blk} (h : BRel base K S w i B) (hr : B.rw = true) : base ≤ K.μ i := by
  cases B with
  | cells cs v o r => obtain ⟨c, et, fz, _, _, _, _, _, h⟩ := h; exact (h hr).1
  | map es cl => obtain ⟨E, _, _, h, _⟩ := h; exact h
  | dfr live => exact h.2
  | loop f p env st pe => obtain ⟨r, _, _, _, _, h, _⟩ := h; exact h

theorem BRel.lt {base : Bs} {K : Ctx} {S : Mem} {w : World} {i : Nat} {B : Blk} (h : BRel base K S w i B) : K.μ i < w.heap.size := by
  have key : ∀ o, w.heap[K.μ i]? = some o → K.μ i < w.heap.size := fun o ho => (Array.getElem?_eq_some_iff.1 ho).1
  cases B with
  | cells cs v o r => obtain ⟨c, et, fz, h, _⟩ := h; exact key _ h
  | map es cl => obtain ⟨E, h, _⟩ := h; exact key _ h
  | dfr live => exact key _ h.1
  | loop f p env st pe => obtain ⟨r, h, _⟩ := h; exact key _ h

theorem Sim.step_below {base : Bs} {w0 : World} {K K' : Ctx} {S S' : Mem} {w w' : World} (h : Sim base w0 K S w) (hs : Stp K S w K' S' w') : Below base w0 w' :=
  h.below.trans ⟨hs.os, hs.tape, hs.output, hs.size, fun b hb => hs.keep b (Nat.lt_of_lt_of_le hb h.hb) fun i B hB hr e => by
    have := (h.blk i B hB).ge hr; omega⟩

/-- A block that neither it nor its place has turned. -/
theorem BRel.mono {base : Bs} {K K' : Ctx} {S S' : Mem} {w w' : World} {i : Nat} {B : Blk} (hE : Ext K S K' S') (h : BRel base K S w i B)
    (hμ : K'.μ i = K.μ i) (hσ : K'.σ i = K.σ i) (hw : w'.heap[K.μ i]? = w.heap[K.μ i]?) : BRel base K' S' w' i B := by
  cases B with
  | cells cs v o r =>
    obtain ⟨c, et, fz, h1, h2, h3, h4, h5, h6⟩ := h
    exact ⟨c, et, fz, by rw [hμ, hw]; exact h1, by rw [hσ]; exact h2, h3, h4, fun k hk => (h5 k hk).mono hE, by rw [hμ]; exact h6⟩
  | map es cl =>
    obtain ⟨E, h1, h2, h3, h4⟩ := h
    exact ⟨E, by rw [hμ, hw]; exact h1, h2, by rw [hμ]; exact h3, fun k a b => ⟨(h4 k a b).1.mono hE, (h4 k a b).2.1.mono hE, (h4 k a b).2.2⟩⟩
  | dfr live => exact ⟨by rw [hμ, hw]; exact h.1, by rw [hμ]; exact h.2⟩
  | loop f p env st pe =>
    obtain ⟨r, h1, h2, h3, h4, h5, h6⟩ := h
    exact ⟨r, by rw [hμ, hw]; exact h1, h2, h3, h4, by rw [hμ]; exact h5, fun t => (h6 t).mono hE⟩

/-- A place more in the context. -/
def Ctx.put (K : Ctx) (i m n : Nat) : Ctx := ⟨fun j => if j = i then m else K.μ j, fun j => if j = i then n else K.σ j⟩
theorem Ctx.put_same (K : Ctx) (i m n : Nat) : (K.put i m n).μ i = m ∧ (K.put i m n).σ i = n := by simp [Ctx.put]
theorem Ctx.put_other (K : Ctx) {i j : Nat} (m n : Nat) (h : j ≠ i) : (K.put i m n).μ j = K.μ j ∧ (K.put i m n).σ j = K.σ j := by simp [Ctx.put, h]

theorem Ext.push (K : Ctx) (S : Mem) (B : Blk) (m n : Nat) : Ext K S (K.put S.length m n) (S ++ [B]) := by
  refine ⟨by simp, fun i C h => ?_⟩
  have hi : i < S.length := (List.getElem?_eq_some_iff.1 h).1
  refine ⟨C, by rw [List.getElem?_append_left hi]; exact h, Nat.le_refl _, fun _ => ?_⟩
  have := K.put_other m n (show i ≠ S.length by omega)
  exact ⟨this.1, this.2, rfl⟩

theorem heap_new (w : World) (o : Obj) : (w.alloc o).heap[w.heap.size]? = some o := by show (w.heap.push o)[w.heap.size]? = some o; simp

/-- A new block. -/
theorem Sim.alloc {base : Bs} {w0 : World} {K : Ctx} {S : Mem} {w : World} (h : Sim base w0 K S w) (B : Blk) (o : Obj) (n : Nat)
    (hB : ∀ K' S' w', Ext K S K' S' → K'.μ S.length = w.heap.size → K'.σ S.length = n → w'.heap[w.heap.size]? = some o → base ≤ w.heap.size → BRel base K' S' w' S.length B) :
    Sim base w0 (K.put S.length w.heap.size n) (S ++ [B]) (w.alloc o) ∧ Stp K S w (K.put S.length w.heap.size n) (S ++ [B]) (w.alloc o) := by
  have hE : Ext K S (K.put S.length w.heap.size n) (S ++ [B]) := Ext.push K S B _ _
  have hold : ∀ k, k < w.heap.size → (w.alloc o).heap[k]? = w.heap[k]? := fun k hk => Below.heap_alloc w o k hk
  have hs : Stp K S w (K.put S.length w.heap.size n) (S ++ [B]) (w.alloc o) := by
    refine ⟨hE, rfl, rfl, rfl, by simp, fun b hb _ => hold b hb, fun i B' hB' => ?_⟩
    rcases Nat.lt_or_ge i S.length with hi | hi
    · rw [List.getElem?_append_left hi] at hB'
      exact .inl ⟨B', hB', id, (K.put_other _ _ (by omega)).1⟩
    · have : i = S.length := by
        have := (List.getElem?_eq_some_iff.1 hB').1
        simp at this; omega
      subst this
      exact .inr (by rw [(K.put_same _ _ _).1]; exact Nat.le_refl _)
  refine ⟨⟨fun i B' hB' => ?_, fun i j hi hj e => ?_, h.step_below hs, Nat.le_trans h.hb hs.size, h.door⟩, hs⟩
  · rcases Nat.lt_or_ge i S.length with hi | hi
    · rw [List.getElem?_append_left hi] at hB'
      have h1 := h.blk i B' hB'
      have hp := K.put_other w.heap.size n (show i ≠ S.length by omega)
      exact h1.mono hE hp.1 hp.2 (hold _ h1.lt)
    · have : i = S.length := by
        have := (List.getElem?_eq_some_iff.1 hB').1
        simp at this; omega
      subst this
      have hp := K.put_same S.length w.heap.size n
      simp at hB'
      subst hB'
      exact hB _ _ _ hE hp.1 hp.2 (heap_new w o) h.hb
  · have lt : ∀ k, k < S.length → K.μ k < w.heap.size := fun k hk => (h.blk k S[k] (List.getElem?_eq_getElem hk)).lt
    simp only [List.length_append, List.length_singleton] at hi hj
    rcases Nat.lt_or_ge i S.length with hi' | hi' <;> rcases Nat.lt_or_ge j S.length with hj' | hj'
    · rw [(K.put_other _ _ (by omega)).1, (K.put_other _ _ (by omega)).1] at e
      exact h.inj i j hi' hj' e
    · have : j = S.length := by omega
      subst this
      rw [(K.put_other _ _ (by omega)).1, (K.put_same _ _ _).1] at e
      have := lt i hi'; omega
    · have : i = S.length := by omega
      subst this
      rw [(K.put_other _ _ (show j ≠ S.length by omega)).1, (K.put_same _ _ _).1] at e
      have := lt j hj'; omega
    · omega

/-- A draw. -/
theorem Sim.drew {base : Bs} {w0 : World} {K : Ctx} {S : Mem} {w : World} (h : Sim base w0 K S w) : Sim base w0 K S w.drew ∧ Stp K S w K S w.drew :=
  ⟨⟨fun i B hB => (h.blk i B hB).mono (.refl K S) rfl rfl rfl, h.inj, h.below.drew, h.hb, h.door⟩,
    ⟨.refl K S, rfl, rfl, rfl, Nat.le_refl _, fun _ _ _ => rfl, fun _ B' h => .inl ⟨B', h, id, rfl⟩⟩⟩
end Go.Proofs.YtljaigbjiheohaaDoor
